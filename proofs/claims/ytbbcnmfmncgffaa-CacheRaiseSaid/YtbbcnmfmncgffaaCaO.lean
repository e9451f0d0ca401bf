-- Written by hand for this claim's session.
import Derived.Test.YtbbcnmfmncgffaaCaN
open Go Go.YtbbcnmfmncgffaaE Go.Proofs
set_option maxRecDepth 100000
set_option autoImplicit false
namespace Go.Proofs.YtbbcnmfmncgffaaX
def u64s (l : List Int) : List T := l.map (T.int .u64)
theorem u64s_get {l : List Int} {i : Nat} {x : Int} (h : l[i]? = some x) : (u64s l)[((i : Int)).toNat]? = some (T.int .u64 x) := by
  simp [u64s, h]
structure Once (c : C) (k : List U) : Prop where
  ok : c.Ok
  has : ∀ t ∈ k, (t ∈ c.s ↔ c.f ≤ t.c)
theorem Once.step {c : C} {k : List U} (h : Once c k) (g : Int) : Once ⟨c.r, mx c.f g, keep (mx c.f g) c.s⟩ k := by
  refine ⟨ok_keep h.ok _, fun t ht => ?_⟩
  show t ∈ keep (mx c.f g) c.s ↔ mx c.f g ≤ t.c
  rw [mem_keep, h.has t ht]
  unfold mx
  split <;> omega
theorem CacheOnce_g (room : Int) (r0 : 0 ≤ room) (r1 : room < 256) (l : List U) (fl : List Int) : CtT Try.prog 4 [.int .u8 room, .sl 3 (uses l), .sl 1 (u64s fl)] (Ret (.bool true) []) := by
  refine Ct.of Try.func4 rfl rfl (n := 149) rfl (by simp [ids]) ?_
  refine Told.callT awake_ct rfl rfl rfl rfl ?_
  refine brB (fun h1 => ?_) (fun h1 => brB (fun h2 => ?_) (fun h2 => ?_))
  · exact ⟨[], _, _, ⟨rfl, rfl⟩, rfl, trivial, rfl⟩
  · exact ⟨[], _, _, ⟨rfl, rfl⟩, rfl, trivial, rfl⟩
  have h1 : l.length ≤ 60 := by have := of_decide_eq_false h1; rw [uses_len] at this; omega
  have h2 : l.length ≤ fl.length := by have := of_decide_eq_false h2; simp only [u64s, List.length_map] at this; omega
  have er : (IntKind.i64.wrap room).tmod 65 = room % 65 := by rw [wi (by omega) (by omega), Int.tmod_eq_emod_of_nonneg r0]
  have en : newC ((IntKind.i64.wrap room).tmod 65) = (⟨room % 65, 0, []⟩, 0) := by rw [er]; unfold newC; rw [if_pos (by omega)]
  have kn := New_ct ((IntKind.i64.wrap room).tmod 65)
  rw [en] at kn
  refine ⟨by decide, ?_⟩
  refine Told.callT kn rfl rfl rfl rfl ?_
  refine ⟨C × List U × Nat, fun y => [(1, .t (.sl 3 (uses l))), (2, .t (.sl 1 (u64s fl))), (7, .ptr 7 0), (9, .own 90), (10, .int .i64 y.2.2)], fun y => [(90, false, URow y.2.1), (7, false, CacBox y.1.r y.1.f y.1.s)],
    fun y => y.2.2 ≤ l.length ∧ y.2.1.length ≤ y.2.2 ∧ Once y.1 y.2.1, fun y => l.length - y.2.2, (⟨room % 65, 0, []⟩, [], 0), ⟨Nat.zero_le _, Nat.zero_le _, ⟨ok_new.2 (by omega), by simp⟩⟩, Le.trans (Le.nil 9 90 27 3 rfl rfl) (Le.of [] ⟨rfl, rfl, rfl, rfl, rfl, trivial⟩ ⟨rfl, rfl, trivial⟩ rfl), ?_⟩
  rintro ⟨c, k, i⟩ ⟨q1, q2, q3⟩
  simp only at q1 q2 q3 ⊢
  have hcl : c.s.length ≤ 64 := by have := q3.ok.len; have := q3.ok.r1; omega
  refine brB (fun hc => ?_) (fun hc => ?_)
  · have hc : i < l.length := by have := of_decide_eq_true hc; rw [uses_len] at this; omega
    have hx : l[i]? = some l[i] := List.getElem?_eq_getElem hc
    have hg : fl[i]? = some fl[i] := List.getElem?_eq_getElem (by omega)
    generalize l[i] = u at hx
    generalize fl[i] = g at hg
    refine ⟨by omega, _, u64s_get hg, ?_⟩
    have k1 := Raise_ct c g (by omega)
    rw [raiseC_0 q3.ok] at k1
    refine Told.callT k1 rfl rfl rfl rfl ?_
    have hd := q3.step g
    have ld : (keep (mx c.f g) c.s).length ≤ c.s.length := List.length_filter_le _ _
    have hdr : mx c.f g ≥ c.f := by unfold mx; split <;> omega
    refine ⟨by omega, _, uses_get rfl hx, ?_⟩
    have k2 := Put_ct ⟨c.r, mx c.f g, keep (mx c.f g) c.s⟩ u (by simp only; omega)
    have lx := putC_len ⟨c.r, mx c.f g, keep (mx c.f g) c.s⟩ u
    simp only at lx
    obtain ⟨x, e, he, hx1, hx2⟩ : ∃ (x : C) (e : Int), putC ⟨c.r, mx c.f g, keep (mx c.f g) c.s⟩ u = (x, e) ∧ (e = 0 → u ∉ k ∧ u ∈ x.s ∧ Once x (k ++ [u])) ∧ (e ≠ 0 → x = ⟨c.r, mx c.f g, keep (mx c.f g) c.s⟩ ∧ (u ∈ k → e = 11 ∨ e = 10)) := by
      by_cases p1 : u.c < mx c.f g
      · exact ⟨_, _, putC_10 hd.ok p1, fun h => (by cases h), fun _ => ⟨rfl, fun _ => .inr rfl⟩⟩
      by_cases p2 : u ∈ keep (mx c.f g) c.s
      · exact ⟨_, _, putC_11 hd.ok p1 p2, fun h => (by cases h), fun _ => ⟨rfl, fun _ => .inl rfl⟩⟩
      have hk : u ∉ k := fun h => p2 ((hd.has u h).2 (by simp only; omega))
      by_cases p3 : ((keep (mx c.f g) c.s).length : Int) = c.r
      · exact ⟨_, _, putC_12 hd.ok p1 p2 p3, fun h => (by cases h), fun _ => ⟨rfl, fun h => absurd h hk⟩⟩
      · refine ⟨_, _, putC_0 hd.ok p1 p2 p3, fun _ => ⟨hk, mem_insU.2 (.inl rfl), ok_put hd.ok p1 p2 p3, fun t ht => ?_⟩, fun h => absurd rfl h⟩
        show t ∈ insU _ u ↔ mx c.f g ≤ t.c
        rw [mem_insU]
        rcases List.mem_append.1 ht with ht | ht
        · have := hd.has t ht
          refine ⟨fun h => h.elim (fun h => by rw [h]; omega) this.1, fun h => .inr (this.2 h)⟩
        · rcases List.mem_singleton.1 ht with rfl
          exact ⟨fun _ => by omega, fun _ => .inl rfl⟩
    rw [he] at k2 lx
    simp only at lx
    refine Told.callT k2 rfl rfl rfl rfl ?_
    refine ⟨Nat × Bool, fun y => [(1, .t (.sl 3 (uses l))), (2, .t (.sl 1 (u64s fl))), (7, .ptr 7 0), (9, .own 90), (10, .int .i64 i), (11, .ptr 11 0), (13, .ptr 13 0), (14, .int .i64 e), (15, .bool y.2), (16, .int .i64 y.1)],
      fun _ => [(90, false, URow k), (7, false, CacBox c.r c.f c.s), (11, false, CacBox c.r (mx c.f g) (keep (mx c.f g) c.s)), (13, false, CacBox x.r x.f x.s)],
      fun y => y.1 ≤ k.length ∧ (y.2 = true ↔ u ∈ k.take y.1), fun y => k.length - y.1, (0, false), ⟨Nat.zero_le _, by simp⟩, Le.of [] ⟨rfl, rfl, rfl, rfl, rfl, rfl, rfl, rfl, rfl, rfl, trivial⟩ ⟨rfl, rfl, rfl, rfl, trivial⟩ rfl, ?_⟩
    rintro ⟨j, z⟩ ⟨s1, s2⟩
    simp only at s1 s2 ⊢
    refine brB (fun hc2 => ?_) (fun hc2 => ?_)
    · have hc2 : j < k.length := by have := of_decide_eq_true hc2; rw [uses_len] at this; omega
      have hy : k[j]? = some k[j] := List.getElem?_eq_getElem hc2
      generalize k[j] = v at hy
      cases z with
      | true =>
        refine ⟨(j + 1, true), ⟨hc2, ?_⟩, Le.of [] ⟨rfl, rfl, rfl, rfl, rfl, rfl, rfl, rfl, rfl, congrArg (AV.int .i64) (wi (by omega) (by omega)), trivial⟩ ⟨rfl, rfl, rfl, rfl, trivial⟩ rfl, by show k.length - (j + 1) < k.length - j; omega⟩
        simp only [true_iff]
        rw [List.take_add_one]
        exact List.mem_append_left _ (s2.1 rfl)
      | false =>
        refine ⟨by omega, by rw [uses_len]; omega, _, uses_get rfl hy, by omega, _, uses_get rfl hx, ?_⟩
        refine ⟨Try.eqGuardType27, fun w hw => ?_⟩
        refine ⟨(j + 1, w), ⟨hc2, ?_⟩, Le.of [] ⟨rfl, rfl, rfl, rfl, rfl, rfl, rfl, rfl, rfl, congrArg (AV.int .i64) (wi (by omega) (by omega)), trivial⟩ ⟨rfl, rfl, rfl, rfl, trivial⟩ rfl, by show k.length - (j + 1) < k.length - j; omega⟩
        have s3 : u ∉ k.take j := fun h => by cases s2.2 h
        show w = true ↔ u ∈ k.take (j + 1)
        rw [List.take_add_one, hy, List.mem_append, hw, decide_eq_true_eq]
        simp only [s3, false_or, Option.toList_some, List.mem_singleton]
        exact eqU.trans ⟨fun h => h.symm, fun h => h.symm⟩
    have hj : j = k.length := by have := of_decide_eq_false hc2; rw [uses_len] at this; omega
    subst hj
    rw [List.take_length] at s2
    refine brB (fun he0 => ?_) (fun he0 => ?_)
    · obtain ⟨t1, t2, t3⟩ := hx1 (of_decide_eq_true he0)
      cases z with
      | true => exact absurd (s2.1 rfl) t1
      | false =>
        refine ⟨by omega, _, uses_get rfl hx, ?_⟩
        have k3 := Has_ct x u (by omega)
        rw [decide_eq_true t2] at k3
        refine Told.callT k3 rfl rfl rfl rfl ?_
        refine ⟨by omega, _, uses_get rfl hx, by show _ * 24 ≤ _; simp; omega, ?_⟩
        refine ⟨Nat, fun j => [(1, .t (.sl 3 (uses l))), (2, .t (.sl 1 (u64s fl))), (7, .ptr 7 0), (9, .own 90), (10, .int .i64 i), (17, .int .i64 j)], fun _ => [(90, false, URow (k ++ [u])), (7, false, CacBox x.r x.f x.s)],
          fun j => j ≤ (k ++ [u]).length, fun j => (k ++ [u]).length - j, 0, Nat.zero_le _, Le.of [(90, 101)] ⟨rfl, rfl, rfl, rfl, rfl, rfl, trivial⟩ ⟨by first | rfl | exact congrArg (fun x => (false, Blk.row 27 3 x)) (show uses k ++ [u.T] = uses (k ++ [u]) by simp [uses]), rfl, trivial⟩ rfl, ?_⟩
        intro j hj
        have hkk : (k ++ [u]).length ≤ 1000 ∧ k.length ≤ 1000 := by simp; omega
        refine brB (fun hc2 => ?_) (fun hc2 => ?_)
        · have hc2 : j < (k ++ [u]).length := by have := of_decide_eq_true hc2; rw [uses_len] at this; omega
          have hy : (k ++ [u])[j]? = some ((k ++ [u])[j]'hc2) := List.getElem?_eq_getElem hc2
          generalize (k ++ [u])[j]'hc2 = v at hy
          refine ⟨by omega, by rw [uses_len]; omega, _, uses_get rfl hy, ?_⟩
          have k4 := Has_ct x v (by omega)
          rw [show decide (v ∈ x.s) = decide (v.c ≥ x.f) from decide_eq_decide.2 (t3.has v (List.mem_of_getElem? hy))] at k4
          refine Told.callT k4 rfl rfl rfl rfl ?_
          refine ⟨by omega, by rw [uses_len]; omega, _, uses_get rfl hy, ?_⟩
          refine brB (fun h => absurd h (by simp)) (fun _ => ?_)
          exact ⟨j + 1, hc2, Le.of [] ⟨rfl, rfl, rfl, rfl, rfl, congrArg (AV.int .i64) (wi (by omega) (by omega)), trivial⟩ ⟨rfl, rfl, trivial⟩ rfl, by show (k ++ [u]).length - (j + 1) < (k ++ [u]).length - j; omega⟩
        · exact ⟨(x, (k ++ [u]), i + 1), ⟨hc, by simp; omega, t3⟩, Le.of [] ⟨rfl, rfl, rfl, rfl, congrArg (AV.int .i64) (wi (by omega) (by omega)), trivial⟩ ⟨rfl, rfl, trivial⟩ rfl, by show l.length - (i + 1) < l.length - i; omega⟩
    · obtain ⟨t1, t2⟩ := hx2 (of_decide_eq_false he0)
      have t3 : Once x k := by rw [t1]; exact hd
      refine Told.callT (Same_ct x ⟨c.r, mx c.f g, keep (mx c.f g) c.s⟩ (by omega) (by simp only; omega) true (by simp [t1])) rfl rfl rfl rfl ?_
      cases z with
      | true =>
        have t4 := t2 (s2.1 rfl)
        refine brB (fun h11 => ?_) (fun h11 => ?_)
        · refine brB (fun h10 => absurd t4 (by simp at h11 h10; omega)) (fun h10 => ?_)
          refine ⟨Nat, fun j => [(1, .t (.sl 3 (uses l))), (2, .t (.sl 1 (u64s fl))), (7, .ptr 7 0), (9, .own 90), (10, .int .i64 i), (17, .int .i64 j)], fun _ => [(90, false, URow k), (7, false, CacBox x.r x.f x.s)],
            fun j => j ≤ k.length, fun j => k.length - j, 0, Nat.zero_le _, Le.of [] ⟨rfl, rfl, rfl, rfl, rfl, rfl, trivial⟩ ⟨by first | rfl | exact congrArg (fun x => (false, Blk.row 27 3 x)) (show uses k ++ [u.T] = uses (k ++ [u]) by simp [uses]), rfl, trivial⟩ rfl, ?_⟩
          intro j hj
          have hkk : (k ++ [u]).length ≤ 1000 ∧ k.length ≤ 1000 := by simp; omega
          refine brB (fun hc2 => ?_) (fun hc2 => ?_)
          · have hc2 : j < k.length := by have := of_decide_eq_true hc2; rw [uses_len] at this; omega
            have hy : k[j]? = some (k[j]'hc2) := List.getElem?_eq_getElem hc2
            generalize k[j]'hc2 = v at hy
            refine ⟨by omega, by rw [uses_len]; omega, _, uses_get rfl hy, ?_⟩
            have k4 := Has_ct x v (by omega)
            rw [show decide (v ∈ x.s) = decide (v.c ≥ x.f) from decide_eq_decide.2 (t3.has v (List.mem_of_getElem? hy))] at k4
            refine Told.callT k4 rfl rfl rfl rfl ?_
            refine ⟨by omega, by rw [uses_len]; omega, _, uses_get rfl hy, ?_⟩
            refine brB (fun h => absurd h (by simp)) (fun _ => ?_)
            exact ⟨j + 1, hc2, Le.of [] ⟨rfl, rfl, rfl, rfl, rfl, congrArg (AV.int .i64) (wi (by omega) (by omega)), trivial⟩ ⟨rfl, rfl, trivial⟩ rfl, by show k.length - (j + 1) < k.length - j; omega⟩
          · exact ⟨(x, k, i + 1), ⟨hc, by simp; omega, t3⟩, Le.of [] ⟨rfl, rfl, rfl, rfl, congrArg (AV.int .i64) (wi (by omega) (by omega)), trivial⟩ ⟨rfl, rfl, trivial⟩ rfl, by show l.length - (i + 1) < l.length - i; omega⟩
        · refine ⟨Nat, fun j => [(1, .t (.sl 3 (uses l))), (2, .t (.sl 1 (u64s fl))), (7, .ptr 7 0), (9, .own 90), (10, .int .i64 i), (17, .int .i64 j)], fun _ => [(90, false, URow k), (7, false, CacBox x.r x.f x.s)],
            fun j => j ≤ k.length, fun j => k.length - j, 0, Nat.zero_le _, Le.of [] ⟨rfl, rfl, rfl, rfl, rfl, rfl, trivial⟩ ⟨by first | rfl | exact congrArg (fun x => (false, Blk.row 27 3 x)) (show uses k ++ [u.T] = uses (k ++ [u]) by simp [uses]), rfl, trivial⟩ rfl, ?_⟩
          intro j hj
          have hkk : (k ++ [u]).length ≤ 1000 ∧ k.length ≤ 1000 := by simp; omega
          refine brB (fun hc2 => ?_) (fun hc2 => ?_)
          · have hc2 : j < k.length := by have := of_decide_eq_true hc2; rw [uses_len] at this; omega
            have hy : k[j]? = some (k[j]'hc2) := List.getElem?_eq_getElem hc2
            generalize k[j]'hc2 = v at hy
            refine ⟨by omega, by rw [uses_len]; omega, _, uses_get rfl hy, ?_⟩
            have k4 := Has_ct x v (by omega)
            rw [show decide (v ∈ x.s) = decide (v.c ≥ x.f) from decide_eq_decide.2 (t3.has v (List.mem_of_getElem? hy))] at k4
            refine Told.callT k4 rfl rfl rfl rfl ?_
            refine ⟨by omega, by rw [uses_len]; omega, _, uses_get rfl hy, ?_⟩
            refine brB (fun h => absurd h (by simp)) (fun _ => ?_)
            exact ⟨j + 1, hc2, Le.of [] ⟨rfl, rfl, rfl, rfl, rfl, congrArg (AV.int .i64) (wi (by omega) (by omega)), trivial⟩ ⟨rfl, rfl, trivial⟩ rfl, by show k.length - (j + 1) < k.length - j; omega⟩
          · exact ⟨(x, k, i + 1), ⟨hc, by simp; omega, t3⟩, Le.of [] ⟨rfl, rfl, rfl, rfl, congrArg (AV.int .i64) (wi (by omega) (by omega)), trivial⟩ ⟨rfl, rfl, trivial⟩ rfl, by show l.length - (i + 1) < l.length - i; omega⟩
      | false =>
        refine ⟨Nat, fun j => [(1, .t (.sl 3 (uses l))), (2, .t (.sl 1 (u64s fl))), (7, .ptr 7 0), (9, .own 90), (10, .int .i64 i), (17, .int .i64 j)], fun _ => [(90, false, URow k), (7, false, CacBox x.r x.f x.s)],
          fun j => j ≤ k.length, fun j => k.length - j, 0, Nat.zero_le _, Le.of [] ⟨rfl, rfl, rfl, rfl, rfl, rfl, trivial⟩ ⟨by first | rfl | exact congrArg (fun x => (false, Blk.row 27 3 x)) (show uses k ++ [u.T] = uses (k ++ [u]) by simp [uses]), rfl, trivial⟩ rfl, ?_⟩
        intro j hj
        have hkk : (k ++ [u]).length ≤ 1000 ∧ k.length ≤ 1000 := by simp; omega
        refine brB (fun hc2 => ?_) (fun hc2 => ?_)
        · have hc2 : j < k.length := by have := of_decide_eq_true hc2; rw [uses_len] at this; omega
          have hy : k[j]? = some (k[j]'hc2) := List.getElem?_eq_getElem hc2
          generalize k[j]'hc2 = v at hy
          refine ⟨by omega, by rw [uses_len]; omega, _, uses_get rfl hy, ?_⟩
          have k4 := Has_ct x v (by omega)
          rw [show decide (v ∈ x.s) = decide (v.c ≥ x.f) from decide_eq_decide.2 (t3.has v (List.mem_of_getElem? hy))] at k4
          refine Told.callT k4 rfl rfl rfl rfl ?_
          refine ⟨by omega, by rw [uses_len]; omega, _, uses_get rfl hy, ?_⟩
          refine brB (fun h => absurd h (by simp)) (fun _ => ?_)
          exact ⟨j + 1, hc2, Le.of [] ⟨rfl, rfl, rfl, rfl, rfl, congrArg (AV.int .i64) (wi (by omega) (by omega)), trivial⟩ ⟨rfl, rfl, trivial⟩ rfl, by show k.length - (j + 1) < k.length - j; omega⟩
        · exact ⟨(x, k, i + 1), ⟨hc, by simp; omega, t3⟩, Le.of [] ⟨rfl, rfl, rfl, rfl, congrArg (AV.int .i64) (wi (by omega) (by omega)), trivial⟩ ⟨rfl, rfl, trivial⟩ rfl, by show l.length - (i + 1) < l.length - i; omega⟩
  · have hc : i = l.length := by have := of_decide_eq_false hc; rw [uses_len] at this; omega
    refine Told.callT (Right_ct c (by omega) true (by simpa using q3.ok)) rfl rfl rfl rfl ?_
    refine ⟨[], _, _, ⟨rfl, rfl⟩, congrArg AV.bool (decide_eq_true ?_), trivial, rfl⟩
    rw [uses_len]; exact q3.ok.len
end Go.Proofs.YtbbcnmfmncgffaaX
