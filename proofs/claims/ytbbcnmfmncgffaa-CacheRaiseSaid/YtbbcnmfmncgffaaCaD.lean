-- Written by hand for this claim's session.
import Derived.Test.YtbbcnmfmncgffaaCaC
open Go Go.YtbbcnmfmncgffaaE Go.Proofs
set_option maxRecDepth 100000
set_option autoImplicit false
namespace Go.Proofs.YtbbcnmfmncgffaaX
abbrev CacBox (r f : Int) (s : List U) : Blk := .box 25 [.int .i64 r, .int .u64 f, .t (.sl 3 (uses s))]
theorem Raise1_ct (u : U) (r f : Int) (s : List U) : Ct Try.prog 23 [.t u.T, .ptr 1 0] [(1, false, CacBox r f s)] (Ret (.bool (decide (u.c < f))) [(1, false, CacBox r f s)]) := by
  refine Ct.of Try.func23 rfl rfl (n := 9) rfl (by simp [ids]; rfl) ?_
  exact ⟨[], _, _, ⟨rfl, rfl⟩, rfl, ⟨rfl, trivial⟩, rfl⟩
abbrev Del : AV := .fn (.func 23) [] [.ptr 1 0]
abbrev URow (l : List U) : Blk := .row 27 3 (uses l)
theorem IndexFunc_ct (l : List U) (r f : Int) (s : List U) (hl : l.length < 100000) (n : Int) (hn : n = (l.findIdx? (fun u => decide (u.c < f))).elim (-1 : Int) fun i => (i : Int)) : Ct Try.prog 29 [.own 0, Del] [(0, false, URow l), (1, false, CacBox r f s)] (Ret (.int .i64 n) [(0, false, URow l), (1, false, CacBox r f s)]) := by
  refine Ct.of Try.func29 rfl rfl (n := 19) rfl (by simp [ids]; exact ⟨rfl, rfl⟩) ?_
  refine ⟨Nat, fun i => [(0, .own 0), (1, Del), (6, .own 0), (7, .int .i64 l.length), (8, .int .i64 i)], fun _ => [(0, false, URow l), (1, false, CacBox r f s)], fun i => i ≤ l.length ∧ ∀ j, j < i → ∀ u, l[j]? = some u → ¬ u.c < f, fun i => l.length - i, 0, ⟨by simp, by simp⟩, Le.of [] ⟨rfl, rfl, rfl, by rw [← uses_len l]; rfl, rfl, trivial⟩ ⟨rfl, rfl, trivial⟩ rfl, ?_⟩
  rintro i ⟨h1, h2⟩
  refine brB (fun hc => ?_) (fun hc => ?_)
  · have hc : i < l.length := by have := of_decide_eq_true hc; omega
    have hx : l[i]? = some l[i] := List.getElem?_eq_getElem hc
    generalize l[i] = u at hx
    refine ⟨by omega, by rw [uses_len]; omega, _, uses_get rfl hx, ?_⟩
    refine Told.callR [] (Raise1_ct u r f s) rfl rfl rfl ⟨rfl, trivial⟩ rfl ?_
    refine brB (fun hc3 => ?_) (fun hc3 => ?_)
    · refine ⟨[], _, _, ⟨rfl, rfl⟩, congrArg (AV.int .i64) ?_, ⟨rfl, rfl, trivial⟩, rfl⟩
      rw [hn]
      have : l.findIdx? (fun u => decide (u.c < f)) = some i := by
        rw [List.findIdx?_eq_some_iff_getElem]
        refine ⟨hc, ?_, fun j hj => ?_⟩
        · have := (List.getElem?_eq_some_iff.1 hx).2
          rw [this]; exact hc3
        · simpa using h2 j hj _ (List.getElem?_eq_getElem (by omega))
      rw [this]; rfl
    · refine ⟨i + 1, ⟨hc, fun j hj w hw => ?_⟩, Le.of [] ⟨rfl, rfl, rfl, rfl, congrArg (AV.int .i64) (wi (by omega) (by omega)), trivial⟩ ⟨rfl, rfl, trivial⟩ rfl, by show l.length - (i + 1) < l.length - i; omega⟩
      by_cases e2 : j = i
      · subst e2; rw [hx] at hw; cases hw; exact of_decide_eq_false hc3
      · exact h2 j (by omega) w hw
  · have hc : ¬ i < l.length := by have := of_decide_eq_false hc; omega
    refine ⟨[], _, _, ⟨rfl, rfl⟩, congrArg (AV.int .i64) ?_, ⟨rfl, rfl, trivial⟩, rfl⟩
    rw [hn]
    have : l.findIdx? (fun u => decide (u.c < f)) = none := by
      rw [List.findIdx?_eq_none_iff]
      intro x hx
      obtain ⟨j, hj, rfl⟩ := List.mem_iff_getElem.1 hx
      simpa using h2 j (by omega) _ (List.getElem?_eq_getElem hj)
    rw [this]; rfl
def keep (f : Int) (l : List U) : List U := l.filter fun u => !decide (u.c < f)
theorem keep_take_succ {f : Int} {l : List U} {j : Nat} {u : U} (hu : l[j]? = some u) : keep f (l.take (j + 1)) = keep f (l.take j) ++ bif decide (u.c < f) then [] else [u] := by
  unfold keep
  rw [List.take_add_one, hu, List.filter_append]
  cases h : decide (u.c < f) <;> simp [h]
theorem DeleteFunc_ct (l : List U) (r f : Int) (s : List U) (hl : l.length < 100000) : Ct Try.prog 22 [.own 0, Del] [(0, false, URow l), (1, false, CacBox r f s)] (Ret (.own 2) [(2, false, URow (keep f l)), (1, false, CacBox r f s), (0, false, .dead)]) := by
  refine Ct.ofL Try.func22 rfl rfl (n := 42) rfl (by simp [ids]; exact ⟨rfl, rfl⟩) (by simp) ?_
  refine Told.callR [] (IndexFunc_ct l r f s hl _ rfl) rfl rfl rfl ⟨rfl, rfl, trivial⟩ rfl ?_
  cases hf : l.findIdx? (fun u => decide (u.c < f)) with
  | none =>
    refine ⟨_, _, Le.anew 4 0 50 27 3 _ rfl rfl rfl, ?_⟩
    refine ⟨[(2, 50)], _, _, ⟨rfl, rfl⟩, rfl, ⟨congrArg (fun x => (false, Blk.row 27 3 (uses x))) ?_, rfl, rfl, trivial⟩, rfl⟩
    rw [List.findIdx?_eq_none_iff] at hf
    unfold keep
    rw [List.filter_eq_self.2]
    intro u hu
    simpa using hf u hu
  | some i0 =>
    rw [List.findIdx?_eq_some_iff_getElem] at hf
    obtain ⟨q1, q2, q3⟩ := hf
    have k0 : keep f (l.take (i0 + 1)) = l.take i0 := by
      rw [keep_take_succ (List.getElem?_eq_getElem q1), q2]
      show keep f (l.take i0) ++ [] = _
      rw [List.append_nil]
      unfold keep
      rw [List.filter_eq_self]
      intro u hu
      obtain ⟨j, hj, rfl⟩ := List.mem_iff_getElem.1 hu
      have hj' : j < i0 := by rw [List.length_take] at hj; omega
      rw [List.getElem_take]
      simpa using q3 j hj'
    refine ⟨Nat × Nat × List U, fun y => [(0, .own 0), (1, Del), (5, .int .i64 y.2.1), (6, .int .i64 y.1)], fun y => [(0, false, URow y.2.2), (1, false, CacBox r f s)],
      fun y => y.1 ≤ l.length ∧ y.2.1 ≤ y.1 ∧ y.2.2.length = l.length ∧ y.2.2.drop y.1 = l.drop y.1 ∧ y.2.2.take y.2.1 = keep f (l.take y.1), fun y => l.length - y.1, (i0 + 1, i0, l), ⟨q1, by simp, rfl, rfl, k0.symm⟩, Le.of [] ⟨rfl, rfl, rfl, congrArg (AV.int .i64) (wi (by show _ ≤ (i0 : Int) + 1; omega) (by show (i0 : Int) + 1 < _; omega)), trivial⟩ ⟨rfl, rfl, trivial⟩ rfl, ?_⟩
    rintro ⟨j, i, x⟩ ⟨h1, h2, h3, h4, h5⟩
    simp only at h1 h2 h3 h4 h5 ⊢
    refine brB (fun hc => ?_) (fun hc => ?_)
    · have hc : j < l.length := by have := of_decide_eq_true hc; rw [uses_len] at this; omega
      have hx : x[j]? = some l[j] := by
        have : (x.drop j)[0]? = (l.drop j)[0]? := by rw [h4]
        rw [List.getElem?_drop, List.getElem?_drop, Nat.add_zero, List.getElem?_eq_getElem hc] at this
        exact this
      have hu : l[j]? = some l[j] := List.getElem?_eq_getElem hc
      generalize l[j] = u at hx hu
      refine ⟨by omega, by rw [uses_len]; omega, _, uses_get rfl hx, ?_⟩
      refine Told.callR [] (Raise1_ct u r f s) rfl rfl rfl ⟨rfl, trivial⟩ rfl ?_
      have hk := keep_take_succ (f := f) hu
      have hd : ∀ z : List U, z.drop j = l.drop j → z.drop (j + 1) = l.drop (j + 1) := fun z hz => by
        rw [← List.drop_drop, hz, List.drop_drop]
      refine brB (fun hc3 => ?_) (fun hc3 => ?_)
      · have hc3 : decide (u.c < f) = false := by simpa using hc3
        rw [hc3] at hk
        have hi : i < x.length := by omega
        refine ⟨by omega, by rw [uses_len]; omega, _, uses_get rfl (List.getElem?_eq_getElem hi), ?_⟩
        refine ⟨(j + 1, i + 1, x.set i u), ⟨hc, by show i + 1 ≤ j + 1; omega, by rw [List.length_set]; exact h3, ?_, ?_⟩, Le.of [] ⟨rfl, rfl, congrArg (AV.int .i64) (wi (by omega) (by omega)), congrArg (AV.int .i64) (wi (by omega) (by omega)), trivial⟩ ⟨congrArg (fun x => (false, Blk.row 27 3 x)) ?_, rfl, trivial⟩ rfl, by show l.length - (j + 1) < l.length - j; omega⟩
        · show (x.set i u).drop (j + 1) = _
          rw [List.drop_set_of_lt (by omega)]
          exact hd x h4
        · show (x.set i u).take (i + 1) = _
          rw [hk, ← h5, List.take_add_one, List.take_set_of_le (by omega), List.getElem?_set_self hi]
          rfl
        · show (uses x).set (Int.toNat i) _ = uses (x.set i u)
          rw [show uses (x.set i u) = (uses x).set i u.T by simp [uses]]
          rfl
      · have hc3 : decide (u.c < f) = true := by simpa using hc3
        rw [hc3] at hk
        exact ⟨(j + 1, i, x), ⟨hc, by show i ≤ j + 1; omega, h3, hd x h4, by show x.take i = _; rw [hk, h5]; exact (List.append_nil _).symm⟩, Le.of [] ⟨rfl, rfl, rfl, congrArg (AV.int .i64) (wi (by omega) (by omega)), trivial⟩ ⟨rfl, rfl, trivial⟩ rfl, by show l.length - (j + 1) < l.length - j; omega⟩
    · have hc : ¬ j < l.length := by have := of_decide_eq_false hc; rw [uses_len] at this; omega
      have hj : j = l.length := by omega
      subst hj
      rw [List.take_length] at h5
      refine ⟨i, (uses x).length - i, rfl, by rw [uses_len]; omega, by omega, by rw [uses_len]; omega, by omega, ?_⟩
      have hle : i ≤ (List.take i (uses x) ++ List.replicate ((uses x).length - i) (zeroT (Value.agg #[Value.int IntKind.u64 0, Value.int IntKind.u64 0, Value.int IntKind.u64 0])) ++ List.drop (i + ((uses x).length - i)) (uses x)).length := by simp; omega
      refine ⟨0, i, rfl, by omega, by omega, by omega, Int.ofNat_le.2 hle, ?_⟩
      refine ⟨_, _, Le.cut 4 0 50 27 3 i _ rfl rfl hle rfl, ?_⟩
      refine ⟨[(2, 50)], _, _, ⟨rfl, rfl⟩, rfl, ⟨congrArg (fun x => (false, Blk.row 27 3 x)) ?_, rfl, rfl, trivial⟩, rfl⟩
      show List.take i (List.take i (uses x) ++ _ ++ _) = _
      rw [List.append_assoc, List.take_append_of_le_length (by simp; omega), List.take_take, Nat.min_self, ← h5]
      simp [uses]
end Go.Proofs.YtbbcnmfmncgffaaX
