-- Written by hand for this claim's session.
import Derived.Test.YtbbcnmfmncgffaaCaE
open Go Go.YtbbcnmfmncgffaaE Go.Proofs
set_option maxRecDepth 100000
set_option autoImplicit false
namespace Go.Proofs.YtbbcnmfmncgffaaX
structure C where
  r : Int
  f : Int
  s : List U
@[reducible] def C.T (c : C) : T := .agg [.int .i64 c.r, .int .u64 c.f, .sl 3 (uses c.s)]
def ltU (u v : U) : Prop := u.t < v.t ∨ u.t = v.t ∧ (u.e < v.e ∨ u.e = v.e ∧ u.c < v.c)
theorem cmpI_lt {a b : Int} : cmpI a b < 0 ↔ a < b := by
  unfold cmpI
  by_cases h : a < b
  · simp [h]
  · by_cases h2 : b < a <;> simp [h, h2]
theorem cmpI_zero {a b : Int} : cmpI a b = 0 ↔ a = b := by
  unfold cmpI
  by_cases h : a < b
  · simp [h]; omega
  · by_cases h2 : b < a
    · simp [h, h2]; omega
    · simp [h, h2]; omega
theorem ord_cases (u v : U) : ord u v = bif decide (cmpI u.t v.t = 0) then bif decide (cmpI u.e v.e = 0) then cmpI u.c v.c else cmpI u.e v.e else cmpI u.t v.t := by
  unfold ord orI orI orI orI
  cases h1 : decide (cmpI u.t v.t = 0)
  · rfl
  · cases h2 : decide (cmpI u.e v.e = 0)
    · rfl
    · cases h3 : decide (cmpI u.c v.c = 0)
      · rfl
      · exact (of_decide_eq_true h3).symm
theorem ord_eq {u v : U} : ord u v = 0 ↔ u = v := by
  rw [ord_cases]
  obtain ⟨a, b, c⟩ := u; obtain ⟨a', b', c'⟩ := v
  simp only [U.mk.injEq]
  by_cases h1 : cmpI a a' = 0
  · rw [decide_eq_true h1, cond_true]
    by_cases h2 : cmpI b b' = 0
    · rw [decide_eq_true h2, cond_true, cmpI_zero]
      rw [cmpI_zero] at h1 h2
      omega
    · rw [decide_eq_false h2, cond_false]
      exact ⟨fun h => absurd h h2, fun h => absurd (cmpI_zero.2 h.2.1) h2⟩
  · rw [decide_eq_false h1, cond_false]
    exact ⟨fun h => absurd h h1, fun h => absurd (cmpI_zero.2 h.1) h1⟩
theorem ord_lt {u v : U} : ord u v < 0 ↔ ltU u v := by
  rw [ord_cases]
  obtain ⟨a, b, c⟩ := u; obtain ⟨a', b', c'⟩ := v
  simp only [ltU]
  by_cases h1 : cmpI a a' = 0
  · rw [decide_eq_true h1, cond_true]
    rw [cmpI_zero] at h1
    by_cases h2 : cmpI b b' = 0
    · rw [decide_eq_true h2, cond_true, cmpI_lt]
      rw [cmpI_zero] at h2
      omega
    · rw [decide_eq_false h2, cond_false, cmpI_lt]
      rw [cmpI_zero] at h2
      omega
  · rw [decide_eq_false h1, cond_false, cmpI_lt]
    rw [cmpI_zero] at h1
    omega
theorem ltU_trans {u v w : U} (h : ltU u v) (h' : ltU v w) : ltU u w := by unfold ltU at *; omega
theorem ltU_irrefl {u : U} : ¬ ltU u u := by unfold ltU; omega
theorem ltU_tri (u v : U) : ltU u v ∨ u = v ∨ ltU v u := by
  obtain ⟨a, b, c⟩ := u; obtain ⟨a', b', c'⟩ := v
  simp only [ltU, U.mk.injEq]; omega
structure C.Ok (c : C) : Prop where
  r0 : 0 ≤ c.r
  r1 : c.r ≤ 64
  len : c.s.length ≤ c.r
  low : ∀ u ∈ c.s, c.f ≤ u.c
  srt : c.s.Pairwise ltU
theorem srt_of_adj {l : List U} (h : ∀ i u v, l[i]? = some u → l[i + 1]? = some v → ltU u v) : l.Pairwise ltU := by
  rw [List.pairwise_iff_getElem]
  intro i j hi hj hij
  induction j with
  | zero => omega
  | succ j ih =>
    have h1 := h j l[j] l[j + 1] (List.getElem?_eq_getElem _) (List.getElem?_eq_getElem _)
    by_cases e : i = j
    · subst e; exact h1
    · exact ltU_trans (ih (by omega) (by omega)) h1
theorem adj_of_srt {l : List U} (h : l.Pairwise ltU) {i : Nat} {u v : U} (hu : l[i]? = some u) (hv : l[i + 1]? = some v) : ltU u v := by
  rw [List.pairwise_iff_getElem] at h
  obtain ⟨h1, rfl⟩ := List.getElem?_eq_some_iff.1 hu
  obtain ⟨h2, rfl⟩ := List.getElem?_eq_some_iff.1 hv
  exact h i (i + 1) h1 h2 (by omega)
theorem ex_bool (p : Prop) : ∃ b : Bool, b = true ↔ p := by
  by_cases h : p
  · exact ⟨true, by simp [h]⟩
  · exact ⟨false, by simp [h]⟩
theorem Right_ct (c : C) (hl : c.s.length < 100000) (b : Bool) (hb : b = true ↔ c.Ok) : CtT Try.prog 13 [c.T] (Ret (.bool b) []) := by
  obtain ⟨r, f, s⟩ := c
  simp only at hl
  refine Ct.of Try.func13 rfl rfl (n := 50) rfl (by simp [ids]) ?_
  have fb : ¬ C.Ok ⟨r, f, s⟩ → false = b := fun h => by cases b; rfl; exact absurd (hb.1 rfl) h
  have tb : C.Ok ⟨r, f, s⟩ → true = b := fun h => (hb.2 h).symm
  refine brB (fun h1 => ?_) (fun h1 => brB (fun h2 => ?_) (fun h2 => brB (fun h3 => ?_) (fun h3 => ?_)))
  · exact ⟨[], _, _, ⟨rfl, rfl⟩, congrArg AV.bool (fb fun h => by have := h.r0; have := of_decide_eq_true h1; omega), trivial, rfl⟩
  · exact ⟨[], _, _, ⟨rfl, rfl⟩, congrArg AV.bool (fb fun h => by have := h.r1; have := of_decide_eq_true h2; omega), trivial, rfl⟩
  · exact ⟨[], _, _, ⟨rfl, rfl⟩, congrArg AV.bool (fb fun h => by have := h.len; have := of_decide_eq_true h3; rw [uses_len] at this; omega), trivial, rfl⟩
  · have h1 := of_decide_eq_false h1
    have h2 := of_decide_eq_false h2
    have h3 := of_decide_eq_false h3
    rw [uses_len] at h3
    refine ⟨Nat, fun i => [(1, .ptr 1 0), (22, .t (.sl 3 (uses s))), (23, .int .i64 s.length), (24, .int .i64 i)], fun _ => [(1, false, CacBox r f s)],
      fun i => i ≤ s.length ∧ (∀ j u, j < i → s[j]? = some u → f ≤ u.c) ∧ ∀ j u v, j + 1 < i → s[j]? = some u → s[j + 1]? = some v → ltU u v, fun i => s.length - i, 0, ⟨by simp, by simp, by simp⟩, Le.of [] ⟨rfl, rfl, by rw [← uses_len s]; rfl, rfl, trivial⟩ ⟨rfl, trivial⟩ rfl, ?_⟩
    rintro i ⟨q1, q2, q3⟩
    refine brB (fun hc => ?_) (fun hc => ?_)
    · have hc : i < s.length := by have := of_decide_eq_true hc; omega
      have hx : s[i]? = some s[i] := List.getElem?_eq_getElem hc
      generalize s[i] = u at hx
      refine ⟨by omega, _, uses_get rfl hx, ?_⟩
      refine brB (fun h4 => ?_) (fun h4 => brB (fun h5 => ?_) (fun h5 => ?_))
      · exact ⟨[], _, _, ⟨rfl, rfl⟩, congrArg AV.bool (fb fun h => by have := h.low u (List.mem_of_getElem? hx); have : u.c < f := of_decide_eq_true h4; simp only at *; omega), trivial, rfl⟩
      · have h5 : 0 < i := by have := of_decide_eq_true h5; omega
        have hp : s[i - 1]? = some s[i - 1] := List.getElem?_eq_getElem (by omega)
        generalize s[i - 1] = v at hp
        have w1 : IntKind.i64.wrap ((i : Int) - 1) = ((i - 1 : Nat) : Int) := by rw [wi (by omega) (by omega)]; omega
        refine ⟨by rw [w1]; omega, _, uses_get w1 hp, ?_⟩
        refine Told.callT (order_ct v u) rfl rfl rfl rfl ?_
        refine brB (fun h6 => ?_) (fun h6 => ?_)
        · refine ⟨[], _, _, ⟨rfl, rfl⟩, congrArg AV.bool (fb fun h => ?_), trivial, rfl⟩
          have h7 := adj_of_srt h.srt hp (by rw [show i - 1 + 1 = i by omega]; exact hx)
          have := ord_lt.2 h7
          have := of_decide_eq_true h6
          omega
        · have h6 : ord v u < 0 := by have := of_decide_eq_false h6; omega
          refine ⟨i + 1, ⟨hc, fun j w hj hw => ?_, fun j w z hj hw hz => ?_⟩, Le.of [] ⟨rfl, rfl, rfl, congrArg (AV.int .i64) (wi (by omega) (by omega)), trivial⟩ ⟨rfl, trivial⟩ rfl, by show s.length - (i + 1) < s.length - i; omega⟩
          · by_cases e : j = i
            · subst e; rw [hx] at hw; cases hw; have : ¬ u.c < f := of_decide_eq_false h4; omega
            · exact q2 j w (by omega) hw
          · by_cases e : j + 1 = i
            · subst e
              rw [hx] at hz; cases hz
              rw [Nat.add_sub_cancel, hw] at hp; cases hp
              exact ord_lt.1 h6
            · exact q3 j w z (by omega) hw hz
      · have h5 : i = 0 := by have := of_decide_eq_false h5; omega
        subst h5
        refine ⟨1, ⟨hc, fun j w hj hw => ?_, fun j w z hj hw hz => by omega⟩, Le.of [] ⟨rfl, rfl, rfl, congrArg (AV.int .i64) (wi (by omega) (by omega)), trivial⟩ ⟨rfl, trivial⟩ rfl, by show s.length - 1 < s.length - 0; omega⟩
        have : j = 0 := by omega
        subst this
        rw [hx] at hw; cases hw; have : ¬ u.c < f := of_decide_eq_false h4; omega
    · have hc : i = s.length := by have := of_decide_eq_false hc; omega
      subst hc
      refine ⟨[], _, _, ⟨rfl, rfl⟩, congrArg AV.bool (tb ⟨by omega, by omega, by omega, fun u hu => ?_, srt_of_adj fun j u v hu hv => q3 j u v (List.getElem?_eq_some_iff.1 hv).1 hu hv⟩), trivial, rfl⟩
      obtain ⟨j, hj, rfl⟩ := List.mem_iff_getElem.1 hu
      exact q2 j _ hj (List.getElem?_eq_getElem hj)
end Go.Proofs.YtbbcnmfmncgffaaX
