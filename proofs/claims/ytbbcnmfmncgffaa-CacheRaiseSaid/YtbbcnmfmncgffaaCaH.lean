-- Written by hand for this claim's session.
import Derived.Test.YtbbcnmfmncgffaaCaG
open Go Go.YtbbcnmfmncgffaaE Go.Proofs
set_option maxRecDepth 100000
set_option autoImplicit false
namespace Go.Proofs.YtbbcnmfmncgffaaX
theorem Less_ct (u v : U) (b : Bool) (hb : b = true ↔ ltU u v) : CtT Try.prog 21 [u.T, v.T] (Ret (.bool b) []) := by
  refine Ct.of Try.func21 rfl rfl (n := 30) rfl (by simp [ids]) ?_
  have fin : ∀ x : Bool, (x = true ↔ ltU u v) → x = b := fun x h => Bool.eq_iff_iff.2 (h.trans hb.symm)
  refine brB (fun h1 => ?_) (fun h1 => brB (fun h2 => ?_) (fun h2 => ?_))
  · refine ⟨[], _, _, ⟨rfl, rfl⟩, congrArg AV.bool (fin _ ?_), trivial, rfl⟩
    have : ¬ u.t = v.t := by simpa using h1
    rw [decide_eq_true_eq, ltU]; omega
  · refine ⟨[], _, _, ⟨rfl, rfl⟩, congrArg AV.bool (fin _ ?_), trivial, rfl⟩
    have : u.t = v.t := by simpa using h1
    have : ¬ u.e = v.e := by simpa using h2
    rw [decide_eq_true_eq, ltU]; omega
  · refine ⟨[], _, _, ⟨rfl, rfl⟩, congrArg AV.bool (fin _ ?_), trivial, rfl⟩
    have : u.t = v.t := by simpa using h1
    have : u.e = v.e := by simpa using h2
    rw [decide_eq_true_eq, ltU]; omega
theorem RRight_ct (c : C) (hl : c.s.length < 100000) (b : Bool) (hb : b = true ↔ c.Ok) : CtT Try.prog 14 [c.T] (Ret (.bool b) []) := by
  obtain ⟨r, f, s⟩ := c
  simp only at hl
  refine Ct.of Try.func14 rfl rfl (n := 55) rfl (by simp [ids]) ?_
  have fb : ¬ C.Ok ⟨r, f, s⟩ → false = b := fun h => by cases b; rfl; exact absurd (hb.1 rfl) h
  have tb : C.Ok ⟨r, f, s⟩ → true = b := fun h => (hb.2 h).symm
  refine brB (fun h1 => ?_) (fun h1 => brB (fun h2 => ?_) (fun h2 => brB (fun h3 => ?_) (fun h3 => ?_)))
  · exact ⟨[], _, _, ⟨rfl, rfl⟩, congrArg AV.bool (fb fun h => by have := h.r0; have := of_decide_eq_true h1; omega), trivial, rfl⟩
  · exact ⟨[], _, _, ⟨rfl, rfl⟩, congrArg AV.bool (fb fun h => by have := h.r1; have := of_decide_eq_true h2; omega), trivial, rfl⟩
  · exact ⟨[], _, _, ⟨rfl, rfl⟩, congrArg AV.bool (fb fun h => by have := h.len; have := of_decide_eq_true h3; rw [uses_len] at this; omega), trivial, rfl⟩
  · have h1 := of_decide_eq_false h1
    have h2 := of_decide_eq_false h2
    have h3 := of_decide_eq_false h3
    rw [uses_len] at h3
    refine ⟨Nat, fun i => [(1, .ptr 1 0), (3, .int .i64 i)], fun _ => [(1, false, CacBox r f s)],
      fun i => i ≤ s.length ∧ (∀ j u, j < i → s[j]? = some u → f ≤ u.c) ∧ ∀ j u v, j + 1 < i → s[j]? = some u → s[j + 1]? = some v → ltU u v, fun i => s.length - i, 0, ⟨by simp, by simp, by simp⟩, Le.of [] ⟨rfl, rfl, trivial⟩ ⟨rfl, trivial⟩ rfl, ?_⟩
    rintro i ⟨q1, q2, q3⟩
    refine brB (fun hc => ?_) (fun hc => ?_)
    · have hc : i < s.length := by have := of_decide_eq_true hc; rw [uses_len] at this; omega
      have hx : s[i]? = some s[i] := List.getElem?_eq_getElem hc
      generalize s[i] = u at hx
      refine ⟨by omega, _, uses_get rfl hx, ?_⟩
      refine brB (fun h4 => ?_) (fun h4 => brB (fun h5 => ?_) (fun h5 => ?_))
      · exact ⟨[], _, _, ⟨rfl, rfl⟩, congrArg AV.bool (fb fun h => by have := h.low u (List.mem_of_getElem? hx); have : u.c < f := of_decide_eq_true h4; simp only at *; omega), trivial, rfl⟩
      · have h5 : 0 < i := by have := of_decide_eq_true h5; omega
        have hp : s[i - 1]? = some s[i - 1] := List.getElem?_eq_getElem (by omega)
        generalize s[i - 1] = v at hp
        have w1 : IntKind.i64.wrap ((i : Int) - 1) = ((i - 1 : Nat) : Int) := by rw [wi (by omega) (by omega)]; omega
        refine ⟨by rw [w1]; omega, _, uses_get w1 hp, by omega, _, uses_get rfl hx, ?_⟩
        obtain ⟨z, hz⟩ := ex_bool (ltU v u)
        refine Told.callT (Less_ct v u z hz) rfl rfl rfl rfl ?_
        cases z with
        | false =>
          refine ⟨[], _, _, ⟨rfl, rfl⟩, congrArg AV.bool (fb fun h => ?_), trivial, rfl⟩
          have h7 := hz.2 (adj_of_srt h.srt hp (by rw [show i - 1 + 1 = i by omega]; exact hx))
          cases h7
        | true =>
          have h6 := hz.1 rfl
          refine ⟨i + 1, ⟨hc, fun j w hj hw => ?_, fun j w z hj hw hz => ?_⟩, Le.of [] ⟨rfl, congrArg (AV.int .i64) (wi (by omega) (by omega)), trivial⟩ ⟨rfl, trivial⟩ rfl, by show s.length - (i + 1) < s.length - i; omega⟩
          · by_cases e : j = i
            · subst e; rw [hx] at hw; cases hw; have : ¬ u.c < f := of_decide_eq_false h4; omega
            · exact q2 j w (by omega) hw
          · by_cases e : j + 1 = i
            · subst e
              rw [hx] at hz; cases hz
              rw [Nat.add_sub_cancel, hw] at hp; cases hp
              exact h6
            · exact q3 j w z (by omega) hw hz
      · have h5 : i = 0 := by have := of_decide_eq_false h5; omega
        subst h5
        refine ⟨1, ⟨hc, fun j w hj hw => ?_, fun j w z hj hw hz => by omega⟩, Le.of [] ⟨rfl, congrArg (AV.int .i64) (wi (by omega) (by omega)), trivial⟩ ⟨rfl, trivial⟩ rfl, by show s.length - 1 < s.length - 0; omega⟩
        have : j = 0 := by omega
        subst this
        rw [hx] at hw; cases hw; have : ¬ u.c < f := of_decide_eq_false h4; omega
    · have hc : i = s.length := by have := of_decide_eq_false hc; rw [uses_len] at this; omega
      subst hc
      refine ⟨[], _, _, ⟨rfl, rfl⟩, congrArg AV.bool (tb ⟨by omega, by omega, by omega, fun u hu => ?_, srt_of_adj fun j u v hu hv => q3 j u v (List.getElem?_eq_some_iff.1 hv).1 hu hv⟩), trivial, rfl⟩
      obtain ⟨j, hj, rfl⟩ := List.mem_iff_getElem.1 hu
      exact q2 j _ hj (List.getElem?_eq_getElem hj)
theorem eqU {u v : U} : ([u.t, u.e, u.c] = [v.t, v.e, v.c]) ↔ u = v := by
  obtain ⟨a, b, c⟩ := u; obtain ⟨a', b', c'⟩ := v
  simp
theorem RHas_ct (c : C) (u : U) (hl : c.s.length < 100000) : CtT Try.prog 16 [c.T, u.T] (Ret (.bool (decide (u ∈ c.s))) []) := by
  obtain ⟨r, f, s⟩ := c
  simp only at hl ⊢
  refine Ct.of Try.func16 rfl rfl (n := 20) rfl (by simp [ids]) ?_
  refine ⟨Nat, fun i => [(2, .ptr 2 0), (3, .ptr 3 0), (5, .int .i64 i)], fun _ => [(2, false, CacBox r f s), (3, false, UseBox u)],
      fun i => i ≤ s.length ∧ ∀ j, j < i → ∀ v, s[j]? = some v → v ≠ u, fun i => s.length - i, 0, ⟨by simp, by simp⟩, Le.of [] ⟨rfl, rfl, rfl, trivial⟩ ⟨rfl, rfl, trivial⟩ rfl, ?_⟩
  rintro i ⟨q1, q2⟩
  refine brB (fun hc => ?_) (fun hc => ?_)
  · have hc : i < s.length := by have := of_decide_eq_true hc; rw [uses_len] at this; omega
    have hx : s[i]? = some s[i] := List.getElem?_eq_getElem hc
    generalize s[i] = v at hx
    refine ⟨by omega, _, uses_get rfl hx, ?_⟩
    refine ⟨Try.eqGuardType27, fun c hc2 => ?_⟩
    refine brB (fun hc3 => ?_) (fun hc3 => ?_)
    · rw [hc3] at hc2
      have e : v = u := eqU.1 (of_decide_eq_true hc2.symm)
      exact ⟨[], _, _, ⟨rfl, rfl⟩, congrArg AV.bool (decide_eq_true (by rw [← e]; exact List.mem_of_getElem? hx)).symm, trivial, rfl⟩
    · rw [hc3] at hc2
      have e : v ≠ u := fun e => of_decide_eq_false hc2.symm (eqU.2 e)
      refine ⟨i + 1, ⟨hc, fun j hj w hw => ?_⟩, Le.of [] ⟨rfl, rfl, congrArg (AV.int .i64) (wi (by omega) (by omega)), trivial⟩ ⟨rfl, rfl, trivial⟩ rfl, by show s.length - (i + 1) < s.length - i; omega⟩
      by_cases e2 : j = i
      · subst e2; rw [hx] at hw; cases hw; exact e
      · exact q2 j (by omega) w hw
  · have hc : ¬ i < s.length := by have := of_decide_eq_false hc; rw [uses_len] at this; omega
    refine ⟨[], _, _, ⟨rfl, rfl⟩, congrArg AV.bool (decide_eq_false fun hu => ?_).symm, trivial, rfl⟩
    obtain ⟨j, hj, rfl⟩ := List.mem_iff_getElem.1 hu
    exact q2 j (by omega) _ (List.getElem?_eq_getElem hj) rfl
theorem Same_ct (a b : C) (ha : a.s.length < 100000) (hb : b.s.length < 100000) (z : Bool) (hz : z = true ↔ a = b) : CtT Try.prog 8 [a.T, b.T] (Ret (.bool z) []) := by
  obtain ⟨r, f, s⟩ := a
  obtain ⟨r', f', s'⟩ := b
  simp only [C.mk.injEq] at ha hb hz ⊢
  refine Ct.of Try.func8 rfl rfl (n := 45) rfl (by simp [ids]) ?_
  have fz : ¬ (r = r' ∧ f = f' ∧ s = s') → false = z := fun h => by cases z; rfl; exact absurd (hz.1 rfl) h
  refine brB (fun h1 => ?_) (fun h1 => brB (fun h2 => ?_) (fun h2 => brB (fun h3 => ?_) (fun h3 => ?_)))
  · exact ⟨[], _, _, ⟨rfl, rfl⟩, congrArg AV.bool (fz fun h => by simp [h.1] at h1), trivial, rfl⟩
  · exact ⟨[], _, _, ⟨rfl, rfl⟩, congrArg AV.bool (fz fun h => by simp [h.2.1] at h2), trivial, rfl⟩
  · exact ⟨[], _, _, ⟨rfl, rfl⟩, congrArg AV.bool (fz fun h => by simp [h.2.2] at h3), trivial, rfl⟩
  · have h1 : r = r' := by simpa using h1
    have h2 : f = f' := by simpa using h2
    have h3 : s.length = s'.length := by simp [uses] at h3; omega
    refine ⟨Nat, fun i => [(2, .ptr 2 0), (3, .ptr 3 0), (5, .int .i64 i)], fun _ => [(2, false, CacBox r f s), (3, false, CacBox r' f' s')],
      fun i => i ≤ s.length ∧ ∀ j, j < i → s[j]? = s'[j]?, fun i => s.length - i, 0, ⟨by simp, by simp⟩, Le.of [] ⟨rfl, rfl, rfl, trivial⟩ ⟨rfl, rfl, trivial⟩ rfl, ?_⟩
    rintro i ⟨q1, q2⟩
    refine brB (fun hc => ?_) (fun hc => ?_)
    · have hc : i < s.length := by have := of_decide_eq_true hc; rw [uses_len] at this; omega
      have hx : s[i]? = some s[i] := List.getElem?_eq_getElem hc
      have hy : s'[i]? = some s'[i] := List.getElem?_eq_getElem (by omega)
      generalize s[i] = u at hx
      generalize s'[i] = v at hy
      refine ⟨by omega, _, uses_get rfl hx, by omega, _, uses_get rfl hy, ?_⟩
      refine ⟨Try.eqGuardType27, fun c hc2 => ?_⟩
      refine brB (fun hc3 => ?_) (fun hc3 => ?_)
      · rw [hc3] at hc2
        refine ⟨[], _, _, ⟨rfl, rfl⟩, congrArg AV.bool (fz fun h => ?_), trivial, rfl⟩
        rw [h.2.2, hy] at hx
        cases hx
        simp at hc2
      · rw [hc3] at hc2
        have e : u = v := eqU.1 (by simpa using hc2)
        refine ⟨i + 1, ⟨hc, fun j hj => ?_⟩, Le.of [] ⟨rfl, rfl, congrArg (AV.int .i64) (wi (by omega) (by omega)), trivial⟩ ⟨rfl, rfl, trivial⟩ rfl, by show s.length - (i + 1) < s.length - i; omega⟩
        by_cases e2 : j = i
        · subst e2; rw [hx, hy, e]
        · exact q2 j (by omega)
    · have hc : ¬ i < s.length := by have := of_decide_eq_false hc; rw [uses_len] at this; omega
      refine ⟨[], _, _, ⟨rfl, rfl⟩, congrArg AV.bool (hz.2 ⟨h1, h2, ?_⟩).symm, trivial, rfl⟩
      apply List.ext_getElem?
      intro j
      by_cases hj : j < i
      · exact q2 j hj
      · rw [List.getElem?_eq_none (by omega), List.getElem?_eq_none (by omega)]
end Go.Proofs.YtbbcnmfmncgffaaX
