-- Written by hand for this claim's session.
import Derived.Test.YtbbcnmfmncgffaaCaB
open Go Go.YtbbcnmfmncgffaaE Go.Proofs
set_option maxRecDepth 100000
set_option autoImplicit false
namespace Go.Proofs.YtbbcnmfmncgffaaX
theorem Clone_ct (l : List U) (hl : l.length < 100000) : CtT Try.prog 20 [.sl 3 (uses l)] (Ret (.own 0) [(0, false, .row 27 3 (uses l))]) := by
  refine Ct.ofL Try.func20 rfl rfl (n := 8) rfl (by simp [ids]) (by simp) ?_
  refine ⟨fun hn => ?_, fun _ => ?_⟩
  · refine ⟨_, _, Le.nil 2 50 27 3 rfl rfl, ?_⟩
    refine ⟨[(0, 50)], _, _, ⟨rfl, rfl⟩, rfl, ⟨?_, trivial⟩, rfl⟩
    rw [hn]; rfl
  · refine ⟨by show (_ + _) * 24 ≤ _; simp; omega, _, _, Le.refl _ _ _, ?_⟩
    exact ⟨[(0, 7)], _, _, ⟨rfl, rfl⟩, rfl, ⟨rfl, trivial⟩, rfl⟩
theorem Index_ct (l : List U) (v : U) (hl : l.length < 100000) (n : Int) (hn : n = (l.findIdx? (fun u => decide (u = v))).elim (-1 : Int) fun i => (i : Int)) : CtT Try.prog 30 [.sl 3 (uses l), v.T] (Ret (.int .i64 n) []) := by
  refine Ct.of Try.func30 rfl rfl (n := 19) rfl (by simp [ids]) ?_
  refine ⟨Nat, fun i => [(0, .t (.sl 3 (uses l))), (3, .ptr 3 0), (6, .t (.sl 3 (uses l))), (7, .int .i64 l.length), (8, .int .i64 i)], fun _ => [(3, false, UseBox v)], fun i => i ≤ l.length ∧ ∀ j, j < i → ∀ u, l[j]? = some u → u ≠ v, fun i => l.length - i, 0, ⟨by simp, by simp⟩, Le.of [] ⟨rfl, rfl, rfl, by rw [← uses_len l]; rfl, rfl, trivial⟩ ⟨rfl, trivial⟩ rfl, ?_⟩
  rintro i ⟨h1, h2⟩
  refine brB (fun hc => ?_) (fun hc => ?_)
  · have hc : i < l.length := by have := of_decide_eq_true hc; omega
    have hx : l[i]? = some l[i] := List.getElem?_eq_getElem hc
    generalize l[i] = u at hx
    refine ⟨by omega, _, uses_get rfl hx, ?_⟩
    refine ⟨Try.eqGuardType27, fun c hc2 => ?_⟩
    refine brB (fun hc3 => ?_) (fun hc3 => ?_)
    · rw [hc3] at hc2
      have e : u = v := by
        have := of_decide_eq_true hc2.symm
        obtain ⟨a, b, c⟩ := u; obtain ⟨a', b', c'⟩ := v
        simp at this ⊢; omega
      refine ⟨[], _, _, ⟨rfl, rfl⟩, congrArg (AV.int .i64) ?_, trivial, rfl⟩
      rw [hn]
      have : l.findIdx? (fun u => decide (u = v)) = some i := by
        rw [List.findIdx?_eq_some_iff_getElem]
        refine ⟨hc, ?_, fun j hj => ?_⟩
        · have := (List.getElem?_eq_some_iff.1 hx).2
          simp [this, e]
        · simpa using h2 j hj _ (List.getElem?_eq_getElem (by omega))
      rw [this]; rfl
    · rw [hc3] at hc2
      have e : u ≠ v := by
        have := of_decide_eq_false hc2.symm
        rintro rfl
        exact this rfl
      refine ⟨i + 1, ⟨hc, fun j hj w hw => ?_⟩, Le.of [] ⟨rfl, rfl, rfl, rfl, congrArg (AV.int .i64) (wi (by omega) (by omega)), trivial⟩ ⟨rfl, trivial⟩ rfl, by show l.length - (i + 1) < l.length - i; omega⟩
      by_cases e2 : j = i
      · subst e2; rw [hx] at hw; cases hw; exact e
      · exact h2 j (by omega) w hw
  · have hc : ¬ i < l.length := by have := of_decide_eq_false hc; omega
    refine ⟨[], _, _, ⟨rfl, rfl⟩, congrArg (AV.int .i64) ?_, trivial, rfl⟩
    rw [hn]
    have : l.findIdx? (fun u => decide (u = v)) = none := by
      rw [List.findIdx?_eq_none_iff]
      intro x hx
      obtain ⟨j, hj, rfl⟩ := List.mem_iff_getElem.1 hx
      simpa using h2 j (by omega) _ (List.getElem?_eq_getElem hj)
    rw [this]; rfl
theorem Contains_ct (l : List U) (v : U) (hl : l.length < 100000) : CtT Try.prog 24 [.sl 3 (uses l), v.T] (Ret (.bool (decide (v ∈ l))) []) := by
  refine Ct.of Try.func24 rfl rfl (n := 9) rfl (by simp [ids]) ?_
  refine Told.callT (Index_ct l v hl _ rfl) rfl rfl rfl rfl ?_
  refine ⟨[], _, _, ⟨rfl, rfl⟩, congrArg AV.bool ?_, trivial, rfl⟩
  cases hf : l.findIdx? (fun u => decide (u = v)) with
  | none =>
    rw [List.findIdx?_eq_none_iff] at hf
    have : ¬ v ∈ l := fun h => by simpa using hf v h
    simp [this]
  | some i =>
    rw [List.findIdx?_eq_some_iff_getElem] at hf
    obtain ⟨h1, h2, _⟩ := hf
    have : v ∈ l := by have := of_decide_eq_true h2; rw [← this]; exact List.getElem_mem _
    simp [this]
end Go.Proofs.YtbbcnmfmncgffaaX
