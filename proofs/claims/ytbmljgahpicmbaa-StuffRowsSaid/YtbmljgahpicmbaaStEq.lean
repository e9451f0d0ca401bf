-- Written by hand for this claim's session.
import Derived.Test.YtbmljgahpicmbaaStC
open Go Go.YtbmljgahpicmbaaE Go.Proofs
set_option maxRecDepth 100000
set_option autoImplicit false
namespace Go.Proofs.YtbmljgahpicmbaaSt
theorem slices_Equal_ct (a b : List Int) (hl : a.length < 1000000000000) : CtT Try.prog 13 [.sl 1 (bys a), .sl 1 (bys b)] (Ret (.bool (decide (a = b))) []) := by
  refine Ct.of Try.func13 (by rfl) rfl (n := 26) rfl (by simp [ids]) ?_
  refine brB (fun hc => ?_) (fun hc => ?_)
  · have hc : ¬ ((bys a).length : Int) = (bys b).length := of_decide_eq_false (Bool.not_eq_true' _ ▸ hc)
    rw [bys_length, bys_length] at hc
    refine ⟨[], _, _, ⟨rfl, rfl⟩, ?_, trivial, rfl⟩
    have : a ≠ b := fun e => hc (by rw [e])
    rw [decide_eq_false this]; rfl
  have hc : ((bys a).length : Int) = (bys b).length := of_decide_eq_true (Bool.not_eq_false' _ ▸ hc)
  rw [bys_length, bys_length] at hc
  refine ⟨Nat, fun i => [(0, .t (.sl 1 (bys a))), (1, .t (.sl 1 (bys b))), (12, .int .i64 a.length), (13, .int .i64 i)], fun _ => [], fun i => i ≤ a.length ∧ a.take i = b.take i, fun i => a.length - i, 0, ⟨by omega, rfl⟩, Le.of [] ⟨rfl, rfl, ?_, rfl, trivial⟩ trivial rfl, ?_⟩
  · show AV.int .i64 ((bys a).length) = _
    rw [bys_length]; rfl
  rintro i ⟨h1, h2⟩
  refine brB (fun hc2 => ?_) (fun hc2 => ?_)
  · have hc2 := of_decide_eq_true hc2
    have ha := List.getElem?_eq_getElem (show i < a.length by omega)
    have hb := List.getElem?_eq_getElem (show i < b.length by omega)
    refine ⟨by omega, _, bys_get ha, by omega, _, bys_get hb, ?_⟩
    refine brB (fun hc3 => ?_) (fun hc3 => ?_)
    · have hc3 := of_decide_eq_false (Bool.not_eq_true' _ ▸ hc3)
      refine ⟨[], _, _, ⟨rfl, rfl⟩, ?_, trivial, rfl⟩
      have : a ≠ b := fun e => hc3 (by subst e; rfl)
      rw [decide_eq_false this]; rfl
    · have hc3 := of_decide_eq_true (Bool.not_eq_false' _ ▸ hc3)
      refine ⟨i + 1, ⟨by omega, by rw [List.take_succ_eq_append_getElem (by omega), List.take_succ_eq_append_getElem (by omega), h2, hc3]⟩, Le.of [] ⟨rfl, rfl, rfl, ?_, trivial⟩ trivial rfl, by show a.length - (i + 1) < a.length - i; omega⟩
      show AV.int .i64 (IntKind.i64.wrap (i + 1)) = _
      rw [wi (by omega) (by omega)]; rfl
  · have hc2 := of_decide_eq_false hc2
    refine ⟨[], _, _, ⟨rfl, rfl⟩, ?_, trivial, rfl⟩
    have hi : i = a.length := by omega
    have : a = b := by rw [hi, List.take_length] at h2; rw [h2, List.take_of_length_le (by omega)]
    rw [decide_eq_true this]; rfl
end Go.Proofs.YtbmljgahpicmbaaSt
