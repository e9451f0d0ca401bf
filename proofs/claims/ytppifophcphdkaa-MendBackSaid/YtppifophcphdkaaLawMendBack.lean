-- Written by hand for this claim's session.
import Derived.Test.YtppifophcphdkaaRows
import Derived.Test.YtppifophcphdkaaTxB
import Derived.WalkKit
import Derived.ProofKit
import Derived.OpenShut
import Derived.ShutString
import Derived.ChangeOld
import Derived.Below
import Derived.SizedLaws
import Derived.HandedShaped
namespace Go.Proofs.Ytppifophcphdkaa.mendBack
open Go.ChangeShapes Go.WideShapes Go.ChangeAt Go.RowKit
open Go.ChangeMaps (open_string shut_string)
open Go.YtppifophcphdkaaE Go.Proofs.YtppifophcphdkaaX
set_option linter.unusedVariables false
theorem own : ownKnob Try.prog.godebug = none := by kernel_rfl
theorem laidOut : laidOutB Try.prog = true := by kernel_rfl
set_option maxRecDepth 100000 in
theorem lifted (os : Os) (started : os.Started) (H : Type) (enc : TypeId × Value → H) :
    ReturnsInHanded {} Try.checked os 4 .any (Rows.mendBackSpec.pre6 enc Try.prog Try.f4 Rows.mendBackRow.domain false) (Rows.mendBackSpec.post enc Try.prog Try.f4 false true false false) := by
  refine returnsInHanded_of_change_shaped (C := Try.checked) own started (by kernel_rfl) Try.func4
    (ChangeSpec.witness6 (enc := enc) (C := Try.checked) false ⟨#[], #[.slice none 0 0, .int .u8 0, .slice none 0 0, .slice none 0 0], []⟩ 8 (by kernel_rfl) (by kernel_rfl) (by kernel_rfl) (by kernel_rfl)) ?_
  intro W base args ds gs before hval0 hW hcnd hsz0 hS _
  obtain ⟨inst, hG⟩ := globs_of hS
  have hval : ∀ (j : Nat) t v, Try.f4.params[j]? = some t → args[j]? = some v → Value.okWide Try.prog W .any base t v := hval0
  have hW' := hW
  obtain ⟨p, q, hA0, hV, rfl, hfz, hnd⟩ := hW
  have hA : DataW.TrodAll enc Try.prog W 0 (fun _ => true) true Try.f4.params.toList args.toList ds p := hA0
  rw [Try.params4] at hA hval
  obtain ⟨v0, vs0, d0, ds0, p0, q0, hargs, rfl, rfl, h0, r0⟩ := trodAll_cons hA
  obtain ⟨v1, vs1, d1, ds1, p1, q1, rfl, rfl, rfl, h1, r1⟩ := trodAll_cons r0
  obtain ⟨v2, vs2, d2, ds2, p2, q2, rfl, rfl, rfl, h2, r2⟩ := trodAll_cons r1
  obtain ⟨v3, vs3, d3, ds3, p3, q3, rfl, rfl, rfl, h3, r3⟩ := trodAll_cons r2
  obtain ⟨rfl, rfl, rfl⟩ := trodAll_nil r3
  obtain rfl : args = #[v0, v1, v2, v3] := by cases args; simp_all
  obtain ⟨rfl, rfl⟩ := trodVars_none hV
  have lt0 : ∀ x ∈ p0, x.block < W.heap.size := by obtain ⟨m, hm⟩ := h0; exact DataW.trod_lt m _ _ _ hm
  obtain ⟨n0, ts0, w0, t0⟩ := told_arg h0 (hval 0 22 v0 rfl rfl) (by kernel_rfl)
  obtain ⟨a0, e0, b0⟩ := ex_bysL w0
  rw [e0] at t0
  have lt1 : ∀ x ∈ p1, x.block < W.heap.size := by obtain ⟨m, hm⟩ := h1; exact DataW.trod_lt m _ _ _ hm
  obtain ⟨n1, ts1, w1, t1⟩ := told_arg h1 (hval 1 5 v1 rfl rfl) (by kernel_rfl)
  obtain ⟨a1, e1, b1⟩ := w1.int Try.underlying5
  rw [e1, show mkE Try.prog 5 [.v (.int .u8 a1)] = .v (.int .u8 a1) from rfl] at t1
  have lt2 : ∀ x ∈ p2, x.block < W.heap.size := by obtain ⟨m, hm⟩ := h2; exact DataW.trod_lt m _ _ _ hm
  obtain ⟨n2, ts2, w2, t2⟩ := told_arg h2 (hval 2 22 v2 rfl rfl) (by kernel_rfl)
  obtain ⟨a2, e2, b2⟩ := ex_bysL w2
  rw [e2] at t2
  have lt3 : ∀ x ∈ p3, x.block < W.heap.size := by obtain ⟨m, hm⟩ := h3; exact DataW.trod_lt m _ _ _ hm
  obtain ⟨n3, ts3, w3, t3⟩ := told_arg h3 (hval 3 22 v3 rfl rfl) (by kernel_rfl)
  obtain ⟨a3, e3, b3⟩ := ex_bysL w3
  rw [e3] at t3
  clear hA0 hval0 hsz0
  refine ((CtT.law (ts := [.sl 1 (bys a0), .v (.int .u8 a1), .sl 1 (bys a2), .sl 1 (bys a3)]) (MendBack_g a0 b0.1 a1 (wf_u8 b1) a2 b2.1 b2.2 a3 b3.1) W hG [v0, v1, v2, v3] rfl (fun i t v ht hv => ?_)).mono fun e W' hh => ?_)
  · match i, ht, hv with
    | 0, ht, hv => cases ht; cases hv; exact t0
    | 1, ht, hv => cases ht; cases hv; exact t1
    | 2, ht, hv => cases ht; cases hv; exact t2
    | 3, ht, hv => cases ht; cases hv; exact t3
  · obtain ⟨he, bel⟩ := hh
    subst he
    exact ⟨_, rfl, _, _, _, [], _, [], hW', trodAll_mk1 (shut_bool Try.underlying4 _), (trodAll_cons_mk (Below.trod laidOut (by kernel_rfl) (of_decide_eq_true (by kernel_rfl)) h0 bel lt0) (trodAll_cons_mk (Below.trod laidOut (by kernel_rfl) (of_decide_eq_true (by kernel_rfl)) h1 bel lt1) (trodAll_cons_mk (Below.trod laidOut (by kernel_rfl) (of_decide_eq_true (by kernel_rfl)) h2 bel lt2) (trodAll_cons_mk (Below.trod laidOut (by kernel_rfl) (of_decide_eq_true (by kernel_rfl)) h3 bel lt3) trodAll_mk0)))), rfl, bel.frame _, fun h => by cases h⟩
theorem over : Rows.mendBackRow.holds Try.pinned (OpenSpec.ofChange Rows.mendBackSpec) :=
  OpenClaim.holds_of_wide 4 Try.f4 rfl rfl rfl rfl rfl rfl rfl ⟨rfl, rfl, rfl, rfl, rfl⟩ rfl rfl rfl rfl rfl (by kernel_rfl) Try.func4 (by kernel_rfl)
    (of_decide_eq_true (by kernel_rfl)) (by unfold Func.isWrapper; first | (rw [if_pos (by decide +kernel)]; kernel_rfl) | (rw [if_neg (by decide +kernel)]; exact ⟨rfl, rfl⟩))
    (fun os started H enc _ => lifted os started H enc)
theorem proved : Rows.MendBackSaid := over
#print axioms proved
end Go.Proofs.Ytppifophcphdkaa.mendBack
namespace Go.Proofs.Ytppifophcphdkaa
/-- The row, under a short name, for the claim. -/
theorem mendBack_holds : Rows.MendBackSaid := mendBack.proved
end Go.Proofs.Ytppifophcphdkaa
