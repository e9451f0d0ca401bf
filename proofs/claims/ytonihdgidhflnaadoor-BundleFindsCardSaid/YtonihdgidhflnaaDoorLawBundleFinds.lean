-- Written by hand for this claim's session.
import Derived.Test.YtonihdgidhflnaaDoorRows
import Derived.Test.YtonihdgidhflnaaDoorCards
import Derived.Test.YtonihdgidhflnaaDoorTie
import Derived.Test.YtonihdgidhflnaaDoorTxB
import Derived.WalkKit
import Derived.ProofKit
import Derived.OpenShut
import Derived.ShutString
import Derived.ChangeOld
import Derived.Below
import Derived.SizedLaws
import Derived.SevenTiedAt
namespace Go.Proofs.YtonihdgidhflnaaDoor.bundleFinds
open Go.ChangeShapes Go.WideShapes Go.ChangeAt Go.RowKit
open Go.ChangeMaps (open_string shut_string)
open Go.YtonihdgidhflnaaDoorE Go.Proofs.YtonihdgidhflnaaDoorX
set_option linter.unusedVariables false
theorem laidOut : laidOutB Tryd.prog = true := by kernel_rfl
set_option maxRecDepth 100000 in
theorem lifted (os : Os) (started : os.Started) (H : Type) (enc : TypeId × Value → H) :
    ReturnsInHanded {} Tryd.checked os 5 .any (fun w args => (Rows.bundleFindsSpec.pre enc Tryd.prog Tryd.f5 [] false w args ∧ laidMetH Tryd.prog LaidL w) ∧ sizedMet enc Tryd.prog Tryd.f5 (OpenSpec.ofChange Rows.bundleFindsSpec) false w args) (Rows.bundleFindsSpec.post enc Tryd.prog Tryd.f5 false true false false) := by
  refine lift_shaped (C := Tryd.checked) (X := fun w => laidMetH Tryd.prog LaidL w) (fun _ _ hh h => h.of_heap hh) ownNone started (by kernel_rfl) Tryd.func5
    (ChangeSpec.witness_at (enc := enc) (C := Tryd.checked) (os := os) (X := fun w _ => laidMetH Tryd.prog LaidL w) false (laidWorld os) #[.agg #[.int .u64 0, .slice none 0 0, .slice none 0 0], .int .u64 0] 8 rfl (by kernel_rfl) (by kernel_rfl) (by kernel_rfl) (by kernel_rfl) (by kernel_rfl) (laidWorld_met os _)) ?_
  intro W base args ds gs before hval0 hW hL hS
  obtain ⟨inst, hG⟩ := globs_of hL hS
  have hval : ∀ (j : Nat) t v, Tryd.f5.params[j]? = some t → args[j]? = some v → Value.okWide Tryd.prog W .any base t v := hval0
  have hW' := hW
  obtain ⟨p, q, hA0, hV, rfl, hfz, hnd⟩ := hW
  have hA : DataW.TrodAll enc Tryd.prog W 0 (fun _ => true) true Tryd.f5.params.toList args.toList ds p := hA0
  rw [Tryd.params5] at hA hval
  obtain ⟨v0, vs0, d0, ds0, p0, q0, hargs, rfl, rfl, h0, r0⟩ := trodAll_cons hA
  obtain ⟨v1, vs1, d1, ds1, p1, q1, rfl, rfl, rfl, h1, r1⟩ := trodAll_cons r0
  obtain ⟨rfl, rfl, rfl⟩ := trodAll_nil r1
  obtain rfl : args = #[v0, v1] := by cases args; simp_all
  obtain ⟨rfl, rfl⟩ := trodVars_none hV
  have lt0 : ∀ x ∈ p0, x.block < W.heap.size := by obtain ⟨m, hm⟩ := h0; exact DataW.trod_lt m _ _ _ hm
  obtain ⟨n0, ts0, w0, t0⟩ := told_arg h0 (hval 0 52 v0 rfl rfl) (by kernel_rfl)
  obtain ⟨a0, e0, b0⟩ := ex_Bundle' w0
  rw [e0] at t0
  have lt1 : ∀ x ∈ p1, x.block < W.heap.size := by obtain ⟨m, hm⟩ := h1; exact DataW.trod_lt m _ _ _ hm
  obtain ⟨n1, ts1, w1, t1⟩ := told_arg h1 (hval 1 24 v1 rfl rfl) (by kernel_rfl)
  obtain ⟨a1, e1, b1⟩ := w1.int Tryd.underlying24
  rw [e1, show mkE Tryd.prog 24 [.v (.int .u64 a1)] = .v (.int .u64 a1) from rfl] at t1
  clear hA0 hval0
  refine ((CtT.law (ts := [a0.T, .v (.int .u64 a1)]) (BundleFinds_g a0 b0 a1) W hG [v0, v1] rfl (fun i t v ht hv => ?_)).mono fun e W' hh => ?_)
  · match i, ht, hv with
    | 0, ht, hv => cases ht; cases hv; exact t0
    | 1, ht, hv => cases ht; cases hv; exact t1
  · obtain ⟨he, bel⟩ := hh
    subst he
    exact ⟨_, rfl, _, _, _, [], _, [], hW', trodAll_mk1 (shut_bool Tryd.underlying4 _), (trodAll_cons_mk (Below.trod laidOut (by kernel_rfl) (of_decide_eq_true (by kernel_rfl)) h0 bel lt0) (trodAll_cons_mk (Below.trod laidOut (by kernel_rfl) (of_decide_eq_true (by kernel_rfl)) h1 bel lt1) trodAll_mk0)), rfl, bel.frame _, fun h => by cases h⟩
theorem over : Rows.bundleFindsRow.holds Tryd.pinned (OpenSpec.ofChange Rows.bundleFindsSpec) :=
  OpenClaim.holds_of_wide 5 Tryd.f5 rfl rfl rfl rfl rfl rfl rfl ⟨rfl, rfl, rfl, rfl, rfl⟩ rfl rfl rfl rfl rfl (by kernel_rfl) Tryd.func5 (by kernel_rfl)
    (of_decide_eq_true (by kernel_rfl)) (by unfold Func.isWrapper; first | (rw [if_pos (by decide +kernel)]; kernel_rfl) | (rw [if_neg (by decide +kernel)]; exact ⟨rfl, rfl⟩))
    (fun os started H enc _ => lifted os started H enc)
theorem proved : Rows.BundleFindsSaid := over
theorem card : Rows.BundleFindsCardSaid :=
  Claim7.holds_tied_plain_at .later [] [.handle] true (true, "e5bc349fa1282eb0ee48feb17738671883ad3ae30be6bac419a1008a5971b418") true
    proved (fun _ h => by cases h) (by kernel_rfl) (fun _ h => by cases h) bundleFinds_row_tie rfl ⟨rfl, rfl⟩ (by kernel_rfl) rfl
    (fun f fn hf hfn => by
      obtain rfl : f = 5 := Option.some.inj ((show Tryd.prog.funcNamed "wristband/wristbandlaw16.BundleFinds" = some 5 by kernel_rfl).symm.trans hf) |>.symm
      obtain rfl : fn = Tryd.f5 := (Option.some.inj (Tryd.func5.symm.trans hfn)).symm
      refine ⟨by kernel_rfl, fun j t ht => ?_⟩
      rw [Tryd.params5] at ht
      have h := List.all_eq_true.1 (show ([52, 24] : List Nat).all (fun t => Tryd.prog.wantsStandIn t == false) = true by kernel_rfl) t (by simpa using Array.mem_of_getElem? ht)
      exact eq_of_beq h)
    (by kernel_rfl)
#print axioms card
end Go.Proofs.YtonihdgidhflnaaDoor.bundleFinds
namespace Go.Proofs.YtonihdgidhflnaaDoor
/-- The card, under a short name, for the claim. -/
theorem bundleFinds_holds : Rows.BundleFindsCardSaid := bundleFinds.card
end Go.Proofs.YtonihdgidhflnaaDoor
