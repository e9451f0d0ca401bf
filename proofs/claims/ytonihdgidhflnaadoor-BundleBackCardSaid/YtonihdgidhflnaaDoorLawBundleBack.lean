-- Written by hand for this claim's session.
import Derived.Test.YtonihdgidhflnaaDoorRows
import Derived.Test.YtonihdgidhflnaaDoorCards
import Derived.Test.YtonihdgidhflnaaDoorTie
import Derived.Test.YtonihdgidhflnaaDoorTxB
import Derived.WalkKit
import Derived.ProofKit
import Derived.OpenShut
import Derived.ShutString
import Derived.ChangeOld
import Derived.Below
import Derived.SizedLaws
import Derived.SevenTiedAt
namespace Go.Proofs.YtonihdgidhflnaaDoor.bundleBack
open Go.ChangeShapes Go.WideShapes Go.ChangeAt Go.RowKit
open Go.ChangeMaps (open_string shut_string)
open Go.YtonihdgidhflnaaDoorE Go.Proofs.YtonihdgidhflnaaDoorX
set_option linter.unusedVariables false
theorem laidOut : laidOutB Tryd.prog = true := by kernel_rfl
set_option maxRecDepth 100000 in
theorem lifted (os : Os) (started : os.Started) (H : Type) (enc : TypeId × Value → H) :
    ReturnsInHanded {} Tryd.checked os 6 .any (fun w args => (Rows.bundleBackSpec.pre enc Tryd.prog Tryd.f6 [] false w args ∧ laidMetH Tryd.prog LaidL w) ∧ sizedMet enc Tryd.prog Tryd.f6 (OpenSpec.ofChange Rows.bundleBackSpec) false w args) (Rows.bundleBackSpec.post enc Tryd.prog Tryd.f6 false true false false) := by
  refine lift_shaped (C := Tryd.checked) (X := fun w => laidMetH Tryd.prog LaidL w) (fun _ _ hh h => h.of_heap hh) ownNone started (by kernel_rfl) Tryd.func6
    (ChangeSpec.witness_at (enc := enc) (C := Tryd.checked) (os := os) (X := fun w _ => laidMetH Tryd.prog LaidL w) false (laidWorld os) #[.agg #[.int .i64 0, .slice none 0 0], .slice none 0 0, .agg #[.int .u64 0, .slice none 0 0, .slice none 0 0], .slice none 0 0] 8 rfl (by kernel_rfl) (by kernel_rfl) (by kernel_rfl) (by kernel_rfl) (by kernel_rfl) (laidWorld_met os _)) ?_
  intro W base args ds gs before hval0 hW hL hS
  obtain ⟨inst, hG⟩ := globs_of hL hS
  have hval : ∀ (j : Nat) t v, Tryd.f6.params[j]? = some t → args[j]? = some v → Value.okWide Tryd.prog W .any base t v := hval0
  have hW' := hW
  obtain ⟨p, q, hA0, hV, rfl, hfz, hnd⟩ := hW
  have hA : DataW.TrodAll enc Tryd.prog W 0 (fun _ => true) true Tryd.f6.params.toList args.toList ds p := hA0
  rw [Tryd.params6] at hA hval
  obtain ⟨v0, vs0, d0, ds0, p0, q0, hargs, rfl, rfl, h0, r0⟩ := trodAll_cons hA
  obtain ⟨v1, vs1, d1, ds1, p1, q1, rfl, rfl, rfl, h1, r1⟩ := trodAll_cons r0
  obtain ⟨v2, vs2, d2, ds2, p2, q2, rfl, rfl, rfl, h2, r2⟩ := trodAll_cons r1
  obtain ⟨v3, vs3, d3, ds3, p3, q3, rfl, rfl, rfl, h3, r3⟩ := trodAll_cons r2
  obtain ⟨rfl, rfl, rfl⟩ := trodAll_nil r3
  obtain rfl : args = #[v0, v1, v2, v3] := by cases args; simp_all
  obtain ⟨rfl, rfl⟩ := trodVars_none hV
  have lt0 : ∀ x ∈ p0, x.block < W.heap.size := by obtain ⟨m, hm⟩ := h0; exact DataW.trod_lt m _ _ _ hm
  obtain ⟨n0, ts0, w0, t0⟩ := told_arg h0 (hval 0 29 v0 rfl rfl) (by kernel_rfl)
  obtain ⟨a0, e0, b0⟩ := ex_Engine' w0
  rw [e0] at t0
  have lt1 : ∀ x ∈ p1, x.block < W.heap.size := by obtain ⟨m, hm⟩ := h1; exact DataW.trod_lt m _ _ _ hm
  obtain ⟨n1, ts1, w1, t1⟩ := told_arg h1 (hval 1 23 v1 rfl rfl) (by kernel_rfl)
  obtain ⟨a1, e1, b1⟩ := ex_bys' w1
  rw [e1] at t1
  have lt2 : ∀ x ∈ p2, x.block < W.heap.size := by obtain ⟨m, hm⟩ := h2; exact DataW.trod_lt m _ _ _ hm
  obtain ⟨n2, ts2, w2, t2⟩ := told_arg h2 (hval 2 52 v2 rfl rfl) (by kernel_rfl)
  obtain ⟨a2, e2, b2⟩ := ex_Bundle' w2
  rw [e2] at t2
  have lt3 : ∀ x ∈ p3, x.block < W.heap.size := by obtain ⟨m, hm⟩ := h3; exact DataW.trod_lt m _ _ _ hm
  obtain ⟨n3, ts3, w3, t3⟩ := told_arg h3 (hval 3 23 v3 rfl rfl) (by kernel_rfl)
  obtain ⟨a3, e3, b3⟩ := ex_bys' w3
  rw [e3] at t3
  clear hA0 hval0
  refine ((CtT.law (ts := [a0.T, .sl 1 (bys a1), a2.T, .sl 1 (bys a3)]) (BundleBack_g a0 b0 a1 b1 a2 b2 a3 b3) W hG [v0, v1, v2, v3] rfl (fun i t v ht hv => ?_)).mono fun e W' hh => ?_)
  · match i, ht, hv with
    | 0, ht, hv => cases ht; cases hv; exact t0
    | 1, ht, hv => cases ht; cases hv; exact t1
    | 2, ht, hv => cases ht; cases hv; exact t2
    | 3, ht, hv => cases ht; cases hv; exact t3
  · obtain ⟨he, bel⟩ := hh
    subst he
    exact ⟨_, rfl, _, _, _, [], _, [], hW', trodAll_mk1 (shut_bool Tryd.underlying4 _), (trodAll_cons_mk (Below.trod laidOut (by kernel_rfl) (of_decide_eq_true (by kernel_rfl)) h0 bel lt0) (trodAll_cons_mk (Below.trod laidOut (by kernel_rfl) (of_decide_eq_true (by kernel_rfl)) h1 bel lt1) (trodAll_cons_mk (Below.trod laidOut (by kernel_rfl) (of_decide_eq_true (by kernel_rfl)) h2 bel lt2) (trodAll_cons_mk (Below.trod laidOut (by kernel_rfl) (of_decide_eq_true (by kernel_rfl)) h3 bel lt3) trodAll_mk0)))), rfl, bel.frame _, fun h => by cases h⟩
theorem over : Rows.bundleBackRow.holds Tryd.pinned (OpenSpec.ofChange Rows.bundleBackSpec) :=
  OpenClaim.holds_of_wide 6 Tryd.f6 rfl rfl rfl rfl rfl rfl rfl ⟨rfl, rfl, rfl, rfl, rfl⟩ rfl rfl rfl rfl rfl (by kernel_rfl) Tryd.func6 (by kernel_rfl)
    (of_decide_eq_true (by kernel_rfl)) (by unfold Func.isWrapper; first | (rw [if_pos (by decide +kernel)]; kernel_rfl) | (rw [if_neg (by decide +kernel)]; exact ⟨rfl, rfl⟩))
    (fun os started H enc _ => lifted os started H enc)
theorem proved : Rows.BundleBackSaid := over
theorem card : Rows.BundleBackCardSaid :=
  Claim7.holds_tied_plain_at .later [] [.handle] true (true, "e5bc349fa1282eb0ee48feb17738671883ad3ae30be6bac419a1008a5971b418") true
    proved (fun _ h => by cases h) (by kernel_rfl) (fun _ h => by cases h) bundleBack_row_tie rfl ⟨rfl, rfl⟩ (by kernel_rfl) rfl
    (fun f fn hf hfn => by
      obtain rfl : f = 6 := Option.some.inj ((show Tryd.prog.funcNamed "wristband/wristbandlaw16.BundleBack" = some 6 by kernel_rfl).symm.trans hf) |>.symm
      obtain rfl : fn = Tryd.f6 := (Option.some.inj (Tryd.func6.symm.trans hfn)).symm
      refine ⟨by kernel_rfl, fun j t ht => ?_⟩
      rw [Tryd.params6] at ht
      have h := List.all_eq_true.1 (show ([29, 23, 52, 23] : List Nat).all (fun t => Tryd.prog.wantsStandIn t == false) = true by kernel_rfl) t (by simpa using Array.mem_of_getElem? ht)
      exact eq_of_beq h)
    (by kernel_rfl)
#print axioms card
end Go.Proofs.YtonihdgidhflnaaDoor.bundleBack
namespace Go.Proofs.YtonihdgidhflnaaDoor
/-- The card, under a short name, for the claim. -/
theorem bundleBack_holds : Rows.BundleBackCardSaid := bundleBack.card
end Go.Proofs.YtonihdgidhflnaaDoor
