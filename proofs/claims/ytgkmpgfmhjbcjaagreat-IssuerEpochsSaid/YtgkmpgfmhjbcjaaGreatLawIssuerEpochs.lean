-- Written by hand for this claim's session.
import Derived.Test.YtgkmpgfmhjbcjaaGreatRows
import Derived.Test.YtgkmpgfmhjbcjaaGreatTxB
import Derived.WalkKit
import Derived.ProofKit
import Derived.OpenShut
import Derived.ShutString
import Derived.ChangeOld
import Derived.Below
import Derived.SizedLaws
import Derived.HandedShaped
namespace Go.Proofs.YtgkmpgfmhjbcjaaGreat.issuerEpochs
open Go.ChangeShapes Go.WideShapes Go.ChangeAt Go.RowKit
open Go.ChangeMaps (open_string shut_string)
open Go.YtgkmpgfmhjbcjaaGreatE Go.Proofs.YtgkmpgfmhjbcjaaGreatX
set_option linter.unusedVariables false
theorem own : ownKnob Tryz.prog.godebug = none := by kernel_rfl
theorem laidOut : laidOutB Tryz.prog = true := by kernel_rfl
set_option maxRecDepth 100000 in
theorem lifted (os : Os) (started : os.Started) (H : Type) (enc : TypeId × Value → H) :
    ReturnsInHanded {} Tryz.checked os 4 .any (Rows.issuerEpochsSpec.pre6 enc Tryz.prog Tryz.f4 Rows.issuerEpochsRow.domain false) (Rows.issuerEpochsSpec.post enc Tryz.prog Tryz.f4 false true false false) := by
  refine returnsInHanded_of_change_shaped (C := Tryz.checked) own started (by kernel_rfl) Tryz.func4
    (ChangeSpec.witness6 (enc := enc) (C := Tryz.checked) false ⟨#[], #[.agg #[.int .i64 0, .slice none 0 0], .agg #[.slice none 0 0, .int .u64 0, .slice none 0 0, .slice none 0 0], .int .u64 0, .int .u64 0, .int .u64 0, .slice none 0 0, .bool false], []⟩ 8 (by kernel_rfl) (by kernel_rfl) (by kernel_rfl) (by kernel_rfl)) ?_
  intro W base args ds gs before hval0 hW hcnd hsz0 hS _
  obtain ⟨inst, hG⟩ := globs_of hS
  have hval : ∀ (j : Nat) t v, Tryz.f4.params[j]? = some t → args[j]? = some v → Value.okWide Tryz.prog W .any base t v := hval0
  have hW' := hW
  obtain ⟨p, q, hA0, hV, rfl, hfz, hnd⟩ := hW
  have hA : DataW.TrodAll enc Tryz.prog W 0 (fun _ => true) true Tryz.f4.params.toList args.toList ds p := hA0
  rw [Tryz.params4] at hA hval
  obtain ⟨v0, vs0, d0, ds0, p0, q0, hargs, rfl, rfl, h0, r0⟩ := trodAll_cons hA
  obtain ⟨v1, vs1, d1, ds1, p1, q1, rfl, rfl, rfl, h1, r1⟩ := trodAll_cons r0
  obtain ⟨v2, vs2, d2, ds2, p2, q2, rfl, rfl, rfl, h2, r2⟩ := trodAll_cons r1
  obtain ⟨v3, vs3, d3, ds3, p3, q3, rfl, rfl, rfl, h3, r3⟩ := trodAll_cons r2
  obtain ⟨v4, vs4, d4, ds4, p4, q4, rfl, rfl, rfl, h4, r4⟩ := trodAll_cons r3
  obtain ⟨v5, vs5, d5, ds5, p5, q5, rfl, rfl, rfl, h5, r5⟩ := trodAll_cons r4
  obtain ⟨v6, vs6, d6, ds6, p6, q6, rfl, rfl, rfl, h6, r6⟩ := trodAll_cons r5
  obtain ⟨rfl, rfl, rfl⟩ := trodAll_nil r6
  obtain rfl : args = #[v0, v1, v2, v3, v4, v5, v6] := by cases args; simp_all
  obtain ⟨rfl, rfl⟩ := trodVars_none hV
  have lt0 : ∀ x ∈ p0, x.block < W.heap.size := by obtain ⟨m, hm⟩ := h0; exact DataW.trod_lt m _ _ _ hm
  obtain ⟨n0, ts0, w0, t0⟩ := told_arg h0 (hval 0 24 v0 rfl rfl) (by kernel_rfl)
  obtain ⟨a0, e0, b0⟩ := ex_Engine' w0
  rw [e0] at t0
  have lt1 : ∀ x ∈ p1, x.block < W.heap.size := by obtain ⟨m, hm⟩ := h1; exact DataW.trod_lt m _ _ _ hm
  obtain ⟨n1, ts1, w1, t1⟩ := told_arg h1 (hval 1 30 v1 rfl rfl) (by kernel_rfl)
  obtain ⟨a1, e1, b1⟩ := ex_Issuer' w1
  rw [e1] at t1
  have lt2 : ∀ x ∈ p2, x.block < W.heap.size := by obtain ⟨m, hm⟩ := h2; exact DataW.trod_lt m _ _ _ hm
  obtain ⟨n2, ts2, w2, t2⟩ := told_arg h2 (hval 2 26 v2 rfl rfl) (by kernel_rfl)
  obtain ⟨a2, e2, b2⟩ := w2.int Tryz.underlying26
  rw [e2, show mkE Tryz.prog 26 [.v (.int .u64 a2)] = .v (.int .u64 a2) from rfl] at t2
  have lt3 : ∀ x ∈ p3, x.block < W.heap.size := by obtain ⟨m, hm⟩ := h3; exact DataW.trod_lt m _ _ _ hm
  obtain ⟨n3, ts3, w3, t3⟩ := told_arg h3 (hval 3 26 v3 rfl rfl) (by kernel_rfl)
  obtain ⟨a3, e3, b3⟩ := w3.int Tryz.underlying26
  rw [e3, show mkE Tryz.prog 26 [.v (.int .u64 a3)] = .v (.int .u64 a3) from rfl] at t3
  have lt4 : ∀ x ∈ p4, x.block < W.heap.size := by obtain ⟨m, hm⟩ := h4; exact DataW.trod_lt m _ _ _ hm
  obtain ⟨n4, ts4, w4, t4⟩ := told_arg h4 (hval 4 26 v4 rfl rfl) (by kernel_rfl)
  obtain ⟨a4, e4, b4⟩ := w4.int Tryz.underlying26
  rw [e4, show mkE Tryz.prog 26 [.v (.int .u64 a4)] = .v (.int .u64 a4) from rfl] at t4
  have lt5 : ∀ x ∈ p5, x.block < W.heap.size := by obtain ⟨m, hm⟩ := h5; exact DataW.trod_lt m _ _ _ hm
  obtain ⟨n5, ts5, w5, t5⟩ := told_arg h5 (hval 5 25 v5 rfl rfl) (by kernel_rfl)
  obtain ⟨a5, e5, b5⟩ := ex_bys' w5
  rw [e5] at t5
  have lt6 : ∀ x ∈ p6, x.block < W.heap.size := by obtain ⟨m, hm⟩ := h6; exact DataW.trod_lt m _ _ _ hm
  obtain ⟨n6, ts6, w6, t6⟩ := told_arg h6 (hval 6 4 v6 rfl rfl) (by kernel_rfl)
  obtain ⟨a6, e6⟩ := w6.bool Tryz.underlying4
  rw [e6, show mkE Tryz.prog 4 [.v (.bool a6)] = .v (.bool a6) from rfl] at t6
  clear hA0 hval0 hsz0
  refine ((CtT.law (ts := [a0.T, a1.T, .v (.int .u64 a2), .v (.int .u64 a3), .v (.int .u64 a4), .sl 1 (bys a5), .v (.bool a6)]) (IssuerEpochs_g a0 b0 a1 b1 a2 a3 a4 (wf_u64 b2) (wf_u64 b3) a5 b5 a6) W hG [v0, v1, v2, v3, v4, v5, v6] rfl (fun i t v ht hv => ?_)).mono fun e W' hh => ?_)
  · match i, ht, hv with
    | 0, ht, hv => cases ht; cases hv; exact t0
    | 1, ht, hv => cases ht; cases hv; exact t1
    | 2, ht, hv => cases ht; cases hv; exact t2
    | 3, ht, hv => cases ht; cases hv; exact t3
    | 4, ht, hv => cases ht; cases hv; exact t4
    | 5, ht, hv => cases ht; cases hv; exact t5
    | 6, ht, hv => cases ht; cases hv; exact t6
  · obtain ⟨he, bel⟩ := hh
    subst he
    exact ⟨_, rfl, _, _, _, [], _, [], hW', trodAll_mk1 (shut_bool Tryz.underlying4 _), (trodAll_cons_mk (Below.trod laidOut (by kernel_rfl) (of_decide_eq_true (by kernel_rfl)) h0 bel lt0) (trodAll_cons_mk (Below.trod laidOut (by kernel_rfl) (of_decide_eq_true (by kernel_rfl)) h1 bel lt1) (trodAll_cons_mk (Below.trod laidOut (by kernel_rfl) (of_decide_eq_true (by kernel_rfl)) h2 bel lt2) (trodAll_cons_mk (Below.trod laidOut (by kernel_rfl) (of_decide_eq_true (by kernel_rfl)) h3 bel lt3) (trodAll_cons_mk (Below.trod laidOut (by kernel_rfl) (of_decide_eq_true (by kernel_rfl)) h4 bel lt4) (trodAll_cons_mk (Below.trod laidOut (by kernel_rfl) (of_decide_eq_true (by kernel_rfl)) h5 bel lt5) (trodAll_cons_mk (Below.trod laidOut (by kernel_rfl) (of_decide_eq_true (by kernel_rfl)) h6 bel lt6) trodAll_mk0))))))), rfl, bel.frame _, fun h => by cases h⟩
theorem over : Rows.issuerEpochsRow.holds Tryz.pinned (OpenSpec.ofChange Rows.issuerEpochsSpec) :=
  OpenClaim.holds_of_wide 4 Tryz.f4 rfl rfl rfl rfl rfl rfl rfl ⟨rfl, rfl, rfl, rfl, rfl⟩ rfl rfl rfl rfl rfl (by kernel_rfl) Tryz.func4 (by kernel_rfl)
    (of_decide_eq_true (by kernel_rfl)) (by unfold Func.isWrapper; first | (rw [if_pos (by decide +kernel)]; kernel_rfl) | (rw [if_neg (by decide +kernel)]; exact ⟨rfl, rfl⟩))
    (fun os started H enc _ => lifted os started H enc)
theorem proved : Rows.IssuerEpochsSaid := over
#print axioms proved
end Go.Proofs.YtgkmpgfmhjbcjaaGreat.issuerEpochs
namespace Go.Proofs.YtgkmpgfmhjbcjaaGreat
/-- The row, under a short name, for the claim. -/
theorem issuerEpochs_holds : Rows.IssuerEpochsSaid := issuerEpochs.proved
end Go.Proofs.YtgkmpgfmhjbcjaaGreat
