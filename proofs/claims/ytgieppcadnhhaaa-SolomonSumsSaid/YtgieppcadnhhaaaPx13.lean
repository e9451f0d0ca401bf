-- Written by a program of this session (its own contracts laid into the walks). Lean checks it.
import Derived.Test.YtgieppcadnhhaaaPx0
import Derived.Test.YtgieppcadnhhaaaPx3
import Derived.Test.YtgieppcadnhhaaaPx9
import Derived.Test.YtgieppcadnhhaaaPx11
import Derived.Test.YtgieppcadnhhaaaPx12
import Derived.Test.YtgieppcadnhhaaaReg
namespace Go.Proofs.Ytgieppcadnhhaaa.P
open Go.RowKit Go.Proofs.YtgieppcadnhhaaaW.PrintWords Go.Proofs.YtgieppcadnhhaaaW.PrintLast Go.Proofs.YtgieppcadnhhaaaW.PrintMore
attribute [local go_sem] max2_int min2_int max_two min_two max_three min_three max_four min_four   -- for this text's walks alone
set_option linter.unusedVariables false
set_option linter.unusedSimpArgs false

/-! ### wristbandlaw09_SolomonSums: function 8 -/
-- IMPORTS Derived.Test.YtgieppcadnhhaaaReg
open Go.Proofs.Ytgieppcadnhhaaa.Reg
def wristbandlaw09_SolomonSums.T0 : List Nat := [0]
def wristbandlaw09_SolomonSums.D0 : List (Option Tmp) := [some 10]
def wristbandlaw09_SolomonSums.T1 : List Nat := [0, 1]
def wristbandlaw09_SolomonSums.D1 : List (Option Tmp) := [some 21, some 22]
def wristbandlaw09_SolomonSums.T3 : List Nat := [0, 1, 3, 7, 15]
def wristbandlaw09_SolomonSums.D3 : List (Option Tmp) := [some 23, some 24, some 25, some 26, some 11]
def wristbandlaw09_SolomonSums.T4 : List Nat := [0, 1, 0, 4, 15, 31, 63, 127, 63, 319, 1023, 2047]
def wristbandlaw09_SolomonSums.D4 : List (Option Tmp) := [some 27, some 28, some 29, some 30, some 31, some 32, some 33, some 34, some 35, some 36, some 37, some 38]
def wristbandlaw09_SolomonSums.T5 : List Nat := [0]
def wristbandlaw09_SolomonSums.D5 : List (Option Tmp) := [some 10]
def wristbandlaw09_SolomonSums.T6 : List Nat := [0, 0, 3, 7, 15, 15, 31, 127]
def wristbandlaw09_SolomonSums.D6 : List (Option Tmp) := [some 40, some 41, some 42, some 39, some 43, some 44, some 12, some 13]
def wristbandlaw09_SolomonSums.T7 : List Nat := [0, 0, 3, 7, 15, 15, 31, 127]
def wristbandlaw09_SolomonSums.D7 : List (Option Tmp) := [some 46, some 47, some 48, some 45, some 49, some 50, some 14, some 15]
def wristbandlaw09_SolomonSums.T8 : List Nat := [0, 1, 3, 7, 15, 31, 63, 127, 255, 127, 639, 2047, 4095]
def wristbandlaw09_SolomonSums.D8 : List (Option Tmp) := [some 51, some 52, some 53, some 54, some 55, some 56, some 57, some 58, some 59, some 60, some 61, some 62, some 63]
def wristbandlaw09_SolomonSums.T9 : List Nat := [0]
def wristbandlaw09_SolomonSums.D9 : List (Option Tmp) := [some 10]
def wristbandlaw09_SolomonSums.T10 : List Nat := [0, 1, 3, 7]
def wristbandlaw09_SolomonSums.D10 : List (Option Tmp) := [some 64, some 65, some 66, some 16]
def wristbandlaw09_SolomonSums.T11 : List Nat := [0]
def wristbandlaw09_SolomonSums.D11 : List (Option Tmp) := [some 17]
def wristbandlaw09_SolomonSums.T12 : List Nat := [0, 0, 2, 7]
def wristbandlaw09_SolomonSums.D12 : List (Option Tmp) := [some 67, some 68, some 69, some 70]
def wristbandlaw09_SolomonSums.T13 : List Nat := [0, 1, 3]
def wristbandlaw09_SolomonSums.D13 : List (Option Tmp) := [some 71, some 72, some 17]
def wristbandlaw09_SolomonSums.T14 : List Nat := [0, 0, 0, 0, 12, 28, 0, 0, 192, 448, 1020, 2047, 4095]
def wristbandlaw09_SolomonSums.D14 : List (Option Tmp) := [some 73, some 74, some 75, some 76, some 77, some 78, some 79, some 80, some 81, some 82, some 83, some 84, none]
def wristbandlaw09_SolomonSums.T15 : List Nat := [0, 0, 3, 7]
def wristbandlaw09_SolomonSums.D15 : List (Option Tmp) := [some 85, some 86, some 87, some 18]
def wristbandlaw09_SolomonSums.T16 : List Nat := [0, 1, 0, 4, 15]
def wristbandlaw09_SolomonSums.D16 : List (Option Tmp) := [some 88, some 89, some 90, some 91, some 92]
def wristbandlaw09_SolomonSums.T17 : List Nat := [0, 0, 3, 7]
def wristbandlaw09_SolomonSums.D17 : List (Option Tmp) := [some 93, some 94, some 95, some 18]
def wristbandlaw09_SolomonSums.T18 : List Nat := [0, 0, 3, 7, 15, 31, 31, 127, 255, 511, 1023, 2047, 2047, 6143, 2047, 30719, 63487, 131071, 262143, 524287]
def wristbandlaw09_SolomonSums.D18 : List (Option Tmp) := [some 96, some 97, some 98, some 99, some 100, some 101, some 102, some 103, some 104, some 105, some 106, some 107, some 108, some 109, some 110, some 111, some 112, some 113, some 114, some 115]
def wristbandlaw09_SolomonSums.T19 : List Nat := [0]
def wristbandlaw09_SolomonSums.D19 : List (Option Tmp) := [some 10]
def wristbandlaw09_SolomonSums.T20 : List Nat := [0, 1, 0, 7]
def wristbandlaw09_SolomonSums.D20 : List (Option Tmp) := [some 116, some 117, some 118, some 119]
def wristbandlaw09_SolomonSums.T21 : List Nat := [0]
def wristbandlaw09_SolomonSums.D21 : List (Option Tmp) := [some 10]
def wristbandlaw09_SolomonSums.T22 : List Nat := [0, 0, 2, 0, 14, 31, 0, 127, 255, 511, 511, 1023, 4095]
def wristbandlaw09_SolomonSums.D22 : List (Option Tmp) := [some 121, some 122, some 123, some 124, some 125, some 126, some 127, some 128, some 120, some 129, some 130, some 19, some 20]
def wristbandlaw09_SolomonSums.T23 : List Nat := [0, 1, 3, 7, 7, 31, 7, 71, 7, 263, 967, 2047, 4095, 8191]
def wristbandlaw09_SolomonSums.D23 : List (Option Tmp) := [some 131, some 132, some 133, some 134, some 135, some 136, some 137, some 138, some 139, some 140, some 141, some 142, some 143, some 10]
/-- From the head of loop 2 on. -/
def wristbandlaw09_SolomonSums.l2 (k : Nat) : Nat → (List Int) → (List Int) → (Int) → (Int) → (Int) → (List Int) → (List Int) → (List Int) → Prop
 | 0, _, _, _, _, _, _, _, _ => False
 | q + 1, l0, l1, a2, a3, a4, t1, y16_1, y18_2 => (((((y18_2).length : Int) < ((t1).length : Int)) → (((y18_2).length + (([(0 : Int)] : List Int)).length ≤ 140737488355328) ∧ wristbandlaw09_SolomonSums.l2 k q l0 l1 a2 a3 a4 t1 y16_1 (y18_2 ++ (([(0 : Int)] : List Int))))) ∧ (¬ (((y18_2).length : Int) < ((t1).length : Int)) → (∃ (t2_1 : Bool), solomon_Fine.f k (y16_1) (wrap64 (Int.tmod (wrap64 (a2)) ((64 : Int)) + (1 : Int))) = some t2_1 ∧ ((t2_1 = true) ∧ (∃ (t2_2 : Bool), solomon_Fine.f k (y18_2) (wrap64 (Int.tmod (wrap64 (a2)) ((64 : Int)) + (1 : Int))) = some t2_2 ∧ ((t2_2 = true) ∧ (¬ (wrap64 (Int.tmod (wrap64 (a2)) ((64 : Int)) + (1 : Int)) = 0) ∧ (∃ (t2_3 : Bool), solomon_Fine.f k (t1) (wrap64 (Int.tmod (wrap64 (a3)) (wrap64 (Int.tmod (wrap64 (a2)) ((64 : Int)) + (1 : Int))) + (1 : Int))) = some t2_3 ∧ ((t2_3 = true) ∧ (((((l0).length : Int) < wrap64 (Int.tmod (wrap64 (a2)) ((64 : Int)) + (1 : Int))) → True) ∧ (¬ (((l0).length : Int) < wrap64 (Int.tmod (wrap64 (a2)) ((64 : Int)) + (1 : Int))) → ((0 ≤ wrap64 (((l0).length : Int) - wrap64 (Int.tmod (wrap64 (a2)) ((64 : Int)) + (1 : Int)))) ∧ ((wrap64 (((l0).length : Int) - wrap64 (Int.tmod (wrap64 (a2)) ((64 : Int)) + (1 : Int))) ≤ ((l0).length : Int)) ∧ (∃ (t2_4 : List Int) (t2_5 : Int), solomon_Put.f k ((l0).take (wrap64 (((l0).length : Int) - wrap64 (Int.tmod (wrap64 (a2)) ((64 : Int)) + (1 : Int))) : Int).toNat) (wrap64 (Int.tmod (wrap64 (a2)) ((64 : Int)) + (1 : Int))) = some (t2_4, t2_5) ∧ ((t2_5 = (0 : Int)) ∧ (∃ (t2_6 : Bool), solomon_Fine.f k (l0) (wrap64 (Int.tmod (wrap64 (a2)) ((64 : Int)) + (1 : Int))) = some t2_6 ∧ (((t2_6 = true) → (((strOfNums (t2_4)).toList = (strOfNums (l0)).toList) ∧ True)) ∧ (¬ (t2_6 = true) → (¬ ((strOfNums (t2_4)).toList = (strOfNums (l0)).toList) ∧ True)))))))))))))))))))
/-- From the head of loop 1 on. -/
def wristbandlaw09_SolomonSums.l1 (k : Nat) : Nat → (List Int) → (List Int) → (Int) → (Int) → (Int) → (List Int) → (List Int) → (List Int) → (Int) → Prop
 | 0, _, _, _, _, _, _, _, _, _ => False
 | q + 1, l0, l1, a2, a3, a4, t1, t3, y16_1, x17_1 => (((x17_1 < ((t1).length : Int)) → ((0 ≤ x17_1) ∧ ((x17_1 < ((t3).length : Int)) ∧ ((x17_1 < ((y16_1).length : Int)) ∧ wristbandlaw09_SolomonSums.l1 k q l0 l1 a2 a3 a4 t1 t3 ((y16_1).set (x17_1 : Int).toNat (Go.bits .xor .u8 (rd (t1) (x17_1)) (rd (t3) (x17_1)))) (wrap64 (x17_1 + (1 : Int))))))) ∧ (¬ (x17_1 < ((t1).length : Int)) → (∃ (t1_1 : List Int), poly_Times.f k (t1) (a4) = some t1_1 ∧ (∃ q_, wristbandlaw09_SolomonSums.l2 k q_ l0 l1 a2 a3 a4 t1 y16_1 t1_1))))
/-- What the law asks, told of the walks' own functions. -/
def wristbandlaw09_SolomonSums.ok (k : Nat) (l0 : List Int) (l1 : List Int) (a2 : Int) (a3 : Int) (a4 : Int) : Prop := wristbandlaw09_awake.ok k ∧ (((((l0).length : Int) = ((l1).length : Int)) → (((((l0).length : Int) > wrap64 ((255 : Int) - wrap64 (Int.tmod (wrap64 (a2)) ((64 : Int)) + (1 : Int)))) → True) ∧ (¬ (((l0).length : Int) > wrap64 ((255 : Int) - wrap64 (Int.tmod (wrap64 (a2)) ((64 : Int)) + (1 : Int)))) → (∃ (t1 : List Int) (t2 : Int), solomon_Put.f k (l0) (wrap64 (Int.tmod (wrap64 (a2)) ((64 : Int)) + (1 : Int))) = some (t1, t2) ∧ (∃ (t3 : List Int) (t4 : Int), solomon_Put.f k (l1) (wrap64 (Int.tmod (wrap64 (a2)) ((64 : Int)) + (1 : Int))) = some (t3, t4) ∧ ((t2 = (0 : Int)) ∧ ((t4 = (0 : Int)) ∧ ((((t1).length : Int) = ((t3).length : Int)) ∧ ((0 ≤ ((t1).length : Int)) ∧ (((((t1).length : Int) : Int).toNat ≤ 281474976710656) ∧ (∃ q_, wristbandlaw09_SolomonSums.l1 k q_ l0 l1 a2 a3 a4 t1 t3 (List.replicate (((t1).length : Int) : Int).toNat 0) ((0 : Int))))))))))))) ∧ (¬ (((l0).length : Int) = ((l1).length : Int)) → True))
set_option maxRecDepth 100000 in
set_option maxHeartbeats 40000000 in
theorem wristbandlaw09_SolomonSums.calls (k : Nat) (A0 : Option Addr) (c0 : Nat) (l0 : List Int) (A1 : Option Addr) (c1 : Nat) (l1 : List Int) (a2 : Int) (a3 : Int) (a4 : Int) (w : World) (hr0 : Kd.C (Kd.int .u8) w A0 l0.length l0) (hc0 : l0.length ≤ c0) (hr1 : Kd.C (Kd.int .u8) w A1 l1.length l1) (hc1 : l1.length ≤ c1) (h : wristbandlaw09_SolomonSums.ok k l0 l1 a2 a3 a4) :
  Calls Try.prog 8 #[.slice A0 l0.length c0, .slice A1 l1.length c1, .int .u8 a2, .int .u8 a3, .int .u8 a4] w fun e w' => e = .returned (.bool true) ∧ Below w.heap.size w w' := by
 unfold wristbandlaw09_SolomonSums.ok at h
 refine enter Try.func8 rfl (n := 144) rfl ?_
 intro ac0 hn0 hd0 ha
 have hB0 := Below.refl w.heap.size w
 have g0_0 : (pB (l0)).V (get ac0 0) w := by rw [ha 0 (by simp)]; exact ⟨A0, c0, rfl, hr0, hc0⟩
 have g0_1 : (pB (l1)).V (get ac0 1) w := by rw [ha 1 (by simp)]; exact ⟨A1, c1, rfl, hr1, hc1⟩
 have g0_2 : (Pv.is (.int .u8 (a2))).V (get ac0 2) w := by rw [ha 2 (by simp)]; exact rfl
 have g0_3 : (Pv.is (.int .u8 (a3))).V (get ac0 3) w := by rw [ha 3 (by simp)]; exact rfl
 have g0_4 : (Pv.is (.int .u8 (a4))).V (get ac0 4) w := by rw [ha 4 (by simp)]; exact rfl
 clear ha
 obtain ⟨H1, h⟩ := h
 refine wp_seq ?_
 refine Reg.plain (T := T0) (D := D0) (n := 144) (by kernel_rfl) hn0 (told [pF]) (told_pst _) (owedS owed0 ?s0) ?_
 case s0 =>
  intro b w1 hb hp hu
  exact st_assign rfl (want0 rfl _) rfl rfl
 intro ac1 wo1 hn1 hd_ hb hv hs
 have g1_10 : (pF).V (get ac1 10) wo1 := hv 0 10 rfl
 have g1_0 : (pB (l0)).V (get ac1 0) wo1 := Pv.keep _ g0_0 (hs 0 rfl) hb
 have g1_1 : (pB (l1)).V (get ac1 1) wo1 := Pv.keep _ g0_1 (hs 1 rfl) hb
 have g1_2 : (Pv.is (.int .u8 (a2))).V (get ac1 2) wo1 := Pv.keep _ g0_2 (hs 2 rfl) hb
 have g1_3 : (Pv.is (.int .u8 (a3))).V (get ac1 3) wo1 := Pv.keep _ g0_3 (hs 3 rfl) hb
 have g1_4 : (Pv.is (.int .u8 (a4))).V (get ac1 4) wo1 := Pv.keep _ g0_4 (hs 4 rfl) hb
 have hB1 := below_step hB0 hb
 have hd1 := hd_.trans hd0
 clear hv hs hd_ hb hB0 hn0 hd0 g0_0 g0_1 g0_2 g0_3 g0_4
 show Code.wp _ _ _ _ _
 refine wp_seq ?_
 refine wp_seq ?_
 refine Reg.plain (T := T1) (D := D1) (n := 144) (by kernel_rfl) hn1 (told [pT, pF]) (told_pst _) (owedS (owedS owed0 ?s0) ?s1) ?_
 case s0 =>
  intro b w1 hb hp hu
  refine st_call rfl (want0 rfl _) rfl Try.func27 (by kernel_rfl) rfl #[] (by simp) ?_
  refine (wristbandlaw09_awake.calls k  w1  H1).mono ?_
  rintro e w2 ⟨rfl, hb2⟩
  exact ⟨_, rfl, rfl, hb2⟩
 case s1 =>
  intro b w1 hb hp hu
  have x21 : (pT).V (get b 21) w1 := hp 0 21 (by kernel_rfl) rfl
  exact st_un (v := .bool false) (vx := .bool true) rfl (want0 rfl _) rfl x21 (by first | rfl | (go_simp; first | done | rfl | (simp only [i64_w, i32_w]; done))) rfl
 intro ac2 wo2 hn2 hd_ hb hv hs
 have g2_22 : (pF).V (get ac2 22) wo2 := hv 1 22 rfl
 have g2_10 : (pF).V (get ac2 10) wo2 := Pv.keep _ g1_10 (hs 10 rfl) hb
 have g2_0 : (pB (l0)).V (get ac2 0) wo2 := Pv.keep _ g1_0 (hs 0 rfl) hb
 have g2_1 : (pB (l1)).V (get ac2 1) wo2 := Pv.keep _ g1_1 (hs 1 rfl) hb
 have g2_2 : (Pv.is (.int .u8 (a2))).V (get ac2 2) wo2 := Pv.keep _ g1_2 (hs 2 rfl) hb
 have g2_3 : (Pv.is (.int .u8 (a3))).V (get ac2 3) wo2 := Pv.keep _ g1_3 (hs 3 rfl) hb
 have g2_4 : (Pv.is (.int .u8 (a4))).V (get ac2 4) wo2 := Pv.keep _ g1_4 (hs 4 rfl) hb
 have hB2 := below_step hB1 hb
 have hd2 := hd_.trans hd1
 clear hv hs hd_ hb hB1 hn1 hd1 g1_10 g1_0 g1_1 g1_2 g1_3 g1_4
 show Code.wp _ _ _ _ _
 refine wp_cond_false (show ac2.eval (Operand.tmp 22) = .bool false from g2_22) ?_
 refine wp_skip ?_
 show Code.wp _ _ _ _ _
 refine wp_seq ?_
 refine Reg.plain (T := T3) (D := D3) (n := 144) (by kernel_rfl) hn2 (told [Pv.is (.int .u8 (a2)), pI (wrap64 (a2)), pI (Int.tmod (wrap64 (a2)) ((64 : Int))), pI (wrap64 (Int.tmod (wrap64 (a2)) ((64 : Int)) + (1 : Int))), pI (wrap64 (Int.tmod (wrap64 (a2)) ((64 : Int)) + (1 : Int)))]) (told_pst _) (owedS (owedS (owedS (owedS (owedS owed0 ?s0) ?s1) ?s2) ?s3) ?s4) ?_
 case s0 =>
  intro b w1 hb hp hu
  have x2 : (Pv.is (.int .u8 (a2))).V (get b 2) w1 := Pv.keep _ g2_2 (hu 2 (by kernel_rfl)) hb
  exact st_move rfl (want0 rfl _) rfl x2
 case s1 =>
  intro b w1 hb hp hu
  have x23 : (Pv.is (.int .u8 (a2))).V (get b 23) w1 := hp 0 23 (by kernel_rfl) rfl
  exact st_conv64 Try.underlying5 Try.underlying3 rfl (want0 rfl _) rfl x23
 case s2 =>
  intro b w1 hb hp hu
  have x24 : (pI (wrap64 (a2))).V (get b 24) w1 := hp 1 24 (by kernel_rfl) rfl
  exact st_rem rfl (want0 rfl _) rfl x24 rfl (by decide)
 case s3 =>
  intro b w1 hb hp hu
  have x25 : (pI (Int.tmod (wrap64 (a2)) ((64 : Int)))).V (get b 25) w1 := hp 2 25 (by kernel_rfl) rfl
  exact st_bin (v := .int .i64 (wrap64 (Int.tmod (wrap64 (a2)) ((64 : Int)) + (1 : Int)))) (vx := .int .i64 (Int.tmod (wrap64 (a2)) ((64 : Int)))) (vy := .int .i64 ((1 : Int))) rfl (want0 rfl _) rfl x25 rfl (by first | rfl | (go_simp; first | done | rfl | (simp only [i64_w, i32_w]; done))) rfl
 case s4 =>
  intro b w1 hb hp hu
  have x26 : (pI (wrap64 (Int.tmod (wrap64 (a2)) ((64 : Int)) + (1 : Int)))).V (get b 26) w1 := hp 3 26 (by kernel_rfl) rfl
  exact st_assign rfl (want0 rfl _) rfl x26
 intro ac3 wo3 hn3 hd_ hb hv hs
 have g3_11 : (pI (wrap64 (Int.tmod (wrap64 (a2)) ((64 : Int)) + (1 : Int)))).V (get ac3 11) wo3 := hv 4 11 rfl
 have g3_10 : (pF).V (get ac3 10) wo3 := Pv.keep _ g2_10 (hs 10 rfl) hb
 have g3_0 : (pB (l0)).V (get ac3 0) wo3 := Pv.keep _ g2_0 (hs 0 rfl) hb
 have g3_1 : (pB (l1)).V (get ac3 1) wo3 := Pv.keep _ g2_1 (hs 1 rfl) hb
 have g3_3 : (Pv.is (.int .u8 (a3))).V (get ac3 3) wo3 := Pv.keep _ g2_3 (hs 3 rfl) hb
 have g3_4 : (Pv.is (.int .u8 (a4))).V (get ac3 4) wo3 := Pv.keep _ g2_4 (hs 4 rfl) hb
 have hB3 := below_step hB2 hb
 have hd3 := hd_.trans hd2
 clear hv hs hd_ hb hB2 hn2 hd2 g2_22 g2_10 g2_0 g2_1 g2_2 g2_3 g2_4
 show Code.wp _ _ _ _ _
 refine wp_seq ?_
 refine wp_seq ?_
 obtain ⟨hy, hn⟩ := h
 by_cases c0_0 : ((l0).length : Int) = ((l1).length : Int)
 ·have h := hy c0_0
  clear hy hn
  obtain ⟨hy, hn⟩ := h
  by_cases c0_1 : ((l0).length : Int) > wrap64 ((255 : Int) - wrap64 (Int.tmod (wrap64 (a2)) ((64 : Int)) + (1 : Int)))
  ·have h := hy c0_1
   clear hy hn
   refine Reg.plain (T := T4) (D := D4) (n := 144) (by kernel_rfl) hn3 (told [pB (l0), pI (((l0).length : Int)), pB (l1), pI (((l1).length : Int)), pF, pF, pB (l0), pI (((l0).length : Int)), pI (wrap64 (Int.tmod (wrap64 (a2)) ((64 : Int)) + (1 : Int))), pI (wrap64 ((255 : Int) - wrap64 (Int.tmod (wrap64 (a2)) ((64 : Int)) + (1 : Int)))), pT, pT]) (told_pst _) (owedS (owedS (owedS (owedS (owedS (owedS (owedS (owedS (owedS (owedS (owedS (owedS owed0 ?s0) ?s1) ?s2) ?s3) ?s4) ?s5) ?s6) ?s7) ?s8) ?s9) ?s10) ?s11) ?_
   case s0 =>
    intro b w1 hb hp hu
    have x0 : (pB (l0)).V (get b 0) w1 := Pv.keep _ g3_0 (hu 0 (by kernel_rfl)) hb
    exact st_move rfl (want0 rfl _) rfl x0
   case s1 =>
    intro b w1 hb hp hu
    have x27 : (pB (l0)).V (get b 27) w1 := hp 0 27 (by kernel_rfl) rfl
    obtain ⟨A_, c_, e_, _, _⟩ := x27
    exact st_len rfl (want0 rfl _) rfl Try.underlying22 e_ rfl
   case s2 =>
    intro b w1 hb hp hu
    have x1 : (pB (l1)).V (get b 1) w1 := Pv.keep _ g3_1 (hu 1 (by kernel_rfl)) hb
    exact st_move rfl (want0 rfl _) rfl x1
   case s3 =>
    intro b w1 hb hp hu
    have x29 : (pB (l1)).V (get b 29) w1 := hp 2 29 (by kernel_rfl) rfl
    obtain ⟨A_, c_, e_, _, _⟩ := x29
    exact st_len rfl (want0 rfl _) rfl Try.underlying22 e_ rfl
   case s4 =>
    intro b w1 hb hp hu
    have x28 : (pI (((l0).length : Int))).V (get b 28) w1 := hp 1 28 (by kernel_rfl) rfl
    have x30 : (pI (((l1).length : Int))).V (get b 30) w1 := hp 3 30 (by kernel_rfl) rfl
    exact st_neq (b := true) (κ := .i64) (m := (((l0).length : Int))) (n := (((l1).length : Int))) rfl (want0 rfl _) rfl x28 x30 (decide_eq_true c0_0)
   case s5 =>
    intro b w1 hb hp hu
    have x31 : (pF).V (get b 31) w1 := hp 4 31 (by kernel_rfl) rfl
    exact st_move rfl (want0 rfl _) rfl x31
   case s6 =>
    intro b w1 hb hp hu
    have x32 : (pF).V (get b 32) w1 := hp 5 32 (by kernel_rfl) rfl
    have x0 : (pB (l0)).V (get b 0) w1 := Pv.keep _ g3_0 (hu 0 (by kernel_rfl)) hb
    exact st_move rfl ((want_is (N := 32) rfl rfl x32).trans rfl) rfl x0
   case s7 =>
    intro b w1 hb hp hu
    have x32 : (pF).V (get b 32) w1 := hp 5 32 (by kernel_rfl) rfl
    have x33 : (pB (l0)).V (get b 33) w1 := hp 6 33 (by kernel_rfl) rfl
    obtain ⟨A_, c_, e_, _, _⟩ := x33
    exact st_len rfl ((want_is (N := 32) rfl rfl x32).trans rfl) rfl Try.underlying22 e_ rfl
   case s8 =>
    intro b w1 hb hp hu
    have x32 : (pF).V (get b 32) w1 := hp 5 32 (by kernel_rfl) rfl
    have x11 : (pI (wrap64 (Int.tmod (wrap64 (a2)) ((64 : Int)) + (1 : Int)))).V (get b 11) w1 := Pv.keep _ g3_11 (hu 11 (by kernel_rfl)) hb
    exact st_move rfl ((want_is (N := 32) rfl rfl x32).trans rfl) rfl x11
   case s9 =>
    intro b w1 hb hp hu
    have x32 : (pF).V (get b 32) w1 := hp 5 32 (by kernel_rfl) rfl
    have x35 : (pI (wrap64 (Int.tmod (wrap64 (a2)) ((64 : Int)) + (1 : Int)))).V (get b 35) w1 := hp 8 35 (by kernel_rfl) rfl
    exact st_bin (v := .int .i64 (wrap64 ((255 : Int) - wrap64 (Int.tmod (wrap64 (a2)) ((64 : Int)) + (1 : Int))))) (vx := .int .i64 ((255 : Int))) (vy := .int .i64 (wrap64 (Int.tmod (wrap64 (a2)) ((64 : Int)) + (1 : Int)))) rfl ((want_is (N := 32) rfl rfl x32).trans rfl) rfl rfl x35 (by first | rfl | (go_simp; first | done | rfl | (simp only [i64_w, i32_w]; done))) rfl
   case s10 =>
    intro b w1 hb hp hu
    have x32 : (pF).V (get b 32) w1 := hp 5 32 (by kernel_rfl) rfl
    have x34 : (pI (((l0).length : Int))).V (get b 34) w1 := hp 7 34 (by kernel_rfl) rfl
    have x36 : (pI (wrap64 ((255 : Int) - wrap64 (Int.tmod (wrap64 (a2)) ((64 : Int)) + (1 : Int))))).V (get b 36) w1 := hp 9 36 (by kernel_rfl) rfl
    exact st_gtr (b := true) (κ := .i64) (m := (((l0).length : Int))) (n := (wrap64 ((255 : Int) - wrap64 (Int.tmod (wrap64 (a2)) ((64 : Int)) + (1 : Int))))) rfl ((want_is (N := 32) rfl rfl x32).trans rfl) rfl x34 x36 (decide_eq_true c0_1)
   case s11 =>
    intro b w1 hb hp hu
    have x32 : (pF).V (get b 32) w1 := hp 5 32 (by kernel_rfl) rfl
    have x37 : (pT).V (get b 37) w1 := hp 10 37 (by kernel_rfl) rfl
    exact st_pick (b := false) rfl (want0 rfl _) rfl x32 x37
   intro ac4 wo4 hn4 hd_ hb hv hs
   have g4_38 : (pT).V (get ac4 38) wo4 := hv 11 38 rfl
   have g4_10 : (pF).V (get ac4 10) wo4 := Pv.keep _ g3_10 (hs 10 rfl) hb
   have hB4 := below_step hB3 hb
   have hd4 := hd_.trans hd3
   clear hv hs hd_ hb hB3 hn3 hd3 g3_11 g3_10 g3_0 g3_1 g3_3 g3_4
   show Code.wp _ _ _ _ _
   refine wp_cond_true (show ac4.eval (Operand.tmp 38) = .bool true from g4_38) ?_
   refine wp_seq ?_
   refine Reg.plain (T := T5) (D := D5) (n := 144) (by kernel_rfl) hn4 (told [pT]) (told_pst _) (owedS owed0 ?s0) ?_
   case s0 =>
    intro b w1 hb hp hu
    exact st_assign rfl (want0 rfl _) rfl rfl
   intro ac5 wo5 hn5 hd_ hb hv hs
   have g5_10 : (pT).V (get ac5 10) wo5 := hv 0 10 rfl
   have hB5 := below_step hB4 hb
   have hd5 := hd_.trans hd4
   clear hv hs hd_ hb hB4 hn4 hd4 g4_38 g4_10
   show Code.wp _ _ _ _ _
   refine wp_ret ?_
   repeat (first | refine then_ret ?_ | refine inb_ret ?_)
   exact back_is rfl hd5 g5_10 ⟨rfl, hB5⟩
  ·have h := hn c0_1
   clear hy hn
   obtain ⟨t1, t2, H2, h⟩ := h
   obtain ⟨t3, t4, H3, h⟩ := h
   obtain ⟨c0_2, h⟩ := h
   obtain ⟨c0_3, h⟩ := h
   obtain ⟨c0_4, h⟩ := h
   obtain ⟨c0_5, h⟩ := h
   obtain ⟨c0_6, h⟩ := h
   refine Reg.plain (T := T4) (D := D4) (n := 144) (by kernel_rfl) hn3 (told [pB (l0), pI (((l0).length : Int)), pB (l1), pI (((l1).length : Int)), pF, pF, pB (l0), pI (((l0).length : Int)), pI (wrap64 (Int.tmod (wrap64 (a2)) ((64 : Int)) + (1 : Int))), pI (wrap64 ((255 : Int) - wrap64 (Int.tmod (wrap64 (a2)) ((64 : Int)) + (1 : Int)))), pF, pF]) (told_pst _) (owedS (owedS (owedS (owedS (owedS (owedS (owedS (owedS (owedS (owedS (owedS (owedS owed0 ?s0) ?s1) ?s2) ?s3) ?s4) ?s5) ?s6) ?s7) ?s8) ?s9) ?s10) ?s11) ?_
   case s0 =>
    intro b w1 hb hp hu
    have x0 : (pB (l0)).V (get b 0) w1 := Pv.keep _ g3_0 (hu 0 (by kernel_rfl)) hb
    exact st_move rfl (want0 rfl _) rfl x0
   case s1 =>
    intro b w1 hb hp hu
    have x27 : (pB (l0)).V (get b 27) w1 := hp 0 27 (by kernel_rfl) rfl
    obtain ⟨A_, c_, e_, _, _⟩ := x27
    exact st_len rfl (want0 rfl _) rfl Try.underlying22 e_ rfl
   case s2 =>
    intro b w1 hb hp hu
    have x1 : (pB (l1)).V (get b 1) w1 := Pv.keep _ g3_1 (hu 1 (by kernel_rfl)) hb
    exact st_move rfl (want0 rfl _) rfl x1
   case s3 =>
    intro b w1 hb hp hu
    have x29 : (pB (l1)).V (get b 29) w1 := hp 2 29 (by kernel_rfl) rfl
    obtain ⟨A_, c_, e_, _, _⟩ := x29
    exact st_len rfl (want0 rfl _) rfl Try.underlying22 e_ rfl
   case s4 =>
    intro b w1 hb hp hu
    have x28 : (pI (((l0).length : Int))).V (get b 28) w1 := hp 1 28 (by kernel_rfl) rfl
    have x30 : (pI (((l1).length : Int))).V (get b 30) w1 := hp 3 30 (by kernel_rfl) rfl
    exact st_neq (b := true) (κ := .i64) (m := (((l0).length : Int))) (n := (((l1).length : Int))) rfl (want0 rfl _) rfl x28 x30 (decide_eq_true c0_0)
   case s5 =>
    intro b w1 hb hp hu
    have x31 : (pF).V (get b 31) w1 := hp 4 31 (by kernel_rfl) rfl
    exact st_move rfl (want0 rfl _) rfl x31
   case s6 =>
    intro b w1 hb hp hu
    have x32 : (pF).V (get b 32) w1 := hp 5 32 (by kernel_rfl) rfl
    have x0 : (pB (l0)).V (get b 0) w1 := Pv.keep _ g3_0 (hu 0 (by kernel_rfl)) hb
    exact st_move rfl ((want_is (N := 32) rfl rfl x32).trans rfl) rfl x0
   case s7 =>
    intro b w1 hb hp hu
    have x32 : (pF).V (get b 32) w1 := hp 5 32 (by kernel_rfl) rfl
    have x33 : (pB (l0)).V (get b 33) w1 := hp 6 33 (by kernel_rfl) rfl
    obtain ⟨A_, c_, e_, _, _⟩ := x33
    exact st_len rfl ((want_is (N := 32) rfl rfl x32).trans rfl) rfl Try.underlying22 e_ rfl
   case s8 =>
    intro b w1 hb hp hu
    have x32 : (pF).V (get b 32) w1 := hp 5 32 (by kernel_rfl) rfl
    have x11 : (pI (wrap64 (Int.tmod (wrap64 (a2)) ((64 : Int)) + (1 : Int)))).V (get b 11) w1 := Pv.keep _ g3_11 (hu 11 (by kernel_rfl)) hb
    exact st_move rfl ((want_is (N := 32) rfl rfl x32).trans rfl) rfl x11
   case s9 =>
    intro b w1 hb hp hu
    have x32 : (pF).V (get b 32) w1 := hp 5 32 (by kernel_rfl) rfl
    have x35 : (pI (wrap64 (Int.tmod (wrap64 (a2)) ((64 : Int)) + (1 : Int)))).V (get b 35) w1 := hp 8 35 (by kernel_rfl) rfl
    exact st_bin (v := .int .i64 (wrap64 ((255 : Int) - wrap64 (Int.tmod (wrap64 (a2)) ((64 : Int)) + (1 : Int))))) (vx := .int .i64 ((255 : Int))) (vy := .int .i64 (wrap64 (Int.tmod (wrap64 (a2)) ((64 : Int)) + (1 : Int)))) rfl ((want_is (N := 32) rfl rfl x32).trans rfl) rfl rfl x35 (by first | rfl | (go_simp; first | done | rfl | (simp only [i64_w, i32_w]; done))) rfl
   case s10 =>
    intro b w1 hb hp hu
    have x32 : (pF).V (get b 32) w1 := hp 5 32 (by kernel_rfl) rfl
    have x34 : (pI (((l0).length : Int))).V (get b 34) w1 := hp 7 34 (by kernel_rfl) rfl
    have x36 : (pI (wrap64 ((255 : Int) - wrap64 (Int.tmod (wrap64 (a2)) ((64 : Int)) + (1 : Int))))).V (get b 36) w1 := hp 9 36 (by kernel_rfl) rfl
    exact st_gtr (b := false) (κ := .i64) (m := (((l0).length : Int))) (n := (wrap64 ((255 : Int) - wrap64 (Int.tmod (wrap64 (a2)) ((64 : Int)) + (1 : Int))))) rfl ((want_is (N := 32) rfl rfl x32).trans rfl) rfl x34 x36 (decide_eq_false c0_1)
   case s11 =>
    intro b w1 hb hp hu
    have x32 : (pF).V (get b 32) w1 := hp 5 32 (by kernel_rfl) rfl
    have x37 : (pF).V (get b 37) w1 := hp 10 37 (by kernel_rfl) rfl
    exact st_pick (b := false) rfl (want0 rfl _) rfl x32 x37
   intro ac4 wo4 hn4 hd_ hb hv hs
   have g4_38 : (pF).V (get ac4 38) wo4 := hv 11 38 rfl
   have g4_11 : (pI (wrap64 (Int.tmod (wrap64 (a2)) ((64 : Int)) + (1 : Int)))).V (get ac4 11) wo4 := Pv.keep _ g3_11 (hs 11 rfl) hb
   have g4_10 : (pF).V (get ac4 10) wo4 := Pv.keep _ g3_10 (hs 10 rfl) hb
   have g4_0 : (pB (l0)).V (get ac4 0) wo4 := Pv.keep _ g3_0 (hs 0 rfl) hb
   have g4_1 : (pB (l1)).V (get ac4 1) wo4 := Pv.keep _ g3_1 (hs 1 rfl) hb
   have g4_3 : (Pv.is (.int .u8 (a3))).V (get ac4 3) wo4 := Pv.keep _ g3_3 (hs 3 rfl) hb
   have g4_4 : (Pv.is (.int .u8 (a4))).V (get ac4 4) wo4 := Pv.keep _ g3_4 (hs 4 rfl) hb
   have hB4 := below_step hB3 hb
   have hd4 := hd_.trans hd3
   clear hv hs hd_ hb hB3 hn3 hd3 g3_11 g3_10 g3_0 g3_1 g3_3 g3_4
   show Code.wp _ _ _ _ _
   refine wp_cond_false (show ac4.eval (Operand.tmp 38) = .bool false from g4_38) ?_
   refine wp_skip ?_
   show Code.wp _ _ _ _ _
   refine wp_seq ?_
   refine Reg.plain (T := T6) (D := D6) (n := 144) (by kernel_rfl) hn4 (told [pB (l0), pI (wrap64 (Int.tmod (wrap64 (a2)) ((64 : Int)) + (1 : Int))), Pv.tup [pB (t1), pI (t2)], Pv.tup [pB (t1), pI (t2)], pB (t1), pI (t2), pB (t1), pI (t2)]) (told_pst _) (owedS (owedS (owedS (owedS (owedS (owedS (owedS (owedS owed0 ?s0) ?s1) ?s2) ?s3) ?s4) ?s5) ?s6) ?s7) ?_
   case s0 =>
    intro b w1 hb hp hu
    have x0 : (pB (l0)).V (get b 0) w1 := Pv.keep _ g4_0 (hu 0 (by kernel_rfl)) hb
    exact st_move rfl (want0 rfl _) rfl x0
   case s1 =>
    intro b w1 hb hp hu
    have x11 : (pI (wrap64 (Int.tmod (wrap64 (a2)) ((64 : Int)) + (1 : Int)))).V (get b 11) w1 := Pv.keep _ g4_11 (hu 11 (by kernel_rfl)) hb
    exact st_move rfl (want0 rfl _) rfl x11
   case s2 =>
    intro b w1 hb hp hu
    have x40 : (pB (l0)).V (get b 40) w1 := hp 0 40 (by kernel_rfl) rfl
    obtain ⟨B0, d0, e0_, hC0, hl0⟩ := x40
    have e0 : b.eval (Operand.tmp 40) = .slice B0 (l0).length d0 := e0_
    have x41 : (pI (wrap64 (Int.tmod (wrap64 (a2)) ((64 : Int)) + (1 : Int)))).V (get b 41) w1 := hp 1 41 (by kernel_rfl) rfl
    have e1 : b.eval (Operand.tmp 41) = .int .i64 (wrap64 (Int.tmod (wrap64 (a2)) ((64 : Int)) + (1 : Int))) := x41
    refine st_call rfl (want0 rfl _) rfl Try.func29 (by kernel_rfl) rfl #[.slice B0 (l0).length d0, .int .i64 (wrap64 (Int.tmod (wrap64 (a2)) ((64 : Int)) + (1 : Int)))] (by simp only [List.map_toArray, List.map_cons, List.map_nil, e0, e1]) ?_
    refine (solomon_Put.callsC k B0 d0 _ _ _ _ w1 hC0 hl0 H2).mono ?_
    rintro e w2 ⟨v0_, rfl, ho0, hb2⟩
    exact ⟨_, rfl, ⟨[_, _], rfl, Pv.of_sl ho0, rfl, trivial⟩, hb2⟩
   case s3 =>
    intro b w1 hb hp hu
    have x42 : (Pv.tup [pB (t1), pI (t2)]).V (get b 42) w1 := hp 2 42 (by kernel_rfl) rfl
    exact st_move rfl (want0 rfl _) rfl x42
   case s4 =>
    intro b w1 hb hp hu
    have x39 : (Pv.tup [pB (t1), pI (t2)]).V (get b 39) w1 := hp 3 39 (by kernel_rfl) rfl
    exact st_extract rfl (want0 rfl _) rfl x39 rfl (fun _ h => h)
   case s5 =>
    intro b w1 hb hp hu
    have x39 : (Pv.tup [pB (t1), pI (t2)]).V (get b 39) w1 := hp 3 39 (by kernel_rfl) rfl
    exact st_extract rfl (want0 rfl _) rfl x39 rfl (fun _ h => h)
   case s6 =>
    intro b w1 hb hp hu
    have x43 : (pB (t1)).V (get b 43) w1 := hp 4 43 (by kernel_rfl) rfl
    exact st_assign rfl (want0 rfl _) rfl x43
   case s7 =>
    intro b w1 hb hp hu
    have x44 : (pI (t2)).V (get b 44) w1 := hp 5 44 (by kernel_rfl) rfl
    exact st_assign rfl (want0 rfl _) rfl x44
   intro ac5 wo5 hn5 hd_ hb hv hs
   have g5_12 : (pB (t1)).V (get ac5 12) wo5 := hv 6 12 rfl
   have g5_13 : (pI (t2)).V (get ac5 13) wo5 := hv 7 13 rfl
   have g5_11 : (pI (wrap64 (Int.tmod (wrap64 (a2)) ((64 : Int)) + (1 : Int)))).V (get ac5 11) wo5 := Pv.keep _ g4_11 (hs 11 rfl) hb
   have g5_10 : (pF).V (get ac5 10) wo5 := Pv.keep _ g4_10 (hs 10 rfl) hb
   have g5_0 : (pB (l0)).V (get ac5 0) wo5 := Pv.keep _ g4_0 (hs 0 rfl) hb
   have g5_1 : (pB (l1)).V (get ac5 1) wo5 := Pv.keep _ g4_1 (hs 1 rfl) hb
   have g5_3 : (Pv.is (.int .u8 (a3))).V (get ac5 3) wo5 := Pv.keep _ g4_3 (hs 3 rfl) hb
   have g5_4 : (Pv.is (.int .u8 (a4))).V (get ac5 4) wo5 := Pv.keep _ g4_4 (hs 4 rfl) hb
   have hB5 := below_step hB4 hb
   have hd5 := hd_.trans hd4
   clear hv hs hd_ hb hB4 hn4 hd4 g4_38 g4_11 g4_10 g4_0 g4_1 g4_3 g4_4
   show Code.wp _ _ _ _ _
   refine wp_seq ?_
   refine Reg.plain (T := T7) (D := D7) (n := 144) (by kernel_rfl) hn5 (told [pB (l1), pI (wrap64 (Int.tmod (wrap64 (a2)) ((64 : Int)) + (1 : Int))), Pv.tup [pB (t3), pI (t4)], Pv.tup [pB (t3), pI (t4)], pB (t3), pI (t4), pB (t3), pI (t4)]) (told_pst _) (owedS (owedS (owedS (owedS (owedS (owedS (owedS (owedS owed0 ?s0) ?s1) ?s2) ?s3) ?s4) ?s5) ?s6) ?s7) ?_
   case s0 =>
    intro b w1 hb hp hu
    have x1 : (pB (l1)).V (get b 1) w1 := Pv.keep _ g5_1 (hu 1 (by kernel_rfl)) hb
    exact st_move rfl (want0 rfl _) rfl x1
   case s1 =>
    intro b w1 hb hp hu
    have x11 : (pI (wrap64 (Int.tmod (wrap64 (a2)) ((64 : Int)) + (1 : Int)))).V (get b 11) w1 := Pv.keep _ g5_11 (hu 11 (by kernel_rfl)) hb
    exact st_move rfl (want0 rfl _) rfl x11
   case s2 =>
    intro b w1 hb hp hu
    have x46 : (pB (l1)).V (get b 46) w1 := hp 0 46 (by kernel_rfl) rfl
    obtain ⟨B0, d0, e0_, hC0, hl0⟩ := x46
    have e0 : b.eval (Operand.tmp 46) = .slice B0 (l1).length d0 := e0_
    have x47 : (pI (wrap64 (Int.tmod (wrap64 (a2)) ((64 : Int)) + (1 : Int)))).V (get b 47) w1 := hp 1 47 (by kernel_rfl) rfl
    have e1 : b.eval (Operand.tmp 47) = .int .i64 (wrap64 (Int.tmod (wrap64 (a2)) ((64 : Int)) + (1 : Int))) := x47
    refine st_call rfl (want0 rfl _) rfl Try.func29 (by kernel_rfl) rfl #[.slice B0 (l1).length d0, .int .i64 (wrap64 (Int.tmod (wrap64 (a2)) ((64 : Int)) + (1 : Int)))] (by simp only [List.map_toArray, List.map_cons, List.map_nil, e0, e1]) ?_
    refine (solomon_Put.callsC k B0 d0 _ _ _ _ w1 hC0 hl0 H3).mono ?_
    rintro e w2 ⟨v0_, rfl, ho0, hb2⟩
    exact ⟨_, rfl, ⟨[_, _], rfl, Pv.of_sl ho0, rfl, trivial⟩, hb2⟩
   case s3 =>
    intro b w1 hb hp hu
    have x48 : (Pv.tup [pB (t3), pI (t4)]).V (get b 48) w1 := hp 2 48 (by kernel_rfl) rfl
    exact st_move rfl (want0 rfl _) rfl x48
   case s4 =>
    intro b w1 hb hp hu
    have x45 : (Pv.tup [pB (t3), pI (t4)]).V (get b 45) w1 := hp 3 45 (by kernel_rfl) rfl
    exact st_extract rfl (want0 rfl _) rfl x45 rfl (fun _ h => h)
   case s5 =>
    intro b w1 hb hp hu
    have x45 : (Pv.tup [pB (t3), pI (t4)]).V (get b 45) w1 := hp 3 45 (by kernel_rfl) rfl
    exact st_extract rfl (want0 rfl _) rfl x45 rfl (fun _ h => h)
   case s6 =>
    intro b w1 hb hp hu
    have x49 : (pB (t3)).V (get b 49) w1 := hp 4 49 (by kernel_rfl) rfl
    exact st_assign rfl (want0 rfl _) rfl x49
   case s7 =>
    intro b w1 hb hp hu
    have x50 : (pI (t4)).V (get b 50) w1 := hp 5 50 (by kernel_rfl) rfl
    exact st_assign rfl (want0 rfl _) rfl x50
   intro ac6 wo6 hn6 hd_ hb hv hs
   have g6_14 : (pB (t3)).V (get ac6 14) wo6 := hv 6 14 rfl
   have g6_15 : (pI (t4)).V (get ac6 15) wo6 := hv 7 15 rfl
   have g6_12 : (pB (t1)).V (get ac6 12) wo6 := Pv.keep _ g5_12 (hs 12 rfl) hb
   have g6_13 : (pI (t2)).V (get ac6 13) wo6 := Pv.keep _ g5_13 (hs 13 rfl) hb
   have g6_11 : (pI (wrap64 (Int.tmod (wrap64 (a2)) ((64 : Int)) + (1 : Int)))).V (get ac6 11) wo6 := Pv.keep _ g5_11 (hs 11 rfl) hb
   have g6_10 : (pF).V (get ac6 10) wo6 := Pv.keep _ g5_10 (hs 10 rfl) hb
   have g6_0 : (pB (l0)).V (get ac6 0) wo6 := Pv.keep _ g5_0 (hs 0 rfl) hb
   have g6_3 : (Pv.is (.int .u8 (a3))).V (get ac6 3) wo6 := Pv.keep _ g5_3 (hs 3 rfl) hb
   have g6_4 : (Pv.is (.int .u8 (a4))).V (get ac6 4) wo6 := Pv.keep _ g5_4 (hs 4 rfl) hb
   have hB6 := below_step hB5 hb
   have hd6 := hd_.trans hd5
   clear hv hs hd_ hb hB5 hn5 hd5 g5_12 g5_13 g5_11 g5_10 g5_0 g5_1 g5_3 g5_4
   show Code.wp _ _ _ _ _
   refine wp_seq ?_
   refine wp_seq ?_
   refine Reg.plain (T := T8) (D := D8) (n := 144) (by kernel_rfl) hn6 (told [pI (t2), pF, pF, pI (t4), pF, pF, pF, pB (t1), pI (((t1).length : Int)), pB (t3), pI (((t3).length : Int)), pF, pF]) (told_pst _) (owedS (owedS (owedS (owedS (owedS (owedS (owedS (owedS (owedS (owedS (owedS (owedS (owedS owed0 ?s0) ?s1) ?s2) ?s3) ?s4) ?s5) ?s6) ?s7) ?s8) ?s9) ?s10) ?s11) ?s12) ?_
   case s0 =>
    intro b w1 hb hp hu
    have x13 : (pI (t2)).V (get b 13) w1 := Pv.keep _ g6_13 (hu 13 (by kernel_rfl)) hb
    exact st_move rfl (want0 rfl _) rfl x13
   case s1 =>
    intro b w1 hb hp hu
    have x51 : (pI (t2)).V (get b 51) w1 := hp 0 51 (by kernel_rfl) rfl
    exact st_neq (b := true) (κ := .i64) (m := t2) (n := ((0 : Int))) rfl (want0 rfl _) rfl x51 rfl (decide_eq_true c0_2)
   case s2 =>
    intro b w1 hb hp hu
    have x52 : (pF).V (get b 52) w1 := hp 1 52 (by kernel_rfl) rfl
    exact st_move rfl (want0 rfl _) rfl x52
   case s3 =>
    intro b w1 hb hp hu
    have x53 : (pF).V (get b 53) w1 := hp 2 53 (by kernel_rfl) rfl
    have x15 : (pI (t4)).V (get b 15) w1 := Pv.keep _ g6_15 (hu 15 (by kernel_rfl)) hb
    exact st_move rfl ((want_is (N := 53) rfl rfl x53).trans rfl) rfl x15
   case s4 =>
    intro b w1 hb hp hu
    have x53 : (pF).V (get b 53) w1 := hp 2 53 (by kernel_rfl) rfl
    have x54 : (pI (t4)).V (get b 54) w1 := hp 3 54 (by kernel_rfl) rfl
    exact st_neq (b := true) (κ := .i64) (m := t4) (n := ((0 : Int))) rfl ((want_is (N := 53) rfl rfl x53).trans rfl) rfl x54 rfl (decide_eq_true c0_3)
   case s5 =>
    intro b w1 hb hp hu
    have x53 : (pF).V (get b 53) w1 := hp 2 53 (by kernel_rfl) rfl
    have x55 : (pF).V (get b 55) w1 := hp 4 55 (by kernel_rfl) rfl
    exact st_pick (b := false) rfl (want0 rfl _) rfl x53 x55
   case s6 =>
    intro b w1 hb hp hu
    have x56 : (pF).V (get b 56) w1 := hp 5 56 (by kernel_rfl) rfl
    exact st_move rfl (want0 rfl _) rfl x56
   case s7 =>
    intro b w1 hb hp hu
    have x57 : (pF).V (get b 57) w1 := hp 6 57 (by kernel_rfl) rfl
    have x12 : (pB (t1)).V (get b 12) w1 := Pv.keep _ g6_12 (hu 12 (by kernel_rfl)) hb
    exact st_move rfl ((want_is (N := 57) rfl rfl x57).trans rfl) rfl x12
   case s8 =>
    intro b w1 hb hp hu
    have x57 : (pF).V (get b 57) w1 := hp 6 57 (by kernel_rfl) rfl
    have x58 : (pB (t1)).V (get b 58) w1 := hp 7 58 (by kernel_rfl) rfl
    obtain ⟨A_, c_, e_, _, _⟩ := x58
    exact st_len rfl ((want_is (N := 57) rfl rfl x57).trans rfl) rfl Try.underlying22 e_ rfl
   case s9 =>
    intro b w1 hb hp hu
    have x57 : (pF).V (get b 57) w1 := hp 6 57 (by kernel_rfl) rfl
    have x14 : (pB (t3)).V (get b 14) w1 := Pv.keep _ g6_14 (hu 14 (by kernel_rfl)) hb
    exact st_move rfl ((want_is (N := 57) rfl rfl x57).trans rfl) rfl x14
   case s10 =>
    intro b w1 hb hp hu
    have x57 : (pF).V (get b 57) w1 := hp 6 57 (by kernel_rfl) rfl
    have x60 : (pB (t3)).V (get b 60) w1 := hp 9 60 (by kernel_rfl) rfl
    obtain ⟨A_, c_, e_, _, _⟩ := x60
    exact st_len rfl ((want_is (N := 57) rfl rfl x57).trans rfl) rfl Try.underlying22 e_ rfl
   case s11 =>
    intro b w1 hb hp hu
    have x57 : (pF).V (get b 57) w1 := hp 6 57 (by kernel_rfl) rfl
    have x59 : (pI (((t1).length : Int))).V (get b 59) w1 := hp 8 59 (by kernel_rfl) rfl
    have x61 : (pI (((t3).length : Int))).V (get b 61) w1 := hp 10 61 (by kernel_rfl) rfl
    exact st_neq (b := true) (κ := .i64) (m := (((t1).length : Int))) (n := (((t3).length : Int))) rfl ((want_is (N := 57) rfl rfl x57).trans rfl) rfl x59 x61 (decide_eq_true c0_4)
   case s12 =>
    intro b w1 hb hp hu
    have x57 : (pF).V (get b 57) w1 := hp 6 57 (by kernel_rfl) rfl
    have x62 : (pF).V (get b 62) w1 := hp 11 62 (by kernel_rfl) rfl
    exact st_pick (b := false) rfl (want0 rfl _) rfl x57 x62
   intro ac7 wo7 hn7 hd_ hb hv hs
   have g7_63 : (pF).V (get ac7 63) wo7 := hv 12 63 rfl
   have g7_14 : (pB (t3)).V (get ac7 14) wo7 := Pv.keep _ g6_14 (hs 14 rfl) hb
   have g7_12 : (pB (t1)).V (get ac7 12) wo7 := Pv.keep _ g6_12 (hs 12 rfl) hb
   have g7_11 : (pI (wrap64 (Int.tmod (wrap64 (a2)) ((64 : Int)) + (1 : Int)))).V (get ac7 11) wo7 := Pv.keep _ g6_11 (hs 11 rfl) hb
   have g7_10 : (pF).V (get ac7 10) wo7 := Pv.keep _ g6_10 (hs 10 rfl) hb
   have g7_0 : (pB (l0)).V (get ac7 0) wo7 := Pv.keep _ g6_0 (hs 0 rfl) hb
   have g7_3 : (Pv.is (.int .u8 (a3))).V (get ac7 3) wo7 := Pv.keep _ g6_3 (hs 3 rfl) hb
   have g7_4 : (Pv.is (.int .u8 (a4))).V (get ac7 4) wo7 := Pv.keep _ g6_4 (hs 4 rfl) hb
   have hB7 := below_step hB6 hb
   have hd7 := hd_.trans hd6
   clear hv hs hd_ hb hB6 hn6 hd6 g6_14 g6_15 g6_12 g6_13 g6_11 g6_10 g6_0 g6_3 g6_4
   show Code.wp _ _ _ _ _
   refine wp_cond_false (show ac7.eval (Operand.tmp 63) = .bool false from g7_63) ?_
   refine wp_skip ?_
   show Code.wp _ _ _ _ _
   refine wp_seq ?_
   have hEo0_10 : w.heap.size ≤ wo7.heap.size := hB7.size
   replace g7_14 : (Pv.fx (wo7.heap.size) (Kd.int .u8) (t3)).V (get ac7 14) wo7 := Pv.sl_fx (Kd.heap_int .u8) g7_14
   replace g7_12 : (Pv.fx (wo7.heap.size) (Kd.int .u8) (t1)).V (get ac7 12) wo7 := Pv.sl_fx (Kd.heap_int .u8) g7_12
   replace g7_0 : (Pv.fx (wo7.heap.size) (Kd.int .u8) (l0)).V (get ac7 0) wo7 := Pv.sl_fx (Kd.heap_int .u8) g7_0
   refine Reg.plain (T := T10) (D := D10) (n := 144) (by kernel_rfl) hn7 (told [pB (t1), pI (((t1).length : Int)), Pv.own (wo7.heap.size) 5 (Kd.int .u8) (List.replicate (((t1).length : Int) : Int).toNat 0), Pv.own (wo7.heap.size) 5 (Kd.int .u8) (List.replicate (((t1).length : Int) : Int).toNat 0)]) (told_pst _) (owedS (owedS (owedS (owedS owed0 ?s0) ?s1) ?s2) ?s3) ?_
   case s0 =>
    intro b w1 hb hp hu
    have x12 : (Pv.fx (wo7.heap.size) (Kd.int .u8) (t1)).V (get b 12) w1 := Pv.keep _ g7_12 (hu 12 (by kernel_rfl)) hb
    exact st_move rfl (want0 rfl _) rfl (Pv.fx_sl x12)
   case s1 =>
    intro b w1 hb hp hu
    have x64 : (pB (t1)).V (get b 64) w1 := hp 0 64 (by kernel_rfl) rfl
    obtain ⟨A_, c_, e_, _, _⟩ := x64
    exact st_len rfl (want0 rfl _) rfl Try.underlying22 e_ rfl
   case s2 =>
    intro b w1 hb hp hu
    have x65 : (pI (((t1).length : Int))).V (get b 65) w1 := hp 1 65 (by kernel_rfl) rfl
    exact st_make Try.underlying22 info5 (by decide) rfl (want0 rfl _) rfl rfl x65 x65 c0_5 (by have c_ := c0_6; omega) hb.size
   case s3 =>
    intro b w1 hb hp hu
    have x66 : (Pv.own (wo7.heap.size) 5 (Kd.int .u8) (List.replicate (((t1).length : Int) : Int).toNat 0)).V (get b 66) w1 := hp 2 66 (by kernel_rfl) rfl
    exact st_assign rfl (want0 rfl _) rfl x66
   intro ac8 wo8 hn8 hd_ hb hv hs
   have g8_16 : (Pv.own (wo7.heap.size) 5 (Kd.int .u8) (List.replicate (((t1).length : Int) : Int).toNat 0)).V (get ac8 16) wo8 := hv 3 16 rfl
   have g8_14 : (Pv.fx (wo7.heap.size) (Kd.int .u8) (t3)).V (get ac8 14) wo8 := Pv.keep _ g7_14 (hs 14 rfl) hb
   have g8_12 : (Pv.fx (wo7.heap.size) (Kd.int .u8) (t1)).V (get ac8 12) wo8 := Pv.keep _ g7_12 (hs 12 rfl) hb
   have g8_11 : (pI (wrap64 (Int.tmod (wrap64 (a2)) ((64 : Int)) + (1 : Int)))).V (get ac8 11) wo8 := Pv.keep _ g7_11 (hs 11 rfl) hb
   have g8_10 : (pF).V (get ac8 10) wo8 := Pv.keep _ g7_10 (hs 10 rfl) hb
   have g8_0 : (Pv.fx (wo7.heap.size) (Kd.int .u8) (l0)).V (get ac8 0) wo8 := Pv.keep _ g7_0 (hs 0 rfl) hb
   have g8_3 : (Pv.is (.int .u8 (a3))).V (get ac8 3) wo8 := Pv.keep _ g7_3 (hs 3 rfl) hb
   have g8_4 : (Pv.is (.int .u8 (a4))).V (get ac8 4) wo8 := Pv.keep _ g7_4 (hs 4 rfl) hb
   have hB8 := below_step hB7 hb
   have hd8 := hd_.trans hd7
   have hOo0_10_8 : wo7.heap.size ≤ wo8.heap.size := hb.size
   clear hv hs hd_ hb hB7 hn7 hd7 g7_63 g7_14 g7_12 g7_11 g7_10 g7_0 g7_3 g7_4
   show Code.wp _ _ _ _ _
   refine wp_seq ?_
   refine wp_seq ?_
   refine Reg.plain (T := T11) (D := D11) (n := 144) (by kernel_rfl) hn8 (told [pI ((0 : Int))]) (told_pst _) (owedS owed0 ?s0) ?_
   case s0 =>
    intro b w1 hb hp hu
    exact st_assign rfl (want0 rfl _) rfl rfl
   intro ac9 wo9 hn9 hd_ hb hv hs
   have g9_17 : (pI ((0 : Int))).V (get ac9 17) wo9 := hv 0 17 rfl
   have g9_16 : (Pv.own (wo7.heap.size) 5 (Kd.int .u8) (List.replicate (((t1).length : Int) : Int).toNat 0)).V (get ac9 16) wo9 := Pv.keep _ g8_16 (hs 16 rfl) hb
   have g9_14 : (Pv.fx (wo7.heap.size) (Kd.int .u8) (t3)).V (get ac9 14) wo9 := Pv.keep _ g8_14 (hs 14 rfl) hb
   have g9_12 : (Pv.fx (wo7.heap.size) (Kd.int .u8) (t1)).V (get ac9 12) wo9 := Pv.keep _ g8_12 (hs 12 rfl) hb
   have g9_11 : (pI (wrap64 (Int.tmod (wrap64 (a2)) ((64 : Int)) + (1 : Int)))).V (get ac9 11) wo9 := Pv.keep _ g8_11 (hs 11 rfl) hb
   have g9_10 : (pF).V (get ac9 10) wo9 := Pv.keep _ g8_10 (hs 10 rfl) hb
   have g9_0 : (Pv.fx (wo7.heap.size) (Kd.int .u8) (l0)).V (get ac9 0) wo9 := Pv.keep _ g8_0 (hs 0 rfl) hb
   have g9_3 : (Pv.is (.int .u8 (a3))).V (get ac9 3) wo9 := Pv.keep _ g8_3 (hs 3 rfl) hb
   have g9_4 : (Pv.is (.int .u8 (a4))).V (get ac9 4) wo9 := Pv.keep _ g8_4 (hs 4 rfl) hb
   have hB9 := below_step hB8 hb
   have hd9 := hd_.trans hd8
   have hOo0_10_9 : wo7.heap.size ≤ wo9.heap.size := Nat.le_trans hOo0_10_8 hb.size
   clear hv hs hd_ hb hB8 hn8 hd8 hOo0_10_8 g8_16 g8_14 g8_12 g8_11 g8_10 g8_0 g8_3 g8_4
   show Code.wp _ _ _ _ _
   refine wp_block ?_
   obtain ⟨q10, h⟩ := h
   refine wp_loopg (J := fun q a w' => ∃ (y16_1 : List Int) (x17_1 : Int), a.tmps.size = 144 ∧ a.defers = [] ∧ Below w.heap.size w w' ∧ wo7.heap.size ≤ w'.heap.size ∧ (Pv.fx (wo7.heap.size) (Kd.int .u8) (l0)).V (get a 0) w' ∧ (Pv.is (.int .u8 (a3))).V (get a 3) w' ∧ (Pv.is (.int .u8 (a4))).V (get a 4) w' ∧ (pF).V (get a 10) w' ∧ (pI (wrap64 (Int.tmod (wrap64 (a2)) ((64 : Int)) + (1 : Int)))).V (get a 11) w' ∧ (Pv.fx (wo7.heap.size) (Kd.int .u8) (t1)).V (get a 12) w' ∧ (Pv.fx (wo7.heap.size) (Kd.int .u8) (t3)).V (get a 14) w' ∧ (Pv.own (wo7.heap.size) 5 (Kd.int .u8) (y16_1)).V (get a 16) w' ∧ (pI (x17_1)).V (get a 17) w' ∧ wristbandlaw09_SolomonSums.l1 k q l0 l1 a2 a3 a4 t1 t3 y16_1 x17_1) q10 ⟨(List.replicate (((t1).length : Int) : Int).toNat 0), ((0 : Int)), hn9, hd9, hB9, hOo0_10_9, g9_0, g9_3, g9_4, g9_10, g9_11, g9_12, g9_14, g9_16, g9_17, h⟩ ?_
   clear h hn9 hd9 hB9 hOo0_10_9 g9_17 g9_16 g9_14 g9_12 g9_11 g9_10 g9_0 g9_3 g9_4
   rintro q10 ac10 wo10 ⟨y16_1, x17_1, hn10, hd10, hB10, hOo0_10_10, g10_0, g10_3, g10_4, g10_10, g10_11, g10_12, g10_14, g10_16, g10_17, h⟩
   cases q10 with
   | zero => exact absurd h (by simp [wristbandlaw09_SolomonSums.l1])
   | succ q10 =>
    simp only [wristbandlaw09_SolomonSums.l1] at h
    refine wp_seq ?_
    refine wp_seq ?_
    obtain ⟨hy, hn⟩ := h
    by_cases c1_0 : x17_1 < ((t1).length : Int)
    ·have h := hy c1_0
     clear hy hn
     obtain ⟨c1_1, h⟩ := h
     obtain ⟨c1_2, h⟩ := h
     obtain ⟨c1_3, h⟩ := h
     refine Reg.plain (T := T12) (D := D12) (n := 144) (by kernel_rfl) hn10 (told [pI (x17_1), Pv.fx (wo7.heap.size) (Kd.int .u8) (t1), pI (((t1).length : Int)), pT]) (told_pst _) (owedS (owedS (owedS (owedS owed0 ?s0) ?s1) ?s2) ?s3) ?_
     case s0 =>
      intro b w1 hb hp hu
      have x17 : (pI (x17_1)).V (get b 17) w1 := Pv.keep _ g10_17 (hu 17 (by kernel_rfl)) hb
      exact st_move rfl (want0 rfl _) rfl x17
     case s1 =>
      intro b w1 hb hp hu
      have x12 : (Pv.fx (wo7.heap.size) (Kd.int .u8) (t1)).V (get b 12) w1 := Pv.keep _ g10_12 (hu 12 (by kernel_rfl)) hb
      exact st_move rfl (want0 rfl _) rfl x12
     case s2 =>
      intro b w1 hb hp hu
      have x68 : (Pv.fx (wo7.heap.size) (Kd.int .u8) (t1)).V (get b 68) w1 := hp 1 68 (by kernel_rfl) rfl
      obtain ⟨A_, c_, e_, _, _⟩ := (Pv.fx_sl x68)
      exact st_len rfl (want0 rfl _) rfl Try.underlying22 e_ rfl
     case s3 =>
      intro b w1 hb hp hu
      have x67 : (pI (x17_1)).V (get b 67) w1 := hp 0 67 (by kernel_rfl) rfl
      have x69 : (pI (((t1).length : Int))).V (get b 69) w1 := hp 2 69 (by kernel_rfl) rfl
      exact st_lss (b := true) (κ := .i64) (m := x17_1) (n := (((t1).length : Int))) rfl (want0 rfl _) rfl x67 x69 (decide_eq_true c1_0)
     intro ac11 wo11 hn11 hd_ hb hv hs
     have g11_70 : (pT).V (get ac11 70) wo11 := hv 3 70 rfl
     have g11_0 : (Pv.fx (wo7.heap.size) (Kd.int .u8) (l0)).V (get ac11 0) wo11 := Pv.keep _ g10_0 (hs 0 rfl) hb
     have g11_3 : (Pv.is (.int .u8 (a3))).V (get ac11 3) wo11 := Pv.keep _ g10_3 (hs 3 rfl) hb
     have g11_4 : (Pv.is (.int .u8 (a4))).V (get ac11 4) wo11 := Pv.keep _ g10_4 (hs 4 rfl) hb
     have g11_10 : (pF).V (get ac11 10) wo11 := Pv.keep _ g10_10 (hs 10 rfl) hb
     have g11_11 : (pI (wrap64 (Int.tmod (wrap64 (a2)) ((64 : Int)) + (1 : Int)))).V (get ac11 11) wo11 := Pv.keep _ g10_11 (hs 11 rfl) hb
     have g11_12 : (Pv.fx (wo7.heap.size) (Kd.int .u8) (t1)).V (get ac11 12) wo11 := Pv.keep _ g10_12 (hs 12 rfl) hb
     have g11_14 : (Pv.fx (wo7.heap.size) (Kd.int .u8) (t3)).V (get ac11 14) wo11 := Pv.keep _ g10_14 (hs 14 rfl) hb
     have g11_16 : (Pv.own (wo7.heap.size) 5 (Kd.int .u8) (y16_1)).V (get ac11 16) wo11 := Pv.keep _ g10_16 (hs 16 rfl) hb
     have g11_17 : (pI (x17_1)).V (get ac11 17) wo11 := Pv.keep _ g10_17 (hs 17 rfl) hb
     have hB11 := below_step hB10 hb
     have hd11 := hd_.trans hd10
     have hOo0_10_11 : wo7.heap.size ≤ wo11.heap.size := Nat.le_trans hOo0_10_10 hb.size
     clear hv hs hd_ hb hB10 hn10 hd10 hOo0_10_10 g10_0 g10_3 g10_4 g10_10 g10_11 g10_12 g10_14 g10_16 g10_17
     show Code.wp _ _ _ _ _
     refine wp_cond_true (show ac11.eval (Operand.tmp 70) = .bool true from g11_70) ?_
     refine wp_skip ?_
     show Code.wp _ _ _ _ _
     refine wp_seq ?_
     refine wp_block ?_
     obtain ⟨g11, cap11, ev11, ho11⟩ := Pv.own_form g11_16 (by have c1_ := c1_1; have c2_ := c1_3; omega)
     refine Reg.segd (T := T14) (D := D14) (n := 144) rfl 12 _ rfl rfl (by kernel_rfl) (by kernel_rfl) hn11 (told [Pv.is (.slice (some ⟨g11, 0, none⟩) (y16_1).length cap11), pI (x17_1), Pv.fx (wo7.heap.size) (Kd.int .u8) (t1), pI (x17_1), Pv.at .u8 (t1) (x17_1), Pv.is (.int .u8 (rd (t1) (x17_1))), Pv.fx (wo7.heap.size) (Kd.int .u8) (t3), pI (x17_1), Pv.at .u8 (t3) (x17_1), Pv.is (.int .u8 (rd (t3) (x17_1))), Pv.is (.int .u8 (Go.bits .xor .u8 (rd (t1) (x17_1)) (rd (t3) (x17_1)))), Pv.is (.pointer (some ⟨g11, (x17_1).toNat, none⟩))]) (told_pst _) (owedS (owedS (owedS (owedS (owedS (owedS (owedS (owedS (owedS (owedS (owedS (owedS owed0 ?s0) ?s1) ?s2) ?s3) ?s4) ?s5) ?s6) ?s7) ?s8) ?s9) ?s10) ?s11) ?_
     case s0 =>
      intro b w1 hb hp hu
      have x16 : (Pv.is (.slice (some ⟨g11, 0, none⟩) (y16_1).length cap11)).V (get b 16) w1 := Pv.keep _ ev11 (hu 16 (by kernel_rfl)) hb
      exact st_move rfl (want0 rfl _) rfl x16
     case s1 =>
      intro b w1 hb hp hu
      have x17 : (pI (x17_1)).V (get b 17) w1 := Pv.keep _ g11_17 (hu 17 (by kernel_rfl)) hb
      exact st_move rfl (want0 rfl _) rfl x17
     case s2 =>
      intro b w1 hb hp hu
      have x12 : (Pv.fx (wo7.heap.size) (Kd.int .u8) (t1)).V (get b 12) w1 := Pv.keep _ g11_12 (hu 12 (by kernel_rfl)) hb
      exact st_move rfl (want0 rfl _) rfl x12
     case s3 =>
      intro b w1 hb hp hu
      have x17 : (pI (x17_1)).V (get b 17) w1 := Pv.keep _ g11_17 (hu 17 (by kernel_rfl)) hb
      exact st_move rfl (want0 rfl _) rfl x17
     case s4 =>
      intro b w1 hb hp hu
      have x76 : (pI (x17_1)).V (get b 76) w1 := hp 3 76 (by kernel_rfl) rfl
      have x75 : (Pv.fx (wo7.heap.size) (Kd.int .u8) (t1)).V (get b 75) w1 := hp 2 75 (by kernel_rfl) rfl
      exact st_index Try.underlying22 info5 rfl (want0 rfl _) rfl (Pv.fx_sl x75) x76 c1_1 c1_0
     case s5 =>
      intro b w1 hb hp hu
      have x77 : (Pv.at .u8 (t1) (x17_1)).V (get b 77) w1 := hp 4 77 (by kernel_rfl) rfl
      exact st_load Try.underlying5 rfl (want0 rfl _) rfl x77
     case s6 =>
      intro b w1 hb hp hu
      have x14 : (Pv.fx (wo7.heap.size) (Kd.int .u8) (t3)).V (get b 14) w1 := Pv.keep _ g11_14 (hu 14 (by kernel_rfl)) hb
      exact st_move rfl (want0 rfl _) rfl x14
     case s7 =>
      intro b w1 hb hp hu
      have x17 : (pI (x17_1)).V (get b 17) w1 := Pv.keep _ g11_17 (hu 17 (by kernel_rfl)) hb
      exact st_move rfl (want0 rfl _) rfl x17
     case s8 =>
      intro b w1 hb hp hu
      have x80 : (pI (x17_1)).V (get b 80) w1 := hp 7 80 (by kernel_rfl) rfl
      have x79 : (Pv.fx (wo7.heap.size) (Kd.int .u8) (t3)).V (get b 79) w1 := hp 6 79 (by kernel_rfl) rfl
      exact st_index Try.underlying22 info5 rfl (want0 rfl _) rfl (Pv.fx_sl x79) x80 c1_1 c1_2
     case s9 =>
      intro b w1 hb hp hu
      have x81 : (Pv.at .u8 (t3) (x17_1)).V (get b 81) w1 := hp 8 81 (by kernel_rfl) rfl
      exact st_load Try.underlying5 rfl (want0 rfl _) rfl x81
     case s10 =>
      intro b w1 hb hp hu
      have x78 : (Pv.is (.int .u8 (rd (t1) (x17_1)))).V (get b 78) w1 := hp 5 78 (by kernel_rfl) rfl
      have x82 : (Pv.is (.int .u8 (rd (t3) (x17_1)))).V (get b 82) w1 := hp 9 82 (by kernel_rfl) rfl
      exact st_xor8 rfl (want0 rfl _) rfl x78 x82
     case s11 =>
      intro b w1 hb hp hu
      have x74 : (pI (x17_1)).V (get b 74) w1 := hp 1 74 (by kernel_rfl) rfl
      have x73 : (Pv.is (.slice (some ⟨g11, 0, none⟩) (y16_1).length cap11)).V (get b 73) w1 := hp 0 73 (by kernel_rfl) rfl
      exact st_indexv Try.underlying22 info5 rfl (want0 rfl _) rfl x73 x74 c1_1 c1_3
     intro ac12 wo12 hn12 hd_ hb hv hs
     have g12_83 : (Pv.is (.int .u8 (Go.bits .xor .u8 (rd (t1) (x17_1)) (rd (t3) (x17_1))))).V (get ac12 83) wo12 := hv 10 83 (by decide) rfl
     have g12_84 : (Pv.is (.pointer (some ⟨g11, (x17_1).toNat, none⟩))).V (get ac12 84) wo12 := hv 11 84 (by decide) rfl
     have g12_0 : (Pv.fx (wo7.heap.size) (Kd.int .u8) (l0)).V (get ac12 0) wo12 := Pv.keep _ g11_0 (hs 0 rfl) hb
     have g12_3 : (Pv.is (.int .u8 (a3))).V (get ac12 3) wo12 := Pv.keep _ g11_3 (hs 3 rfl) hb
     have g12_4 : (Pv.is (.int .u8 (a4))).V (get ac12 4) wo12 := Pv.keep _ g11_4 (hs 4 rfl) hb
     have g12_10 : (pF).V (get ac12 10) wo12 := Pv.keep _ g11_10 (hs 10 rfl) hb
     have g12_11 : (pI (wrap64 (Int.tmod (wrap64 (a2)) ((64 : Int)) + (1 : Int)))).V (get ac12 11) wo12 := Pv.keep _ g11_11 (hs 11 rfl) hb
     have g12_12 : (Pv.fx (wo7.heap.size) (Kd.int .u8) (t1)).V (get ac12 12) wo12 := Pv.keep _ g11_12 (hs 12 rfl) hb
     have g12_14 : (Pv.fx (wo7.heap.size) (Kd.int .u8) (t3)).V (get ac12 14) wo12 := Pv.keep _ g11_14 (hs 14 rfl) hb
     have g12_16 : (Pv.is (.slice (some ⟨g11, 0, none⟩) (y16_1).length cap11)).V (get ac12 16) wo12 := Pv.keep _ ev11 (hs 16 rfl) hb
     have g12_17 : (pI (x17_1)).V (get ac12 17) wo12 := Pv.keep _ g11_17 (hs 17 rfl) hb
     have hB12 := below_step hB11 hb
     have hd12 := hd_.trans hd11
     have hOo0_10_12 : wo7.heap.size ≤ wo12.heap.size := Nat.le_trans hOo0_10_11 hb.size
     have ho12 := Kd.R_below ho11 hb
     clear hv hs hd_ hb hB11 hn11 hd11 hOo0_10_11 g11_70 g11_0 g11_3 g11_4 g11_10 g11_11 g11_12 g11_14 g11_17
     refine seq_store (w0 := wo12) (κ := .u8) (u := (Go.bits .xor .u8 (rd (t1) (x17_1)) (rd (t3) (x17_1)))) rfl rfl rfl info5 g12_84 g12_83 ho12 c1_1 c1_3 (Below.refl _ _) ?_
     intro wo13 ho_ hb
     refine seq_end ?_
     have g13_0 : (Pv.fx (wo7.heap.size) (Kd.int .u8) (l0)).V (get ac12 0) wo13 := Pv.fx_to g12_0 rfl hb
     have g13_3 : (Pv.is (.int .u8 (a3))).V (get ac12 3) wo13 := Pv.is_to g12_3 rfl
     have g13_4 : (Pv.is (.int .u8 (a4))).V (get ac12 4) wo13 := Pv.is_to g12_4 rfl
     have g13_10 : (pF).V (get ac12 10) wo13 := Pv.is_to g12_10 rfl
     have g13_11 : (pI (wrap64 (Int.tmod (wrap64 (a2)) ((64 : Int)) + (1 : Int)))).V (get ac12 11) wo13 := Pv.is_to g12_11 rfl
     have g13_12 : (Pv.fx (wo7.heap.size) (Kd.int .u8) (t1)).V (get ac12 12) wo13 := Pv.fx_to g12_12 rfl hb
     have g13_14 : (Pv.fx (wo7.heap.size) (Kd.int .u8) (t3)).V (get ac12 14) wo13 := Pv.fx_to g12_14 rfl hb
     have g13_17 : (pI (x17_1)).V (get ac12 17) wo13 := Pv.is_to g12_17 rfl
     have g13_16 : (Pv.own (wo7.heap.size) 5 (Kd.int .u8) ((y16_1).set (x17_1 : Int).toNat (Go.bits .xor .u8 (rd (t1) (x17_1)) (rd (t3) (x17_1))))).V (get ac12 16) wo13 := Pv.own_at ho_ g12_16
     have hB13 := hB12.trans (hb.mono hEo0_10)
     have hOo0_10_13 : wo7.heap.size ≤ wo13.heap.size := Nat.le_trans hOo0_10_12 hb.size
     clear hb ho_ ho12 ho11 hB12 hOo0_10_12 g12_83 g12_84 g12_0 g12_3 g12_4 g12_10 g12_11 g12_12 g12_14 g12_16 g12_17
     obtain ⟨ac13, eac⟩ : ∃ x, x = ac12 := ⟨_, rfl⟩
     rw [← eac] at hn12 hd12 g13_0 g13_3 g13_4 g13_10 g13_11 g13_12 g13_14 g13_17 g13_16 ⊢
     clear eac
     have hn13 := hn12
     have hd13 := hd12
     clear hn12 hd12
     show Code.wp _ _ _ _ _
     refine Reg.plain (T := T13) (D := D13) (n := 144) (by kernel_rfl) hn13 (told [pI (x17_1), pI (wrap64 (x17_1 + (1 : Int))), pI (wrap64 (x17_1 + (1 : Int)))]) (told_pst _) (owedS (owedS (owedS owed0 ?s0) ?s1) ?s2) ?_
     case s0 =>
      intro b w1 hb hp hu
      have x17 : (pI (x17_1)).V (get b 17) w1 := Pv.keep _ g13_17 (hu 17 (by kernel_rfl)) hb
      exact st_move rfl (want0 rfl _) rfl x17
     case s1 =>
      intro b w1 hb hp hu
      have x71 : (pI (x17_1)).V (get b 71) w1 := hp 0 71 (by kernel_rfl) rfl
      exact st_bin (v := .int .i64 (wrap64 (x17_1 + (1 : Int)))) (vx := .int .i64 (x17_1)) (vy := .int .i64 ((1 : Int))) rfl (want0 rfl _) rfl x71 rfl (by first | rfl | (go_simp; first | done | rfl | (simp only [i64_w, i32_w]; done))) rfl
     case s2 =>
      intro b w1 hb hp hu
      have x72 : (pI (wrap64 (x17_1 + (1 : Int)))).V (get b 72) w1 := hp 1 72 (by kernel_rfl) rfl
      exact st_assign rfl (want0 rfl _) rfl x72
     intro ac14 wo14 hn14 hd_ hb hv hs
     have g14_17 : (pI (wrap64 (x17_1 + (1 : Int)))).V (get ac14 17) wo14 := hv 2 17 rfl
     have g14_0 : (Pv.fx (wo7.heap.size) (Kd.int .u8) (l0)).V (get ac14 0) wo14 := Pv.keep _ g13_0 (hs 0 rfl) hb
     have g14_3 : (Pv.is (.int .u8 (a3))).V (get ac14 3) wo14 := Pv.keep _ g13_3 (hs 3 rfl) hb
     have g14_4 : (Pv.is (.int .u8 (a4))).V (get ac14 4) wo14 := Pv.keep _ g13_4 (hs 4 rfl) hb
     have g14_10 : (pF).V (get ac14 10) wo14 := Pv.keep _ g13_10 (hs 10 rfl) hb
     have g14_11 : (pI (wrap64 (Int.tmod (wrap64 (a2)) ((64 : Int)) + (1 : Int)))).V (get ac14 11) wo14 := Pv.keep _ g13_11 (hs 11 rfl) hb
     have g14_12 : (Pv.fx (wo7.heap.size) (Kd.int .u8) (t1)).V (get ac14 12) wo14 := Pv.keep _ g13_12 (hs 12 rfl) hb
     have g14_14 : (Pv.fx (wo7.heap.size) (Kd.int .u8) (t3)).V (get ac14 14) wo14 := Pv.keep _ g13_14 (hs 14 rfl) hb
     have g14_16 : (Pv.own (wo7.heap.size) 5 (Kd.int .u8) ((y16_1).set (x17_1 : Int).toNat (Go.bits .xor .u8 (rd (t1) (x17_1)) (rd (t3) (x17_1))))).V (get ac14 16) wo14 := Pv.keep _ g13_16 (hs 16 rfl) hb
     have hB14 := below_step hB13 hb
     have hd14 := hd_.trans hd13
     have hOo0_10_14 : wo7.heap.size ≤ wo14.heap.size := Nat.le_trans hOo0_10_13 hb.size
     clear hv hs hd_ hb hB13 hn13 hd13 hOo0_10_13 g13_0 g13_3 g13_4 g13_10 g13_11 g13_12 g13_14 g13_17 g13_16
     show ∃ r, r < q10 + 1 ∧ _
     exact ⟨q10, Nat.lt_succ_self _, ((y16_1).set (x17_1 : Int).toNat (Go.bits .xor .u8 (rd (t1) (x17_1)) (rd (t3) (x17_1)))), (wrap64 (x17_1 + (1 : Int))), hn14, hd14, hB14, hOo0_10_14, g14_0, g14_3, g14_4, g14_10, g14_11, g14_12, g14_14, g14_16, g14_17, h⟩
    ·have h := hn c1_0
     clear hy hn
     obtain ⟨t1_1, H1_1, h⟩ := h
     refine Reg.plain (T := T12) (D := D12) (n := 144) (by kernel_rfl) hn10 (told [pI (x17_1), Pv.fx (wo7.heap.size) (Kd.int .u8) (t1), pI (((t1).length : Int)), pF]) (told_pst _) (owedS (owedS (owedS (owedS owed0 ?s0) ?s1) ?s2) ?s3) ?_
     case s0 =>
      intro b w1 hb hp hu
      have x17 : (pI (x17_1)).V (get b 17) w1 := Pv.keep _ g10_17 (hu 17 (by kernel_rfl)) hb
      exact st_move rfl (want0 rfl _) rfl x17
     case s1 =>
      intro b w1 hb hp hu
      have x12 : (Pv.fx (wo7.heap.size) (Kd.int .u8) (t1)).V (get b 12) w1 := Pv.keep _ g10_12 (hu 12 (by kernel_rfl)) hb
      exact st_move rfl (want0 rfl _) rfl x12
     case s2 =>
      intro b w1 hb hp hu
      have x68 : (Pv.fx (wo7.heap.size) (Kd.int .u8) (t1)).V (get b 68) w1 := hp 1 68 (by kernel_rfl) rfl
      obtain ⟨A_, c_, e_, _, _⟩ := (Pv.fx_sl x68)
      exact st_len rfl (want0 rfl _) rfl Try.underlying22 e_ rfl
     case s3 =>
      intro b w1 hb hp hu
      have x67 : (pI (x17_1)).V (get b 67) w1 := hp 0 67 (by kernel_rfl) rfl
      have x69 : (pI (((t1).length : Int))).V (get b 69) w1 := hp 2 69 (by kernel_rfl) rfl
      exact st_lss (b := false) (κ := .i64) (m := x17_1) (n := (((t1).length : Int))) rfl (want0 rfl _) rfl x67 x69 (decide_eq_false c1_0)
     intro ac11 wo11 hn11 hd_ hb hv hs
     have g11_70 : (pF).V (get ac11 70) wo11 := hv 3 70 rfl
     have g11_0 : (Pv.fx (wo7.heap.size) (Kd.int .u8) (l0)).V (get ac11 0) wo11 := Pv.keep _ g10_0 (hs 0 rfl) hb
     have g11_3 : (Pv.is (.int .u8 (a3))).V (get ac11 3) wo11 := Pv.keep _ g10_3 (hs 3 rfl) hb
     have g11_4 : (Pv.is (.int .u8 (a4))).V (get ac11 4) wo11 := Pv.keep _ g10_4 (hs 4 rfl) hb
     have g11_10 : (pF).V (get ac11 10) wo11 := Pv.keep _ g10_10 (hs 10 rfl) hb
     have g11_11 : (pI (wrap64 (Int.tmod (wrap64 (a2)) ((64 : Int)) + (1 : Int)))).V (get ac11 11) wo11 := Pv.keep _ g10_11 (hs 11 rfl) hb
     have g11_12 : (Pv.fx (wo7.heap.size) (Kd.int .u8) (t1)).V (get ac11 12) wo11 := Pv.keep _ g10_12 (hs 12 rfl) hb
     have g11_16 : (Pv.own (wo7.heap.size) 5 (Kd.int .u8) (y16_1)).V (get ac11 16) wo11 := Pv.keep _ g10_16 (hs 16 rfl) hb
     have hB11 := below_step hB10 hb
     have hd11 := hd_.trans hd10
     have hOo0_10_11 : wo7.heap.size ≤ wo11.heap.size := Nat.le_trans hOo0_10_10 hb.size
     clear hv hs hd_ hb hB10 hn10 hd10 hOo0_10_10 g10_0 g10_3 g10_4 g10_10 g10_11 g10_12 g10_14 g10_16 g10_17
     show Code.wp _ _ _ _ _
     refine wp_cond_false (show ac11.eval (Operand.tmp 70) = .bool false from g11_70) ?_
     refine wp_exit ?_
     show Code.wp _ _ _ _ _
     refine wp_seq ?_
     have hEo1_15 : w.heap.size ≤ wo11.heap.size := hB11.size
     replace g11_0 : (Pv.fx (wo11.heap.size) (Kd.int .u8) (l0)).V (get ac11 0) wo11 := Pv.sl_fx (Kd.heap_int .u8) (Pv.fx_sl g11_0)
     replace g11_12 : (Pv.fx (wo11.heap.size) (Kd.int .u8) (t1)).V (get ac11 12) wo11 := Pv.sl_fx (Kd.heap_int .u8) (Pv.fx_sl g11_12)
     replace g11_16 : (Pv.fx (wo11.heap.size) (Kd.int .u8) (y16_1)).V (get ac11 16) wo11 := Pv.sl_fx (Kd.heap_int .u8) (Pv.own_sl g11_16)
     refine Reg.plain (T := T15) (D := D15) (n := 144) (by kernel_rfl) hn11 (told [pB (t1), Pv.is (.int .u8 (a4)), Pv.own (wo11.heap.size) 5 (Kd.int .u8) (t1_1), Pv.own (wo11.heap.size) 5 (Kd.int .u8) (t1_1)]) (told_pst _) (owedS (owedS (owedS (owedS owed0 ?s0) ?s1) ?s2) ?s3) ?_
     case s0 =>
      intro b w1 hb hp hu
      have x12 : (Pv.fx (wo11.heap.size) (Kd.int .u8) (t1)).V (get b 12) w1 := Pv.keep _ g11_12 (hu 12 (by kernel_rfl)) hb
      exact st_move rfl (want0 rfl _) rfl (Pv.fx_sl x12)
     case s1 =>
      intro b w1 hb hp hu
      have x4 : (Pv.is (.int .u8 (a4))).V (get b 4) w1 := Pv.keep _ g11_4 (hu 4 (by kernel_rfl)) hb
      exact st_move rfl (want0 rfl _) rfl x4
     case s2 =>
      intro b w1 hb hp hu
      have x85 : (pB (t1)).V (get b 85) w1 := hp 0 85 (by kernel_rfl) rfl
      obtain ⟨B0, d0, e0_, hC0, hl0⟩ := x85
      have e0 : b.eval (Operand.tmp 85) = .slice B0 (t1).length d0 := e0_
      have x86 : (Pv.is (.int .u8 (a4))).V (get b 86) w1 := hp 1 86 (by kernel_rfl) rfl
      have e1 : b.eval (Operand.tmp 86) = .int .u8 (a4) := x86
      refine st_call rfl (want0 rfl _) rfl Try.func17 (by kernel_rfl) rfl #[.slice B0 (t1).length d0, .int .u8 (a4)] (by simp only [List.map_toArray, List.map_cons, List.map_nil, e0, e1]) ?_
      refine (poly_Times.calls k B0 d0 _ _ _ w1 hC0 hl0 H1_1).mono ?_
      rintro e w2 ⟨v0_, rfl, ho0, hb2⟩
      exact ⟨_, rfl, Pv.to_own ho0 hb.size, hb2⟩
     case s3 =>
      intro b w1 hb hp hu
      have x87 : (Pv.own (wo11.heap.size) 5 (Kd.int .u8) (t1_1)).V (get b 87) w1 := hp 2 87 (by kernel_rfl) rfl
      exact st_assign rfl (want0 rfl _) rfl x87
     intro ac12 wo12 hn12 hd_ hb hv hs
     have g12_18 : (Pv.own (wo11.heap.size) 5 (Kd.int .u8) (t1_1)).V (get ac12 18) wo12 := hv 3 18 rfl
     have g12_0 : (Pv.fx (wo11.heap.size) (Kd.int .u8) (l0)).V (get ac12 0) wo12 := Pv.keep _ g11_0 (hs 0 rfl) hb
     have g12_3 : (Pv.is (.int .u8 (a3))).V (get ac12 3) wo12 := Pv.keep _ g11_3 (hs 3 rfl) hb
     have g12_10 : (pF).V (get ac12 10) wo12 := Pv.keep _ g11_10 (hs 10 rfl) hb
     have g12_11 : (pI (wrap64 (Int.tmod (wrap64 (a2)) ((64 : Int)) + (1 : Int)))).V (get ac12 11) wo12 := Pv.keep _ g11_11 (hs 11 rfl) hb
     have g12_12 : (Pv.fx (wo11.heap.size) (Kd.int .u8) (t1)).V (get ac12 12) wo12 := Pv.keep _ g11_12 (hs 12 rfl) hb
     have g12_16 : (Pv.fx (wo11.heap.size) (Kd.int .u8) (y16_1)).V (get ac12 16) wo12 := Pv.keep _ g11_16 (hs 16 rfl) hb
     have hB12 := below_step hB11 hb
     have hd12 := hd_.trans hd11
     have hOo0_10_12 : wo7.heap.size ≤ wo12.heap.size := Nat.le_trans hOo0_10_11 hb.size
     have hOo1_15_12 : wo11.heap.size ≤ wo12.heap.size := hb.size
     clear hv hs hd_ hb hB11 hn11 hd11 hOo0_10_11 g11_70 g11_0 g11_3 g11_4 g11_10 g11_11 g11_12 g11_16
     show Code.wp _ _ _ _ _
     refine wp_seq ?_
     refine wp_block ?_
     obtain ⟨q13, h⟩ := h
     refine wp_loopg (J := fun q a w' => ∃ (y18_2 : List Int), a.tmps.size = 144 ∧ a.defers = [] ∧ Below w.heap.size w w' ∧ wo7.heap.size ≤ w'.heap.size ∧ wo11.heap.size ≤ w'.heap.size ∧ (Pv.fx (wo11.heap.size) (Kd.int .u8) (l0)).V (get a 0) w' ∧ (Pv.is (.int .u8 (a3))).V (get a 3) w' ∧ (pF).V (get a 10) w' ∧ (pI (wrap64 (Int.tmod (wrap64 (a2)) ((64 : Int)) + (1 : Int)))).V (get a 11) w' ∧ (Pv.fx (wo11.heap.size) (Kd.int .u8) (t1)).V (get a 12) w' ∧ (Pv.fx (wo11.heap.size) (Kd.int .u8) (y16_1)).V (get a 16) w' ∧ (Pv.own (wo11.heap.size) 5 (Kd.int .u8) (y18_2)).V (get a 18) w' ∧ wristbandlaw09_SolomonSums.l2 k q l0 l1 a2 a3 a4 t1 y16_1 y18_2) q13 ⟨(t1_1), hn12, hd12, hB12, hOo0_10_12, hOo1_15_12, g12_0, g12_3, g12_10, g12_11, g12_12, g12_16, g12_18, h⟩ ?_
     clear h hn12 hd12 hB12 hOo0_10_12 hOo1_15_12 g12_18 g12_0 g12_3 g12_10 g12_11 g12_12 g12_16
     rintro q13 ac13 wo13 ⟨y18_2, hn13, hd13, hB13, hOo0_10_13, hOo1_15_13, g13_0, g13_3, g13_10, g13_11, g13_12, g13_16, g13_18, h⟩
     cases q13 with
     | zero => exact absurd h (by simp [wristbandlaw09_SolomonSums.l2])
     | succ q13 =>
      simp only [wristbandlaw09_SolomonSums.l2] at h
      refine wp_seq ?_
      refine wp_seq ?_
      obtain ⟨hy, hn⟩ := h
      by_cases c2_0 : ((y18_2).length : Int) < ((t1).length : Int)
      ·have h := hy c2_0
       clear hy hn
       obtain ⟨c2_1, h⟩ := h
       refine Reg.plain (T := T16) (D := D16) (n := 144) (by kernel_rfl) hn13 (told [Pv.own (wo11.heap.size) 5 (Kd.int .u8) (y18_2), pI (((y18_2).length : Int)), Pv.fx (wo11.heap.size) (Kd.int .u8) (t1), pI (((t1).length : Int)), pT]) (told_pst _) (owedS (owedS (owedS (owedS (owedS owed0 ?s0) ?s1) ?s2) ?s3) ?s4) ?_
       case s0 =>
        intro b w1 hb hp hu
        have x18 : (Pv.own (wo11.heap.size) 5 (Kd.int .u8) (y18_2)).V (get b 18) w1 := Pv.keep _ g13_18 (hu 18 (by kernel_rfl)) hb
        exact st_move rfl (want0 rfl _) rfl x18
       case s1 =>
        intro b w1 hb hp hu
        have x88 : (Pv.own (wo11.heap.size) 5 (Kd.int .u8) (y18_2)).V (get b 88) w1 := hp 0 88 (by kernel_rfl) rfl
        obtain ⟨A_, c_, e_, _, _⟩ := (Pv.own_sl x88)
        exact st_len rfl (want0 rfl _) rfl Try.underlying22 e_ rfl
       case s2 =>
        intro b w1 hb hp hu
        have x12 : (Pv.fx (wo11.heap.size) (Kd.int .u8) (t1)).V (get b 12) w1 := Pv.keep _ g13_12 (hu 12 (by kernel_rfl)) hb
        exact st_move rfl (want0 rfl _) rfl x12
       case s3 =>
        intro b w1 hb hp hu
        have x90 : (Pv.fx (wo11.heap.size) (Kd.int .u8) (t1)).V (get b 90) w1 := hp 2 90 (by kernel_rfl) rfl
        obtain ⟨A_, c_, e_, _, _⟩ := (Pv.fx_sl x90)
        exact st_len rfl (want0 rfl _) rfl Try.underlying22 e_ rfl
       case s4 =>
        intro b w1 hb hp hu
        have x89 : (pI (((y18_2).length : Int))).V (get b 89) w1 := hp 1 89 (by kernel_rfl) rfl
        have x91 : (pI (((t1).length : Int))).V (get b 91) w1 := hp 3 91 (by kernel_rfl) rfl
        exact st_lss (b := true) (κ := .i64) (m := (((y18_2).length : Int))) (n := (((t1).length : Int))) rfl (want0 rfl _) rfl x89 x91 (decide_eq_true c2_0)
       intro ac14 wo14 hn14 hd_ hb hv hs
       have g14_92 : (pT).V (get ac14 92) wo14 := hv 4 92 rfl
       have g14_0 : (Pv.fx (wo11.heap.size) (Kd.int .u8) (l0)).V (get ac14 0) wo14 := Pv.keep _ g13_0 (hs 0 rfl) hb
       have g14_3 : (Pv.is (.int .u8 (a3))).V (get ac14 3) wo14 := Pv.keep _ g13_3 (hs 3 rfl) hb
       have g14_10 : (pF).V (get ac14 10) wo14 := Pv.keep _ g13_10 (hs 10 rfl) hb
       have g14_11 : (pI (wrap64 (Int.tmod (wrap64 (a2)) ((64 : Int)) + (1 : Int)))).V (get ac14 11) wo14 := Pv.keep _ g13_11 (hs 11 rfl) hb
       have g14_12 : (Pv.fx (wo11.heap.size) (Kd.int .u8) (t1)).V (get ac14 12) wo14 := Pv.keep _ g13_12 (hs 12 rfl) hb
       have g14_16 : (Pv.fx (wo11.heap.size) (Kd.int .u8) (y16_1)).V (get ac14 16) wo14 := Pv.keep _ g13_16 (hs 16 rfl) hb
       have g14_18 : (Pv.own (wo11.heap.size) 5 (Kd.int .u8) (y18_2)).V (get ac14 18) wo14 := Pv.keep _ g13_18 (hs 18 rfl) hb
       have hB14 := below_step hB13 hb
       have hd14 := hd_.trans hd13
       have hOo0_10_14 : wo7.heap.size ≤ wo14.heap.size := Nat.le_trans hOo0_10_13 hb.size
       have hOo1_15_14 : wo11.heap.size ≤ wo14.heap.size := Nat.le_trans hOo1_15_13 hb.size
       clear hv hs hd_ hb hB13 hn13 hd13 hOo0_10_13 hOo1_15_13 g13_0 g13_3 g13_10 g13_11 g13_12 g13_16 g13_18
       show Code.wp _ _ _ _ _
       refine wp_cond_true (show ac14.eval (Operand.tmp 92) = .bool true from g14_92) ?_
       refine wp_skip ?_
       show Code.wp _ _ _ _ _
       refine wp_block ?_
       refine Reg.seg (T := T17) (D := D17) (n := 144) 2 _ rfl rfl (by kernel_rfl) hn14 (told [Pv.own (wo11.heap.size) 5 (Kd.int .u8) (y18_2), pB (([(0 : Int)] : List Int))]) (told_pst _) (owedS (owedS owed0 ?s0) ?s1) ?_
       case s0 =>
        intro b w1 hb hp hu
        have x18 : (Pv.own (wo11.heap.size) 5 (Kd.int .u8) (y18_2)).V (get b 18) w1 := Pv.keep _ g14_18 (hu 18 (by kernel_rfl)) hb
        exact st_move rfl (want0 rfl _) rfl x18
       case s1 =>
        intro b w1 hb hp hu
        have e0 : b.eval (Operand.const (Value.int IntKind.u8 0)) = .int .u8 ((0 : Int)) := rfl
        exact st_lit (e := 5) (N := 94) (xs := ([(0 : Int)] : List Int)) (inner := [.int .u8 ((0 : Int))]) (ps := #[(0, .int .u8 ((0 : Int)))]) rfl (want0 rfl _) rfl rfl (by simp only [List.map_toArray, List.map_cons, List.map_nil, e0]) (by first | (go_simp; done) | (go_simp; rfl)) (Reps.one (show Kd.M (Kd.int .u8) _ _ _ ((0 : Int)) [.int .u8 ((0 : Int))] from rfl) (Reps.none _ _)) (by simp) (fun _ _ h => h)
       intro ac15 wo15 hn15 hd_ hb hv hs
       have g15_93 : (Pv.own (wo11.heap.size) 5 (Kd.int .u8) (y18_2)).V (get ac15 93) wo15 := hv 0 93 (by decide) rfl
       have g15_94 : (pB (([(0 : Int)] : List Int))).V (get ac15 94) wo15 := hv 1 94 (by decide) rfl
       have g15_0 : (Pv.fx (wo11.heap.size) (Kd.int .u8) (l0)).V (get ac15 0) wo15 := Pv.keep _ g14_0 (hs 0 rfl) hb
       have g15_3 : (Pv.is (.int .u8 (a3))).V (get ac15 3) wo15 := Pv.keep _ g14_3 (hs 3 rfl) hb
       have g15_10 : (pF).V (get ac15 10) wo15 := Pv.keep _ g14_10 (hs 10 rfl) hb
       have g15_11 : (pI (wrap64 (Int.tmod (wrap64 (a2)) ((64 : Int)) + (1 : Int)))).V (get ac15 11) wo15 := Pv.keep _ g14_11 (hs 11 rfl) hb
       have g15_12 : (Pv.fx (wo11.heap.size) (Kd.int .u8) (t1)).V (get ac15 12) wo15 := Pv.keep _ g14_12 (hs 12 rfl) hb
       have g15_16 : (Pv.fx (wo11.heap.size) (Kd.int .u8) (y16_1)).V (get ac15 16) wo15 := Pv.keep _ g14_16 (hs 16 rfl) hb
       have g15_18 : (Pv.own (wo11.heap.size) 5 (Kd.int .u8) (y18_2)).V (get ac15 18) wo15 := Pv.keep _ g14_18 (hs 18 rfl) hb
       have hB15 := below_step hB14 hb
       have hd15 := hd_.trans hd14
       have hOo0_10_15 : wo7.heap.size ≤ wo15.heap.size := Nat.le_trans hOo0_10_14 hb.size
       have hOo1_15_15 : wo11.heap.size ≤ wo15.heap.size := Nat.le_trans hOo1_15_14 hb.size
       clear hv hs hd_ hb hB14 hn14 hd14 hOo0_10_14 hOo1_15_14 g14_92 g14_0 g14_3 g14_10 g14_11 g14_12 g14_16 g14_18
       refine seq_append (w0 := wo15) (B := wo11.heap.size) rfl rfl Try.underlying22 info5 (by decide) g15_93 g15_94 hOo1_15_15 (Below.refl _ _) (by have c_ := c2_1; omega) ?_
       intro v16 wo16 ho_ hb
       refine seq_assign rfl rfl ?_
       refine end_two (p := 95) (q := 18) (v := v16) hn15 hd15 (by decide) (by decide) ?_
       intro ac16 hn16 hd16 hq_ hs
       have g16_0 : (Pv.fx (wo11.heap.size) (Kd.int .u8) (l0)).V (get ac16 0) wo16 := Pv.fx_to g15_0 (hs 0 (by decide) (by decide)) hb
       have g16_3 : (Pv.is (.int .u8 (a3))).V (get ac16 3) wo16 := Pv.is_to g15_3 (hs 3 (by decide) (by decide))
       have g16_10 : (pF).V (get ac16 10) wo16 := Pv.is_to g15_10 (hs 10 (by decide) (by decide))
       have g16_11 : (pI (wrap64 (Int.tmod (wrap64 (a2)) ((64 : Int)) + (1 : Int)))).V (get ac16 11) wo16 := Pv.is_to g15_11 (hs 11 (by decide) (by decide))
       have g16_12 : (Pv.fx (wo11.heap.size) (Kd.int .u8) (t1)).V (get ac16 12) wo16 := Pv.fx_to g15_12 (hs 12 (by decide) (by decide)) hb
       have g16_16 : (Pv.fx (wo11.heap.size) (Kd.int .u8) (y16_1)).V (get ac16 16) wo16 := Pv.fx_to g15_16 (hs 16 (by decide) (by decide)) hb
       have g16_18 : (Pv.own (wo11.heap.size) 5 (Kd.int .u8) (y18_2 ++ (([(0 : Int)] : List Int)))).V (get ac16 18) wo16 := by rw [hq_]; exact ho_
       have hB16 := hB15.trans (hb.mono hEo1_15)
       have hOo0_10_16 : wo7.heap.size ≤ wo16.heap.size := Nat.le_trans hOo0_10_15 hb.size
       have hOo1_15_16 : wo11.heap.size ≤ wo16.heap.size := Nat.le_trans hOo1_15_15 hb.size
       clear hb ho_ hq_ hs hn15 hd15 hB15 hOo0_10_15 hOo1_15_15 g15_93 g15_94 g15_0 g15_3 g15_10 g15_11 g15_12 g15_16 g15_18
       show ∃ r, r < q13 + 1 ∧ _
       exact ⟨q13, Nat.lt_succ_self _, (y18_2 ++ (([(0 : Int)] : List Int))), hn16, hd16, hB16, hOo0_10_16, hOo1_15_16, g16_0, g16_3, g16_10, g16_11, g16_12, g16_16, g16_18, h⟩
      ·have h := hn c2_0
       clear hy hn
       obtain ⟨t2_1, H2_1, h⟩ := h
       obtain ⟨c2_1, h⟩ := h
       obtain ⟨t2_2, H2_2, h⟩ := h
       obtain ⟨c2_2, h⟩ := h
       obtain ⟨c2_3, h⟩ := h
       obtain ⟨t2_3, H2_3, h⟩ := h
       obtain ⟨c2_4, h⟩ := h
       refine Reg.plain (T := T16) (D := D16) (n := 144) (by kernel_rfl) hn13 (told [Pv.own (wo11.heap.size) 5 (Kd.int .u8) (y18_2), pI (((y18_2).length : Int)), Pv.fx (wo11.heap.size) (Kd.int .u8) (t1), pI (((t1).length : Int)), pF]) (told_pst _) (owedS (owedS (owedS (owedS (owedS owed0 ?s0) ?s1) ?s2) ?s3) ?s4) ?_
       case s0 =>
        intro b w1 hb hp hu
        have x18 : (Pv.own (wo11.heap.size) 5 (Kd.int .u8) (y18_2)).V (get b 18) w1 := Pv.keep _ g13_18 (hu 18 (by kernel_rfl)) hb
        exact st_move rfl (want0 rfl _) rfl x18
       case s1 =>
        intro b w1 hb hp hu
        have x88 : (Pv.own (wo11.heap.size) 5 (Kd.int .u8) (y18_2)).V (get b 88) w1 := hp 0 88 (by kernel_rfl) rfl
        obtain ⟨A_, c_, e_, _, _⟩ := (Pv.own_sl x88)
        exact st_len rfl (want0 rfl _) rfl Try.underlying22 e_ rfl
       case s2 =>
        intro b w1 hb hp hu
        have x12 : (Pv.fx (wo11.heap.size) (Kd.int .u8) (t1)).V (get b 12) w1 := Pv.keep _ g13_12 (hu 12 (by kernel_rfl)) hb
        exact st_move rfl (want0 rfl _) rfl x12
       case s3 =>
        intro b w1 hb hp hu
        have x90 : (Pv.fx (wo11.heap.size) (Kd.int .u8) (t1)).V (get b 90) w1 := hp 2 90 (by kernel_rfl) rfl
        obtain ⟨A_, c_, e_, _, _⟩ := (Pv.fx_sl x90)
        exact st_len rfl (want0 rfl _) rfl Try.underlying22 e_ rfl
       case s4 =>
        intro b w1 hb hp hu
        have x89 : (pI (((y18_2).length : Int))).V (get b 89) w1 := hp 1 89 (by kernel_rfl) rfl
        have x91 : (pI (((t1).length : Int))).V (get b 91) w1 := hp 3 91 (by kernel_rfl) rfl
        exact st_lss (b := false) (κ := .i64) (m := (((y18_2).length : Int))) (n := (((t1).length : Int))) rfl (want0 rfl _) rfl x89 x91 (decide_eq_false c2_0)
       intro ac14 wo14 hn14 hd_ hb hv hs
       have g14_92 : (pF).V (get ac14 92) wo14 := hv 4 92 rfl
       have g14_0 : (Pv.fx (wo11.heap.size) (Kd.int .u8) (l0)).V (get ac14 0) wo14 := Pv.keep _ g13_0 (hs 0 rfl) hb
       have g14_3 : (Pv.is (.int .u8 (a3))).V (get ac14 3) wo14 := Pv.keep _ g13_3 (hs 3 rfl) hb
       have g14_10 : (pF).V (get ac14 10) wo14 := Pv.keep _ g13_10 (hs 10 rfl) hb
       have g14_11 : (pI (wrap64 (Int.tmod (wrap64 (a2)) ((64 : Int)) + (1 : Int)))).V (get ac14 11) wo14 := Pv.keep _ g13_11 (hs 11 rfl) hb
       have g14_12 : (Pv.fx (wo11.heap.size) (Kd.int .u8) (t1)).V (get ac14 12) wo14 := Pv.keep _ g13_12 (hs 12 rfl) hb
       have g14_16 : (Pv.fx (wo11.heap.size) (Kd.int .u8) (y16_1)).V (get ac14 16) wo14 := Pv.keep _ g13_16 (hs 16 rfl) hb
       have g14_18 : (Pv.own (wo11.heap.size) 5 (Kd.int .u8) (y18_2)).V (get ac14 18) wo14 := Pv.keep _ g13_18 (hs 18 rfl) hb
       have hB14 := below_step hB13 hb
       have hd14 := hd_.trans hd13
       have hOo0_10_14 : wo7.heap.size ≤ wo14.heap.size := Nat.le_trans hOo0_10_13 hb.size
       have hOo1_15_14 : wo11.heap.size ≤ wo14.heap.size := Nat.le_trans hOo1_15_13 hb.size
       clear hv hs hd_ hb hB13 hn13 hd13 hOo0_10_13 hOo1_15_13 g13_0 g13_3 g13_10 g13_11 g13_12 g13_16 g13_18
       show Code.wp _ _ _ _ _
       refine wp_cond_false (show ac14.eval (Operand.tmp 92) = .bool false from g14_92) ?_
       refine wp_exit ?_
       show Code.wp _ _ _ _ _
       refine wp_seq ?_
       refine wp_seq ?_
       refine Reg.plain (T := T18) (D := D18) (n := 144) (by kernel_rfl) hn14 (told [Pv.fx (wo11.heap.size) (Kd.int .u8) (y16_1), pI (wrap64 (Int.tmod (wrap64 (a2)) ((64 : Int)) + (1 : Int))), pT, pF, pF, Pv.own (wo11.heap.size) 5 (Kd.int .u8) (y18_2), pI (wrap64 (Int.tmod (wrap64 (a2)) ((64 : Int)) + (1 : Int))), pT, pF, pF, pF, Pv.fx (wo11.heap.size) (Kd.int .u8) (t1), Pv.is (.int .u8 (a3)), pI (wrap64 (a3)), pI (wrap64 (Int.tmod (wrap64 (a2)) ((64 : Int)) + (1 : Int))), pI (Int.tmod (wrap64 (a3)) (wrap64 (Int.tmod (wrap64 (a2)) ((64 : Int)) + (1 : Int)))), pI (wrap64 (Int.tmod (wrap64 (a3)) (wrap64 (Int.tmod (wrap64 (a2)) ((64 : Int)) + (1 : Int))) + (1 : Int))), pT, pF, pF]) (told_pst _) (owedS (owedS (owedS (owedS (owedS (owedS (owedS (owedS (owedS (owedS (owedS (owedS (owedS (owedS (owedS (owedS (owedS (owedS (owedS (owedS owed0 ?s0) ?s1) ?s2) ?s3) ?s4) ?s5) ?s6) ?s7) ?s8) ?s9) ?s10) ?s11) ?s12) ?s13) ?s14) ?s15) ?s16) ?s17) ?s18) ?s19) ?_
       case s0 =>
        intro b w1 hb hp hu
        have x16 : (Pv.fx (wo11.heap.size) (Kd.int .u8) (y16_1)).V (get b 16) w1 := Pv.keep _ g14_16 (hu 16 (by kernel_rfl)) hb
        exact st_move rfl (want0 rfl _) rfl x16
       case s1 =>
        intro b w1 hb hp hu
        have x11 : (pI (wrap64 (Int.tmod (wrap64 (a2)) ((64 : Int)) + (1 : Int)))).V (get b 11) w1 := Pv.keep _ g14_11 (hu 11 (by kernel_rfl)) hb
        exact st_move rfl (want0 rfl _) rfl x11
       case s2 =>
        intro b w1 hb hp hu
        have x96 : (Pv.fx (wo11.heap.size) (Kd.int .u8) (y16_1)).V (get b 96) w1 := hp 0 96 (by kernel_rfl) rfl
        obtain ⟨B0, d0, e0_, hC0, hl0⟩ := (Pv.fx_sl x96)
        have e0 : b.eval (Operand.tmp 96) = .slice B0 (y16_1).length d0 := e0_
        have x97 : (pI (wrap64 (Int.tmod (wrap64 (a2)) ((64 : Int)) + (1 : Int)))).V (get b 97) w1 := hp 1 97 (by kernel_rfl) rfl
        have e1 : b.eval (Operand.tmp 97) = .int .i64 (wrap64 (Int.tmod (wrap64 (a2)) ((64 : Int)) + (1 : Int))) := x97
        refine st_call rfl (want0 rfl _) rfl Try.func31 (by kernel_rfl) rfl #[.slice B0 (y16_1).length d0, .int .i64 (wrap64 (Int.tmod (wrap64 (a2)) ((64 : Int)) + (1 : Int)))] (by simp only [List.map_toArray, List.map_cons, List.map_nil, e0, e1]) ?_
        refine (solomon_Fine.calls k B0 d0 _ _ _ w1 hC0 hl0 H2_1).mono ?_
        rintro e w2 ⟨rfl, hb2⟩
        exact ⟨_, rfl, (show (Pv.is (.bool true)).V (.bool t2_1) w2 from by rw [c2_1]; first | done | exact rfl), hb2⟩
       case s3 =>
        intro b w1 hb hp hu
        have x98 : (pT).V (get b 98) w1 := hp 2 98 (by kernel_rfl) rfl
        exact st_un (v := .bool false) (vx := .bool true) rfl (want0 rfl _) rfl x98 (by first | rfl | (go_simp; first | done | rfl | (simp only [i64_w, i32_w]; done))) rfl
       case s4 =>
        intro b w1 hb hp hu
        have x99 : (pF).V (get b 99) w1 := hp 3 99 (by kernel_rfl) rfl
        exact st_move rfl (want0 rfl _) rfl x99
       case s5 =>
        intro b w1 hb hp hu
        have x100 : (pF).V (get b 100) w1 := hp 4 100 (by kernel_rfl) rfl
        have x18 : (Pv.own (wo11.heap.size) 5 (Kd.int .u8) (y18_2)).V (get b 18) w1 := Pv.keep _ g14_18 (hu 18 (by kernel_rfl)) hb
        exact st_move rfl ((want_is (N := 100) rfl rfl x100).trans rfl) rfl x18
       case s6 =>
        intro b w1 hb hp hu
        have x100 : (pF).V (get b 100) w1 := hp 4 100 (by kernel_rfl) rfl
        have x11 : (pI (wrap64 (Int.tmod (wrap64 (a2)) ((64 : Int)) + (1 : Int)))).V (get b 11) w1 := Pv.keep _ g14_11 (hu 11 (by kernel_rfl)) hb
        exact st_move rfl ((want_is (N := 100) rfl rfl x100).trans rfl) rfl x11
       case s7 =>
        intro b w1 hb hp hu
        have x100 : (pF).V (get b 100) w1 := hp 4 100 (by kernel_rfl) rfl
        have x101 : (Pv.own (wo11.heap.size) 5 (Kd.int .u8) (y18_2)).V (get b 101) w1 := hp 5 101 (by kernel_rfl) rfl
        obtain ⟨B0, d0, e0_, hC0, hl0⟩ := (Pv.own_sl x101)
        have e0 : b.eval (Operand.tmp 101) = .slice B0 (y18_2).length d0 := e0_
        have x102 : (pI (wrap64 (Int.tmod (wrap64 (a2)) ((64 : Int)) + (1 : Int)))).V (get b 102) w1 := hp 6 102 (by kernel_rfl) rfl
        have e1 : b.eval (Operand.tmp 102) = .int .i64 (wrap64 (Int.tmod (wrap64 (a2)) ((64 : Int)) + (1 : Int))) := x102
        refine st_call rfl ((want_is (N := 100) rfl rfl x100).trans rfl) rfl Try.func31 (by kernel_rfl) rfl #[.slice B0 (y18_2).length d0, .int .i64 (wrap64 (Int.tmod (wrap64 (a2)) ((64 : Int)) + (1 : Int)))] (by simp only [List.map_toArray, List.map_cons, List.map_nil, e0, e1]) ?_
        refine (solomon_Fine.calls k B0 d0 _ _ _ w1 hC0 hl0 H2_2).mono ?_
        rintro e w2 ⟨rfl, hb2⟩
        exact ⟨_, rfl, (show (Pv.is (.bool true)).V (.bool t2_2) w2 from by rw [c2_2]; first | done | exact rfl), hb2⟩
       case s8 =>
        intro b w1 hb hp hu
        have x100 : (pF).V (get b 100) w1 := hp 4 100 (by kernel_rfl) rfl
        have x103 : (pT).V (get b 103) w1 := hp 7 103 (by kernel_rfl) rfl
        exact st_un (v := .bool false) (vx := .bool true) rfl ((want_is (N := 100) rfl rfl x100).trans rfl) rfl x103 (by first | rfl | (go_simp; first | done | rfl | (simp only [i64_w, i32_w]; done))) rfl
       case s9 =>
        intro b w1 hb hp hu
        have x100 : (pF).V (get b 100) w1 := hp 4 100 (by kernel_rfl) rfl
        have x104 : (pF).V (get b 104) w1 := hp 8 104 (by kernel_rfl) rfl
        exact st_pick (b := false) rfl (want0 rfl _) rfl x100 x104
       case s10 =>
        intro b w1 hb hp hu
        have x105 : (pF).V (get b 105) w1 := hp 9 105 (by kernel_rfl) rfl
        exact st_move rfl (want0 rfl _) rfl x105
       case s11 =>
        intro b w1 hb hp hu
        have x106 : (pF).V (get b 106) w1 := hp 10 106 (by kernel_rfl) rfl
        have x12 : (Pv.fx (wo11.heap.size) (Kd.int .u8) (t1)).V (get b 12) w1 := Pv.keep _ g14_12 (hu 12 (by kernel_rfl)) hb
        exact st_move rfl ((want_is (N := 106) rfl rfl x106).trans rfl) rfl x12
       case s12 =>
        intro b w1 hb hp hu
        have x106 : (pF).V (get b 106) w1 := hp 10 106 (by kernel_rfl) rfl
        have x3 : (Pv.is (.int .u8 (a3))).V (get b 3) w1 := Pv.keep _ g14_3 (hu 3 (by kernel_rfl)) hb
        exact st_move rfl ((want_is (N := 106) rfl rfl x106).trans rfl) rfl x3
       case s13 =>
        intro b w1 hb hp hu
        have x106 : (pF).V (get b 106) w1 := hp 10 106 (by kernel_rfl) rfl
        have x108 : (Pv.is (.int .u8 (a3))).V (get b 108) w1 := hp 12 108 (by kernel_rfl) rfl
        exact st_conv64 Try.underlying5 Try.underlying3 rfl ((want_is (N := 106) rfl rfl x106).trans rfl) rfl x108
       case s14 =>
        intro b w1 hb hp hu
        have x106 : (pF).V (get b 106) w1 := hp 10 106 (by kernel_rfl) rfl
        have x11 : (pI (wrap64 (Int.tmod (wrap64 (a2)) ((64 : Int)) + (1 : Int)))).V (get b 11) w1 := Pv.keep _ g14_11 (hu 11 (by kernel_rfl)) hb
        exact st_move rfl ((want_is (N := 106) rfl rfl x106).trans rfl) rfl x11
       case s15 =>
        intro b w1 hb hp hu
        have x106 : (pF).V (get b 106) w1 := hp 10 106 (by kernel_rfl) rfl
        have x109 : (pI (wrap64 (a3))).V (get b 109) w1 := hp 13 109 (by kernel_rfl) rfl
        have x110 : (pI (wrap64 (Int.tmod (wrap64 (a2)) ((64 : Int)) + (1 : Int)))).V (get b 110) w1 := hp 14 110 (by kernel_rfl) rfl
        exact st_rem rfl ((want_is (N := 106) rfl rfl x106).trans rfl) rfl x109 x110 c2_3
       case s16 =>
        intro b w1 hb hp hu
        have x106 : (pF).V (get b 106) w1 := hp 10 106 (by kernel_rfl) rfl
        have x111 : (pI (Int.tmod (wrap64 (a3)) (wrap64 (Int.tmod (wrap64 (a2)) ((64 : Int)) + (1 : Int))))).V (get b 111) w1 := hp 15 111 (by kernel_rfl) rfl
        exact st_bin (v := .int .i64 (wrap64 (Int.tmod (wrap64 (a3)) (wrap64 (Int.tmod (wrap64 (a2)) ((64 : Int)) + (1 : Int))) + (1 : Int)))) (vx := .int .i64 (Int.tmod (wrap64 (a3)) (wrap64 (Int.tmod (wrap64 (a2)) ((64 : Int)) + (1 : Int))))) (vy := .int .i64 ((1 : Int))) rfl ((want_is (N := 106) rfl rfl x106).trans rfl) rfl x111 rfl (by first | rfl | (go_simp; first | done | rfl | (simp only [i64_w, i32_w]; done))) rfl
       case s17 =>
        intro b w1 hb hp hu
        have x106 : (pF).V (get b 106) w1 := hp 10 106 (by kernel_rfl) rfl
        have x107 : (Pv.fx (wo11.heap.size) (Kd.int .u8) (t1)).V (get b 107) w1 := hp 11 107 (by kernel_rfl) rfl
        obtain ⟨B0, d0, e0_, hC0, hl0⟩ := (Pv.fx_sl x107)
        have e0 : b.eval (Operand.tmp 107) = .slice B0 (t1).length d0 := e0_
        have x112 : (pI (wrap64 (Int.tmod (wrap64 (a3)) (wrap64 (Int.tmod (wrap64 (a2)) ((64 : Int)) + (1 : Int))) + (1 : Int)))).V (get b 112) w1 := hp 16 112 (by kernel_rfl) rfl
        have e1 : b.eval (Operand.tmp 112) = .int .i64 (wrap64 (Int.tmod (wrap64 (a3)) (wrap64 (Int.tmod (wrap64 (a2)) ((64 : Int)) + (1 : Int))) + (1 : Int))) := x112
        refine st_call rfl ((want_is (N := 106) rfl rfl x106).trans rfl) rfl Try.func31 (by kernel_rfl) rfl #[.slice B0 (t1).length d0, .int .i64 (wrap64 (Int.tmod (wrap64 (a3)) (wrap64 (Int.tmod (wrap64 (a2)) ((64 : Int)) + (1 : Int))) + (1 : Int)))] (by simp only [List.map_toArray, List.map_cons, List.map_nil, e0, e1]) ?_
        refine (solomon_Fine.calls k B0 d0 _ _ _ w1 hC0 hl0 H2_3).mono ?_
        rintro e w2 ⟨rfl, hb2⟩
        exact ⟨_, rfl, (show (Pv.is (.bool true)).V (.bool t2_3) w2 from by rw [c2_4]; first | done | exact rfl), hb2⟩
       case s18 =>
        intro b w1 hb hp hu
        have x106 : (pF).V (get b 106) w1 := hp 10 106 (by kernel_rfl) rfl
        have x113 : (pT).V (get b 113) w1 := hp 17 113 (by kernel_rfl) rfl
        exact st_un (v := .bool false) (vx := .bool true) rfl ((want_is (N := 106) rfl rfl x106).trans rfl) rfl x113 (by first | rfl | (go_simp; first | done | rfl | (simp only [i64_w, i32_w]; done))) rfl
       case s19 =>
        intro b w1 hb hp hu
        have x106 : (pF).V (get b 106) w1 := hp 10 106 (by kernel_rfl) rfl
        have x114 : (pF).V (get b 114) w1 := hp 18 114 (by kernel_rfl) rfl
        exact st_pick (b := false) rfl (want0 rfl _) rfl x106 x114
       intro ac15 wo15 hn15 hd_ hb hv hs
       have g15_115 : (pF).V (get ac15 115) wo15 := hv 19 115 rfl
       have g15_0 : (Pv.fx (wo11.heap.size) (Kd.int .u8) (l0)).V (get ac15 0) wo15 := Pv.keep _ g14_0 (hs 0 rfl) hb
       have g15_10 : (pF).V (get ac15 10) wo15 := Pv.keep _ g14_10 (hs 10 rfl) hb
       have g15_11 : (pI (wrap64 (Int.tmod (wrap64 (a2)) ((64 : Int)) + (1 : Int)))).V (get ac15 11) wo15 := Pv.keep _ g14_11 (hs 11 rfl) hb
       have hB15 := below_step hB14 hb
       have hd15 := hd_.trans hd14
       have hOo0_10_15 : wo7.heap.size ≤ wo15.heap.size := Nat.le_trans hOo0_10_14 hb.size
       have hOo1_15_15 : wo11.heap.size ≤ wo15.heap.size := Nat.le_trans hOo1_15_14 hb.size
       clear hv hs hd_ hb hB14 hn14 hd14 hOo0_10_14 hOo1_15_14 g14_92 g14_0 g14_3 g14_10 g14_11 g14_12 g14_16 g14_18
       show Code.wp _ _ _ _ _
       refine wp_cond_false (show ac15.eval (Operand.tmp 115) = .bool false from g15_115) ?_
       refine wp_skip ?_
       show Code.wp _ _ _ _ _
       refine wp_seq ?_
       refine wp_seq ?_
       obtain ⟨hy, hn⟩ := h
       by_cases c2_5 : ((l0).length : Int) < wrap64 (Int.tmod (wrap64 (a2)) ((64 : Int)) + (1 : Int))
       ·have h := hy c2_5
        clear hy hn
        refine Reg.plain (T := T20) (D := D20) (n := 144) (by kernel_rfl) hn15 (told [Pv.fx (wo11.heap.size) (Kd.int .u8) (l0), pI (((l0).length : Int)), pI (wrap64 (Int.tmod (wrap64 (a2)) ((64 : Int)) + (1 : Int))), pT]) (told_pst _) (owedS (owedS (owedS (owedS owed0 ?s0) ?s1) ?s2) ?s3) ?_
        case s0 =>
         intro b w1 hb hp hu
         have x0 : (Pv.fx (wo11.heap.size) (Kd.int .u8) (l0)).V (get b 0) w1 := Pv.keep _ g15_0 (hu 0 (by kernel_rfl)) hb
         exact st_move rfl (want0 rfl _) rfl x0
        case s1 =>
         intro b w1 hb hp hu
         have x116 : (Pv.fx (wo11.heap.size) (Kd.int .u8) (l0)).V (get b 116) w1 := hp 0 116 (by kernel_rfl) rfl
         obtain ⟨A_, c_, e_, _, _⟩ := (Pv.fx_sl x116)
         exact st_len rfl (want0 rfl _) rfl Try.underlying22 e_ rfl
        case s2 =>
         intro b w1 hb hp hu
         have x11 : (pI (wrap64 (Int.tmod (wrap64 (a2)) ((64 : Int)) + (1 : Int)))).V (get b 11) w1 := Pv.keep _ g15_11 (hu 11 (by kernel_rfl)) hb
         exact st_move rfl (want0 rfl _) rfl x11
        case s3 =>
         intro b w1 hb hp hu
         have x117 : (pI (((l0).length : Int))).V (get b 117) w1 := hp 1 117 (by kernel_rfl) rfl
         have x118 : (pI (wrap64 (Int.tmod (wrap64 (a2)) ((64 : Int)) + (1 : Int)))).V (get b 118) w1 := hp 2 118 (by kernel_rfl) rfl
         exact st_lss (b := true) (κ := .i64) (m := (((l0).length : Int))) (n := (wrap64 (Int.tmod (wrap64 (a2)) ((64 : Int)) + (1 : Int)))) rfl (want0 rfl _) rfl x117 x118 (decide_eq_true c2_5)
        intro ac16 wo16 hn16 hd_ hb hv hs
        have g16_119 : (pT).V (get ac16 119) wo16 := hv 3 119 rfl
        have g16_10 : (pF).V (get ac16 10) wo16 := Pv.keep _ g15_10 (hs 10 rfl) hb
        have hB16 := below_step hB15 hb
        have hd16 := hd_.trans hd15
        have hOo0_10_16 : wo7.heap.size ≤ wo16.heap.size := Nat.le_trans hOo0_10_15 hb.size
        have hOo1_15_16 : wo11.heap.size ≤ wo16.heap.size := Nat.le_trans hOo1_15_15 hb.size
        clear hv hs hd_ hb hB15 hn15 hd15 hOo0_10_15 hOo1_15_15 g15_115 g15_0 g15_10 g15_11
        show Code.wp _ _ _ _ _
        refine wp_cond_true (show ac16.eval (Operand.tmp 119) = .bool true from g16_119) ?_
        refine wp_seq ?_
        refine Reg.plain (T := T21) (D := D21) (n := 144) (by kernel_rfl) hn16 (told [pT]) (told_pst _) (owedS owed0 ?s0) ?_
        case s0 =>
         intro b w1 hb hp hu
         exact st_assign rfl (want0 rfl _) rfl rfl
        intro ac17 wo17 hn17 hd_ hb hv hs
        have g17_10 : (pT).V (get ac17 10) wo17 := hv 0 10 rfl
        have hB17 := below_step hB16 hb
        have hd17 := hd_.trans hd16
        have hOo0_10_17 : wo7.heap.size ≤ wo17.heap.size := Nat.le_trans hOo0_10_16 hb.size
        have hOo1_15_17 : wo11.heap.size ≤ wo17.heap.size := Nat.le_trans hOo1_15_16 hb.size
        clear hv hs hd_ hb hB16 hn16 hd16 hOo0_10_16 hOo1_15_16 g16_119 g16_10
        show Code.wp _ _ _ _ _
        refine wp_ret ?_
        repeat (first | refine then_ret ?_ | refine inb_ret ?_)
        exact back_is rfl hd17 g17_10 ⟨rfl, hB17⟩
       ·have h := hn c2_5
        clear hy hn
        obtain ⟨c2_6, h⟩ := h
        obtain ⟨c2_7, h⟩ := h
        obtain ⟨t2_4, t2_5, H2_4, h⟩ := h
        obtain ⟨c2_8, h⟩ := h
        obtain ⟨t2_6, H2_5, h⟩ := h
        refine Reg.plain (T := T20) (D := D20) (n := 144) (by kernel_rfl) hn15 (told [Pv.fx (wo11.heap.size) (Kd.int .u8) (l0), pI (((l0).length : Int)), pI (wrap64 (Int.tmod (wrap64 (a2)) ((64 : Int)) + (1 : Int))), pF]) (told_pst _) (owedS (owedS (owedS (owedS owed0 ?s0) ?s1) ?s2) ?s3) ?_
        case s0 =>
         intro b w1 hb hp hu
         have x0 : (Pv.fx (wo11.heap.size) (Kd.int .u8) (l0)).V (get b 0) w1 := Pv.keep _ g15_0 (hu 0 (by kernel_rfl)) hb
         exact st_move rfl (want0 rfl _) rfl x0
        case s1 =>
         intro b w1 hb hp hu
         have x116 : (Pv.fx (wo11.heap.size) (Kd.int .u8) (l0)).V (get b 116) w1 := hp 0 116 (by kernel_rfl) rfl
         obtain ⟨A_, c_, e_, _, _⟩ := (Pv.fx_sl x116)
         exact st_len rfl (want0 rfl _) rfl Try.underlying22 e_ rfl
        case s2 =>
         intro b w1 hb hp hu
         have x11 : (pI (wrap64 (Int.tmod (wrap64 (a2)) ((64 : Int)) + (1 : Int)))).V (get b 11) w1 := Pv.keep _ g15_11 (hu 11 (by kernel_rfl)) hb
         exact st_move rfl (want0 rfl _) rfl x11
        case s3 =>
         intro b w1 hb hp hu
         have x117 : (pI (((l0).length : Int))).V (get b 117) w1 := hp 1 117 (by kernel_rfl) rfl
         have x118 : (pI (wrap64 (Int.tmod (wrap64 (a2)) ((64 : Int)) + (1 : Int)))).V (get b 118) w1 := hp 2 118 (by kernel_rfl) rfl
         exact st_lss (b := false) (κ := .i64) (m := (((l0).length : Int))) (n := (wrap64 (Int.tmod (wrap64 (a2)) ((64 : Int)) + (1 : Int)))) rfl (want0 rfl _) rfl x117 x118 (decide_eq_false c2_5)
        intro ac16 wo16 hn16 hd_ hb hv hs
        have g16_119 : (pF).V (get ac16 119) wo16 := hv 3 119 rfl
        have g16_0 : (Pv.fx (wo11.heap.size) (Kd.int .u8) (l0)).V (get ac16 0) wo16 := Pv.keep _ g15_0 (hs 0 rfl) hb
        have g16_10 : (pF).V (get ac16 10) wo16 := Pv.keep _ g15_10 (hs 10 rfl) hb
        have g16_11 : (pI (wrap64 (Int.tmod (wrap64 (a2)) ((64 : Int)) + (1 : Int)))).V (get ac16 11) wo16 := Pv.keep _ g15_11 (hs 11 rfl) hb
        have hB16 := below_step hB15 hb
        have hd16 := hd_.trans hd15
        have hOo0_10_16 : wo7.heap.size ≤ wo16.heap.size := Nat.le_trans hOo0_10_15 hb.size
        have hOo1_15_16 : wo11.heap.size ≤ wo16.heap.size := Nat.le_trans hOo1_15_15 hb.size
        clear hv hs hd_ hb hB15 hn15 hd15 hOo0_10_15 hOo1_15_15 g15_115 g15_0 g15_10 g15_11
        show Code.wp _ _ _ _ _
        refine wp_cond_false (show ac16.eval (Operand.tmp 119) = .bool false from g16_119) ?_
        refine wp_skip ?_
        show Code.wp _ _ _ _ _
        refine wp_seq ?_
        refine Reg.plain (T := T22) (D := D22) (n := 144) (by kernel_rfl) hn16 (told [Pv.fx (wo11.heap.size) (Kd.int .u8) (l0), Pv.fx (wo11.heap.size) (Kd.int .u8) (l0), pI (((l0).length : Int)), pI (wrap64 (Int.tmod (wrap64 (a2)) ((64 : Int)) + (1 : Int))), pI (wrap64 (((l0).length : Int) - wrap64 (Int.tmod (wrap64 (a2)) ((64 : Int)) + (1 : Int)))), pB ((l0).take (wrap64 (((l0).length : Int) - wrap64 (Int.tmod (wrap64 (a2)) ((64 : Int)) + (1 : Int))) : Int).toNat), pI (wrap64 (Int.tmod (wrap64 (a2)) ((64 : Int)) + (1 : Int))), Pv.tup [pB (t2_4), pI (t2_5)], Pv.tup [pB (t2_4), pI (t2_5)], pB (t2_4), pI (t2_5), pB (t2_4), pI (t2_5)]) (told_pst _) (owedS (owedS (owedS (owedS (owedS (owedS (owedS (owedS (owedS (owedS (owedS (owedS (owedS owed0 ?s0) ?s1) ?s2) ?s3) ?s4) ?s5) ?s6) ?s7) ?s8) ?s9) ?s10) ?s11) ?s12) ?_
        case s0 =>
         intro b w1 hb hp hu
         have x0 : (Pv.fx (wo11.heap.size) (Kd.int .u8) (l0)).V (get b 0) w1 := Pv.keep _ g16_0 (hu 0 (by kernel_rfl)) hb
         exact st_move rfl (want0 rfl _) rfl x0
        case s1 =>
         intro b w1 hb hp hu
         have x0 : (Pv.fx (wo11.heap.size) (Kd.int .u8) (l0)).V (get b 0) w1 := Pv.keep _ g16_0 (hu 0 (by kernel_rfl)) hb
         exact st_move rfl (want0 rfl _) rfl x0
        case s2 =>
         intro b w1 hb hp hu
         have x122 : (Pv.fx (wo11.heap.size) (Kd.int .u8) (l0)).V (get b 122) w1 := hp 1 122 (by kernel_rfl) rfl
         obtain ⟨A_, c_, e_, _, _⟩ := (Pv.fx_sl x122)
         exact st_len rfl (want0 rfl _) rfl Try.underlying22 e_ rfl
        case s3 =>
         intro b w1 hb hp hu
         have x11 : (pI (wrap64 (Int.tmod (wrap64 (a2)) ((64 : Int)) + (1 : Int)))).V (get b 11) w1 := Pv.keep _ g16_11 (hu 11 (by kernel_rfl)) hb
         exact st_move rfl (want0 rfl _) rfl x11
        case s4 =>
         intro b w1 hb hp hu
         have x123 : (pI (((l0).length : Int))).V (get b 123) w1 := hp 2 123 (by kernel_rfl) rfl
         have x124 : (pI (wrap64 (Int.tmod (wrap64 (a2)) ((64 : Int)) + (1 : Int)))).V (get b 124) w1 := hp 3 124 (by kernel_rfl) rfl
         exact st_bin (v := .int .i64 (wrap64 (((l0).length : Int) - wrap64 (Int.tmod (wrap64 (a2)) ((64 : Int)) + (1 : Int))))) (vx := .int .i64 (((l0).length : Int))) (vy := .int .i64 (wrap64 (Int.tmod (wrap64 (a2)) ((64 : Int)) + (1 : Int)))) rfl (want0 rfl _) rfl x123 x124 (by first | rfl | (go_simp; first | done | rfl | (simp only [i64_w, i32_w]; done))) rfl
        case s5 =>
         intro b w1 hb hp hu
         have x121 : (Pv.fx (wo11.heap.size) (Kd.int .u8) (l0)).V (get b 121) w1 := hp 0 121 (by kernel_rfl) rfl
         have x125 : (pI (wrap64 (((l0).length : Int) - wrap64 (Int.tmod (wrap64 (a2)) ((64 : Int)) + (1 : Int))))).V (get b 125) w1 := hp 4 125 (by kernel_rfl) rfl
         exact st_take Try.underlying22 info5 rfl (want0 rfl _) rfl (Pv.fx_sl x121) x125 c2_6 c2_7
        case s6 =>
         intro b w1 hb hp hu
         have x11 : (pI (wrap64 (Int.tmod (wrap64 (a2)) ((64 : Int)) + (1 : Int)))).V (get b 11) w1 := Pv.keep _ g16_11 (hu 11 (by kernel_rfl)) hb
         exact st_move rfl (want0 rfl _) rfl x11
        case s7 =>
         intro b w1 hb hp hu
         have x126 : (pB ((l0).take (wrap64 (((l0).length : Int) - wrap64 (Int.tmod (wrap64 (a2)) ((64 : Int)) + (1 : Int))) : Int).toNat)).V (get b 126) w1 := hp 5 126 (by kernel_rfl) rfl
         obtain ⟨B0, d0, e0_, hC0, hl0⟩ := x126
         have e0 : b.eval (Operand.tmp 126) = .slice B0 ((l0).take (wrap64 (((l0).length : Int) - wrap64 (Int.tmod (wrap64 (a2)) ((64 : Int)) + (1 : Int))) : Int).toNat).length d0 := e0_
         have x127 : (pI (wrap64 (Int.tmod (wrap64 (a2)) ((64 : Int)) + (1 : Int)))).V (get b 127) w1 := hp 6 127 (by kernel_rfl) rfl
         have e1 : b.eval (Operand.tmp 127) = .int .i64 (wrap64 (Int.tmod (wrap64 (a2)) ((64 : Int)) + (1 : Int))) := x127
         refine st_call rfl (want0 rfl _) rfl Try.func29 (by kernel_rfl) rfl #[.slice B0 ((l0).take (wrap64 (((l0).length : Int) - wrap64 (Int.tmod (wrap64 (a2)) ((64 : Int)) + (1 : Int))) : Int).toNat).length d0, .int .i64 (wrap64 (Int.tmod (wrap64 (a2)) ((64 : Int)) + (1 : Int)))] (by simp only [List.map_toArray, List.map_cons, List.map_nil, e0, e1]) ?_
         refine (solomon_Put.callsC k B0 d0 _ _ _ _ w1 hC0 hl0 H2_4).mono ?_
         rintro e w2 ⟨v0_, rfl, ho0, hb2⟩
         exact ⟨_, rfl, ⟨[_, _], rfl, Pv.of_sl ho0, rfl, trivial⟩, hb2⟩
        case s8 =>
         intro b w1 hb hp hu
         have x128 : (Pv.tup [pB (t2_4), pI (t2_5)]).V (get b 128) w1 := hp 7 128 (by kernel_rfl) rfl
         exact st_move rfl (want0 rfl _) rfl x128
        case s9 =>
         intro b w1 hb hp hu
         have x120 : (Pv.tup [pB (t2_4), pI (t2_5)]).V (get b 120) w1 := hp 8 120 (by kernel_rfl) rfl
         exact st_extract rfl (want0 rfl _) rfl x120 rfl (fun _ h => h)
        case s10 =>
         intro b w1 hb hp hu
         have x120 : (Pv.tup [pB (t2_4), pI (t2_5)]).V (get b 120) w1 := hp 8 120 (by kernel_rfl) rfl
         exact st_extract rfl (want0 rfl _) rfl x120 rfl (fun _ h => h)
        case s11 =>
         intro b w1 hb hp hu
         have x129 : (pB (t2_4)).V (get b 129) w1 := hp 9 129 (by kernel_rfl) rfl
         exact st_assign rfl (want0 rfl _) rfl x129
        case s12 =>
         intro b w1 hb hp hu
         have x130 : (pI (t2_5)).V (get b 130) w1 := hp 10 130 (by kernel_rfl) rfl
         exact st_assign rfl (want0 rfl _) rfl x130
        intro ac17 wo17 hn17 hd_ hb hv hs
        have g17_19 : (pB (t2_4)).V (get ac17 19) wo17 := hv 11 19 rfl
        have g17_20 : (pI (t2_5)).V (get ac17 20) wo17 := hv 12 20 rfl
        have g17_0 : (Pv.fx (wo11.heap.size) (Kd.int .u8) (l0)).V (get ac17 0) wo17 := Pv.keep _ g16_0 (hs 0 rfl) hb
        have g17_10 : (pF).V (get ac17 10) wo17 := Pv.keep _ g16_10 (hs 10 rfl) hb
        have g17_11 : (pI (wrap64 (Int.tmod (wrap64 (a2)) ((64 : Int)) + (1 : Int)))).V (get ac17 11) wo17 := Pv.keep _ g16_11 (hs 11 rfl) hb
        have hB17 := below_step hB16 hb
        have hd17 := hd_.trans hd16
        have hOo0_10_17 : wo7.heap.size ≤ wo17.heap.size := Nat.le_trans hOo0_10_16 hb.size
        have hOo1_15_17 : wo11.heap.size ≤ wo17.heap.size := Nat.le_trans hOo1_15_16 hb.size
        clear hv hs hd_ hb hB16 hn16 hd16 hOo0_10_16 hOo1_15_16 g16_119 g16_0 g16_10 g16_11
        show Code.wp _ _ _ _ _
        refine wp_seq ?_
        obtain ⟨hy, hn⟩ := h
        by_cases c2_9 : t2_6 = true
        ·have h := hy c2_9
         clear hy hn
         obtain ⟨c2_10, h⟩ := h
         refine Reg.draws (T := T23) (D := D23) (n := 144) rfl (by kernel_rfl) hn17 (told [pI (t2_5), pT, pT, Pv.fx (wo11.heap.size) (Kd.int .u8) (l0), pI (wrap64 (Int.tmod (wrap64 (a2)) ((64 : Int)) + (1 : Int))), pT, pB (t2_4), Pv.is (.string (strOfNums (t2_4))), Pv.fx (wo11.heap.size) (Kd.int .u8) (l0), Pv.is (.string (strOfNums (l0))), pT, pT, pT, pT]) (told_pst _) (owedS (owedS (owedS (owedS (owedS (owedS (owedS (owedS (owedS (owedS (owedS (owedS (owedS (owedS owed0 ?s0) ?s1) ?s2) ?s3) ?s4) ?s5) ?s6) ?s7) ?s8) ?s9) ?s10) ?s11) ?s12) ?s13) ?_
         case s0 =>
          intro b w1 hb hp hu
          have x20 : (pI (t2_5)).V (get b 20) w1 := Pv.keep _ g17_20 (hu 20 (by kernel_rfl)) hb
          exact st_move rfl (want0 rfl _) rfl x20
         case s1 =>
          intro b w1 hb hp hu
          have x131 : (pI (t2_5)).V (get b 131) w1 := hp 0 131 (by kernel_rfl) rfl
          exact st_eql (b := true) (κ := .i64) (m := t2_5) (n := ((0 : Int))) rfl (want0 rfl _) rfl x131 rfl (decide_eq_true c2_8)
         case s2 =>
          intro b w1 hb hp hu
          have x132 : (pT).V (get b 132) w1 := hp 1 132 (by kernel_rfl) rfl
          exact st_move rfl (want0 rfl _) rfl x132
         case s3 =>
          intro b w1 hb hp hu
          have x133 : (pT).V (get b 133) w1 := hp 2 133 (by kernel_rfl) rfl
          have x0 : (Pv.fx (wo11.heap.size) (Kd.int .u8) (l0)).V (get b 0) w1 := Pv.keep _ g17_0 (hu 0 (by kernel_rfl)) hb
          exact st_move rfl ((want_is (N := 133) rfl rfl x133).trans rfl) rfl x0
         case s4 =>
          intro b w1 hb hp hu
          have x133 : (pT).V (get b 133) w1 := hp 2 133 (by kernel_rfl) rfl
          have x11 : (pI (wrap64 (Int.tmod (wrap64 (a2)) ((64 : Int)) + (1 : Int)))).V (get b 11) w1 := Pv.keep _ g17_11 (hu 11 (by kernel_rfl)) hb
          exact st_move rfl ((want_is (N := 133) rfl rfl x133).trans rfl) rfl x11
         case s5 =>
          intro b w1 hb hp hu
          have x133 : (pT).V (get b 133) w1 := hp 2 133 (by kernel_rfl) rfl
          have x134 : (Pv.fx (wo11.heap.size) (Kd.int .u8) (l0)).V (get b 134) w1 := hp 3 134 (by kernel_rfl) rfl
          obtain ⟨B0, d0, e0_, hC0, hl0⟩ := (Pv.fx_sl x134)
          have e0 : b.eval (Operand.tmp 134) = .slice B0 (l0).length d0 := e0_
          have x135 : (pI (wrap64 (Int.tmod (wrap64 (a2)) ((64 : Int)) + (1 : Int)))).V (get b 135) w1 := hp 4 135 (by kernel_rfl) rfl
          have e1 : b.eval (Operand.tmp 135) = .int .i64 (wrap64 (Int.tmod (wrap64 (a2)) ((64 : Int)) + (1 : Int))) := x135
          refine st_call rfl ((want_is (N := 133) rfl rfl x133).trans rfl) rfl Try.func31 (by kernel_rfl) rfl #[.slice B0 (l0).length d0, .int .i64 (wrap64 (Int.tmod (wrap64 (a2)) ((64 : Int)) + (1 : Int)))] (by simp only [List.map_toArray, List.map_cons, List.map_nil, e0, e1]) ?_
          refine (solomon_Fine.calls k B0 d0 _ _ _ w1 hC0 hl0 H2_5).mono ?_
          rintro e w2 ⟨rfl, hb2⟩
          exact ⟨_, rfl, (show (Pv.is (.bool true)).V (.bool t2_6) w2 from by rw [c2_9]; first | done | exact rfl), hb2⟩
         case s6 =>
          intro b w1 hb hp hu
          have x133 : (pT).V (get b 133) w1 := hp 2 133 (by kernel_rfl) rfl
          have x19 : (pB (t2_4)).V (get b 19) w1 := Pv.keep _ g17_19 (hu 19 (by kernel_rfl)) hb
          exact st_move rfl ((want_is (N := 133) rfl rfl x133).trans rfl) rfl x19
         case s7 =>
          intro b w1 hb hp hu
          have x133 : (pT).V (get b 133) w1 := hp 2 133 (by kernel_rfl) rfl
          have x137 : (pB (t2_4)).V (get b 137) w1 := hp 6 137 (by kernel_rfl) rfl
          exact st_string Try.underlying22 Try.underlying5 Try.underlying9 rfl ((want_is (N := 133) rfl rfl x133).trans rfl) rfl x137 rfl
         case s8 =>
          intro b w1 hb hp hu
          have x133 : (pT).V (get b 133) w1 := hp 2 133 (by kernel_rfl) rfl
          have x0 : (Pv.fx (wo11.heap.size) (Kd.int .u8) (l0)).V (get b 0) w1 := Pv.keep _ g17_0 (hu 0 (by kernel_rfl)) hb
          exact st_move rfl ((want_is (N := 133) rfl rfl x133).trans rfl) rfl x0
         case s9 =>
          intro b w1 hb hp hu
          have x133 : (pT).V (get b 133) w1 := hp 2 133 (by kernel_rfl) rfl
          have x139 : (Pv.fx (wo11.heap.size) (Kd.int .u8) (l0)).V (get b 139) w1 := hp 8 139 (by kernel_rfl) rfl
          exact st_string Try.underlying22 Try.underlying5 Try.underlying9 rfl ((want_is (N := 133) rfl rfl x133).trans rfl) rfl (Pv.fx_sl x139) rfl
         case s10 =>
          intro b w1 hb hp hu
          have x133 : (pT).V (get b 133) w1 := hp 2 133 (by kernel_rfl) rfl
          have x138 : (Pv.is (.string (strOfNums (t2_4)))).V (get b 138) w1 := hp 7 138 (by kernel_rfl) rfl
          have x140 : (Pv.is (.string (strOfNums (l0)))).V (get b 140) w1 := hp 9 140 (by kernel_rfl) rfl
          exact st_seql (b := true) rfl ((want_is (N := 133) rfl rfl x133).trans rfl) rfl x138 x140 (decide_eq_true c2_10)
         case s11 =>
          intro b w1 hb hp hu
          have x133 : (pT).V (get b 133) w1 := hp 2 133 (by kernel_rfl) rfl
          have x136 : (pT).V (get b 136) w1 := hp 5 136 (by kernel_rfl) rfl
          have x141 : (pT).V (get b 141) w1 := hp 10 141 (by kernel_rfl) rfl
          exact st_bin (v := .bool true) (vx := .bool true) (vy := .bool true) rfl ((want_is (N := 133) rfl rfl x133).trans rfl) rfl x136 x141 (by first | rfl | (go_simp; first | done | rfl | (simp only [i64_w, i32_w]; done))) rfl
         case s12 =>
          intro b w1 hb hp hu
          have x133 : (pT).V (get b 133) w1 := hp 2 133 (by kernel_rfl) rfl
          have x142 : (pT).V (get b 142) w1 := hp 11 142 (by kernel_rfl) rfl
          exact st_pick (b := true) rfl (want0 rfl _) rfl x133 x142
         case s13 =>
          intro b w1 hb hp hu
          have x143 : (pT).V (get b 143) w1 := hp 12 143 (by kernel_rfl) rfl
          exact st_assign rfl (want0 rfl _) rfl x143
         intro ac18 wo18 hn18 hd_ hb hv hs
         have g18_10 : (pT).V (get ac18 10) wo18 := hv 13 10 rfl
         have hB18 := below_step hB17 hb
         have hd18 := hd_.trans hd17
         have hOo0_10_18 : wo7.heap.size ≤ wo18.heap.size := Nat.le_trans hOo0_10_17 hb.size
         have hOo1_15_18 : wo11.heap.size ≤ wo18.heap.size := Nat.le_trans hOo1_15_17 hb.size
         clear hv hs hd_ hb hB17 hn17 hd17 hOo0_10_17 hOo1_15_17 g17_19 g17_20 g17_0 g17_10 g17_11
         show Code.wp _ _ _ _ _
         refine wp_ret ?_
         repeat (first | refine then_ret ?_ | refine inb_ret ?_)
         exact back_is rfl hd18 g18_10 ⟨rfl, hB18⟩
        ·have h := hn c2_9
         clear hy hn
         obtain ⟨c2_10, h⟩ := h
         refine Reg.draws (T := T23) (D := D23) (n := 144) rfl (by kernel_rfl) hn17 (told [pI (t2_5), pT, pT, Pv.fx (wo11.heap.size) (Kd.int .u8) (l0), pI (wrap64 (Int.tmod (wrap64 (a2)) ((64 : Int)) + (1 : Int))), pF, pB (t2_4), Pv.is (.string (strOfNums (t2_4))), Pv.fx (wo11.heap.size) (Kd.int .u8) (l0), Pv.is (.string (strOfNums (l0))), pF, pT, pT, pT]) (told_pst _) (owedS (owedS (owedS (owedS (owedS (owedS (owedS (owedS (owedS (owedS (owedS (owedS (owedS (owedS owed0 ?s0) ?s1) ?s2) ?s3) ?s4) ?s5) ?s6) ?s7) ?s8) ?s9) ?s10) ?s11) ?s12) ?s13) ?_
         case s0 =>
          intro b w1 hb hp hu
          have x20 : (pI (t2_5)).V (get b 20) w1 := Pv.keep _ g17_20 (hu 20 (by kernel_rfl)) hb
          exact st_move rfl (want0 rfl _) rfl x20
         case s1 =>
          intro b w1 hb hp hu
          have x131 : (pI (t2_5)).V (get b 131) w1 := hp 0 131 (by kernel_rfl) rfl
          exact st_eql (b := true) (κ := .i64) (m := t2_5) (n := ((0 : Int))) rfl (want0 rfl _) rfl x131 rfl (decide_eq_true c2_8)
         case s2 =>
          intro b w1 hb hp hu
          have x132 : (pT).V (get b 132) w1 := hp 1 132 (by kernel_rfl) rfl
          exact st_move rfl (want0 rfl _) rfl x132
         case s3 =>
          intro b w1 hb hp hu
          have x133 : (pT).V (get b 133) w1 := hp 2 133 (by kernel_rfl) rfl
          have x0 : (Pv.fx (wo11.heap.size) (Kd.int .u8) (l0)).V (get b 0) w1 := Pv.keep _ g17_0 (hu 0 (by kernel_rfl)) hb
          exact st_move rfl ((want_is (N := 133) rfl rfl x133).trans rfl) rfl x0
         case s4 =>
          intro b w1 hb hp hu
          have x133 : (pT).V (get b 133) w1 := hp 2 133 (by kernel_rfl) rfl
          have x11 : (pI (wrap64 (Int.tmod (wrap64 (a2)) ((64 : Int)) + (1 : Int)))).V (get b 11) w1 := Pv.keep _ g17_11 (hu 11 (by kernel_rfl)) hb
          exact st_move rfl ((want_is (N := 133) rfl rfl x133).trans rfl) rfl x11
         case s5 =>
          intro b w1 hb hp hu
          have x133 : (pT).V (get b 133) w1 := hp 2 133 (by kernel_rfl) rfl
          have x134 : (Pv.fx (wo11.heap.size) (Kd.int .u8) (l0)).V (get b 134) w1 := hp 3 134 (by kernel_rfl) rfl
          obtain ⟨B0, d0, e0_, hC0, hl0⟩ := (Pv.fx_sl x134)
          have e0 : b.eval (Operand.tmp 134) = .slice B0 (l0).length d0 := e0_
          have x135 : (pI (wrap64 (Int.tmod (wrap64 (a2)) ((64 : Int)) + (1 : Int)))).V (get b 135) w1 := hp 4 135 (by kernel_rfl) rfl
          have e1 : b.eval (Operand.tmp 135) = .int .i64 (wrap64 (Int.tmod (wrap64 (a2)) ((64 : Int)) + (1 : Int))) := x135
          refine st_call rfl ((want_is (N := 133) rfl rfl x133).trans rfl) rfl Try.func31 (by kernel_rfl) rfl #[.slice B0 (l0).length d0, .int .i64 (wrap64 (Int.tmod (wrap64 (a2)) ((64 : Int)) + (1 : Int)))] (by simp only [List.map_toArray, List.map_cons, List.map_nil, e0, e1]) ?_
          refine (solomon_Fine.calls k B0 d0 _ _ _ w1 hC0 hl0 H2_5).mono ?_
          rintro e w2 ⟨rfl, hb2⟩
          exact ⟨_, rfl, (show (Pv.is (.bool false)).V (.bool t2_6) w2 from by rw [Bool.eq_false_iff.mpr c2_9]; first | done | exact rfl), hb2⟩
         case s6 =>
          intro b w1 hb hp hu
          have x133 : (pT).V (get b 133) w1 := hp 2 133 (by kernel_rfl) rfl
          have x19 : (pB (t2_4)).V (get b 19) w1 := Pv.keep _ g17_19 (hu 19 (by kernel_rfl)) hb
          exact st_move rfl ((want_is (N := 133) rfl rfl x133).trans rfl) rfl x19
         case s7 =>
          intro b w1 hb hp hu
          have x133 : (pT).V (get b 133) w1 := hp 2 133 (by kernel_rfl) rfl
          have x137 : (pB (t2_4)).V (get b 137) w1 := hp 6 137 (by kernel_rfl) rfl
          exact st_string Try.underlying22 Try.underlying5 Try.underlying9 rfl ((want_is (N := 133) rfl rfl x133).trans rfl) rfl x137 rfl
         case s8 =>
          intro b w1 hb hp hu
          have x133 : (pT).V (get b 133) w1 := hp 2 133 (by kernel_rfl) rfl
          have x0 : (Pv.fx (wo11.heap.size) (Kd.int .u8) (l0)).V (get b 0) w1 := Pv.keep _ g17_0 (hu 0 (by kernel_rfl)) hb
          exact st_move rfl ((want_is (N := 133) rfl rfl x133).trans rfl) rfl x0
         case s9 =>
          intro b w1 hb hp hu
          have x133 : (pT).V (get b 133) w1 := hp 2 133 (by kernel_rfl) rfl
          have x139 : (Pv.fx (wo11.heap.size) (Kd.int .u8) (l0)).V (get b 139) w1 := hp 8 139 (by kernel_rfl) rfl
          exact st_string Try.underlying22 Try.underlying5 Try.underlying9 rfl ((want_is (N := 133) rfl rfl x133).trans rfl) rfl (Pv.fx_sl x139) rfl
         case s10 =>
          intro b w1 hb hp hu
          have x133 : (pT).V (get b 133) w1 := hp 2 133 (by kernel_rfl) rfl
          have x138 : (Pv.is (.string (strOfNums (t2_4)))).V (get b 138) w1 := hp 7 138 (by kernel_rfl) rfl
          have x140 : (Pv.is (.string (strOfNums (l0)))).V (get b 140) w1 := hp 9 140 (by kernel_rfl) rfl
          exact st_seql (b := false) rfl ((want_is (N := 133) rfl rfl x133).trans rfl) rfl x138 x140 (decide_eq_false c2_10)
         case s11 =>
          intro b w1 hb hp hu
          have x133 : (pT).V (get b 133) w1 := hp 2 133 (by kernel_rfl) rfl
          have x136 : (pF).V (get b 136) w1 := hp 5 136 (by kernel_rfl) rfl
          have x141 : (pF).V (get b 141) w1 := hp 10 141 (by kernel_rfl) rfl
          exact st_bin (v := .bool true) (vx := .bool false) (vy := .bool false) rfl ((want_is (N := 133) rfl rfl x133).trans rfl) rfl x136 x141 (by first | rfl | (go_simp; first | done | rfl | (simp only [i64_w, i32_w]; done))) rfl
         case s12 =>
          intro b w1 hb hp hu
          have x133 : (pT).V (get b 133) w1 := hp 2 133 (by kernel_rfl) rfl
          have x142 : (pT).V (get b 142) w1 := hp 11 142 (by kernel_rfl) rfl
          exact st_pick (b := true) rfl (want0 rfl _) rfl x133 x142
         case s13 =>
          intro b w1 hb hp hu
          have x143 : (pT).V (get b 143) w1 := hp 12 143 (by kernel_rfl) rfl
          exact st_assign rfl (want0 rfl _) rfl x143
         intro ac18 wo18 hn18 hd_ hb hv hs
         have g18_10 : (pT).V (get ac18 10) wo18 := hv 13 10 rfl
         have hB18 := below_step hB17 hb
         have hd18 := hd_.trans hd17
         have hOo0_10_18 : wo7.heap.size ≤ wo18.heap.size := Nat.le_trans hOo0_10_17 hb.size
         have hOo1_15_18 : wo11.heap.size ≤ wo18.heap.size := Nat.le_trans hOo1_15_17 hb.size
         clear hv hs hd_ hb hB17 hn17 hd17 hOo0_10_17 hOo1_15_17 g17_19 g17_20 g17_0 g17_10 g17_11
         show Code.wp _ _ _ _ _
         refine wp_ret ?_
         repeat (first | refine then_ret ?_ | refine inb_ret ?_)
         exact back_is rfl hd18 g18_10 ⟨rfl, hB18⟩
 ·have h := hn c0_0
  clear hy hn
  refine Reg.plain (T := T4) (D := D4) (n := 144) (by kernel_rfl) hn3 (told [pB (l0), pI (((l0).length : Int)), pB (l1), pI (((l1).length : Int)), pT, pT, Pv.is (undef), Pv.is (undef), Pv.is (undef), Pv.is (undef), Pv.is (undef), pT]) (told_pst _) (owedS (owedS (owedS (owedS (owedS (owedS (owedS (owedS (owedS (owedS (owedS (owedS owed0 ?s0) ?s1) ?s2) ?s3) ?s4) ?s5) ?s6) ?s7) ?s8) ?s9) ?s10) ?s11) ?_
  case s0 =>
   intro b w1 hb hp hu
   have x0 : (pB (l0)).V (get b 0) w1 := Pv.keep _ g3_0 (hu 0 (by kernel_rfl)) hb
   exact st_move rfl (want0 rfl _) rfl x0
  case s1 =>
   intro b w1 hb hp hu
   have x27 : (pB (l0)).V (get b 27) w1 := hp 0 27 (by kernel_rfl) rfl
   obtain ⟨A_, c_, e_, _, _⟩ := x27
   exact st_len rfl (want0 rfl _) rfl Try.underlying22 e_ rfl
  case s2 =>
   intro b w1 hb hp hu
   have x1 : (pB (l1)).V (get b 1) w1 := Pv.keep _ g3_1 (hu 1 (by kernel_rfl)) hb
   exact st_move rfl (want0 rfl _) rfl x1
  case s3 =>
   intro b w1 hb hp hu
   have x29 : (pB (l1)).V (get b 29) w1 := hp 2 29 (by kernel_rfl) rfl
   obtain ⟨A_, c_, e_, _, _⟩ := x29
   exact st_len rfl (want0 rfl _) rfl Try.underlying22 e_ rfl
  case s4 =>
   intro b w1 hb hp hu
   have x28 : (pI (((l0).length : Int))).V (get b 28) w1 := hp 1 28 (by kernel_rfl) rfl
   have x30 : (pI (((l1).length : Int))).V (get b 30) w1 := hp 3 30 (by kernel_rfl) rfl
   exact st_neq (b := false) (κ := .i64) (m := (((l0).length : Int))) (n := (((l1).length : Int))) rfl (want0 rfl _) rfl x28 x30 (decide_eq_false c0_0)
  case s5 =>
   intro b w1 hb hp hu
   have x31 : (pT).V (get b 31) w1 := hp 4 31 (by kernel_rfl) rfl
   exact st_move rfl (want0 rfl _) rfl x31
  case s6 =>
   intro b w1 hb hp hu
   have x32 : (pT).V (get b 32) w1 := hp 5 32 (by kernel_rfl) rfl
   exact st_off rfl ((want_is (N := 32) rfl rfl x32).trans rfl) rfl
  case s7 =>
   intro b w1 hb hp hu
   have x32 : (pT).V (get b 32) w1 := hp 5 32 (by kernel_rfl) rfl
   exact st_off rfl ((want_is (N := 32) rfl rfl x32).trans rfl) rfl
  case s8 =>
   intro b w1 hb hp hu
   have x32 : (pT).V (get b 32) w1 := hp 5 32 (by kernel_rfl) rfl
   exact st_off rfl ((want_is (N := 32) rfl rfl x32).trans rfl) rfl
  case s9 =>
   intro b w1 hb hp hu
   have x32 : (pT).V (get b 32) w1 := hp 5 32 (by kernel_rfl) rfl
   exact st_off rfl ((want_is (N := 32) rfl rfl x32).trans rfl) rfl
  case s10 =>
   intro b w1 hb hp hu
   have x32 : (pT).V (get b 32) w1 := hp 5 32 (by kernel_rfl) rfl
   exact st_off rfl ((want_is (N := 32) rfl rfl x32).trans rfl) rfl
  case s11 =>
   intro b w1 hb hp hu
   have x32 : (pT).V (get b 32) w1 := hp 5 32 (by kernel_rfl) rfl
   exact st_pick (b := true) rfl (want0 rfl _) rfl x32 rfl
  intro ac4 wo4 hn4 hd_ hb hv hs
  have g4_38 : (pT).V (get ac4 38) wo4 := hv 11 38 rfl
  have g4_10 : (pF).V (get ac4 10) wo4 := Pv.keep _ g3_10 (hs 10 rfl) hb
  have hB4 := below_step hB3 hb
  have hd4 := hd_.trans hd3
  clear hv hs hd_ hb hB3 hn3 hd3 g3_11 g3_10 g3_0 g3_1 g3_3 g3_4
  show Code.wp _ _ _ _ _
  refine wp_cond_true (show ac4.eval (Operand.tmp 38) = .bool true from g4_38) ?_
  refine wp_seq ?_
  refine Reg.plain (T := T5) (D := D5) (n := 144) (by kernel_rfl) hn4 (told [pT]) (told_pst _) (owedS owed0 ?s0) ?_
  case s0 =>
   intro b w1 hb hp hu
   exact st_assign rfl (want0 rfl _) rfl rfl
  intro ac5 wo5 hn5 hd_ hb hv hs
  have g5_10 : (pT).V (get ac5 10) wo5 := hv 0 10 rfl
  have hB5 := below_step hB4 hb
  have hd5 := hd_.trans hd4
  clear hv hs hd_ hb hB4 hn4 hd4 g4_38 g4_10
  show Code.wp _ _ _ _ _
  refine wp_ret ?_
  repeat (first | refine then_ret ?_ | refine inb_ret ?_)
  exact back_is rfl hd5 g5_10 ⟨rfl, hB5⟩

/-- THE ONE PURE STATEMENT of wristbandlaw09_SolomonSums. -/
def wristbandlaw09_SolomonSums.Pure : Prop := ∀ (l0 : List Int) (l1 : List Int) (a2 : Int) (a3 : Int) (a4 : Int), l0.length ≤ maxLen → l0.length * 1 ≤ 140737488351232 → (∀ x ∈ l0, (Lit.int .u8 x).wf = true) → l1.length ≤ maxLen → l1.length * 1 ≤ 140737488351232 → (∀ x ∈ l1, (Lit.int .u8 x).wf = true) → (Lit.int .u8 a2).wf = true → (Lit.int .u8 a3).wf = true → (Lit.int .u8 a4).wf = true → ∃ k, wristbandlaw09_SolomonSums.ok k l0 l1 a2 a3 a4
theorem wristbandlaw09_SolomonSums.walk (P : wristbandlaw09_SolomonSums.Pure) (a0 : Option Addr) (len0 cap0 : Nat) (z0 : List Int) (a1 : Option Addr) (len1 cap1 : Nat) (z1 : List Int) (a2 : Int) (a3 : Int) (a4 : Int) (w : World) (w0 : (a0 = none ∧ len0 = 0 ∧ cap0 = 0 ∧ z0 = []) ∨ ∃ x, a0 = some x ∧ len0 ≤ cap0 ∧ cap0 ≤ maxLen ∧ z0.length = cap0 ∧ (∀ i, i < z0.length → w.cell? (x.add i) = some (.int .u8 (z0.getD i 0))) ∧ ∀ n ∈ z0, (Lit.int .u8 n).wf = true) (y0 : len0 * 1 ≤ 140737488351232) (w1 : (a1 = none ∧ len1 = 0 ∧ cap1 = 0 ∧ z1 = []) ∨ ∃ x, a1 = some x ∧ len1 ≤ cap1 ∧ cap1 ≤ maxLen ∧ z1.length = cap1 ∧ (∀ i, i < z1.length → w.cell? (x.add i) = some (.int .u8 (z1.getD i 0))) ∧ ∀ n ∈ z1, (Lit.int .u8 n).wf = true) (y1 : len1 * 1 ≤ 140737488351232) (w2 : (Lit.int .u8 a2).wf = true) (w3 : (Lit.int .u8 a3).wf = true) (w4 : (Lit.int .u8 a4).wf = true) :
  Calls Try.prog 8 #[.slice a0 len0 cap0, .slice a1 len1 cap1, .int .u8 a2, .int .u8 a3, .int .u8 a4] w fun e w' => e = .returned (.bool true) ∧ Below w.heap.size w w' := by
 obtain ⟨l0, rfl, hr0, hm0, hw0, hc0⟩ := ReadsInt.ofRowC w0
 obtain ⟨l1, rfl, hr1, hm1, hw1, hc1⟩ := ReadsInt.ofRowC w1
 obtain ⟨k, h⟩ := P l0 l1 a2 a3 a4 hm0 y0 hw0 hm1 y1 hw1 w2 w3 w4
 exact wristbandlaw09_SolomonSums.calls k _ _ l0 _ _ l1 a2 a3 a4 w (Kd.C_of_reads (d := (0 : Int)) (h1 := fun _ => rfl) hr0) hc0 (Kd.C_of_reads (d := (0 : Int)) (h1 := fun _ => rfl) hr1) hc1 h

end Go.Proofs.Ytgieppcadnhhaaa.P
