-- Written by a program of this session (its own contracts laid into the walks). Lean checks it.
import Derived.Test.YtgieppcadnhhaaaPx0
import Derived.Test.YtgieppcadnhhaaaPx9
import Derived.Test.YtgieppcadnhhaaaPx11
import Derived.Test.YtgieppcadnhhaaaPx12
import Derived.Test.YtgieppcadnhhaaaReg
namespace Go.Proofs.Ytgieppcadnhhaaa.P
open Go.RowKit Go.Proofs.YtgieppcadnhhaaaW.PrintWords Go.Proofs.YtgieppcadnhhaaaW.PrintLast Go.Proofs.YtgieppcadnhhaaaW.PrintMore
attribute [local go_sem] max2_int min2_int max_two min_two max_three min_three max_four min_four   -- for this text's walks alone
set_option linter.unusedVariables false
set_option linter.unusedSimpArgs false

/-! ### wristbandlaw09_SolomonFine: function 7 -/
-- IMPORTS Derived.Test.YtgieppcadnhhaaaReg
open Go.Proofs.Ytgieppcadnhhaaa.Reg
def wristbandlaw09_SolomonFine.T0 : List Nat := [0]
def wristbandlaw09_SolomonFine.D0 : List (Option Tmp) := [some 8]
def wristbandlaw09_SolomonFine.T1 : List Nat := [0, 1]
def wristbandlaw09_SolomonFine.D1 : List (Option Tmp) := [some 14, some 15]
def wristbandlaw09_SolomonFine.T3 : List Nat := [0, 1, 3, 7, 15]
def wristbandlaw09_SolomonFine.D3 : List (Option Tmp) := [some 16, some 17, some 18, some 19, some 9]
def wristbandlaw09_SolomonFine.T4 : List Nat := [0, 1, 0, 4, 15]
def wristbandlaw09_SolomonFine.D4 : List (Option Tmp) := [some 20, some 21, some 22, some 23, some 24]
def wristbandlaw09_SolomonFine.T5 : List Nat := [0]
def wristbandlaw09_SolomonFine.D5 : List (Option Tmp) := [some 8]
def wristbandlaw09_SolomonFine.T6 : List Nat := [0, 0, 3, 7, 15, 15, 31, 127]
def wristbandlaw09_SolomonFine.D6 : List (Option Tmp) := [some 26, some 27, some 28, some 25, some 29, some 30, some 10, some 11]
def wristbandlaw09_SolomonFine.T7 : List Nat := [0, 1, 3, 7, 15, 7, 39, 7, 231, 511, 1023, 2047, 4095, 4095, 12287, 32767, 65535, 4095, 135167, 524287, 1048575, 2097151, 4194303, 4194303, 16777215, 33554431, 67108863]
def wristbandlaw09_SolomonFine.D7 : List (Option Tmp) := [some 31, some 32, some 33, some 34, some 35, some 36, some 37, some 38, some 39, some 40, some 41, some 42, some 43, some 44, some 45, some 46, some 47, some 48, some 49, some 50, some 51, some 52, some 53, some 54, some 55, some 56, some 57]
def wristbandlaw09_SolomonFine.T8 : List Nat := [0]
def wristbandlaw09_SolomonFine.D8 : List (Option Tmp) := [some 8]
def wristbandlaw09_SolomonFine.T9 : List Nat := [0, 0, 3, 7]
def wristbandlaw09_SolomonFine.D9 : List (Option Tmp) := [some 58, some 59, some 60, some 12]
def wristbandlaw09_SolomonFine.T10 : List Nat := [0]
def wristbandlaw09_SolomonFine.D10 : List (Option Tmp) := [some 13]
def wristbandlaw09_SolomonFine.T11 : List Nat := [0, 0, 2, 7, 15, 31, 31, 95, 255, 511, 1023, 2047, 2047, 8191, 16383]
def wristbandlaw09_SolomonFine.D11 : List (Option Tmp) := [some 61, some 62, some 63, some 64, some 65, some 66, some 67, some 68, some 69, some 70, some 71, some 72, some 73, some 74, some 75]
def wristbandlaw09_SolomonFine.T12 : List Nat := [0, 1, 3]
def wristbandlaw09_SolomonFine.D12 : List (Option Tmp) := [some 76, some 77, some 13]
def wristbandlaw09_SolomonFine.T13 : List Nat := [0, 0, 0, 6, 14, 30, 0, 64, 254, 511, 1023, 0, 0, 6144, 14336, 32767, 65535, 131071]
def wristbandlaw09_SolomonFine.D13 : List (Option Tmp) := [some 78, some 79, some 80, some 81, some 82, some 83, some 84, some 85, some 86, some 87, some 88, some 89, some 90, some 91, some 92, some 93, some 94, none]
def wristbandlaw09_SolomonFine.T14 : List Nat := [0, 1, 0, 4, 15, 0, 0, 96, 255, 511]
def wristbandlaw09_SolomonFine.D14 : List (Option Tmp) := [some 95, some 96, some 97, some 98, some 99, some 100, some 101, some 102, some 103, some 8]
/-- From the head of loop 1 on. -/
def wristbandlaw09_SolomonFine.l1 (k : Nat) : Nat → (List Int) → (Int) → (List Int) → (List Int) → (List Int) → (List Int) → (Int) → Prop
 | 0, _, _, _, _, _, _, _ => False
 | q + 1, l0, a1, l2, l3, t1, y12_1, x13_1 => (((x13_1 < ((l2).length : Int)) → (((x13_1 < ((l3).length : Int)) → (((x13_1 < wrap64 (Int.tmod (wrap64 (a1)) ((64 : Int)) + (1 : Int))) → ((0 ≤ x13_1) ∧ (¬ (((y12_1).length : Int) = 0) ∧ ((0 ≤ Int.tmod (wrap64 (rd (l2) (x13_1))) (((y12_1).length : Int))) ∧ ((Int.tmod (wrap64 (rd (l2) (x13_1))) (((y12_1).length : Int)) < ((y12_1).length : Int)) ∧ wristbandlaw09_SolomonFine.l1 k q l0 a1 l2 l3 t1 ((y12_1).set (Int.tmod (wrap64 (rd (l2) (x13_1))) (((y12_1).length : Int)) : Int).toNat (Go.bits .xor .u8 (rd (y12_1) (Int.tmod (wrap64 (rd (l2) (x13_1))) (((y12_1).length : Int)))) (rd (l3) (x13_1)))) (wrap64 (x13_1 + (1 : Int)))))))) ∧ (¬ (x13_1 < wrap64 (Int.tmod (wrap64 (a1)) ((64 : Int)) + (1 : Int))) → ((((strOfNums (t1)).toList = (strOfNums (y12_1)).toList) → (∃ (t1_1 : Bool), solomon_Fine.f k (y12_1) (wrap64 (Int.tmod (wrap64 (a1)) ((64 : Int)) + (1 : Int))) = some t1_1 ∧ ((t1_1 = true) ∧ True))) ∧ (¬ ((strOfNums (t1)).toList = (strOfNums (y12_1)).toList) → (∃ (t1_1 : Bool), solomon_Fine.f k (y12_1) (wrap64 (Int.tmod (wrap64 (a1)) ((64 : Int)) + (1 : Int))) = some t1_1 ∧ (¬ (t1_1 = true) ∧ True))))))) ∧ (¬ (x13_1 < ((l3).length : Int)) → ((((strOfNums (t1)).toList = (strOfNums (y12_1)).toList) → (∃ (t1_1 : Bool), solomon_Fine.f k (y12_1) (wrap64 (Int.tmod (wrap64 (a1)) ((64 : Int)) + (1 : Int))) = some t1_1 ∧ ((t1_1 = true) ∧ True))) ∧ (¬ ((strOfNums (t1)).toList = (strOfNums (y12_1)).toList) → (∃ (t1_1 : Bool), solomon_Fine.f k (y12_1) (wrap64 (Int.tmod (wrap64 (a1)) ((64 : Int)) + (1 : Int))) = some t1_1 ∧ (¬ (t1_1 = true) ∧ True))))))) ∧ (¬ (x13_1 < ((l2).length : Int)) → ((((strOfNums (t1)).toList = (strOfNums (y12_1)).toList) → (∃ (t1_1 : Bool), solomon_Fine.f k (y12_1) (wrap64 (Int.tmod (wrap64 (a1)) ((64 : Int)) + (1 : Int))) = some t1_1 ∧ ((t1_1 = true) ∧ True))) ∧ (¬ ((strOfNums (t1)).toList = (strOfNums (y12_1)).toList) → (∃ (t1_1 : Bool), solomon_Fine.f k (y12_1) (wrap64 (Int.tmod (wrap64 (a1)) ((64 : Int)) + (1 : Int))) = some t1_1 ∧ (¬ (t1_1 = true) ∧ True))))))
/-- What the law asks, told of the walks' own functions. -/
def wristbandlaw09_SolomonFine.ok (k : Nat) (l0 : List Int) (a1 : Int) (l2 : List Int) (l3 : List Int) : Prop := wristbandlaw09_awake.ok k ∧ (((((l0).length : Int) > wrap64 ((255 : Int) - wrap64 (Int.tmod (wrap64 (a1)) ((64 : Int)) + (1 : Int)))) → True) ∧ (¬ (((l0).length : Int) > wrap64 ((255 : Int) - wrap64 (Int.tmod (wrap64 (a1)) ((64 : Int)) + (1 : Int)))) → (∃ (t1 : List Int) (t2 : Int), solomon_Put.f k (l0) (wrap64 (Int.tmod (wrap64 (a1)) ((64 : Int)) + (1 : Int))) = some (t1, t2) ∧ ((t2 = (0 : Int)) ∧ ((((t1).length : Int) = wrap64 (((l0).length : Int) + wrap64 (Int.tmod (wrap64 (a1)) ((64 : Int)) + (1 : Int)))) ∧ ((0 ≤ ((l0).length : Int)) ∧ ((((l0).length : Int) ≤ ((t1).length : Int)) ∧ (((strOfNums ((t1).take (((l0).length : Int) : Int).toNat)).toList = (strOfNums (l0)).toList) ∧ (∃ (t3 : Bool), solomon_Fine.f k (t1) (wrap64 (Int.tmod (wrap64 (a1)) ((64 : Int)) + (1 : Int))) = some t3 ∧ ((t3 = true) ∧ (((([] : List Int)).length + (t1).length ≤ 140737488355328) ∧ (∃ q_, wristbandlaw09_SolomonFine.l1 k q_ l0 a1 l2 l3 t1 t1 ((0 : Int))))))))))))))
set_option maxRecDepth 100000 in
set_option maxHeartbeats 40000000 in
theorem wristbandlaw09_SolomonFine.calls (k : Nat) (A0 : Option Addr) (c0 : Nat) (l0 : List Int) (a1 : Int) (A2 : Option Addr) (c2 : Nat) (l2 : List Int) (A3 : Option Addr) (c3 : Nat) (l3 : List Int) (w : World) (hr0 : Kd.C (Kd.int .u8) w A0 l0.length l0) (hc0 : l0.length ≤ c0) (hr2 : Kd.C (Kd.int .u8) w A2 l2.length l2) (hc2 : l2.length ≤ c2) (hr3 : Kd.C (Kd.int .u8) w A3 l3.length l3) (hc3 : l3.length ≤ c3) (h : wristbandlaw09_SolomonFine.ok k l0 a1 l2 l3) :
  Calls Try.prog 7 #[.slice A0 l0.length c0, .int .u8 a1, .slice A2 l2.length c2, .slice A3 l3.length c3] w fun e w' => e = .returned (.bool true) ∧ Below w.heap.size w w' := by
 unfold wristbandlaw09_SolomonFine.ok at h
 refine enter Try.func7 rfl (n := 104) rfl ?_
 intro ac0 hn0 hd0 ha
 have hB0 := Below.refl w.heap.size w
 have g0_0 : (pB (l0)).V (get ac0 0) w := by rw [ha 0 (by simp)]; exact ⟨A0, c0, rfl, hr0, hc0⟩
 have g0_1 : (Pv.is (.int .u8 (a1))).V (get ac0 1) w := by rw [ha 1 (by simp)]; exact rfl
 have g0_2 : (pB (l2)).V (get ac0 2) w := by rw [ha 2 (by simp)]; exact ⟨A2, c2, rfl, hr2, hc2⟩
 have g0_3 : (pB (l3)).V (get ac0 3) w := by rw [ha 3 (by simp)]; exact ⟨A3, c3, rfl, hr3, hc3⟩
 clear ha
 obtain ⟨H1, h⟩ := h
 refine wp_seq ?_
 refine Reg.plain (T := T0) (D := D0) (n := 104) (by kernel_rfl) hn0 (told [pF]) (told_pst _) (owedS owed0 ?s0) ?_
 case s0 =>
  intro b w1 hb hp hu
  exact st_assign rfl (want0 rfl _) rfl rfl
 intro ac1 wo1 hn1 hd_ hb hv hs
 have g1_8 : (pF).V (get ac1 8) wo1 := hv 0 8 rfl
 have g1_0 : (pB (l0)).V (get ac1 0) wo1 := Pv.keep _ g0_0 (hs 0 rfl) hb
 have g1_1 : (Pv.is (.int .u8 (a1))).V (get ac1 1) wo1 := Pv.keep _ g0_1 (hs 1 rfl) hb
 have g1_2 : (pB (l2)).V (get ac1 2) wo1 := Pv.keep _ g0_2 (hs 2 rfl) hb
 have g1_3 : (pB (l3)).V (get ac1 3) wo1 := Pv.keep _ g0_3 (hs 3 rfl) hb
 have hB1 := below_step hB0 hb
 have hd1 := hd_.trans hd0
 clear hv hs hd_ hb hB0 hn0 hd0 g0_0 g0_1 g0_2 g0_3
 show Code.wp _ _ _ _ _
 refine wp_seq ?_
 refine wp_seq ?_
 refine Reg.plain (T := T1) (D := D1) (n := 104) (by kernel_rfl) hn1 (told [pT, pF]) (told_pst _) (owedS (owedS owed0 ?s0) ?s1) ?_
 case s0 =>
  intro b w1 hb hp hu
  refine st_call rfl (want0 rfl _) rfl Try.func27 (by kernel_rfl) rfl #[] (by simp) ?_
  refine (wristbandlaw09_awake.calls k  w1  H1).mono ?_
  rintro e w2 ⟨rfl, hb2⟩
  exact ⟨_, rfl, rfl, hb2⟩
 case s1 =>
  intro b w1 hb hp hu
  have x14 : (pT).V (get b 14) w1 := hp 0 14 (by kernel_rfl) rfl
  exact st_un (v := .bool false) (vx := .bool true) rfl (want0 rfl _) rfl x14 (by first | rfl | (go_simp; first | done | rfl | (simp only [i64_w, i32_w]; done))) rfl
 intro ac2 wo2 hn2 hd_ hb hv hs
 have g2_15 : (pF).V (get ac2 15) wo2 := hv 1 15 rfl
 have g2_8 : (pF).V (get ac2 8) wo2 := Pv.keep _ g1_8 (hs 8 rfl) hb
 have g2_0 : (pB (l0)).V (get ac2 0) wo2 := Pv.keep _ g1_0 (hs 0 rfl) hb
 have g2_1 : (Pv.is (.int .u8 (a1))).V (get ac2 1) wo2 := Pv.keep _ g1_1 (hs 1 rfl) hb
 have g2_2 : (pB (l2)).V (get ac2 2) wo2 := Pv.keep _ g1_2 (hs 2 rfl) hb
 have g2_3 : (pB (l3)).V (get ac2 3) wo2 := Pv.keep _ g1_3 (hs 3 rfl) hb
 have hB2 := below_step hB1 hb
 have hd2 := hd_.trans hd1
 clear hv hs hd_ hb hB1 hn1 hd1 g1_8 g1_0 g1_1 g1_2 g1_3
 show Code.wp _ _ _ _ _
 refine wp_cond_false (show ac2.eval (Operand.tmp 15) = .bool false from g2_15) ?_
 refine wp_skip ?_
 show Code.wp _ _ _ _ _
 refine wp_seq ?_
 refine Reg.plain (T := T3) (D := D3) (n := 104) (by kernel_rfl) hn2 (told [Pv.is (.int .u8 (a1)), pI (wrap64 (a1)), pI (Int.tmod (wrap64 (a1)) ((64 : Int))), pI (wrap64 (Int.tmod (wrap64 (a1)) ((64 : Int)) + (1 : Int))), pI (wrap64 (Int.tmod (wrap64 (a1)) ((64 : Int)) + (1 : Int)))]) (told_pst _) (owedS (owedS (owedS (owedS (owedS owed0 ?s0) ?s1) ?s2) ?s3) ?s4) ?_
 case s0 =>
  intro b w1 hb hp hu
  have x1 : (Pv.is (.int .u8 (a1))).V (get b 1) w1 := Pv.keep _ g2_1 (hu 1 (by kernel_rfl)) hb
  exact st_move rfl (want0 rfl _) rfl x1
 case s1 =>
  intro b w1 hb hp hu
  have x16 : (Pv.is (.int .u8 (a1))).V (get b 16) w1 := hp 0 16 (by kernel_rfl) rfl
  exact st_conv64 Try.underlying5 Try.underlying3 rfl (want0 rfl _) rfl x16
 case s2 =>
  intro b w1 hb hp hu
  have x17 : (pI (wrap64 (a1))).V (get b 17) w1 := hp 1 17 (by kernel_rfl) rfl
  exact st_rem rfl (want0 rfl _) rfl x17 rfl (by decide)
 case s3 =>
  intro b w1 hb hp hu
  have x18 : (pI (Int.tmod (wrap64 (a1)) ((64 : Int)))).V (get b 18) w1 := hp 2 18 (by kernel_rfl) rfl
  exact st_bin (v := .int .i64 (wrap64 (Int.tmod (wrap64 (a1)) ((64 : Int)) + (1 : Int)))) (vx := .int .i64 (Int.tmod (wrap64 (a1)) ((64 : Int)))) (vy := .int .i64 ((1 : Int))) rfl (want0 rfl _) rfl x18 rfl (by first | rfl | (go_simp; first | done | rfl | (simp only [i64_w, i32_w]; done))) rfl
 case s4 =>
  intro b w1 hb hp hu
  have x19 : (pI (wrap64 (Int.tmod (wrap64 (a1)) ((64 : Int)) + (1 : Int)))).V (get b 19) w1 := hp 3 19 (by kernel_rfl) rfl
  exact st_assign rfl (want0 rfl _) rfl x19
 intro ac3 wo3 hn3 hd_ hb hv hs
 have g3_9 : (pI (wrap64 (Int.tmod (wrap64 (a1)) ((64 : Int)) + (1 : Int)))).V (get ac3 9) wo3 := hv 4 9 rfl
 have g3_8 : (pF).V (get ac3 8) wo3 := Pv.keep _ g2_8 (hs 8 rfl) hb
 have g3_0 : (pB (l0)).V (get ac3 0) wo3 := Pv.keep _ g2_0 (hs 0 rfl) hb
 have g3_2 : (pB (l2)).V (get ac3 2) wo3 := Pv.keep _ g2_2 (hs 2 rfl) hb
 have g3_3 : (pB (l3)).V (get ac3 3) wo3 := Pv.keep _ g2_3 (hs 3 rfl) hb
 have hB3 := below_step hB2 hb
 have hd3 := hd_.trans hd2
 clear hv hs hd_ hb hB2 hn2 hd2 g2_15 g2_8 g2_0 g2_1 g2_2 g2_3
 show Code.wp _ _ _ _ _
 refine wp_seq ?_
 refine wp_seq ?_
 obtain ⟨hy, hn⟩ := h
 by_cases c0_0 : ((l0).length : Int) > wrap64 ((255 : Int) - wrap64 (Int.tmod (wrap64 (a1)) ((64 : Int)) + (1 : Int)))
 ·have h := hy c0_0
  clear hy hn
  refine Reg.plain (T := T4) (D := D4) (n := 104) (by kernel_rfl) hn3 (told [pB (l0), pI (((l0).length : Int)), pI (wrap64 (Int.tmod (wrap64 (a1)) ((64 : Int)) + (1 : Int))), pI (wrap64 ((255 : Int) - wrap64 (Int.tmod (wrap64 (a1)) ((64 : Int)) + (1 : Int)))), pT]) (told_pst _) (owedS (owedS (owedS (owedS (owedS owed0 ?s0) ?s1) ?s2) ?s3) ?s4) ?_
  case s0 =>
   intro b w1 hb hp hu
   have x0 : (pB (l0)).V (get b 0) w1 := Pv.keep _ g3_0 (hu 0 (by kernel_rfl)) hb
   exact st_move rfl (want0 rfl _) rfl x0
  case s1 =>
   intro b w1 hb hp hu
   have x20 : (pB (l0)).V (get b 20) w1 := hp 0 20 (by kernel_rfl) rfl
   obtain ⟨A_, c_, e_, _, _⟩ := x20
   exact st_len rfl (want0 rfl _) rfl Try.underlying22 e_ rfl
  case s2 =>
   intro b w1 hb hp hu
   have x9 : (pI (wrap64 (Int.tmod (wrap64 (a1)) ((64 : Int)) + (1 : Int)))).V (get b 9) w1 := Pv.keep _ g3_9 (hu 9 (by kernel_rfl)) hb
   exact st_move rfl (want0 rfl _) rfl x9
  case s3 =>
   intro b w1 hb hp hu
   have x22 : (pI (wrap64 (Int.tmod (wrap64 (a1)) ((64 : Int)) + (1 : Int)))).V (get b 22) w1 := hp 2 22 (by kernel_rfl) rfl
   exact st_bin (v := .int .i64 (wrap64 ((255 : Int) - wrap64 (Int.tmod (wrap64 (a1)) ((64 : Int)) + (1 : Int))))) (vx := .int .i64 ((255 : Int))) (vy := .int .i64 (wrap64 (Int.tmod (wrap64 (a1)) ((64 : Int)) + (1 : Int)))) rfl (want0 rfl _) rfl rfl x22 (by first | rfl | (go_simp; first | done | rfl | (simp only [i64_w, i32_w]; done))) rfl
  case s4 =>
   intro b w1 hb hp hu
   have x21 : (pI (((l0).length : Int))).V (get b 21) w1 := hp 1 21 (by kernel_rfl) rfl
   have x23 : (pI (wrap64 ((255 : Int) - wrap64 (Int.tmod (wrap64 (a1)) ((64 : Int)) + (1 : Int))))).V (get b 23) w1 := hp 3 23 (by kernel_rfl) rfl
   exact st_gtr (b := true) (κ := .i64) (m := (((l0).length : Int))) (n := (wrap64 ((255 : Int) - wrap64 (Int.tmod (wrap64 (a1)) ((64 : Int)) + (1 : Int))))) rfl (want0 rfl _) rfl x21 x23 (decide_eq_true c0_0)
  intro ac4 wo4 hn4 hd_ hb hv hs
  have g4_24 : (pT).V (get ac4 24) wo4 := hv 4 24 rfl
  have g4_8 : (pF).V (get ac4 8) wo4 := Pv.keep _ g3_8 (hs 8 rfl) hb
  have hB4 := below_step hB3 hb
  have hd4 := hd_.trans hd3
  clear hv hs hd_ hb hB3 hn3 hd3 g3_9 g3_8 g3_0 g3_2 g3_3
  show Code.wp _ _ _ _ _
  refine wp_cond_true (show ac4.eval (Operand.tmp 24) = .bool true from g4_24) ?_
  refine wp_seq ?_
  refine Reg.plain (T := T5) (D := D5) (n := 104) (by kernel_rfl) hn4 (told [pT]) (told_pst _) (owedS owed0 ?s0) ?_
  case s0 =>
   intro b w1 hb hp hu
   exact st_assign rfl (want0 rfl _) rfl rfl
  intro ac5 wo5 hn5 hd_ hb hv hs
  have g5_8 : (pT).V (get ac5 8) wo5 := hv 0 8 rfl
  have hB5 := below_step hB4 hb
  have hd5 := hd_.trans hd4
  clear hv hs hd_ hb hB4 hn4 hd4 g4_24 g4_8
  show Code.wp _ _ _ _ _
  refine wp_ret ?_
  repeat (first | refine then_ret ?_ | refine inb_ret ?_)
  exact back_is rfl hd5 g5_8 ⟨rfl, hB5⟩
 ·have h := hn c0_0
  clear hy hn
  obtain ⟨t1, t2, H2, h⟩ := h
  obtain ⟨c0_1, h⟩ := h
  obtain ⟨c0_2, h⟩ := h
  obtain ⟨c0_3, h⟩ := h
  obtain ⟨c0_4, h⟩ := h
  obtain ⟨c0_5, h⟩ := h
  obtain ⟨t3, H3, h⟩ := h
  obtain ⟨c0_6, h⟩ := h
  obtain ⟨c0_7, h⟩ := h
  refine Reg.plain (T := T4) (D := D4) (n := 104) (by kernel_rfl) hn3 (told [pB (l0), pI (((l0).length : Int)), pI (wrap64 (Int.tmod (wrap64 (a1)) ((64 : Int)) + (1 : Int))), pI (wrap64 ((255 : Int) - wrap64 (Int.tmod (wrap64 (a1)) ((64 : Int)) + (1 : Int)))), pF]) (told_pst _) (owedS (owedS (owedS (owedS (owedS owed0 ?s0) ?s1) ?s2) ?s3) ?s4) ?_
  case s0 =>
   intro b w1 hb hp hu
   have x0 : (pB (l0)).V (get b 0) w1 := Pv.keep _ g3_0 (hu 0 (by kernel_rfl)) hb
   exact st_move rfl (want0 rfl _) rfl x0
  case s1 =>
   intro b w1 hb hp hu
   have x20 : (pB (l0)).V (get b 20) w1 := hp 0 20 (by kernel_rfl) rfl
   obtain ⟨A_, c_, e_, _, _⟩ := x20
   exact st_len rfl (want0 rfl _) rfl Try.underlying22 e_ rfl
  case s2 =>
   intro b w1 hb hp hu
   have x9 : (pI (wrap64 (Int.tmod (wrap64 (a1)) ((64 : Int)) + (1 : Int)))).V (get b 9) w1 := Pv.keep _ g3_9 (hu 9 (by kernel_rfl)) hb
   exact st_move rfl (want0 rfl _) rfl x9
  case s3 =>
   intro b w1 hb hp hu
   have x22 : (pI (wrap64 (Int.tmod (wrap64 (a1)) ((64 : Int)) + (1 : Int)))).V (get b 22) w1 := hp 2 22 (by kernel_rfl) rfl
   exact st_bin (v := .int .i64 (wrap64 ((255 : Int) - wrap64 (Int.tmod (wrap64 (a1)) ((64 : Int)) + (1 : Int))))) (vx := .int .i64 ((255 : Int))) (vy := .int .i64 (wrap64 (Int.tmod (wrap64 (a1)) ((64 : Int)) + (1 : Int)))) rfl (want0 rfl _) rfl rfl x22 (by first | rfl | (go_simp; first | done | rfl | (simp only [i64_w, i32_w]; done))) rfl
  case s4 =>
   intro b w1 hb hp hu
   have x21 : (pI (((l0).length : Int))).V (get b 21) w1 := hp 1 21 (by kernel_rfl) rfl
   have x23 : (pI (wrap64 ((255 : Int) - wrap64 (Int.tmod (wrap64 (a1)) ((64 : Int)) + (1 : Int))))).V (get b 23) w1 := hp 3 23 (by kernel_rfl) rfl
   exact st_gtr (b := false) (κ := .i64) (m := (((l0).length : Int))) (n := (wrap64 ((255 : Int) - wrap64 (Int.tmod (wrap64 (a1)) ((64 : Int)) + (1 : Int))))) rfl (want0 rfl _) rfl x21 x23 (decide_eq_false c0_0)
  intro ac4 wo4 hn4 hd_ hb hv hs
  have g4_24 : (pF).V (get ac4 24) wo4 := hv 4 24 rfl
  have g4_9 : (pI (wrap64 (Int.tmod (wrap64 (a1)) ((64 : Int)) + (1 : Int)))).V (get ac4 9) wo4 := Pv.keep _ g3_9 (hs 9 rfl) hb
  have g4_8 : (pF).V (get ac4 8) wo4 := Pv.keep _ g3_8 (hs 8 rfl) hb
  have g4_0 : (pB (l0)).V (get ac4 0) wo4 := Pv.keep _ g3_0 (hs 0 rfl) hb
  have g4_2 : (pB (l2)).V (get ac4 2) wo4 := Pv.keep _ g3_2 (hs 2 rfl) hb
  have g4_3 : (pB (l3)).V (get ac4 3) wo4 := Pv.keep _ g3_3 (hs 3 rfl) hb
  have hB4 := below_step hB3 hb
  have hd4 := hd_.trans hd3
  clear hv hs hd_ hb hB3 hn3 hd3 g3_9 g3_8 g3_0 g3_2 g3_3
  show Code.wp _ _ _ _ _
  refine wp_cond_false (show ac4.eval (Operand.tmp 24) = .bool false from g4_24) ?_
  refine wp_skip ?_
  show Code.wp _ _ _ _ _
  refine wp_seq ?_
  refine Reg.plain (T := T6) (D := D6) (n := 104) (by kernel_rfl) hn4 (told [pB (l0), pI (wrap64 (Int.tmod (wrap64 (a1)) ((64 : Int)) + (1 : Int))), Pv.tup [pB (t1), pI (t2)], Pv.tup [pB (t1), pI (t2)], pB (t1), pI (t2), pB (t1), pI (t2)]) (told_pst _) (owedS (owedS (owedS (owedS (owedS (owedS (owedS (owedS owed0 ?s0) ?s1) ?s2) ?s3) ?s4) ?s5) ?s6) ?s7) ?_
  case s0 =>
   intro b w1 hb hp hu
   have x0 : (pB (l0)).V (get b 0) w1 := Pv.keep _ g4_0 (hu 0 (by kernel_rfl)) hb
   exact st_move rfl (want0 rfl _) rfl x0
  case s1 =>
   intro b w1 hb hp hu
   have x9 : (pI (wrap64 (Int.tmod (wrap64 (a1)) ((64 : Int)) + (1 : Int)))).V (get b 9) w1 := Pv.keep _ g4_9 (hu 9 (by kernel_rfl)) hb
   exact st_move rfl (want0 rfl _) rfl x9
  case s2 =>
   intro b w1 hb hp hu
   have x26 : (pB (l0)).V (get b 26) w1 := hp 0 26 (by kernel_rfl) rfl
   obtain ⟨B0, d0, e0_, hC0, hl0⟩ := x26
   have e0 : b.eval (Operand.tmp 26) = .slice B0 (l0).length d0 := e0_
   have x27 : (pI (wrap64 (Int.tmod (wrap64 (a1)) ((64 : Int)) + (1 : Int)))).V (get b 27) w1 := hp 1 27 (by kernel_rfl) rfl
   have e1 : b.eval (Operand.tmp 27) = .int .i64 (wrap64 (Int.tmod (wrap64 (a1)) ((64 : Int)) + (1 : Int))) := x27
   refine st_call rfl (want0 rfl _) rfl Try.func29 (by kernel_rfl) rfl #[.slice B0 (l0).length d0, .int .i64 (wrap64 (Int.tmod (wrap64 (a1)) ((64 : Int)) + (1 : Int)))] (by simp only [List.map_toArray, List.map_cons, List.map_nil, e0, e1]) ?_
   refine (solomon_Put.callsC k B0 d0 _ _ _ _ w1 hC0 hl0 H2).mono ?_
   rintro e w2 ⟨v0_, rfl, ho0, hb2⟩
   exact ⟨_, rfl, ⟨[_, _], rfl, Pv.of_sl ho0, rfl, trivial⟩, hb2⟩
  case s3 =>
   intro b w1 hb hp hu
   have x28 : (Pv.tup [pB (t1), pI (t2)]).V (get b 28) w1 := hp 2 28 (by kernel_rfl) rfl
   exact st_move rfl (want0 rfl _) rfl x28
  case s4 =>
   intro b w1 hb hp hu
   have x25 : (Pv.tup [pB (t1), pI (t2)]).V (get b 25) w1 := hp 3 25 (by kernel_rfl) rfl
   exact st_extract rfl (want0 rfl _) rfl x25 rfl (fun _ h => h)
  case s5 =>
   intro b w1 hb hp hu
   have x25 : (Pv.tup [pB (t1), pI (t2)]).V (get b 25) w1 := hp 3 25 (by kernel_rfl) rfl
   exact st_extract rfl (want0 rfl _) rfl x25 rfl (fun _ h => h)
  case s6 =>
   intro b w1 hb hp hu
   have x29 : (pB (t1)).V (get b 29) w1 := hp 4 29 (by kernel_rfl) rfl
   exact st_assign rfl (want0 rfl _) rfl x29
  case s7 =>
   intro b w1 hb hp hu
   have x30 : (pI (t2)).V (get b 30) w1 := hp 5 30 (by kernel_rfl) rfl
   exact st_assign rfl (want0 rfl _) rfl x30
  intro ac5 wo5 hn5 hd_ hb hv hs
  have g5_10 : (pB (t1)).V (get ac5 10) wo5 := hv 6 10 rfl
  have g5_11 : (pI (t2)).V (get ac5 11) wo5 := hv 7 11 rfl
  have g5_9 : (pI (wrap64 (Int.tmod (wrap64 (a1)) ((64 : Int)) + (1 : Int)))).V (get ac5 9) wo5 := Pv.keep _ g4_9 (hs 9 rfl) hb
  have g5_8 : (pF).V (get ac5 8) wo5 := Pv.keep _ g4_8 (hs 8 rfl) hb
  have g5_0 : (pB (l0)).V (get ac5 0) wo5 := Pv.keep _ g4_0 (hs 0 rfl) hb
  have g5_2 : (pB (l2)).V (get ac5 2) wo5 := Pv.keep _ g4_2 (hs 2 rfl) hb
  have g5_3 : (pB (l3)).V (get ac5 3) wo5 := Pv.keep _ g4_3 (hs 3 rfl) hb
  have hB5 := below_step hB4 hb
  have hd5 := hd_.trans hd4
  clear hv hs hd_ hb hB4 hn4 hd4 g4_24 g4_9 g4_8 g4_0 g4_2 g4_3
  show Code.wp _ _ _ _ _
  refine wp_seq ?_
  refine wp_seq ?_
  refine Reg.draws (T := T7) (D := D7) (n := 104) rfl (by kernel_rfl) hn5 (told [pI (t2), pF, pF, pB (t1), pI (((t1).length : Int)), pB (l0), pI (((l0).length : Int)), pI (wrap64 (Int.tmod (wrap64 (a1)) ((64 : Int)) + (1 : Int))), pI (wrap64 (((l0).length : Int) + wrap64 (Int.tmod (wrap64 (a1)) ((64 : Int)) + (1 : Int)))), pF, pF, pF, pB (t1), pB (l0), pI (((l0).length : Int)), pB ((t1).take (((l0).length : Int) : Int).toNat), Pv.is (.string (strOfNums ((t1).take (((l0).length : Int) : Int).toNat))), pB (l0), Pv.is (.string (strOfNums (l0))), pF, pF, pF, pB (t1), pI (wrap64 (Int.tmod (wrap64 (a1)) ((64 : Int)) + (1 : Int))), pT, pF, pF]) (told_pst _) (owedS (owedS (owedS (owedS (owedS (owedS (owedS (owedS (owedS (owedS (owedS (owedS (owedS (owedS (owedS (owedS (owedS (owedS (owedS (owedS (owedS (owedS (owedS (owedS (owedS (owedS (owedS owed0 ?s0) ?s1) ?s2) ?s3) ?s4) ?s5) ?s6) ?s7) ?s8) ?s9) ?s10) ?s11) ?s12) ?s13) ?s14) ?s15) ?s16) ?s17) ?s18) ?s19) ?s20) ?s21) ?s22) ?s23) ?s24) ?s25) ?s26) ?_
  case s0 =>
   intro b w1 hb hp hu
   have x11 : (pI (t2)).V (get b 11) w1 := Pv.keep _ g5_11 (hu 11 (by kernel_rfl)) hb
   exact st_move rfl (want0 rfl _) rfl x11
  case s1 =>
   intro b w1 hb hp hu
   have x31 : (pI (t2)).V (get b 31) w1 := hp 0 31 (by kernel_rfl) rfl
   exact st_neq (b := true) (κ := .i64) (m := t2) (n := ((0 : Int))) rfl (want0 rfl _) rfl x31 rfl (decide_eq_true c0_1)
  case s2 =>
   intro b w1 hb hp hu
   have x32 : (pF).V (get b 32) w1 := hp 1 32 (by kernel_rfl) rfl
   exact st_move rfl (want0 rfl _) rfl x32
  case s3 =>
   intro b w1 hb hp hu
   have x33 : (pF).V (get b 33) w1 := hp 2 33 (by kernel_rfl) rfl
   have x10 : (pB (t1)).V (get b 10) w1 := Pv.keep _ g5_10 (hu 10 (by kernel_rfl)) hb
   exact st_move rfl ((want_is (N := 33) rfl rfl x33).trans rfl) rfl x10
  case s4 =>
   intro b w1 hb hp hu
   have x33 : (pF).V (get b 33) w1 := hp 2 33 (by kernel_rfl) rfl
   have x34 : (pB (t1)).V (get b 34) w1 := hp 3 34 (by kernel_rfl) rfl
   obtain ⟨A_, c_, e_, _, _⟩ := x34
   exact st_len rfl ((want_is (N := 33) rfl rfl x33).trans rfl) rfl Try.underlying22 e_ rfl
  case s5 =>
   intro b w1 hb hp hu
   have x33 : (pF).V (get b 33) w1 := hp 2 33 (by kernel_rfl) rfl
   have x0 : (pB (l0)).V (get b 0) w1 := Pv.keep _ g5_0 (hu 0 (by kernel_rfl)) hb
   exact st_move rfl ((want_is (N := 33) rfl rfl x33).trans rfl) rfl x0
  case s6 =>
   intro b w1 hb hp hu
   have x33 : (pF).V (get b 33) w1 := hp 2 33 (by kernel_rfl) rfl
   have x36 : (pB (l0)).V (get b 36) w1 := hp 5 36 (by kernel_rfl) rfl
   obtain ⟨A_, c_, e_, _, _⟩ := x36
   exact st_len rfl ((want_is (N := 33) rfl rfl x33).trans rfl) rfl Try.underlying22 e_ rfl
  case s7 =>
   intro b w1 hb hp hu
   have x33 : (pF).V (get b 33) w1 := hp 2 33 (by kernel_rfl) rfl
   have x9 : (pI (wrap64 (Int.tmod (wrap64 (a1)) ((64 : Int)) + (1 : Int)))).V (get b 9) w1 := Pv.keep _ g5_9 (hu 9 (by kernel_rfl)) hb
   exact st_move rfl ((want_is (N := 33) rfl rfl x33).trans rfl) rfl x9
  case s8 =>
   intro b w1 hb hp hu
   have x33 : (pF).V (get b 33) w1 := hp 2 33 (by kernel_rfl) rfl
   have x37 : (pI (((l0).length : Int))).V (get b 37) w1 := hp 6 37 (by kernel_rfl) rfl
   have x38 : (pI (wrap64 (Int.tmod (wrap64 (a1)) ((64 : Int)) + (1 : Int)))).V (get b 38) w1 := hp 7 38 (by kernel_rfl) rfl
   exact st_bin (v := .int .i64 (wrap64 (((l0).length : Int) + wrap64 (Int.tmod (wrap64 (a1)) ((64 : Int)) + (1 : Int))))) (vx := .int .i64 (((l0).length : Int))) (vy := .int .i64 (wrap64 (Int.tmod (wrap64 (a1)) ((64 : Int)) + (1 : Int)))) rfl ((want_is (N := 33) rfl rfl x33).trans rfl) rfl x37 x38 (by first | rfl | (go_simp; first | done | rfl | (simp only [i64_w, i32_w]; done))) rfl
  case s9 =>
   intro b w1 hb hp hu
   have x33 : (pF).V (get b 33) w1 := hp 2 33 (by kernel_rfl) rfl
   have x35 : (pI (((t1).length : Int))).V (get b 35) w1 := hp 4 35 (by kernel_rfl) rfl
   have x39 : (pI (wrap64 (((l0).length : Int) + wrap64 (Int.tmod (wrap64 (a1)) ((64 : Int)) + (1 : Int))))).V (get b 39) w1 := hp 8 39 (by kernel_rfl) rfl
   exact st_neq (b := true) (κ := .i64) (m := (((t1).length : Int))) (n := (wrap64 (((l0).length : Int) + wrap64 (Int.tmod (wrap64 (a1)) ((64 : Int)) + (1 : Int))))) rfl ((want_is (N := 33) rfl rfl x33).trans rfl) rfl x35 x39 (decide_eq_true c0_2)
  case s10 =>
   intro b w1 hb hp hu
   have x33 : (pF).V (get b 33) w1 := hp 2 33 (by kernel_rfl) rfl
   have x40 : (pF).V (get b 40) w1 := hp 9 40 (by kernel_rfl) rfl
   exact st_pick (b := false) rfl (want0 rfl _) rfl x33 x40
  case s11 =>
   intro b w1 hb hp hu
   have x41 : (pF).V (get b 41) w1 := hp 10 41 (by kernel_rfl) rfl
   exact st_move rfl (want0 rfl _) rfl x41
  case s12 =>
   intro b w1 hb hp hu
   have x42 : (pF).V (get b 42) w1 := hp 11 42 (by kernel_rfl) rfl
   have x10 : (pB (t1)).V (get b 10) w1 := Pv.keep _ g5_10 (hu 10 (by kernel_rfl)) hb
   exact st_move rfl ((want_is (N := 42) rfl rfl x42).trans rfl) rfl x10
  case s13 =>
   intro b w1 hb hp hu
   have x42 : (pF).V (get b 42) w1 := hp 11 42 (by kernel_rfl) rfl
   have x0 : (pB (l0)).V (get b 0) w1 := Pv.keep _ g5_0 (hu 0 (by kernel_rfl)) hb
   exact st_move rfl ((want_is (N := 42) rfl rfl x42).trans rfl) rfl x0
  case s14 =>
   intro b w1 hb hp hu
   have x42 : (pF).V (get b 42) w1 := hp 11 42 (by kernel_rfl) rfl
   have x44 : (pB (l0)).V (get b 44) w1 := hp 13 44 (by kernel_rfl) rfl
   obtain ⟨A_, c_, e_, _, _⟩ := x44
   exact st_len rfl ((want_is (N := 42) rfl rfl x42).trans rfl) rfl Try.underlying22 e_ rfl
  case s15 =>
   intro b w1 hb hp hu
   have x42 : (pF).V (get b 42) w1 := hp 11 42 (by kernel_rfl) rfl
   have x43 : (pB (t1)).V (get b 43) w1 := hp 12 43 (by kernel_rfl) rfl
   have x45 : (pI (((l0).length : Int))).V (get b 45) w1 := hp 14 45 (by kernel_rfl) rfl
   exact st_take Try.underlying22 info5 rfl ((want_is (N := 42) rfl rfl x42).trans rfl) rfl x43 x45 c0_3 c0_4
  case s16 =>
   intro b w1 hb hp hu
   have x42 : (pF).V (get b 42) w1 := hp 11 42 (by kernel_rfl) rfl
   have x46 : (pB ((t1).take (((l0).length : Int) : Int).toNat)).V (get b 46) w1 := hp 15 46 (by kernel_rfl) rfl
   exact st_string Try.underlying22 Try.underlying5 Try.underlying9 rfl ((want_is (N := 42) rfl rfl x42).trans rfl) rfl x46 rfl
  case s17 =>
   intro b w1 hb hp hu
   have x42 : (pF).V (get b 42) w1 := hp 11 42 (by kernel_rfl) rfl
   have x0 : (pB (l0)).V (get b 0) w1 := Pv.keep _ g5_0 (hu 0 (by kernel_rfl)) hb
   exact st_move rfl ((want_is (N := 42) rfl rfl x42).trans rfl) rfl x0
  case s18 =>
   intro b w1 hb hp hu
   have x42 : (pF).V (get b 42) w1 := hp 11 42 (by kernel_rfl) rfl
   have x48 : (pB (l0)).V (get b 48) w1 := hp 17 48 (by kernel_rfl) rfl
   exact st_string Try.underlying22 Try.underlying5 Try.underlying9 rfl ((want_is (N := 42) rfl rfl x42).trans rfl) rfl x48 rfl
  case s19 =>
   intro b w1 hb hp hu
   have x42 : (pF).V (get b 42) w1 := hp 11 42 (by kernel_rfl) rfl
   have x47 : (Pv.is (.string (strOfNums ((t1).take (((l0).length : Int) : Int).toNat)))).V (get b 47) w1 := hp 16 47 (by kernel_rfl) rfl
   have x49 : (Pv.is (.string (strOfNums (l0)))).V (get b 49) w1 := hp 18 49 (by kernel_rfl) rfl
   exact st_sneq (b := true) rfl ((want_is (N := 42) rfl rfl x42).trans rfl) rfl x47 x49 (decide_eq_true c0_5)
  case s20 =>
   intro b w1 hb hp hu
   have x42 : (pF).V (get b 42) w1 := hp 11 42 (by kernel_rfl) rfl
   have x50 : (pF).V (get b 50) w1 := hp 19 50 (by kernel_rfl) rfl
   exact st_pick (b := false) rfl (want0 rfl _) rfl x42 x50
  case s21 =>
   intro b w1 hb hp hu
   have x51 : (pF).V (get b 51) w1 := hp 20 51 (by kernel_rfl) rfl
   exact st_move rfl (want0 rfl _) rfl x51
  case s22 =>
   intro b w1 hb hp hu
   have x52 : (pF).V (get b 52) w1 := hp 21 52 (by kernel_rfl) rfl
   have x10 : (pB (t1)).V (get b 10) w1 := Pv.keep _ g5_10 (hu 10 (by kernel_rfl)) hb
   exact st_move rfl ((want_is (N := 52) rfl rfl x52).trans rfl) rfl x10
  case s23 =>
   intro b w1 hb hp hu
   have x52 : (pF).V (get b 52) w1 := hp 21 52 (by kernel_rfl) rfl
   have x9 : (pI (wrap64 (Int.tmod (wrap64 (a1)) ((64 : Int)) + (1 : Int)))).V (get b 9) w1 := Pv.keep _ g5_9 (hu 9 (by kernel_rfl)) hb
   exact st_move rfl ((want_is (N := 52) rfl rfl x52).trans rfl) rfl x9
  case s24 =>
   intro b w1 hb hp hu
   have x52 : (pF).V (get b 52) w1 := hp 21 52 (by kernel_rfl) rfl
   have x53 : (pB (t1)).V (get b 53) w1 := hp 22 53 (by kernel_rfl) rfl
   obtain ⟨B0, d0, e0_, hC0, hl0⟩ := x53
   have e0 : b.eval (Operand.tmp 53) = .slice B0 (t1).length d0 := e0_
   have x54 : (pI (wrap64 (Int.tmod (wrap64 (a1)) ((64 : Int)) + (1 : Int)))).V (get b 54) w1 := hp 23 54 (by kernel_rfl) rfl
   have e1 : b.eval (Operand.tmp 54) = .int .i64 (wrap64 (Int.tmod (wrap64 (a1)) ((64 : Int)) + (1 : Int))) := x54
   refine st_call rfl ((want_is (N := 52) rfl rfl x52).trans rfl) rfl Try.func31 (by kernel_rfl) rfl #[.slice B0 (t1).length d0, .int .i64 (wrap64 (Int.tmod (wrap64 (a1)) ((64 : Int)) + (1 : Int)))] (by simp only [List.map_toArray, List.map_cons, List.map_nil, e0, e1]) ?_
   refine (solomon_Fine.calls k B0 d0 _ _ _ w1 hC0 hl0 H3).mono ?_
   rintro e w2 ⟨rfl, hb2⟩
   exact ⟨_, rfl, (show (Pv.is (.bool true)).V (.bool t3) w2 from by rw [c0_6]; first | done | exact rfl), hb2⟩
  case s25 =>
   intro b w1 hb hp hu
   have x52 : (pF).V (get b 52) w1 := hp 21 52 (by kernel_rfl) rfl
   have x55 : (pT).V (get b 55) w1 := hp 24 55 (by kernel_rfl) rfl
   exact st_un (v := .bool false) (vx := .bool true) rfl ((want_is (N := 52) rfl rfl x52).trans rfl) rfl x55 (by first | rfl | (go_simp; first | done | rfl | (simp only [i64_w, i32_w]; done))) rfl
  case s26 =>
   intro b w1 hb hp hu
   have x52 : (pF).V (get b 52) w1 := hp 21 52 (by kernel_rfl) rfl
   have x56 : (pF).V (get b 56) w1 := hp 25 56 (by kernel_rfl) rfl
   exact st_pick (b := false) rfl (want0 rfl _) rfl x52 x56
  intro ac6 wo6 hn6 hd_ hb hv hs
  have g6_57 : (pF).V (get ac6 57) wo6 := hv 26 57 rfl
  have g6_10 : (pB (t1)).V (get ac6 10) wo6 := Pv.keep _ g5_10 (hs 10 rfl) hb
  have g6_9 : (pI (wrap64 (Int.tmod (wrap64 (a1)) ((64 : Int)) + (1 : Int)))).V (get ac6 9) wo6 := Pv.keep _ g5_9 (hs 9 rfl) hb
  have g6_8 : (pF).V (get ac6 8) wo6 := Pv.keep _ g5_8 (hs 8 rfl) hb
  have g6_2 : (pB (l2)).V (get ac6 2) wo6 := Pv.keep _ g5_2 (hs 2 rfl) hb
  have g6_3 : (pB (l3)).V (get ac6 3) wo6 := Pv.keep _ g5_3 (hs 3 rfl) hb
  have hB6 := below_step hB5 hb
  have hd6 := hd_.trans hd5
  clear hv hs hd_ hb hB5 hn5 hd5 g5_10 g5_11 g5_9 g5_8 g5_0 g5_2 g5_3
  show Code.wp _ _ _ _ _
  refine wp_cond_false (show ac6.eval (Operand.tmp 57) = .bool false from g6_57) ?_
  refine wp_skip ?_
  show Code.wp _ _ _ _ _
  refine wp_seq ?_
  have hEo0_9 : w.heap.size ≤ wo6.heap.size := hB6.size
  replace g6_10 : (Pv.fx (wo6.heap.size) (Kd.int .u8) (t1)).V (get ac6 10) wo6 := Pv.sl_fx (Kd.heap_int .u8) g6_10
  replace g6_2 : (Pv.fx (wo6.heap.size) (Kd.int .u8) (l2)).V (get ac6 2) wo6 := Pv.sl_fx (Kd.heap_int .u8) g6_2
  replace g6_3 : (Pv.fx (wo6.heap.size) (Kd.int .u8) (l3)).V (get ac6 3) wo6 := Pv.sl_fx (Kd.heap_int .u8) g6_3
  refine Reg.seg (T := T9) (D := D9) (n := 104) 2 _ rfl rfl (by kernel_rfl) hn6 (told [Pv.own (wo6.heap.size) 5 (Kd.int .u8) (([] : List Int)), pB (t1)]) (told_pst _) (owedS (owedS owed0 ?s0) ?s1) ?_
  case s0 =>
   intro b w1 hb hp hu
   exact st_nil rfl (want0 rfl _) rfl rfl (by first | (go_simp; done) | (go_simp; rfl)) hb.size
  case s1 =>
   intro b w1 hb hp hu
   have x10 : (Pv.fx (wo6.heap.size) (Kd.int .u8) (t1)).V (get b 10) w1 := Pv.keep _ g6_10 (hu 10 (by kernel_rfl)) hb
   exact st_move rfl (want0 rfl _) rfl (Pv.fx_sl x10)
  intro ac7 wo7 hn7 hd_ hb hv hs
  have g7_58 : (Pv.own (wo6.heap.size) 5 (Kd.int .u8) (([] : List Int))).V (get ac7 58) wo7 := hv 0 58 (by decide) rfl
  have g7_59 : (pB (t1)).V (get ac7 59) wo7 := hv 1 59 (by decide) rfl
  have g7_10 : (Pv.fx (wo6.heap.size) (Kd.int .u8) (t1)).V (get ac7 10) wo7 := Pv.keep _ g6_10 (hs 10 rfl) hb
  have g7_9 : (pI (wrap64 (Int.tmod (wrap64 (a1)) ((64 : Int)) + (1 : Int)))).V (get ac7 9) wo7 := Pv.keep _ g6_9 (hs 9 rfl) hb
  have g7_8 : (pF).V (get ac7 8) wo7 := Pv.keep _ g6_8 (hs 8 rfl) hb
  have g7_2 : (Pv.fx (wo6.heap.size) (Kd.int .u8) (l2)).V (get ac7 2) wo7 := Pv.keep _ g6_2 (hs 2 rfl) hb
  have g7_3 : (Pv.fx (wo6.heap.size) (Kd.int .u8) (l3)).V (get ac7 3) wo7 := Pv.keep _ g6_3 (hs 3 rfl) hb
  have hB7 := below_step hB6 hb
  have hd7 := hd_.trans hd6
  have hOo0_9_7 : wo6.heap.size ≤ wo7.heap.size := hb.size
  clear hv hs hd_ hb hB6 hn6 hd6 g6_57 g6_10 g6_9 g6_8 g6_2 g6_3
  refine seq_append (w0 := wo7) (B := wo6.heap.size) rfl rfl Try.underlying22 info5 (by decide) g7_58 g7_59 hOo0_9_7 (Below.refl _ _) (by have c_ := c0_7; omega) ?_
  intro v8 wo8 ho_ hb
  refine seq_assign rfl rfl ?_
  refine end_two (p := 60) (q := 12) (v := v8) hn7 hd7 (by decide) (by decide) ?_
  intro ac8 hn8 hd8 hq_ hs
  have g8_2 : (Pv.fx (wo6.heap.size) (Kd.int .u8) (l2)).V (get ac8 2) wo8 := Pv.fx_to g7_2 (hs 2 (by decide) (by decide)) hb
  have g8_3 : (Pv.fx (wo6.heap.size) (Kd.int .u8) (l3)).V (get ac8 3) wo8 := Pv.fx_to g7_3 (hs 3 (by decide) (by decide)) hb
  have g8_8 : (pF).V (get ac8 8) wo8 := Pv.is_to g7_8 (hs 8 (by decide) (by decide))
  have g8_9 : (pI (wrap64 (Int.tmod (wrap64 (a1)) ((64 : Int)) + (1 : Int)))).V (get ac8 9) wo8 := Pv.is_to g7_9 (hs 9 (by decide) (by decide))
  have g8_10 : (Pv.fx (wo6.heap.size) (Kd.int .u8) (t1)).V (get ac8 10) wo8 := Pv.fx_to g7_10 (hs 10 (by decide) (by decide)) hb
  have g8_12 : (Pv.own (wo6.heap.size) 5 (Kd.int .u8) (t1)).V (get ac8 12) wo8 := by rw [hq_]; exact ho_
  have hB8 := hB7.trans (hb.mono hEo0_9)
  have hOo0_9_8 : wo6.heap.size ≤ wo8.heap.size := Nat.le_trans hOo0_9_7 hb.size
  clear hb ho_ hq_ hs hn7 hd7 hB7 hOo0_9_7 g7_58 g7_59 g7_10 g7_9 g7_8 g7_2 g7_3
  show Code.wp _ _ _ _ _
  refine wp_seq ?_
  refine wp_seq ?_
  refine Reg.plain (T := T10) (D := D10) (n := 104) (by kernel_rfl) hn8 (told [pI ((0 : Int))]) (told_pst _) (owedS owed0 ?s0) ?_
  case s0 =>
   intro b w1 hb hp hu
   exact st_assign rfl (want0 rfl _) rfl rfl
  intro ac9 wo9 hn9 hd_ hb hv hs
  have g9_13 : (pI ((0 : Int))).V (get ac9 13) wo9 := hv 0 13 rfl
  have g9_2 : (Pv.fx (wo6.heap.size) (Kd.int .u8) (l2)).V (get ac9 2) wo9 := Pv.keep _ g8_2 (hs 2 rfl) hb
  have g9_3 : (Pv.fx (wo6.heap.size) (Kd.int .u8) (l3)).V (get ac9 3) wo9 := Pv.keep _ g8_3 (hs 3 rfl) hb
  have g9_8 : (pF).V (get ac9 8) wo9 := Pv.keep _ g8_8 (hs 8 rfl) hb
  have g9_9 : (pI (wrap64 (Int.tmod (wrap64 (a1)) ((64 : Int)) + (1 : Int)))).V (get ac9 9) wo9 := Pv.keep _ g8_9 (hs 9 rfl) hb
  have g9_10 : (Pv.fx (wo6.heap.size) (Kd.int .u8) (t1)).V (get ac9 10) wo9 := Pv.keep _ g8_10 (hs 10 rfl) hb
  have g9_12 : (Pv.own (wo6.heap.size) 5 (Kd.int .u8) (t1)).V (get ac9 12) wo9 := Pv.keep _ g8_12 (hs 12 rfl) hb
  have hB9 := below_step hB8 hb
  have hd9 := hd_.trans hd8
  have hOo0_9_9 : wo6.heap.size ≤ wo9.heap.size := Nat.le_trans hOo0_9_8 hb.size
  clear hv hs hd_ hb hB8 hn8 hd8 hOo0_9_8 g8_2 g8_3 g8_8 g8_9 g8_10 g8_12
  show Code.wp _ _ _ _ _
  refine wp_block ?_
  obtain ⟨q10, h⟩ := h
  refine wp_loopg (J := fun q a w' => ∃ (y12_1 : List Int) (x13_1 : Int), a.tmps.size = 104 ∧ a.defers = [] ∧ Below w.heap.size w w' ∧ wo6.heap.size ≤ w'.heap.size ∧ (Pv.fx (wo6.heap.size) (Kd.int .u8) (l2)).V (get a 2) w' ∧ (Pv.fx (wo6.heap.size) (Kd.int .u8) (l3)).V (get a 3) w' ∧ (pF).V (get a 8) w' ∧ (pI (wrap64 (Int.tmod (wrap64 (a1)) ((64 : Int)) + (1 : Int)))).V (get a 9) w' ∧ (Pv.fx (wo6.heap.size) (Kd.int .u8) (t1)).V (get a 10) w' ∧ (Pv.own (wo6.heap.size) 5 (Kd.int .u8) (y12_1)).V (get a 12) w' ∧ (pI (x13_1)).V (get a 13) w' ∧ wristbandlaw09_SolomonFine.l1 k q l0 a1 l2 l3 t1 y12_1 x13_1) q10 ⟨(t1), ((0 : Int)), hn9, hd9, hB9, hOo0_9_9, g9_2, g9_3, g9_8, g9_9, g9_10, g9_12, g9_13, h⟩ ?_
  clear h hn9 hd9 hB9 hOo0_9_9 g9_13 g9_2 g9_3 g9_8 g9_9 g9_10 g9_12
  rintro q10 ac10 wo10 ⟨y12_1, x13_1, hn10, hd10, hB10, hOo0_9_10, g10_2, g10_3, g10_8, g10_9, g10_10, g10_12, g10_13, h⟩
  cases q10 with
  | zero => exact absurd h (by simp [wristbandlaw09_SolomonFine.l1])
  | succ q10 =>
   simp only [wristbandlaw09_SolomonFine.l1] at h
   refine wp_seq ?_
   refine wp_seq ?_
   obtain ⟨hy, hn⟩ := h
   by_cases c1_0 : x13_1 < ((l2).length : Int)
   ·have h := hy c1_0
    clear hy hn
    obtain ⟨hy, hn⟩ := h
    by_cases c1_1 : x13_1 < ((l3).length : Int)
    ·have h := hy c1_1
     clear hy hn
     obtain ⟨hy, hn⟩ := h
     by_cases c1_2 : x13_1 < wrap64 (Int.tmod (wrap64 (a1)) ((64 : Int)) + (1 : Int))
     ·have h := hy c1_2
      clear hy hn
      obtain ⟨c1_3, h⟩ := h
      obtain ⟨c1_4, h⟩ := h
      obtain ⟨c1_5, h⟩ := h
      obtain ⟨c1_6, h⟩ := h
      refine Reg.plain (T := T11) (D := D11) (n := 104) (by kernel_rfl) hn10 (told [pI (x13_1), Pv.fx (wo6.heap.size) (Kd.int .u8) (l2), pI (((l2).length : Int)), pT, pT, pI (x13_1), Pv.fx (wo6.heap.size) (Kd.int .u8) (l3), pI (((l3).length : Int)), pT, pT, pT, pI (x13_1), pI (wrap64 (Int.tmod (wrap64 (a1)) ((64 : Int)) + (1 : Int))), pT, pT]) (told_pst _) (owedS (owedS (owedS (owedS (owedS (owedS (owedS (owedS (owedS (owedS (owedS (owedS (owedS (owedS (owedS owed0 ?s0) ?s1) ?s2) ?s3) ?s4) ?s5) ?s6) ?s7) ?s8) ?s9) ?s10) ?s11) ?s12) ?s13) ?s14) ?_
      case s0 =>
       intro b w1 hb hp hu
       have x13 : (pI (x13_1)).V (get b 13) w1 := Pv.keep _ g10_13 (hu 13 (by kernel_rfl)) hb
       exact st_move rfl (want0 rfl _) rfl x13
      case s1 =>
       intro b w1 hb hp hu
       have x2 : (Pv.fx (wo6.heap.size) (Kd.int .u8) (l2)).V (get b 2) w1 := Pv.keep _ g10_2 (hu 2 (by kernel_rfl)) hb
       exact st_move rfl (want0 rfl _) rfl x2
      case s2 =>
       intro b w1 hb hp hu
       have x62 : (Pv.fx (wo6.heap.size) (Kd.int .u8) (l2)).V (get b 62) w1 := hp 1 62 (by kernel_rfl) rfl
       obtain ⟨A_, c_, e_, _, _⟩ := (Pv.fx_sl x62)
       exact st_len rfl (want0 rfl _) rfl Try.underlying22 e_ rfl
      case s3 =>
       intro b w1 hb hp hu
       have x61 : (pI (x13_1)).V (get b 61) w1 := hp 0 61 (by kernel_rfl) rfl
       have x63 : (pI (((l2).length : Int))).V (get b 63) w1 := hp 2 63 (by kernel_rfl) rfl
       exact st_lss (b := true) (κ := .i64) (m := x13_1) (n := (((l2).length : Int))) rfl (want0 rfl _) rfl x61 x63 (decide_eq_true c1_0)
      case s4 =>
       intro b w1 hb hp hu
       have x64 : (pT).V (get b 64) w1 := hp 3 64 (by kernel_rfl) rfl
       exact st_move rfl (want0 rfl _) rfl x64
      case s5 =>
       intro b w1 hb hp hu
       have x65 : (pT).V (get b 65) w1 := hp 4 65 (by kernel_rfl) rfl
       have x13 : (pI (x13_1)).V (get b 13) w1 := Pv.keep _ g10_13 (hu 13 (by kernel_rfl)) hb
       exact st_move rfl ((want_is (N := 65) rfl rfl x65).trans rfl) rfl x13
      case s6 =>
       intro b w1 hb hp hu
       have x65 : (pT).V (get b 65) w1 := hp 4 65 (by kernel_rfl) rfl
       have x3 : (Pv.fx (wo6.heap.size) (Kd.int .u8) (l3)).V (get b 3) w1 := Pv.keep _ g10_3 (hu 3 (by kernel_rfl)) hb
       exact st_move rfl ((want_is (N := 65) rfl rfl x65).trans rfl) rfl x3
      case s7 =>
       intro b w1 hb hp hu
       have x65 : (pT).V (get b 65) w1 := hp 4 65 (by kernel_rfl) rfl
       have x67 : (Pv.fx (wo6.heap.size) (Kd.int .u8) (l3)).V (get b 67) w1 := hp 6 67 (by kernel_rfl) rfl
       obtain ⟨A_, c_, e_, _, _⟩ := (Pv.fx_sl x67)
       exact st_len rfl ((want_is (N := 65) rfl rfl x65).trans rfl) rfl Try.underlying22 e_ rfl
      case s8 =>
       intro b w1 hb hp hu
       have x65 : (pT).V (get b 65) w1 := hp 4 65 (by kernel_rfl) rfl
       have x66 : (pI (x13_1)).V (get b 66) w1 := hp 5 66 (by kernel_rfl) rfl
       have x68 : (pI (((l3).length : Int))).V (get b 68) w1 := hp 7 68 (by kernel_rfl) rfl
       exact st_lss (b := true) (κ := .i64) (m := x13_1) (n := (((l3).length : Int))) rfl ((want_is (N := 65) rfl rfl x65).trans rfl) rfl x66 x68 (decide_eq_true c1_1)
      case s9 =>
       intro b w1 hb hp hu
       have x65 : (pT).V (get b 65) w1 := hp 4 65 (by kernel_rfl) rfl
       have x69 : (pT).V (get b 69) w1 := hp 8 69 (by kernel_rfl) rfl
       exact st_pick (b := true) rfl (want0 rfl _) rfl x65 x69
      case s10 =>
       intro b w1 hb hp hu
       have x70 : (pT).V (get b 70) w1 := hp 9 70 (by kernel_rfl) rfl
       exact st_move rfl (want0 rfl _) rfl x70
      case s11 =>
       intro b w1 hb hp hu
       have x71 : (pT).V (get b 71) w1 := hp 10 71 (by kernel_rfl) rfl
       have x13 : (pI (x13_1)).V (get b 13) w1 := Pv.keep _ g10_13 (hu 13 (by kernel_rfl)) hb
       exact st_move rfl ((want_is (N := 71) rfl rfl x71).trans rfl) rfl x13
      case s12 =>
       intro b w1 hb hp hu
       have x71 : (pT).V (get b 71) w1 := hp 10 71 (by kernel_rfl) rfl
       have x9 : (pI (wrap64 (Int.tmod (wrap64 (a1)) ((64 : Int)) + (1 : Int)))).V (get b 9) w1 := Pv.keep _ g10_9 (hu 9 (by kernel_rfl)) hb
       exact st_move rfl ((want_is (N := 71) rfl rfl x71).trans rfl) rfl x9
      case s13 =>
       intro b w1 hb hp hu
       have x71 : (pT).V (get b 71) w1 := hp 10 71 (by kernel_rfl) rfl
       have x72 : (pI (x13_1)).V (get b 72) w1 := hp 11 72 (by kernel_rfl) rfl
       have x73 : (pI (wrap64 (Int.tmod (wrap64 (a1)) ((64 : Int)) + (1 : Int)))).V (get b 73) w1 := hp 12 73 (by kernel_rfl) rfl
       exact st_lss (b := true) (κ := .i64) (m := x13_1) (n := (wrap64 (Int.tmod (wrap64 (a1)) ((64 : Int)) + (1 : Int)))) rfl ((want_is (N := 71) rfl rfl x71).trans rfl) rfl x72 x73 (decide_eq_true c1_2)
      case s14 =>
       intro b w1 hb hp hu
       have x71 : (pT).V (get b 71) w1 := hp 10 71 (by kernel_rfl) rfl
       have x74 : (pT).V (get b 74) w1 := hp 13 74 (by kernel_rfl) rfl
       exact st_pick (b := true) rfl (want0 rfl _) rfl x71 x74
      intro ac11 wo11 hn11 hd_ hb hv hs
      have g11_75 : (pT).V (get ac11 75) wo11 := hv 14 75 rfl
      have g11_2 : (Pv.fx (wo6.heap.size) (Kd.int .u8) (l2)).V (get ac11 2) wo11 := Pv.keep _ g10_2 (hs 2 rfl) hb
      have g11_3 : (Pv.fx (wo6.heap.size) (Kd.int .u8) (l3)).V (get ac11 3) wo11 := Pv.keep _ g10_3 (hs 3 rfl) hb
      have g11_8 : (pF).V (get ac11 8) wo11 := Pv.keep _ g10_8 (hs 8 rfl) hb
      have g11_9 : (pI (wrap64 (Int.tmod (wrap64 (a1)) ((64 : Int)) + (1 : Int)))).V (get ac11 9) wo11 := Pv.keep _ g10_9 (hs 9 rfl) hb
      have g11_10 : (Pv.fx (wo6.heap.size) (Kd.int .u8) (t1)).V (get ac11 10) wo11 := Pv.keep _ g10_10 (hs 10 rfl) hb
      have g11_12 : (Pv.own (wo6.heap.size) 5 (Kd.int .u8) (y12_1)).V (get ac11 12) wo11 := Pv.keep _ g10_12 (hs 12 rfl) hb
      have g11_13 : (pI (x13_1)).V (get ac11 13) wo11 := Pv.keep _ g10_13 (hs 13 rfl) hb
      have hB11 := below_step hB10 hb
      have hd11 := hd_.trans hd10
      have hOo0_9_11 : wo6.heap.size ≤ wo11.heap.size := Nat.le_trans hOo0_9_10 hb.size
      clear hv hs hd_ hb hB10 hn10 hd10 hOo0_9_10 g10_2 g10_3 g10_8 g10_9 g10_10 g10_12 g10_13
      show Code.wp _ _ _ _ _
      refine wp_cond_true (show ac11.eval (Operand.tmp 75) = .bool true from g11_75) ?_
      refine wp_skip ?_
      show Code.wp _ _ _ _ _
      refine wp_seq ?_
      refine wp_block ?_
      obtain ⟨g11, cap11, ev11, ho11⟩ := Pv.own_form g11_12 (by have c1_ := c1_5; have c2_ := c1_6; omega)
      refine Reg.segd (T := T13) (D := D13) (n := 104) rfl 17 _ rfl rfl (by kernel_rfl) (by kernel_rfl) hn11 (told [Pv.is (.slice (some ⟨g11, 0, none⟩) (y12_1).length cap11), Pv.fx (wo6.heap.size) (Kd.int .u8) (l2), pI (x13_1), Pv.at .u8 (l2) (x13_1), Pv.is (.int .u8 (rd (l2) (x13_1))), pI (wrap64 (rd (l2) (x13_1))), Pv.is (.slice (some ⟨g11, 0, none⟩) (y12_1).length cap11), pI (((y12_1).length : Int)), pI (Int.tmod (wrap64 (rd (l2) (x13_1))) (((y12_1).length : Int))), Pv.is (.pointer (some ⟨g11, (Int.tmod (wrap64 (rd (l2) (x13_1))) (((y12_1).length : Int))).toNat, none⟩)), Pv.is (.int .u8 (rd (y12_1) (Int.tmod (wrap64 (rd (l2) (x13_1))) (((y12_1).length : Int))))), Pv.fx (wo6.heap.size) (Kd.int .u8) (l3), pI (x13_1), Pv.at .u8 (l3) (x13_1), Pv.is (.int .u8 (rd (l3) (x13_1))), Pv.is (.int .u8 (Go.bits .xor .u8 (rd (y12_1) (Int.tmod (wrap64 (rd (l2) (x13_1))) (((y12_1).length : Int)))) (rd (l3) (x13_1)))), Pv.is (.pointer (some ⟨g11, (Int.tmod (wrap64 (rd (l2) (x13_1))) (((y12_1).length : Int))).toNat, none⟩))]) (told_pst _) (owedS (owedS (owedS (owedS (owedS (owedS (owedS (owedS (owedS (owedS (owedS (owedS (owedS (owedS (owedS (owedS (owedS owed0 ?s0) ?s1) ?s2) ?s3) ?s4) ?s5) ?s6) ?s7) ?s8) ?s9) ?s10) ?s11) ?s12) ?s13) ?s14) ?s15) ?s16) ?_
      case s0 =>
       intro b w1 hb hp hu
       have x12 : (Pv.is (.slice (some ⟨g11, 0, none⟩) (y12_1).length cap11)).V (get b 12) w1 := Pv.keep _ ev11 (hu 12 (by kernel_rfl)) hb
       exact st_move rfl (want0 rfl _) rfl x12
      case s1 =>
       intro b w1 hb hp hu
       have x2 : (Pv.fx (wo6.heap.size) (Kd.int .u8) (l2)).V (get b 2) w1 := Pv.keep _ g11_2 (hu 2 (by kernel_rfl)) hb
       exact st_move rfl (want0 rfl _) rfl x2
      case s2 =>
       intro b w1 hb hp hu
       have x13 : (pI (x13_1)).V (get b 13) w1 := Pv.keep _ g11_13 (hu 13 (by kernel_rfl)) hb
       exact st_move rfl (want0 rfl _) rfl x13
      case s3 =>
       intro b w1 hb hp hu
       have x80 : (pI (x13_1)).V (get b 80) w1 := hp 2 80 (by kernel_rfl) rfl
       have x79 : (Pv.fx (wo6.heap.size) (Kd.int .u8) (l2)).V (get b 79) w1 := hp 1 79 (by kernel_rfl) rfl
       exact st_index Try.underlying22 info5 rfl (want0 rfl _) rfl (Pv.fx_sl x79) x80 c1_3 c1_0
      case s4 =>
       intro b w1 hb hp hu
       have x81 : (Pv.at .u8 (l2) (x13_1)).V (get b 81) w1 := hp 3 81 (by kernel_rfl) rfl
       exact st_load Try.underlying5 rfl (want0 rfl _) rfl x81
      case s5 =>
       intro b w1 hb hp hu
       have x82 : (Pv.is (.int .u8 (rd (l2) (x13_1)))).V (get b 82) w1 := hp 4 82 (by kernel_rfl) rfl
       exact st_conv64 Try.underlying5 Try.underlying3 rfl (want0 rfl _) rfl x82
      case s6 =>
       intro b w1 hb hp hu
       have x12 : (Pv.is (.slice (some ⟨g11, 0, none⟩) (y12_1).length cap11)).V (get b 12) w1 := Pv.keep _ ev11 (hu 12 (by kernel_rfl)) hb
       exact st_move rfl (want0 rfl _) rfl x12
      case s7 =>
       intro b w1 hb hp hu
       have x84 : (Pv.is (.slice (some ⟨g11, 0, none⟩) (y12_1).length cap11)).V (get b 84) w1 := hp 6 84 (by kernel_rfl) rfl
       exact st_len rfl (want0 rfl _) rfl Try.underlying22 x84 rfl
      case s8 =>
       intro b w1 hb hp hu
       have x83 : (pI (wrap64 (rd (l2) (x13_1)))).V (get b 83) w1 := hp 5 83 (by kernel_rfl) rfl
       have x85 : (pI (((y12_1).length : Int))).V (get b 85) w1 := hp 7 85 (by kernel_rfl) rfl
       exact st_rem rfl (want0 rfl _) rfl x83 x85 c1_4
      case s9 =>
       intro b w1 hb hp hu
       have x86 : (pI (Int.tmod (wrap64 (rd (l2) (x13_1))) (((y12_1).length : Int)))).V (get b 86) w1 := hp 8 86 (by kernel_rfl) rfl
       have x78 : (Pv.is (.slice (some ⟨g11, 0, none⟩) (y12_1).length cap11)).V (get b 78) w1 := hp 0 78 (by kernel_rfl) rfl
       exact st_indexv Try.underlying22 info5 rfl (want0 rfl _) rfl x78 x86 c1_5 c1_6
      case s10 =>
       intro b w1 hb hp hu
       have x87 : (Pv.is (.pointer (some ⟨g11, (Int.tmod (wrap64 (rd (l2) (x13_1))) (((y12_1).length : Int))).toNat, none⟩))).V (get b 87) w1 := hp 9 87 (by kernel_rfl) rfl
       exact st_loadv Try.underlying5 rfl (want0 rfl _) rfl x87 (Kd.R_below ho11 hb) c1_5 c1_6
      case s11 =>
       intro b w1 hb hp hu
       have x3 : (Pv.fx (wo6.heap.size) (Kd.int .u8) (l3)).V (get b 3) w1 := Pv.keep _ g11_3 (hu 3 (by kernel_rfl)) hb
       exact st_move rfl (want0 rfl _) rfl x3
      case s12 =>
       intro b w1 hb hp hu
       have x13 : (pI (x13_1)).V (get b 13) w1 := Pv.keep _ g11_13 (hu 13 (by kernel_rfl)) hb
       exact st_move rfl (want0 rfl _) rfl x13
      case s13 =>
       intro b w1 hb hp hu
       have x90 : (pI (x13_1)).V (get b 90) w1 := hp 12 90 (by kernel_rfl) rfl
       have x89 : (Pv.fx (wo6.heap.size) (Kd.int .u8) (l3)).V (get b 89) w1 := hp 11 89 (by kernel_rfl) rfl
       exact st_index Try.underlying22 info5 rfl (want0 rfl _) rfl (Pv.fx_sl x89) x90 c1_3 c1_1
      case s14 =>
       intro b w1 hb hp hu
       have x91 : (Pv.at .u8 (l3) (x13_1)).V (get b 91) w1 := hp 13 91 (by kernel_rfl) rfl
       exact st_load Try.underlying5 rfl (want0 rfl _) rfl x91
      case s15 =>
       intro b w1 hb hp hu
       have x88 : (Pv.is (.int .u8 (rd (y12_1) (Int.tmod (wrap64 (rd (l2) (x13_1))) (((y12_1).length : Int)))))).V (get b 88) w1 := hp 10 88 (by kernel_rfl) rfl
       have x92 : (Pv.is (.int .u8 (rd (l3) (x13_1)))).V (get b 92) w1 := hp 14 92 (by kernel_rfl) rfl
       exact st_xor8 rfl (want0 rfl _) rfl x88 x92
      case s16 =>
       intro b w1 hb hp hu
       have x86 : (pI (Int.tmod (wrap64 (rd (l2) (x13_1))) (((y12_1).length : Int)))).V (get b 86) w1 := hp 8 86 (by kernel_rfl) rfl
       have x78 : (Pv.is (.slice (some ⟨g11, 0, none⟩) (y12_1).length cap11)).V (get b 78) w1 := hp 0 78 (by kernel_rfl) rfl
       exact st_indexv Try.underlying22 info5 rfl (want0 rfl _) rfl x78 x86 c1_5 c1_6
      intro ac12 wo12 hn12 hd_ hb hv hs
      have g12_93 : (Pv.is (.int .u8 (Go.bits .xor .u8 (rd (y12_1) (Int.tmod (wrap64 (rd (l2) (x13_1))) (((y12_1).length : Int)))) (rd (l3) (x13_1))))).V (get ac12 93) wo12 := hv 15 93 (by decide) rfl
      have g12_94 : (Pv.is (.pointer (some ⟨g11, (Int.tmod (wrap64 (rd (l2) (x13_1))) (((y12_1).length : Int))).toNat, none⟩))).V (get ac12 94) wo12 := hv 16 94 (by decide) rfl
      have g12_2 : (Pv.fx (wo6.heap.size) (Kd.int .u8) (l2)).V (get ac12 2) wo12 := Pv.keep _ g11_2 (hs 2 rfl) hb
      have g12_3 : (Pv.fx (wo6.heap.size) (Kd.int .u8) (l3)).V (get ac12 3) wo12 := Pv.keep _ g11_3 (hs 3 rfl) hb
      have g12_8 : (pF).V (get ac12 8) wo12 := Pv.keep _ g11_8 (hs 8 rfl) hb
      have g12_9 : (pI (wrap64 (Int.tmod (wrap64 (a1)) ((64 : Int)) + (1 : Int)))).V (get ac12 9) wo12 := Pv.keep _ g11_9 (hs 9 rfl) hb
      have g12_10 : (Pv.fx (wo6.heap.size) (Kd.int .u8) (t1)).V (get ac12 10) wo12 := Pv.keep _ g11_10 (hs 10 rfl) hb
      have g12_12 : (Pv.is (.slice (some ⟨g11, 0, none⟩) (y12_1).length cap11)).V (get ac12 12) wo12 := Pv.keep _ ev11 (hs 12 rfl) hb
      have g12_13 : (pI (x13_1)).V (get ac12 13) wo12 := Pv.keep _ g11_13 (hs 13 rfl) hb
      have hB12 := below_step hB11 hb
      have hd12 := hd_.trans hd11
      have hOo0_9_12 : wo6.heap.size ≤ wo12.heap.size := Nat.le_trans hOo0_9_11 hb.size
      have ho12 := Kd.R_below ho11 hb
      clear hv hs hd_ hb hB11 hn11 hd11 hOo0_9_11 g11_75 g11_2 g11_3 g11_8 g11_9 g11_10 g11_13
      refine seq_store (w0 := wo12) (κ := .u8) (u := (Go.bits .xor .u8 (rd (y12_1) (Int.tmod (wrap64 (rd (l2) (x13_1))) (((y12_1).length : Int)))) (rd (l3) (x13_1)))) rfl rfl rfl info5 g12_94 g12_93 ho12 c1_5 c1_6 (Below.refl _ _) ?_
      intro wo13 ho_ hb
      refine seq_end ?_
      have g13_2 : (Pv.fx (wo6.heap.size) (Kd.int .u8) (l2)).V (get ac12 2) wo13 := Pv.fx_to g12_2 rfl hb
      have g13_3 : (Pv.fx (wo6.heap.size) (Kd.int .u8) (l3)).V (get ac12 3) wo13 := Pv.fx_to g12_3 rfl hb
      have g13_8 : (pF).V (get ac12 8) wo13 := Pv.is_to g12_8 rfl
      have g13_9 : (pI (wrap64 (Int.tmod (wrap64 (a1)) ((64 : Int)) + (1 : Int)))).V (get ac12 9) wo13 := Pv.is_to g12_9 rfl
      have g13_10 : (Pv.fx (wo6.heap.size) (Kd.int .u8) (t1)).V (get ac12 10) wo13 := Pv.fx_to g12_10 rfl hb
      have g13_13 : (pI (x13_1)).V (get ac12 13) wo13 := Pv.is_to g12_13 rfl
      have g13_12 : (Pv.own (wo6.heap.size) 5 (Kd.int .u8) ((y12_1).set (Int.tmod (wrap64 (rd (l2) (x13_1))) (((y12_1).length : Int)) : Int).toNat (Go.bits .xor .u8 (rd (y12_1) (Int.tmod (wrap64 (rd (l2) (x13_1))) (((y12_1).length : Int)))) (rd (l3) (x13_1))))).V (get ac12 12) wo13 := Pv.own_at ho_ g12_12
      have hB13 := hB12.trans (hb.mono hEo0_9)
      have hOo0_9_13 : wo6.heap.size ≤ wo13.heap.size := Nat.le_trans hOo0_9_12 hb.size
      clear hb ho_ ho12 ho11 hB12 hOo0_9_12 g12_93 g12_94 g12_2 g12_3 g12_8 g12_9 g12_10 g12_12 g12_13
      obtain ⟨ac13, eac⟩ : ∃ x, x = ac12 := ⟨_, rfl⟩
      rw [← eac] at hn12 hd12 g13_2 g13_3 g13_8 g13_9 g13_10 g13_13 g13_12 ⊢
      clear eac
      have hn13 := hn12
      have hd13 := hd12
      clear hn12 hd12
      show Code.wp _ _ _ _ _
      refine Reg.plain (T := T12) (D := D12) (n := 104) (by kernel_rfl) hn13 (told [pI (x13_1), pI (wrap64 (x13_1 + (1 : Int))), pI (wrap64 (x13_1 + (1 : Int)))]) (told_pst _) (owedS (owedS (owedS owed0 ?s0) ?s1) ?s2) ?_
      case s0 =>
       intro b w1 hb hp hu
       have x13 : (pI (x13_1)).V (get b 13) w1 := Pv.keep _ g13_13 (hu 13 (by kernel_rfl)) hb
       exact st_move rfl (want0 rfl _) rfl x13
      case s1 =>
       intro b w1 hb hp hu
       have x76 : (pI (x13_1)).V (get b 76) w1 := hp 0 76 (by kernel_rfl) rfl
       exact st_bin (v := .int .i64 (wrap64 (x13_1 + (1 : Int)))) (vx := .int .i64 (x13_1)) (vy := .int .i64 ((1 : Int))) rfl (want0 rfl _) rfl x76 rfl (by first | rfl | (go_simp; first | done | rfl | (simp only [i64_w, i32_w]; done))) rfl
      case s2 =>
       intro b w1 hb hp hu
       have x77 : (pI (wrap64 (x13_1 + (1 : Int)))).V (get b 77) w1 := hp 1 77 (by kernel_rfl) rfl
       exact st_assign rfl (want0 rfl _) rfl x77
      intro ac14 wo14 hn14 hd_ hb hv hs
      have g14_13 : (pI (wrap64 (x13_1 + (1 : Int)))).V (get ac14 13) wo14 := hv 2 13 rfl
      have g14_2 : (Pv.fx (wo6.heap.size) (Kd.int .u8) (l2)).V (get ac14 2) wo14 := Pv.keep _ g13_2 (hs 2 rfl) hb
      have g14_3 : (Pv.fx (wo6.heap.size) (Kd.int .u8) (l3)).V (get ac14 3) wo14 := Pv.keep _ g13_3 (hs 3 rfl) hb
      have g14_8 : (pF).V (get ac14 8) wo14 := Pv.keep _ g13_8 (hs 8 rfl) hb
      have g14_9 : (pI (wrap64 (Int.tmod (wrap64 (a1)) ((64 : Int)) + (1 : Int)))).V (get ac14 9) wo14 := Pv.keep _ g13_9 (hs 9 rfl) hb
      have g14_10 : (Pv.fx (wo6.heap.size) (Kd.int .u8) (t1)).V (get ac14 10) wo14 := Pv.keep _ g13_10 (hs 10 rfl) hb
      have g14_12 : (Pv.own (wo6.heap.size) 5 (Kd.int .u8) ((y12_1).set (Int.tmod (wrap64 (rd (l2) (x13_1))) (((y12_1).length : Int)) : Int).toNat (Go.bits .xor .u8 (rd (y12_1) (Int.tmod (wrap64 (rd (l2) (x13_1))) (((y12_1).length : Int)))) (rd (l3) (x13_1))))).V (get ac14 12) wo14 := Pv.keep _ g13_12 (hs 12 rfl) hb
      have hB14 := below_step hB13 hb
      have hd14 := hd_.trans hd13
      have hOo0_9_14 : wo6.heap.size ≤ wo14.heap.size := Nat.le_trans hOo0_9_13 hb.size
      clear hv hs hd_ hb hB13 hn13 hd13 hOo0_9_13 g13_2 g13_3 g13_8 g13_9 g13_10 g13_13 g13_12
      show ∃ r, r < q10 + 1 ∧ _
      exact ⟨q10, Nat.lt_succ_self _, ((y12_1).set (Int.tmod (wrap64 (rd (l2) (x13_1))) (((y12_1).length : Int)) : Int).toNat (Go.bits .xor .u8 (rd (y12_1) (Int.tmod (wrap64 (rd (l2) (x13_1))) (((y12_1).length : Int)))) (rd (l3) (x13_1)))), (wrap64 (x13_1 + (1 : Int))), hn14, hd14, hB14, hOo0_9_14, g14_2, g14_3, g14_8, g14_9, g14_10, g14_12, g14_13, h⟩
     ·have h := hn c1_2
      clear hy hn
      refine Reg.plain (T := T11) (D := D11) (n := 104) (by kernel_rfl) hn10 (told [pI (x13_1), Pv.fx (wo6.heap.size) (Kd.int .u8) (l2), pI (((l2).length : Int)), pT, pT, pI (x13_1), Pv.fx (wo6.heap.size) (Kd.int .u8) (l3), pI (((l3).length : Int)), pT, pT, pT, pI (x13_1), pI (wrap64 (Int.tmod (wrap64 (a1)) ((64 : Int)) + (1 : Int))), pF, pF]) (told_pst _) (owedS (owedS (owedS (owedS (owedS (owedS (owedS (owedS (owedS (owedS (owedS (owedS (owedS (owedS (owedS owed0 ?s0) ?s1) ?s2) ?s3) ?s4) ?s5) ?s6) ?s7) ?s8) ?s9) ?s10) ?s11) ?s12) ?s13) ?s14) ?_
      case s0 =>
       intro b w1 hb hp hu
       have x13 : (pI (x13_1)).V (get b 13) w1 := Pv.keep _ g10_13 (hu 13 (by kernel_rfl)) hb
       exact st_move rfl (want0 rfl _) rfl x13
      case s1 =>
       intro b w1 hb hp hu
       have x2 : (Pv.fx (wo6.heap.size) (Kd.int .u8) (l2)).V (get b 2) w1 := Pv.keep _ g10_2 (hu 2 (by kernel_rfl)) hb
       exact st_move rfl (want0 rfl _) rfl x2
      case s2 =>
       intro b w1 hb hp hu
       have x62 : (Pv.fx (wo6.heap.size) (Kd.int .u8) (l2)).V (get b 62) w1 := hp 1 62 (by kernel_rfl) rfl
       obtain ⟨A_, c_, e_, _, _⟩ := (Pv.fx_sl x62)
       exact st_len rfl (want0 rfl _) rfl Try.underlying22 e_ rfl
      case s3 =>
       intro b w1 hb hp hu
       have x61 : (pI (x13_1)).V (get b 61) w1 := hp 0 61 (by kernel_rfl) rfl
       have x63 : (pI (((l2).length : Int))).V (get b 63) w1 := hp 2 63 (by kernel_rfl) rfl
       exact st_lss (b := true) (κ := .i64) (m := x13_1) (n := (((l2).length : Int))) rfl (want0 rfl _) rfl x61 x63 (decide_eq_true c1_0)
      case s4 =>
       intro b w1 hb hp hu
       have x64 : (pT).V (get b 64) w1 := hp 3 64 (by kernel_rfl) rfl
       exact st_move rfl (want0 rfl _) rfl x64
      case s5 =>
       intro b w1 hb hp hu
       have x65 : (pT).V (get b 65) w1 := hp 4 65 (by kernel_rfl) rfl
       have x13 : (pI (x13_1)).V (get b 13) w1 := Pv.keep _ g10_13 (hu 13 (by kernel_rfl)) hb
       exact st_move rfl ((want_is (N := 65) rfl rfl x65).trans rfl) rfl x13
      case s6 =>
       intro b w1 hb hp hu
       have x65 : (pT).V (get b 65) w1 := hp 4 65 (by kernel_rfl) rfl
       have x3 : (Pv.fx (wo6.heap.size) (Kd.int .u8) (l3)).V (get b 3) w1 := Pv.keep _ g10_3 (hu 3 (by kernel_rfl)) hb
       exact st_move rfl ((want_is (N := 65) rfl rfl x65).trans rfl) rfl x3
      case s7 =>
       intro b w1 hb hp hu
       have x65 : (pT).V (get b 65) w1 := hp 4 65 (by kernel_rfl) rfl
       have x67 : (Pv.fx (wo6.heap.size) (Kd.int .u8) (l3)).V (get b 67) w1 := hp 6 67 (by kernel_rfl) rfl
       obtain ⟨A_, c_, e_, _, _⟩ := (Pv.fx_sl x67)
       exact st_len rfl ((want_is (N := 65) rfl rfl x65).trans rfl) rfl Try.underlying22 e_ rfl
      case s8 =>
       intro b w1 hb hp hu
       have x65 : (pT).V (get b 65) w1 := hp 4 65 (by kernel_rfl) rfl
       have x66 : (pI (x13_1)).V (get b 66) w1 := hp 5 66 (by kernel_rfl) rfl
       have x68 : (pI (((l3).length : Int))).V (get b 68) w1 := hp 7 68 (by kernel_rfl) rfl
       exact st_lss (b := true) (κ := .i64) (m := x13_1) (n := (((l3).length : Int))) rfl ((want_is (N := 65) rfl rfl x65).trans rfl) rfl x66 x68 (decide_eq_true c1_1)
      case s9 =>
       intro b w1 hb hp hu
       have x65 : (pT).V (get b 65) w1 := hp 4 65 (by kernel_rfl) rfl
       have x69 : (pT).V (get b 69) w1 := hp 8 69 (by kernel_rfl) rfl
       exact st_pick (b := true) rfl (want0 rfl _) rfl x65 x69
      case s10 =>
       intro b w1 hb hp hu
       have x70 : (pT).V (get b 70) w1 := hp 9 70 (by kernel_rfl) rfl
       exact st_move rfl (want0 rfl _) rfl x70
      case s11 =>
       intro b w1 hb hp hu
       have x71 : (pT).V (get b 71) w1 := hp 10 71 (by kernel_rfl) rfl
       have x13 : (pI (x13_1)).V (get b 13) w1 := Pv.keep _ g10_13 (hu 13 (by kernel_rfl)) hb
       exact st_move rfl ((want_is (N := 71) rfl rfl x71).trans rfl) rfl x13
      case s12 =>
       intro b w1 hb hp hu
       have x71 : (pT).V (get b 71) w1 := hp 10 71 (by kernel_rfl) rfl
       have x9 : (pI (wrap64 (Int.tmod (wrap64 (a1)) ((64 : Int)) + (1 : Int)))).V (get b 9) w1 := Pv.keep _ g10_9 (hu 9 (by kernel_rfl)) hb
       exact st_move rfl ((want_is (N := 71) rfl rfl x71).trans rfl) rfl x9
      case s13 =>
       intro b w1 hb hp hu
       have x71 : (pT).V (get b 71) w1 := hp 10 71 (by kernel_rfl) rfl
       have x72 : (pI (x13_1)).V (get b 72) w1 := hp 11 72 (by kernel_rfl) rfl
       have x73 : (pI (wrap64 (Int.tmod (wrap64 (a1)) ((64 : Int)) + (1 : Int)))).V (get b 73) w1 := hp 12 73 (by kernel_rfl) rfl
       exact st_lss (b := false) (κ := .i64) (m := x13_1) (n := (wrap64 (Int.tmod (wrap64 (a1)) ((64 : Int)) + (1 : Int)))) rfl ((want_is (N := 71) rfl rfl x71).trans rfl) rfl x72 x73 (decide_eq_false c1_2)
      case s14 =>
       intro b w1 hb hp hu
       have x71 : (pT).V (get b 71) w1 := hp 10 71 (by kernel_rfl) rfl
       have x74 : (pF).V (get b 74) w1 := hp 13 74 (by kernel_rfl) rfl
       exact st_pick (b := true) rfl (want0 rfl _) rfl x71 x74
      intro ac11 wo11 hn11 hd_ hb hv hs
      have g11_75 : (pF).V (get ac11 75) wo11 := hv 14 75 rfl
      have g11_8 : (pF).V (get ac11 8) wo11 := Pv.keep _ g10_8 (hs 8 rfl) hb
      have g11_9 : (pI (wrap64 (Int.tmod (wrap64 (a1)) ((64 : Int)) + (1 : Int)))).V (get ac11 9) wo11 := Pv.keep _ g10_9 (hs 9 rfl) hb
      have g11_10 : (Pv.fx (wo6.heap.size) (Kd.int .u8) (t1)).V (get ac11 10) wo11 := Pv.keep _ g10_10 (hs 10 rfl) hb
      have g11_12 : (Pv.own (wo6.heap.size) 5 (Kd.int .u8) (y12_1)).V (get ac11 12) wo11 := Pv.keep _ g10_12 (hs 12 rfl) hb
      have hB11 := below_step hB10 hb
      have hd11 := hd_.trans hd10
      have hOo0_9_11 : wo6.heap.size ≤ wo11.heap.size := Nat.le_trans hOo0_9_10 hb.size
      clear hv hs hd_ hb hB10 hn10 hd10 hOo0_9_10 g10_2 g10_3 g10_8 g10_9 g10_10 g10_12 g10_13
      show Code.wp _ _ _ _ _
      refine wp_cond_false (show ac11.eval (Operand.tmp 75) = .bool false from g11_75) ?_
      refine wp_exit ?_
      show Code.wp _ _ _ _ _
      refine wp_seq ?_
      obtain ⟨hy, hn⟩ := h
      by_cases c1_3 : (strOfNums (t1)).toList = (strOfNums (y12_1)).toList
      ·have h := hy c1_3
       clear hy hn
       obtain ⟨t1_1, H1_1, h⟩ := h
       obtain ⟨c1_4, h⟩ := h
       refine Reg.draws (T := T14) (D := D14) (n := 104) rfl (by kernel_rfl) hn11 (told [Pv.fx (wo6.heap.size) (Kd.int .u8) (t1), Pv.is (.string (strOfNums (t1))), Pv.own (wo6.heap.size) 5 (Kd.int .u8) (y12_1), Pv.is (.string (strOfNums (y12_1))), pT, Pv.own (wo6.heap.size) 5 (Kd.int .u8) (y12_1), pI (wrap64 (Int.tmod (wrap64 (a1)) ((64 : Int)) + (1 : Int))), pT, pT, pT]) (told_pst _) (owedS (owedS (owedS (owedS (owedS (owedS (owedS (owedS (owedS (owedS owed0 ?s0) ?s1) ?s2) ?s3) ?s4) ?s5) ?s6) ?s7) ?s8) ?s9) ?_
       case s0 =>
        intro b w1 hb hp hu
        have x10 : (Pv.fx (wo6.heap.size) (Kd.int .u8) (t1)).V (get b 10) w1 := Pv.keep _ g11_10 (hu 10 (by kernel_rfl)) hb
        exact st_move rfl (want0 rfl _) rfl x10
       case s1 =>
        intro b w1 hb hp hu
        have x95 : (Pv.fx (wo6.heap.size) (Kd.int .u8) (t1)).V (get b 95) w1 := hp 0 95 (by kernel_rfl) rfl
        exact st_string Try.underlying22 Try.underlying5 Try.underlying9 rfl (want0 rfl _) rfl (Pv.fx_sl x95) rfl
       case s2 =>
        intro b w1 hb hp hu
        have x12 : (Pv.own (wo6.heap.size) 5 (Kd.int .u8) (y12_1)).V (get b 12) w1 := Pv.keep _ g11_12 (hu 12 (by kernel_rfl)) hb
        exact st_move rfl (want0 rfl _) rfl x12
       case s3 =>
        intro b w1 hb hp hu
        have x97 : (Pv.own (wo6.heap.size) 5 (Kd.int .u8) (y12_1)).V (get b 97) w1 := hp 2 97 (by kernel_rfl) rfl
        exact st_string Try.underlying22 Try.underlying5 Try.underlying9 rfl (want0 rfl _) rfl (Pv.own_sl x97) rfl
       case s4 =>
        intro b w1 hb hp hu
        have x96 : (Pv.is (.string (strOfNums (t1)))).V (get b 96) w1 := hp 1 96 (by kernel_rfl) rfl
        have x98 : (Pv.is (.string (strOfNums (y12_1)))).V (get b 98) w1 := hp 3 98 (by kernel_rfl) rfl
        exact st_seql (b := true) rfl (want0 rfl _) rfl x96 x98 (decide_eq_true c1_3)
       case s5 =>
        intro b w1 hb hp hu
        have x12 : (Pv.own (wo6.heap.size) 5 (Kd.int .u8) (y12_1)).V (get b 12) w1 := Pv.keep _ g11_12 (hu 12 (by kernel_rfl)) hb
        exact st_move rfl (want0 rfl _) rfl x12
       case s6 =>
        intro b w1 hb hp hu
        have x9 : (pI (wrap64 (Int.tmod (wrap64 (a1)) ((64 : Int)) + (1 : Int)))).V (get b 9) w1 := Pv.keep _ g11_9 (hu 9 (by kernel_rfl)) hb
        exact st_move rfl (want0 rfl _) rfl x9
       case s7 =>
        intro b w1 hb hp hu
        have x100 : (Pv.own (wo6.heap.size) 5 (Kd.int .u8) (y12_1)).V (get b 100) w1 := hp 5 100 (by kernel_rfl) rfl
        obtain ⟨B0, d0, e0_, hC0, hl0⟩ := (Pv.own_sl x100)
        have e0 : b.eval (Operand.tmp 100) = .slice B0 (y12_1).length d0 := e0_
        have x101 : (pI (wrap64 (Int.tmod (wrap64 (a1)) ((64 : Int)) + (1 : Int)))).V (get b 101) w1 := hp 6 101 (by kernel_rfl) rfl
        have e1 : b.eval (Operand.tmp 101) = .int .i64 (wrap64 (Int.tmod (wrap64 (a1)) ((64 : Int)) + (1 : Int))) := x101
        refine st_call rfl (want0 rfl _) rfl Try.func31 (by kernel_rfl) rfl #[.slice B0 (y12_1).length d0, .int .i64 (wrap64 (Int.tmod (wrap64 (a1)) ((64 : Int)) + (1 : Int)))] (by simp only [List.map_toArray, List.map_cons, List.map_nil, e0, e1]) ?_
        refine (solomon_Fine.calls k B0 d0 _ _ _ w1 hC0 hl0 H1_1).mono ?_
        rintro e w2 ⟨rfl, hb2⟩
        exact ⟨_, rfl, (show (Pv.is (.bool true)).V (.bool t1_1) w2 from by rw [c1_4]; first | done | exact rfl), hb2⟩
       case s8 =>
        intro b w1 hb hp hu
        have x99 : (pT).V (get b 99) w1 := hp 4 99 (by kernel_rfl) rfl
        have x102 : (pT).V (get b 102) w1 := hp 7 102 (by kernel_rfl) rfl
        exact st_bin (v := .bool true) (vx := .bool true) (vy := .bool true) rfl (want0 rfl _) rfl x99 x102 (by first | rfl | (go_simp; first | done | rfl | (simp only [i64_w, i32_w]; done))) rfl
       case s9 =>
        intro b w1 hb hp hu
        have x103 : (pT).V (get b 103) w1 := hp 8 103 (by kernel_rfl) rfl
        exact st_assign rfl (want0 rfl _) rfl x103
       intro ac12 wo12 hn12 hd_ hb hv hs
       have g12_8 : (pT).V (get ac12 8) wo12 := hv 9 8 rfl
       have hB12 := below_step hB11 hb
       have hd12 := hd_.trans hd11
       have hOo0_9_12 : wo6.heap.size ≤ wo12.heap.size := Nat.le_trans hOo0_9_11 hb.size
       clear hv hs hd_ hb hB11 hn11 hd11 hOo0_9_11 g11_75 g11_8 g11_9 g11_10 g11_12
       show Code.wp _ _ _ _ _
       refine wp_ret ?_
       repeat (first | refine then_ret ?_ | refine inb_ret ?_)
       exact back_is rfl hd12 g12_8 ⟨rfl, hB12⟩
      ·have h := hn c1_3
       clear hy hn
       obtain ⟨t1_1, H1_1, h⟩ := h
       obtain ⟨c1_4, h⟩ := h
       refine Reg.draws (T := T14) (D := D14) (n := 104) rfl (by kernel_rfl) hn11 (told [Pv.fx (wo6.heap.size) (Kd.int .u8) (t1), Pv.is (.string (strOfNums (t1))), Pv.own (wo6.heap.size) 5 (Kd.int .u8) (y12_1), Pv.is (.string (strOfNums (y12_1))), pF, Pv.own (wo6.heap.size) 5 (Kd.int .u8) (y12_1), pI (wrap64 (Int.tmod (wrap64 (a1)) ((64 : Int)) + (1 : Int))), pF, pT, pT]) (told_pst _) (owedS (owedS (owedS (owedS (owedS (owedS (owedS (owedS (owedS (owedS owed0 ?s0) ?s1) ?s2) ?s3) ?s4) ?s5) ?s6) ?s7) ?s8) ?s9) ?_
       case s0 =>
        intro b w1 hb hp hu
        have x10 : (Pv.fx (wo6.heap.size) (Kd.int .u8) (t1)).V (get b 10) w1 := Pv.keep _ g11_10 (hu 10 (by kernel_rfl)) hb
        exact st_move rfl (want0 rfl _) rfl x10
       case s1 =>
        intro b w1 hb hp hu
        have x95 : (Pv.fx (wo6.heap.size) (Kd.int .u8) (t1)).V (get b 95) w1 := hp 0 95 (by kernel_rfl) rfl
        exact st_string Try.underlying22 Try.underlying5 Try.underlying9 rfl (want0 rfl _) rfl (Pv.fx_sl x95) rfl
       case s2 =>
        intro b w1 hb hp hu
        have x12 : (Pv.own (wo6.heap.size) 5 (Kd.int .u8) (y12_1)).V (get b 12) w1 := Pv.keep _ g11_12 (hu 12 (by kernel_rfl)) hb
        exact st_move rfl (want0 rfl _) rfl x12
       case s3 =>
        intro b w1 hb hp hu
        have x97 : (Pv.own (wo6.heap.size) 5 (Kd.int .u8) (y12_1)).V (get b 97) w1 := hp 2 97 (by kernel_rfl) rfl
        exact st_string Try.underlying22 Try.underlying5 Try.underlying9 rfl (want0 rfl _) rfl (Pv.own_sl x97) rfl
       case s4 =>
        intro b w1 hb hp hu
        have x96 : (Pv.is (.string (strOfNums (t1)))).V (get b 96) w1 := hp 1 96 (by kernel_rfl) rfl
        have x98 : (Pv.is (.string (strOfNums (y12_1)))).V (get b 98) w1 := hp 3 98 (by kernel_rfl) rfl
        exact st_seql (b := false) rfl (want0 rfl _) rfl x96 x98 (decide_eq_false c1_3)
       case s5 =>
        intro b w1 hb hp hu
        have x12 : (Pv.own (wo6.heap.size) 5 (Kd.int .u8) (y12_1)).V (get b 12) w1 := Pv.keep _ g11_12 (hu 12 (by kernel_rfl)) hb
        exact st_move rfl (want0 rfl _) rfl x12
       case s6 =>
        intro b w1 hb hp hu
        have x9 : (pI (wrap64 (Int.tmod (wrap64 (a1)) ((64 : Int)) + (1 : Int)))).V (get b 9) w1 := Pv.keep _ g11_9 (hu 9 (by kernel_rfl)) hb
        exact st_move rfl (want0 rfl _) rfl x9
       case s7 =>
        intro b w1 hb hp hu
        have x100 : (Pv.own (wo6.heap.size) 5 (Kd.int .u8) (y12_1)).V (get b 100) w1 := hp 5 100 (by kernel_rfl) rfl
        obtain ⟨B0, d0, e0_, hC0, hl0⟩ := (Pv.own_sl x100)
        have e0 : b.eval (Operand.tmp 100) = .slice B0 (y12_1).length d0 := e0_
        have x101 : (pI (wrap64 (Int.tmod (wrap64 (a1)) ((64 : Int)) + (1 : Int)))).V (get b 101) w1 := hp 6 101 (by kernel_rfl) rfl
        have e1 : b.eval (Operand.tmp 101) = .int .i64 (wrap64 (Int.tmod (wrap64 (a1)) ((64 : Int)) + (1 : Int))) := x101
        refine st_call rfl (want0 rfl _) rfl Try.func31 (by kernel_rfl) rfl #[.slice B0 (y12_1).length d0, .int .i64 (wrap64 (Int.tmod (wrap64 (a1)) ((64 : Int)) + (1 : Int)))] (by simp only [List.map_toArray, List.map_cons, List.map_nil, e0, e1]) ?_
        refine (solomon_Fine.calls k B0 d0 _ _ _ w1 hC0 hl0 H1_1).mono ?_
        rintro e w2 ⟨rfl, hb2⟩
        exact ⟨_, rfl, (show (Pv.is (.bool false)).V (.bool t1_1) w2 from by rw [Bool.eq_false_iff.mpr c1_4]; first | done | exact rfl), hb2⟩
       case s8 =>
        intro b w1 hb hp hu
        have x99 : (pF).V (get b 99) w1 := hp 4 99 (by kernel_rfl) rfl
        have x102 : (pF).V (get b 102) w1 := hp 7 102 (by kernel_rfl) rfl
        exact st_bin (v := .bool true) (vx := .bool false) (vy := .bool false) rfl (want0 rfl _) rfl x99 x102 (by first | rfl | (go_simp; first | done | rfl | (simp only [i64_w, i32_w]; done))) rfl
       case s9 =>
        intro b w1 hb hp hu
        have x103 : (pT).V (get b 103) w1 := hp 8 103 (by kernel_rfl) rfl
        exact st_assign rfl (want0 rfl _) rfl x103
       intro ac12 wo12 hn12 hd_ hb hv hs
       have g12_8 : (pT).V (get ac12 8) wo12 := hv 9 8 rfl
       have hB12 := below_step hB11 hb
       have hd12 := hd_.trans hd11
       have hOo0_9_12 : wo6.heap.size ≤ wo12.heap.size := Nat.le_trans hOo0_9_11 hb.size
       clear hv hs hd_ hb hB11 hn11 hd11 hOo0_9_11 g11_75 g11_8 g11_9 g11_10 g11_12
       show Code.wp _ _ _ _ _
       refine wp_ret ?_
       repeat (first | refine then_ret ?_ | refine inb_ret ?_)
       exact back_is rfl hd12 g12_8 ⟨rfl, hB12⟩
    ·have h := hn c1_1
     clear hy hn
     refine Reg.plain (T := T11) (D := D11) (n := 104) (by kernel_rfl) hn10 (told [pI (x13_1), Pv.fx (wo6.heap.size) (Kd.int .u8) (l2), pI (((l2).length : Int)), pT, pT, pI (x13_1), Pv.fx (wo6.heap.size) (Kd.int .u8) (l3), pI (((l3).length : Int)), pF, pF, pF, Pv.is (undef), Pv.is (undef), Pv.is (undef), pF]) (told_pst _) (owedS (owedS (owedS (owedS (owedS (owedS (owedS (owedS (owedS (owedS (owedS (owedS (owedS (owedS (owedS owed0 ?s0) ?s1) ?s2) ?s3) ?s4) ?s5) ?s6) ?s7) ?s8) ?s9) ?s10) ?s11) ?s12) ?s13) ?s14) ?_
     case s0 =>
      intro b w1 hb hp hu
      have x13 : (pI (x13_1)).V (get b 13) w1 := Pv.keep _ g10_13 (hu 13 (by kernel_rfl)) hb
      exact st_move rfl (want0 rfl _) rfl x13
     case s1 =>
      intro b w1 hb hp hu
      have x2 : (Pv.fx (wo6.heap.size) (Kd.int .u8) (l2)).V (get b 2) w1 := Pv.keep _ g10_2 (hu 2 (by kernel_rfl)) hb
      exact st_move rfl (want0 rfl _) rfl x2
     case s2 =>
      intro b w1 hb hp hu
      have x62 : (Pv.fx (wo6.heap.size) (Kd.int .u8) (l2)).V (get b 62) w1 := hp 1 62 (by kernel_rfl) rfl
      obtain ⟨A_, c_, e_, _, _⟩ := (Pv.fx_sl x62)
      exact st_len rfl (want0 rfl _) rfl Try.underlying22 e_ rfl
     case s3 =>
      intro b w1 hb hp hu
      have x61 : (pI (x13_1)).V (get b 61) w1 := hp 0 61 (by kernel_rfl) rfl
      have x63 : (pI (((l2).length : Int))).V (get b 63) w1 := hp 2 63 (by kernel_rfl) rfl
      exact st_lss (b := true) (κ := .i64) (m := x13_1) (n := (((l2).length : Int))) rfl (want0 rfl _) rfl x61 x63 (decide_eq_true c1_0)
     case s4 =>
      intro b w1 hb hp hu
      have x64 : (pT).V (get b 64) w1 := hp 3 64 (by kernel_rfl) rfl
      exact st_move rfl (want0 rfl _) rfl x64
     case s5 =>
      intro b w1 hb hp hu
      have x65 : (pT).V (get b 65) w1 := hp 4 65 (by kernel_rfl) rfl
      have x13 : (pI (x13_1)).V (get b 13) w1 := Pv.keep _ g10_13 (hu 13 (by kernel_rfl)) hb
      exact st_move rfl ((want_is (N := 65) rfl rfl x65).trans rfl) rfl x13
     case s6 =>
      intro b w1 hb hp hu
      have x65 : (pT).V (get b 65) w1 := hp 4 65 (by kernel_rfl) rfl
      have x3 : (Pv.fx (wo6.heap.size) (Kd.int .u8) (l3)).V (get b 3) w1 := Pv.keep _ g10_3 (hu 3 (by kernel_rfl)) hb
      exact st_move rfl ((want_is (N := 65) rfl rfl x65).trans rfl) rfl x3
     case s7 =>
      intro b w1 hb hp hu
      have x65 : (pT).V (get b 65) w1 := hp 4 65 (by kernel_rfl) rfl
      have x67 : (Pv.fx (wo6.heap.size) (Kd.int .u8) (l3)).V (get b 67) w1 := hp 6 67 (by kernel_rfl) rfl
      obtain ⟨A_, c_, e_, _, _⟩ := (Pv.fx_sl x67)
      exact st_len rfl ((want_is (N := 65) rfl rfl x65).trans rfl) rfl Try.underlying22 e_ rfl
     case s8 =>
      intro b w1 hb hp hu
      have x65 : (pT).V (get b 65) w1 := hp 4 65 (by kernel_rfl) rfl
      have x66 : (pI (x13_1)).V (get b 66) w1 := hp 5 66 (by kernel_rfl) rfl
      have x68 : (pI (((l3).length : Int))).V (get b 68) w1 := hp 7 68 (by kernel_rfl) rfl
      exact st_lss (b := false) (κ := .i64) (m := x13_1) (n := (((l3).length : Int))) rfl ((want_is (N := 65) rfl rfl x65).trans rfl) rfl x66 x68 (decide_eq_false c1_1)
     case s9 =>
      intro b w1 hb hp hu
      have x65 : (pT).V (get b 65) w1 := hp 4 65 (by kernel_rfl) rfl
      have x69 : (pF).V (get b 69) w1 := hp 8 69 (by kernel_rfl) rfl
      exact st_pick (b := true) rfl (want0 rfl _) rfl x65 x69
     case s10 =>
      intro b w1 hb hp hu
      have x70 : (pF).V (get b 70) w1 := hp 9 70 (by kernel_rfl) rfl
      exact st_move rfl (want0 rfl _) rfl x70
     case s11 =>
      intro b w1 hb hp hu
      have x71 : (pF).V (get b 71) w1 := hp 10 71 (by kernel_rfl) rfl
      exact st_off rfl ((want_is (N := 71) rfl rfl x71).trans rfl) rfl
     case s12 =>
      intro b w1 hb hp hu
      have x71 : (pF).V (get b 71) w1 := hp 10 71 (by kernel_rfl) rfl
      exact st_off rfl ((want_is (N := 71) rfl rfl x71).trans rfl) rfl
     case s13 =>
      intro b w1 hb hp hu
      have x71 : (pF).V (get b 71) w1 := hp 10 71 (by kernel_rfl) rfl
      exact st_off rfl ((want_is (N := 71) rfl rfl x71).trans rfl) rfl
     case s14 =>
      intro b w1 hb hp hu
      have x71 : (pF).V (get b 71) w1 := hp 10 71 (by kernel_rfl) rfl
      exact st_pick (b := false) rfl (want0 rfl _) rfl x71 rfl
     intro ac11 wo11 hn11 hd_ hb hv hs
     have g11_75 : (pF).V (get ac11 75) wo11 := hv 14 75 rfl
     have g11_8 : (pF).V (get ac11 8) wo11 := Pv.keep _ g10_8 (hs 8 rfl) hb
     have g11_9 : (pI (wrap64 (Int.tmod (wrap64 (a1)) ((64 : Int)) + (1 : Int)))).V (get ac11 9) wo11 := Pv.keep _ g10_9 (hs 9 rfl) hb
     have g11_10 : (Pv.fx (wo6.heap.size) (Kd.int .u8) (t1)).V (get ac11 10) wo11 := Pv.keep _ g10_10 (hs 10 rfl) hb
     have g11_12 : (Pv.own (wo6.heap.size) 5 (Kd.int .u8) (y12_1)).V (get ac11 12) wo11 := Pv.keep _ g10_12 (hs 12 rfl) hb
     have hB11 := below_step hB10 hb
     have hd11 := hd_.trans hd10
     have hOo0_9_11 : wo6.heap.size ≤ wo11.heap.size := Nat.le_trans hOo0_9_10 hb.size
     clear hv hs hd_ hb hB10 hn10 hd10 hOo0_9_10 g10_2 g10_3 g10_8 g10_9 g10_10 g10_12 g10_13
     show Code.wp _ _ _ _ _
     refine wp_cond_false (show ac11.eval (Operand.tmp 75) = .bool false from g11_75) ?_
     refine wp_exit ?_
     show Code.wp _ _ _ _ _
     refine wp_seq ?_
     obtain ⟨hy, hn⟩ := h
     by_cases c1_2 : (strOfNums (t1)).toList = (strOfNums (y12_1)).toList
     ·have h := hy c1_2
      clear hy hn
      obtain ⟨t1_1, H1_1, h⟩ := h
      obtain ⟨c1_3, h⟩ := h
      refine Reg.draws (T := T14) (D := D14) (n := 104) rfl (by kernel_rfl) hn11 (told [Pv.fx (wo6.heap.size) (Kd.int .u8) (t1), Pv.is (.string (strOfNums (t1))), Pv.own (wo6.heap.size) 5 (Kd.int .u8) (y12_1), Pv.is (.string (strOfNums (y12_1))), pT, Pv.own (wo6.heap.size) 5 (Kd.int .u8) (y12_1), pI (wrap64 (Int.tmod (wrap64 (a1)) ((64 : Int)) + (1 : Int))), pT, pT, pT]) (told_pst _) (owedS (owedS (owedS (owedS (owedS (owedS (owedS (owedS (owedS (owedS owed0 ?s0) ?s1) ?s2) ?s3) ?s4) ?s5) ?s6) ?s7) ?s8) ?s9) ?_
      case s0 =>
       intro b w1 hb hp hu
       have x10 : (Pv.fx (wo6.heap.size) (Kd.int .u8) (t1)).V (get b 10) w1 := Pv.keep _ g11_10 (hu 10 (by kernel_rfl)) hb
       exact st_move rfl (want0 rfl _) rfl x10
      case s1 =>
       intro b w1 hb hp hu
       have x95 : (Pv.fx (wo6.heap.size) (Kd.int .u8) (t1)).V (get b 95) w1 := hp 0 95 (by kernel_rfl) rfl
       exact st_string Try.underlying22 Try.underlying5 Try.underlying9 rfl (want0 rfl _) rfl (Pv.fx_sl x95) rfl
      case s2 =>
       intro b w1 hb hp hu
       have x12 : (Pv.own (wo6.heap.size) 5 (Kd.int .u8) (y12_1)).V (get b 12) w1 := Pv.keep _ g11_12 (hu 12 (by kernel_rfl)) hb
       exact st_move rfl (want0 rfl _) rfl x12
      case s3 =>
       intro b w1 hb hp hu
       have x97 : (Pv.own (wo6.heap.size) 5 (Kd.int .u8) (y12_1)).V (get b 97) w1 := hp 2 97 (by kernel_rfl) rfl
       exact st_string Try.underlying22 Try.underlying5 Try.underlying9 rfl (want0 rfl _) rfl (Pv.own_sl x97) rfl
      case s4 =>
       intro b w1 hb hp hu
       have x96 : (Pv.is (.string (strOfNums (t1)))).V (get b 96) w1 := hp 1 96 (by kernel_rfl) rfl
       have x98 : (Pv.is (.string (strOfNums (y12_1)))).V (get b 98) w1 := hp 3 98 (by kernel_rfl) rfl
       exact st_seql (b := true) rfl (want0 rfl _) rfl x96 x98 (decide_eq_true c1_2)
      case s5 =>
       intro b w1 hb hp hu
       have x12 : (Pv.own (wo6.heap.size) 5 (Kd.int .u8) (y12_1)).V (get b 12) w1 := Pv.keep _ g11_12 (hu 12 (by kernel_rfl)) hb
       exact st_move rfl (want0 rfl _) rfl x12
      case s6 =>
       intro b w1 hb hp hu
       have x9 : (pI (wrap64 (Int.tmod (wrap64 (a1)) ((64 : Int)) + (1 : Int)))).V (get b 9) w1 := Pv.keep _ g11_9 (hu 9 (by kernel_rfl)) hb
       exact st_move rfl (want0 rfl _) rfl x9
      case s7 =>
       intro b w1 hb hp hu
       have x100 : (Pv.own (wo6.heap.size) 5 (Kd.int .u8) (y12_1)).V (get b 100) w1 := hp 5 100 (by kernel_rfl) rfl
       obtain ⟨B0, d0, e0_, hC0, hl0⟩ := (Pv.own_sl x100)
       have e0 : b.eval (Operand.tmp 100) = .slice B0 (y12_1).length d0 := e0_
       have x101 : (pI (wrap64 (Int.tmod (wrap64 (a1)) ((64 : Int)) + (1 : Int)))).V (get b 101) w1 := hp 6 101 (by kernel_rfl) rfl
       have e1 : b.eval (Operand.tmp 101) = .int .i64 (wrap64 (Int.tmod (wrap64 (a1)) ((64 : Int)) + (1 : Int))) := x101
       refine st_call rfl (want0 rfl _) rfl Try.func31 (by kernel_rfl) rfl #[.slice B0 (y12_1).length d0, .int .i64 (wrap64 (Int.tmod (wrap64 (a1)) ((64 : Int)) + (1 : Int)))] (by simp only [List.map_toArray, List.map_cons, List.map_nil, e0, e1]) ?_
       refine (solomon_Fine.calls k B0 d0 _ _ _ w1 hC0 hl0 H1_1).mono ?_
       rintro e w2 ⟨rfl, hb2⟩
       exact ⟨_, rfl, (show (Pv.is (.bool true)).V (.bool t1_1) w2 from by rw [c1_3]; first | done | exact rfl), hb2⟩
      case s8 =>
       intro b w1 hb hp hu
       have x99 : (pT).V (get b 99) w1 := hp 4 99 (by kernel_rfl) rfl
       have x102 : (pT).V (get b 102) w1 := hp 7 102 (by kernel_rfl) rfl
       exact st_bin (v := .bool true) (vx := .bool true) (vy := .bool true) rfl (want0 rfl _) rfl x99 x102 (by first | rfl | (go_simp; first | done | rfl | (simp only [i64_w, i32_w]; done))) rfl
      case s9 =>
       intro b w1 hb hp hu
       have x103 : (pT).V (get b 103) w1 := hp 8 103 (by kernel_rfl) rfl
       exact st_assign rfl (want0 rfl _) rfl x103
      intro ac12 wo12 hn12 hd_ hb hv hs
      have g12_8 : (pT).V (get ac12 8) wo12 := hv 9 8 rfl
      have hB12 := below_step hB11 hb
      have hd12 := hd_.trans hd11
      have hOo0_9_12 : wo6.heap.size ≤ wo12.heap.size := Nat.le_trans hOo0_9_11 hb.size
      clear hv hs hd_ hb hB11 hn11 hd11 hOo0_9_11 g11_75 g11_8 g11_9 g11_10 g11_12
      show Code.wp _ _ _ _ _
      refine wp_ret ?_
      repeat (first | refine then_ret ?_ | refine inb_ret ?_)
      exact back_is rfl hd12 g12_8 ⟨rfl, hB12⟩
     ·have h := hn c1_2
      clear hy hn
      obtain ⟨t1_1, H1_1, h⟩ := h
      obtain ⟨c1_3, h⟩ := h
      refine Reg.draws (T := T14) (D := D14) (n := 104) rfl (by kernel_rfl) hn11 (told [Pv.fx (wo6.heap.size) (Kd.int .u8) (t1), Pv.is (.string (strOfNums (t1))), Pv.own (wo6.heap.size) 5 (Kd.int .u8) (y12_1), Pv.is (.string (strOfNums (y12_1))), pF, Pv.own (wo6.heap.size) 5 (Kd.int .u8) (y12_1), pI (wrap64 (Int.tmod (wrap64 (a1)) ((64 : Int)) + (1 : Int))), pF, pT, pT]) (told_pst _) (owedS (owedS (owedS (owedS (owedS (owedS (owedS (owedS (owedS (owedS owed0 ?s0) ?s1) ?s2) ?s3) ?s4) ?s5) ?s6) ?s7) ?s8) ?s9) ?_
      case s0 =>
       intro b w1 hb hp hu
       have x10 : (Pv.fx (wo6.heap.size) (Kd.int .u8) (t1)).V (get b 10) w1 := Pv.keep _ g11_10 (hu 10 (by kernel_rfl)) hb
       exact st_move rfl (want0 rfl _) rfl x10
      case s1 =>
       intro b w1 hb hp hu
       have x95 : (Pv.fx (wo6.heap.size) (Kd.int .u8) (t1)).V (get b 95) w1 := hp 0 95 (by kernel_rfl) rfl
       exact st_string Try.underlying22 Try.underlying5 Try.underlying9 rfl (want0 rfl _) rfl (Pv.fx_sl x95) rfl
      case s2 =>
       intro b w1 hb hp hu
       have x12 : (Pv.own (wo6.heap.size) 5 (Kd.int .u8) (y12_1)).V (get b 12) w1 := Pv.keep _ g11_12 (hu 12 (by kernel_rfl)) hb
       exact st_move rfl (want0 rfl _) rfl x12
      case s3 =>
       intro b w1 hb hp hu
       have x97 : (Pv.own (wo6.heap.size) 5 (Kd.int .u8) (y12_1)).V (get b 97) w1 := hp 2 97 (by kernel_rfl) rfl
       exact st_string Try.underlying22 Try.underlying5 Try.underlying9 rfl (want0 rfl _) rfl (Pv.own_sl x97) rfl
      case s4 =>
       intro b w1 hb hp hu
       have x96 : (Pv.is (.string (strOfNums (t1)))).V (get b 96) w1 := hp 1 96 (by kernel_rfl) rfl
       have x98 : (Pv.is (.string (strOfNums (y12_1)))).V (get b 98) w1 := hp 3 98 (by kernel_rfl) rfl
       exact st_seql (b := false) rfl (want0 rfl _) rfl x96 x98 (decide_eq_false c1_2)
      case s5 =>
       intro b w1 hb hp hu
       have x12 : (Pv.own (wo6.heap.size) 5 (Kd.int .u8) (y12_1)).V (get b 12) w1 := Pv.keep _ g11_12 (hu 12 (by kernel_rfl)) hb
       exact st_move rfl (want0 rfl _) rfl x12
      case s6 =>
       intro b w1 hb hp hu
       have x9 : (pI (wrap64 (Int.tmod (wrap64 (a1)) ((64 : Int)) + (1 : Int)))).V (get b 9) w1 := Pv.keep _ g11_9 (hu 9 (by kernel_rfl)) hb
       exact st_move rfl (want0 rfl _) rfl x9
      case s7 =>
       intro b w1 hb hp hu
       have x100 : (Pv.own (wo6.heap.size) 5 (Kd.int .u8) (y12_1)).V (get b 100) w1 := hp 5 100 (by kernel_rfl) rfl
       obtain ⟨B0, d0, e0_, hC0, hl0⟩ := (Pv.own_sl x100)
       have e0 : b.eval (Operand.tmp 100) = .slice B0 (y12_1).length d0 := e0_
       have x101 : (pI (wrap64 (Int.tmod (wrap64 (a1)) ((64 : Int)) + (1 : Int)))).V (get b 101) w1 := hp 6 101 (by kernel_rfl) rfl
       have e1 : b.eval (Operand.tmp 101) = .int .i64 (wrap64 (Int.tmod (wrap64 (a1)) ((64 : Int)) + (1 : Int))) := x101
       refine st_call rfl (want0 rfl _) rfl Try.func31 (by kernel_rfl) rfl #[.slice B0 (y12_1).length d0, .int .i64 (wrap64 (Int.tmod (wrap64 (a1)) ((64 : Int)) + (1 : Int)))] (by simp only [List.map_toArray, List.map_cons, List.map_nil, e0, e1]) ?_
       refine (solomon_Fine.calls k B0 d0 _ _ _ w1 hC0 hl0 H1_1).mono ?_
       rintro e w2 ⟨rfl, hb2⟩
       exact ⟨_, rfl, (show (Pv.is (.bool false)).V (.bool t1_1) w2 from by rw [Bool.eq_false_iff.mpr c1_3]; first | done | exact rfl), hb2⟩
      case s8 =>
       intro b w1 hb hp hu
       have x99 : (pF).V (get b 99) w1 := hp 4 99 (by kernel_rfl) rfl
       have x102 : (pF).V (get b 102) w1 := hp 7 102 (by kernel_rfl) rfl
       exact st_bin (v := .bool true) (vx := .bool false) (vy := .bool false) rfl (want0 rfl _) rfl x99 x102 (by first | rfl | (go_simp; first | done | rfl | (simp only [i64_w, i32_w]; done))) rfl
      case s9 =>
       intro b w1 hb hp hu
       have x103 : (pT).V (get b 103) w1 := hp 8 103 (by kernel_rfl) rfl
       exact st_assign rfl (want0 rfl _) rfl x103
      intro ac12 wo12 hn12 hd_ hb hv hs
      have g12_8 : (pT).V (get ac12 8) wo12 := hv 9 8 rfl
      have hB12 := below_step hB11 hb
      have hd12 := hd_.trans hd11
      have hOo0_9_12 : wo6.heap.size ≤ wo12.heap.size := Nat.le_trans hOo0_9_11 hb.size
      clear hv hs hd_ hb hB11 hn11 hd11 hOo0_9_11 g11_75 g11_8 g11_9 g11_10 g11_12
      show Code.wp _ _ _ _ _
      refine wp_ret ?_
      repeat (first | refine then_ret ?_ | refine inb_ret ?_)
      exact back_is rfl hd12 g12_8 ⟨rfl, hB12⟩
   ·have h := hn c1_0
    clear hy hn
    refine Reg.plain (T := T11) (D := D11) (n := 104) (by kernel_rfl) hn10 (told [pI (x13_1), Pv.fx (wo6.heap.size) (Kd.int .u8) (l2), pI (((l2).length : Int)), pF, pF, Pv.is (undef), Pv.is (undef), Pv.is (undef), Pv.is (undef), pF, pF, Pv.is (undef), Pv.is (undef), Pv.is (undef), pF]) (told_pst _) (owedS (owedS (owedS (owedS (owedS (owedS (owedS (owedS (owedS (owedS (owedS (owedS (owedS (owedS (owedS owed0 ?s0) ?s1) ?s2) ?s3) ?s4) ?s5) ?s6) ?s7) ?s8) ?s9) ?s10) ?s11) ?s12) ?s13) ?s14) ?_
    case s0 =>
     intro b w1 hb hp hu
     have x13 : (pI (x13_1)).V (get b 13) w1 := Pv.keep _ g10_13 (hu 13 (by kernel_rfl)) hb
     exact st_move rfl (want0 rfl _) rfl x13
    case s1 =>
     intro b w1 hb hp hu
     have x2 : (Pv.fx (wo6.heap.size) (Kd.int .u8) (l2)).V (get b 2) w1 := Pv.keep _ g10_2 (hu 2 (by kernel_rfl)) hb
     exact st_move rfl (want0 rfl _) rfl x2
    case s2 =>
     intro b w1 hb hp hu
     have x62 : (Pv.fx (wo6.heap.size) (Kd.int .u8) (l2)).V (get b 62) w1 := hp 1 62 (by kernel_rfl) rfl
     obtain ⟨A_, c_, e_, _, _⟩ := (Pv.fx_sl x62)
     exact st_len rfl (want0 rfl _) rfl Try.underlying22 e_ rfl
    case s3 =>
     intro b w1 hb hp hu
     have x61 : (pI (x13_1)).V (get b 61) w1 := hp 0 61 (by kernel_rfl) rfl
     have x63 : (pI (((l2).length : Int))).V (get b 63) w1 := hp 2 63 (by kernel_rfl) rfl
     exact st_lss (b := false) (κ := .i64) (m := x13_1) (n := (((l2).length : Int))) rfl (want0 rfl _) rfl x61 x63 (decide_eq_false c1_0)
    case s4 =>
     intro b w1 hb hp hu
     have x64 : (pF).V (get b 64) w1 := hp 3 64 (by kernel_rfl) rfl
     exact st_move rfl (want0 rfl _) rfl x64
    case s5 =>
     intro b w1 hb hp hu
     have x65 : (pF).V (get b 65) w1 := hp 4 65 (by kernel_rfl) rfl
     exact st_off rfl ((want_is (N := 65) rfl rfl x65).trans rfl) rfl
    case s6 =>
     intro b w1 hb hp hu
     have x65 : (pF).V (get b 65) w1 := hp 4 65 (by kernel_rfl) rfl
     exact st_off rfl ((want_is (N := 65) rfl rfl x65).trans rfl) rfl
    case s7 =>
     intro b w1 hb hp hu
     have x65 : (pF).V (get b 65) w1 := hp 4 65 (by kernel_rfl) rfl
     exact st_off rfl ((want_is (N := 65) rfl rfl x65).trans rfl) rfl
    case s8 =>
     intro b w1 hb hp hu
     have x65 : (pF).V (get b 65) w1 := hp 4 65 (by kernel_rfl) rfl
     exact st_off rfl ((want_is (N := 65) rfl rfl x65).trans rfl) rfl
    case s9 =>
     intro b w1 hb hp hu
     have x65 : (pF).V (get b 65) w1 := hp 4 65 (by kernel_rfl) rfl
     exact st_pick (b := false) rfl (want0 rfl _) rfl x65 rfl
    case s10 =>
     intro b w1 hb hp hu
     have x70 : (pF).V (get b 70) w1 := hp 9 70 (by kernel_rfl) rfl
     exact st_move rfl (want0 rfl _) rfl x70
    case s11 =>
     intro b w1 hb hp hu
     have x71 : (pF).V (get b 71) w1 := hp 10 71 (by kernel_rfl) rfl
     exact st_off rfl ((want_is (N := 71) rfl rfl x71).trans rfl) rfl
    case s12 =>
     intro b w1 hb hp hu
     have x71 : (pF).V (get b 71) w1 := hp 10 71 (by kernel_rfl) rfl
     exact st_off rfl ((want_is (N := 71) rfl rfl x71).trans rfl) rfl
    case s13 =>
     intro b w1 hb hp hu
     have x71 : (pF).V (get b 71) w1 := hp 10 71 (by kernel_rfl) rfl
     exact st_off rfl ((want_is (N := 71) rfl rfl x71).trans rfl) rfl
    case s14 =>
     intro b w1 hb hp hu
     have x71 : (pF).V (get b 71) w1 := hp 10 71 (by kernel_rfl) rfl
     exact st_pick (b := false) rfl (want0 rfl _) rfl x71 rfl
    intro ac11 wo11 hn11 hd_ hb hv hs
    have g11_75 : (pF).V (get ac11 75) wo11 := hv 14 75 rfl
    have g11_8 : (pF).V (get ac11 8) wo11 := Pv.keep _ g10_8 (hs 8 rfl) hb
    have g11_9 : (pI (wrap64 (Int.tmod (wrap64 (a1)) ((64 : Int)) + (1 : Int)))).V (get ac11 9) wo11 := Pv.keep _ g10_9 (hs 9 rfl) hb
    have g11_10 : (Pv.fx (wo6.heap.size) (Kd.int .u8) (t1)).V (get ac11 10) wo11 := Pv.keep _ g10_10 (hs 10 rfl) hb
    have g11_12 : (Pv.own (wo6.heap.size) 5 (Kd.int .u8) (y12_1)).V (get ac11 12) wo11 := Pv.keep _ g10_12 (hs 12 rfl) hb
    have hB11 := below_step hB10 hb
    have hd11 := hd_.trans hd10
    have hOo0_9_11 : wo6.heap.size ≤ wo11.heap.size := Nat.le_trans hOo0_9_10 hb.size
    clear hv hs hd_ hb hB10 hn10 hd10 hOo0_9_10 g10_2 g10_3 g10_8 g10_9 g10_10 g10_12 g10_13
    show Code.wp _ _ _ _ _
    refine wp_cond_false (show ac11.eval (Operand.tmp 75) = .bool false from g11_75) ?_
    refine wp_exit ?_
    show Code.wp _ _ _ _ _
    refine wp_seq ?_
    obtain ⟨hy, hn⟩ := h
    by_cases c1_1 : (strOfNums (t1)).toList = (strOfNums (y12_1)).toList
    ·have h := hy c1_1
     clear hy hn
     obtain ⟨t1_1, H1_1, h⟩ := h
     obtain ⟨c1_2, h⟩ := h
     refine Reg.draws (T := T14) (D := D14) (n := 104) rfl (by kernel_rfl) hn11 (told [Pv.fx (wo6.heap.size) (Kd.int .u8) (t1), Pv.is (.string (strOfNums (t1))), Pv.own (wo6.heap.size) 5 (Kd.int .u8) (y12_1), Pv.is (.string (strOfNums (y12_1))), pT, Pv.own (wo6.heap.size) 5 (Kd.int .u8) (y12_1), pI (wrap64 (Int.tmod (wrap64 (a1)) ((64 : Int)) + (1 : Int))), pT, pT, pT]) (told_pst _) (owedS (owedS (owedS (owedS (owedS (owedS (owedS (owedS (owedS (owedS owed0 ?s0) ?s1) ?s2) ?s3) ?s4) ?s5) ?s6) ?s7) ?s8) ?s9) ?_
     case s0 =>
      intro b w1 hb hp hu
      have x10 : (Pv.fx (wo6.heap.size) (Kd.int .u8) (t1)).V (get b 10) w1 := Pv.keep _ g11_10 (hu 10 (by kernel_rfl)) hb
      exact st_move rfl (want0 rfl _) rfl x10
     case s1 =>
      intro b w1 hb hp hu
      have x95 : (Pv.fx (wo6.heap.size) (Kd.int .u8) (t1)).V (get b 95) w1 := hp 0 95 (by kernel_rfl) rfl
      exact st_string Try.underlying22 Try.underlying5 Try.underlying9 rfl (want0 rfl _) rfl (Pv.fx_sl x95) rfl
     case s2 =>
      intro b w1 hb hp hu
      have x12 : (Pv.own (wo6.heap.size) 5 (Kd.int .u8) (y12_1)).V (get b 12) w1 := Pv.keep _ g11_12 (hu 12 (by kernel_rfl)) hb
      exact st_move rfl (want0 rfl _) rfl x12
     case s3 =>
      intro b w1 hb hp hu
      have x97 : (Pv.own (wo6.heap.size) 5 (Kd.int .u8) (y12_1)).V (get b 97) w1 := hp 2 97 (by kernel_rfl) rfl
      exact st_string Try.underlying22 Try.underlying5 Try.underlying9 rfl (want0 rfl _) rfl (Pv.own_sl x97) rfl
     case s4 =>
      intro b w1 hb hp hu
      have x96 : (Pv.is (.string (strOfNums (t1)))).V (get b 96) w1 := hp 1 96 (by kernel_rfl) rfl
      have x98 : (Pv.is (.string (strOfNums (y12_1)))).V (get b 98) w1 := hp 3 98 (by kernel_rfl) rfl
      exact st_seql (b := true) rfl (want0 rfl _) rfl x96 x98 (decide_eq_true c1_1)
     case s5 =>
      intro b w1 hb hp hu
      have x12 : (Pv.own (wo6.heap.size) 5 (Kd.int .u8) (y12_1)).V (get b 12) w1 := Pv.keep _ g11_12 (hu 12 (by kernel_rfl)) hb
      exact st_move rfl (want0 rfl _) rfl x12
     case s6 =>
      intro b w1 hb hp hu
      have x9 : (pI (wrap64 (Int.tmod (wrap64 (a1)) ((64 : Int)) + (1 : Int)))).V (get b 9) w1 := Pv.keep _ g11_9 (hu 9 (by kernel_rfl)) hb
      exact st_move rfl (want0 rfl _) rfl x9
     case s7 =>
      intro b w1 hb hp hu
      have x100 : (Pv.own (wo6.heap.size) 5 (Kd.int .u8) (y12_1)).V (get b 100) w1 := hp 5 100 (by kernel_rfl) rfl
      obtain ⟨B0, d0, e0_, hC0, hl0⟩ := (Pv.own_sl x100)
      have e0 : b.eval (Operand.tmp 100) = .slice B0 (y12_1).length d0 := e0_
      have x101 : (pI (wrap64 (Int.tmod (wrap64 (a1)) ((64 : Int)) + (1 : Int)))).V (get b 101) w1 := hp 6 101 (by kernel_rfl) rfl
      have e1 : b.eval (Operand.tmp 101) = .int .i64 (wrap64 (Int.tmod (wrap64 (a1)) ((64 : Int)) + (1 : Int))) := x101
      refine st_call rfl (want0 rfl _) rfl Try.func31 (by kernel_rfl) rfl #[.slice B0 (y12_1).length d0, .int .i64 (wrap64 (Int.tmod (wrap64 (a1)) ((64 : Int)) + (1 : Int)))] (by simp only [List.map_toArray, List.map_cons, List.map_nil, e0, e1]) ?_
      refine (solomon_Fine.calls k B0 d0 _ _ _ w1 hC0 hl0 H1_1).mono ?_
      rintro e w2 ⟨rfl, hb2⟩
      exact ⟨_, rfl, (show (Pv.is (.bool true)).V (.bool t1_1) w2 from by rw [c1_2]; first | done | exact rfl), hb2⟩
     case s8 =>
      intro b w1 hb hp hu
      have x99 : (pT).V (get b 99) w1 := hp 4 99 (by kernel_rfl) rfl
      have x102 : (pT).V (get b 102) w1 := hp 7 102 (by kernel_rfl) rfl
      exact st_bin (v := .bool true) (vx := .bool true) (vy := .bool true) rfl (want0 rfl _) rfl x99 x102 (by first | rfl | (go_simp; first | done | rfl | (simp only [i64_w, i32_w]; done))) rfl
     case s9 =>
      intro b w1 hb hp hu
      have x103 : (pT).V (get b 103) w1 := hp 8 103 (by kernel_rfl) rfl
      exact st_assign rfl (want0 rfl _) rfl x103
     intro ac12 wo12 hn12 hd_ hb hv hs
     have g12_8 : (pT).V (get ac12 8) wo12 := hv 9 8 rfl
     have hB12 := below_step hB11 hb
     have hd12 := hd_.trans hd11
     have hOo0_9_12 : wo6.heap.size ≤ wo12.heap.size := Nat.le_trans hOo0_9_11 hb.size
     clear hv hs hd_ hb hB11 hn11 hd11 hOo0_9_11 g11_75 g11_8 g11_9 g11_10 g11_12
     show Code.wp _ _ _ _ _
     refine wp_ret ?_
     repeat (first | refine then_ret ?_ | refine inb_ret ?_)
     exact back_is rfl hd12 g12_8 ⟨rfl, hB12⟩
    ·have h := hn c1_1
     clear hy hn
     obtain ⟨t1_1, H1_1, h⟩ := h
     obtain ⟨c1_2, h⟩ := h
     refine Reg.draws (T := T14) (D := D14) (n := 104) rfl (by kernel_rfl) hn11 (told [Pv.fx (wo6.heap.size) (Kd.int .u8) (t1), Pv.is (.string (strOfNums (t1))), Pv.own (wo6.heap.size) 5 (Kd.int .u8) (y12_1), Pv.is (.string (strOfNums (y12_1))), pF, Pv.own (wo6.heap.size) 5 (Kd.int .u8) (y12_1), pI (wrap64 (Int.tmod (wrap64 (a1)) ((64 : Int)) + (1 : Int))), pF, pT, pT]) (told_pst _) (owedS (owedS (owedS (owedS (owedS (owedS (owedS (owedS (owedS (owedS owed0 ?s0) ?s1) ?s2) ?s3) ?s4) ?s5) ?s6) ?s7) ?s8) ?s9) ?_
     case s0 =>
      intro b w1 hb hp hu
      have x10 : (Pv.fx (wo6.heap.size) (Kd.int .u8) (t1)).V (get b 10) w1 := Pv.keep _ g11_10 (hu 10 (by kernel_rfl)) hb
      exact st_move rfl (want0 rfl _) rfl x10
     case s1 =>
      intro b w1 hb hp hu
      have x95 : (Pv.fx (wo6.heap.size) (Kd.int .u8) (t1)).V (get b 95) w1 := hp 0 95 (by kernel_rfl) rfl
      exact st_string Try.underlying22 Try.underlying5 Try.underlying9 rfl (want0 rfl _) rfl (Pv.fx_sl x95) rfl
     case s2 =>
      intro b w1 hb hp hu
      have x12 : (Pv.own (wo6.heap.size) 5 (Kd.int .u8) (y12_1)).V (get b 12) w1 := Pv.keep _ g11_12 (hu 12 (by kernel_rfl)) hb
      exact st_move rfl (want0 rfl _) rfl x12
     case s3 =>
      intro b w1 hb hp hu
      have x97 : (Pv.own (wo6.heap.size) 5 (Kd.int .u8) (y12_1)).V (get b 97) w1 := hp 2 97 (by kernel_rfl) rfl
      exact st_string Try.underlying22 Try.underlying5 Try.underlying9 rfl (want0 rfl _) rfl (Pv.own_sl x97) rfl
     case s4 =>
      intro b w1 hb hp hu
      have x96 : (Pv.is (.string (strOfNums (t1)))).V (get b 96) w1 := hp 1 96 (by kernel_rfl) rfl
      have x98 : (Pv.is (.string (strOfNums (y12_1)))).V (get b 98) w1 := hp 3 98 (by kernel_rfl) rfl
      exact st_seql (b := false) rfl (want0 rfl _) rfl x96 x98 (decide_eq_false c1_1)
     case s5 =>
      intro b w1 hb hp hu
      have x12 : (Pv.own (wo6.heap.size) 5 (Kd.int .u8) (y12_1)).V (get b 12) w1 := Pv.keep _ g11_12 (hu 12 (by kernel_rfl)) hb
      exact st_move rfl (want0 rfl _) rfl x12
     case s6 =>
      intro b w1 hb hp hu
      have x9 : (pI (wrap64 (Int.tmod (wrap64 (a1)) ((64 : Int)) + (1 : Int)))).V (get b 9) w1 := Pv.keep _ g11_9 (hu 9 (by kernel_rfl)) hb
      exact st_move rfl (want0 rfl _) rfl x9
     case s7 =>
      intro b w1 hb hp hu
      have x100 : (Pv.own (wo6.heap.size) 5 (Kd.int .u8) (y12_1)).V (get b 100) w1 := hp 5 100 (by kernel_rfl) rfl
      obtain ⟨B0, d0, e0_, hC0, hl0⟩ := (Pv.own_sl x100)
      have e0 : b.eval (Operand.tmp 100) = .slice B0 (y12_1).length d0 := e0_
      have x101 : (pI (wrap64 (Int.tmod (wrap64 (a1)) ((64 : Int)) + (1 : Int)))).V (get b 101) w1 := hp 6 101 (by kernel_rfl) rfl
      have e1 : b.eval (Operand.tmp 101) = .int .i64 (wrap64 (Int.tmod (wrap64 (a1)) ((64 : Int)) + (1 : Int))) := x101
      refine st_call rfl (want0 rfl _) rfl Try.func31 (by kernel_rfl) rfl #[.slice B0 (y12_1).length d0, .int .i64 (wrap64 (Int.tmod (wrap64 (a1)) ((64 : Int)) + (1 : Int)))] (by simp only [List.map_toArray, List.map_cons, List.map_nil, e0, e1]) ?_
      refine (solomon_Fine.calls k B0 d0 _ _ _ w1 hC0 hl0 H1_1).mono ?_
      rintro e w2 ⟨rfl, hb2⟩
      exact ⟨_, rfl, (show (Pv.is (.bool false)).V (.bool t1_1) w2 from by rw [Bool.eq_false_iff.mpr c1_2]; first | done | exact rfl), hb2⟩
     case s8 =>
      intro b w1 hb hp hu
      have x99 : (pF).V (get b 99) w1 := hp 4 99 (by kernel_rfl) rfl
      have x102 : (pF).V (get b 102) w1 := hp 7 102 (by kernel_rfl) rfl
      exact st_bin (v := .bool true) (vx := .bool false) (vy := .bool false) rfl (want0 rfl _) rfl x99 x102 (by first | rfl | (go_simp; first | done | rfl | (simp only [i64_w, i32_w]; done))) rfl
     case s9 =>
      intro b w1 hb hp hu
      have x103 : (pT).V (get b 103) w1 := hp 8 103 (by kernel_rfl) rfl
      exact st_assign rfl (want0 rfl _) rfl x103
     intro ac12 wo12 hn12 hd_ hb hv hs
     have g12_8 : (pT).V (get ac12 8) wo12 := hv 9 8 rfl
     have hB12 := below_step hB11 hb
     have hd12 := hd_.trans hd11
     have hOo0_9_12 : wo6.heap.size ≤ wo12.heap.size := Nat.le_trans hOo0_9_11 hb.size
     clear hv hs hd_ hb hB11 hn11 hd11 hOo0_9_11 g11_75 g11_8 g11_9 g11_10 g11_12
     show Code.wp _ _ _ _ _
     refine wp_ret ?_
     repeat (first | refine then_ret ?_ | refine inb_ret ?_)
     exact back_is rfl hd12 g12_8 ⟨rfl, hB12⟩

/-- THE ONE PURE STATEMENT of wristbandlaw09_SolomonFine. -/
def wristbandlaw09_SolomonFine.Pure : Prop := ∀ (l0 : List Int) (a1 : Int) (l2 : List Int) (l3 : List Int), l0.length ≤ maxLen → l0.length * 1 ≤ 140737488351232 → (∀ x ∈ l0, (Lit.int .u8 x).wf = true) → (Lit.int .u8 a1).wf = true → l2.length ≤ maxLen → l2.length * 1 ≤ 140737488351232 → (∀ x ∈ l2, (Lit.int .u8 x).wf = true) → l3.length ≤ maxLen → l3.length * 1 ≤ 140737488351232 → (∀ x ∈ l3, (Lit.int .u8 x).wf = true) → ∃ k, wristbandlaw09_SolomonFine.ok k l0 a1 l2 l3
theorem wristbandlaw09_SolomonFine.walk (P : wristbandlaw09_SolomonFine.Pure) (a0 : Option Addr) (len0 cap0 : Nat) (z0 : List Int) (a1 : Int) (a2 : Option Addr) (len2 cap2 : Nat) (z2 : List Int) (a3 : Option Addr) (len3 cap3 : Nat) (z3 : List Int) (w : World) (w0 : (a0 = none ∧ len0 = 0 ∧ cap0 = 0 ∧ z0 = []) ∨ ∃ x, a0 = some x ∧ len0 ≤ cap0 ∧ cap0 ≤ maxLen ∧ z0.length = cap0 ∧ (∀ i, i < z0.length → w.cell? (x.add i) = some (.int .u8 (z0.getD i 0))) ∧ ∀ n ∈ z0, (Lit.int .u8 n).wf = true) (y0 : len0 * 1 ≤ 140737488351232) (w1 : (Lit.int .u8 a1).wf = true) (w2 : (a2 = none ∧ len2 = 0 ∧ cap2 = 0 ∧ z2 = []) ∨ ∃ x, a2 = some x ∧ len2 ≤ cap2 ∧ cap2 ≤ maxLen ∧ z2.length = cap2 ∧ (∀ i, i < z2.length → w.cell? (x.add i) = some (.int .u8 (z2.getD i 0))) ∧ ∀ n ∈ z2, (Lit.int .u8 n).wf = true) (y2 : len2 * 1 ≤ 140737488351232) (w3 : (a3 = none ∧ len3 = 0 ∧ cap3 = 0 ∧ z3 = []) ∨ ∃ x, a3 = some x ∧ len3 ≤ cap3 ∧ cap3 ≤ maxLen ∧ z3.length = cap3 ∧ (∀ i, i < z3.length → w.cell? (x.add i) = some (.int .u8 (z3.getD i 0))) ∧ ∀ n ∈ z3, (Lit.int .u8 n).wf = true) (y3 : len3 * 1 ≤ 140737488351232) :
  Calls Try.prog 7 #[.slice a0 len0 cap0, .int .u8 a1, .slice a2 len2 cap2, .slice a3 len3 cap3] w fun e w' => e = .returned (.bool true) ∧ Below w.heap.size w w' := by
 obtain ⟨l0, rfl, hr0, hm0, hw0, hc0⟩ := ReadsInt.ofRowC w0
 obtain ⟨l2, rfl, hr2, hm2, hw2, hc2⟩ := ReadsInt.ofRowC w2
 obtain ⟨l3, rfl, hr3, hm3, hw3, hc3⟩ := ReadsInt.ofRowC w3
 obtain ⟨k, h⟩ := P l0 a1 l2 l3 hm0 y0 hw0 w1 hm2 y2 hw2 hm3 y3 hw3
 exact wristbandlaw09_SolomonFine.calls k _ _ l0 a1 _ _ l2 _ _ l3 w (Kd.C_of_reads (d := (0 : Int)) (h1 := fun _ => rfl) hr0) hc0 (Kd.C_of_reads (d := (0 : Int)) (h1 := fun _ => rfl) hr2) hc2 (Kd.C_of_reads (d := (0 : Int)) (h1 := fun _ => rfl) hr3) hc3 h

end Go.Proofs.Ytgieppcadnhhaaa.P
