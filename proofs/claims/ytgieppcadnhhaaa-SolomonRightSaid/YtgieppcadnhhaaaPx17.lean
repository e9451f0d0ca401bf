-- Written by a program of this session (its own contracts laid into the walks). Lean checks it.
import Derived.Test.YtgieppcadnhhaaaPx0
import Derived.Test.YtgieppcadnhhaaaPx6
import Derived.Test.YtgieppcadnhhaaaPx9
import Derived.Test.YtgieppcadnhhaaaPx11
import Derived.Test.YtgieppcadnhhaaaPx14
import Derived.Test.YtgieppcadnhhaaaPx15
import Derived.Test.YtgieppcadnhhaaaPx16
import Derived.Test.YtgieppcadnhhaaaReg
namespace Go.Proofs.Ytgieppcadnhhaaa.P
open Go.RowKit Go.Proofs.YtgieppcadnhhaaaW.PrintWords Go.Proofs.YtgieppcadnhhaaaW.PrintLast Go.Proofs.YtgieppcadnhhaaaW.PrintMore
attribute [local go_sem] max2_int min2_int max_two min_two max_three min_three max_four min_four   -- for this text's walks alone
set_option linter.unusedVariables false
set_option linter.unusedSimpArgs false

/-! ### wristbandlaw09_SolomonRight: function 6 -/
-- IMPORTS Derived.Test.YtgieppcadnhhaaaReg
open Go.Proofs.Ytgieppcadnhhaaa.Reg
def wristbandlaw09_SolomonRight.T0 : List Nat := [0]
def wristbandlaw09_SolomonRight.D0 : List (Option Tmp) := [some 4]
def wristbandlaw09_SolomonRight.T1 : List Nat := [0, 1]
def wristbandlaw09_SolomonRight.D1 : List (Option Tmp) := [some 11, some 12]
def wristbandlaw09_SolomonRight.T2 : List Nat := [0]
def wristbandlaw09_SolomonRight.D2 : List (Option Tmp) := [some 4]
def wristbandlaw09_SolomonRight.T3 : List Nat := [0, 1, 3]
def wristbandlaw09_SolomonRight.D3 : List (Option Tmp) := [some 13, some 14, some 15]
def wristbandlaw09_SolomonRight.T4 : List Nat := [0]
def wristbandlaw09_SolomonRight.D4 : List (Option Tmp) := [some 4]
def wristbandlaw09_SolomonRight.T5 : List Nat := [0, 1, 3, 7, 7, 15, 63]
def wristbandlaw09_SolomonRight.D5 : List (Option Tmp) := [some 17, some 18, some 16, some 19, some 20, some 5, some 6]
def wristbandlaw09_SolomonRight.T6 : List Nat := [0, 0, 3, 7, 15, 15, 31, 127]
def wristbandlaw09_SolomonRight.D6 : List (Option Tmp) := [some 22, some 23, some 24, some 21, some 25, some 26, some 7, some 8]
def wristbandlaw09_SolomonRight.T7 : List Nat := [0, 0, 3, 7, 15, 15, 31, 127]
def wristbandlaw09_SolomonRight.D7 : List (Option Tmp) := [some 28, some 29, some 30, some 27, some 31, some 32, some 9, some 10]
def wristbandlaw09_SolomonRight.T8 : List Nat := [0, 1, 3, 7, 15, 31]
def wristbandlaw09_SolomonRight.D8 : List (Option Tmp) := [some 33, some 34, some 35, some 36, some 37, some 38]
def wristbandlaw09_SolomonRight.T9 : List Nat := [0, 1, 3, 7, 15, 31, 63, 127, 255, 511, 1023, 2047, 4095, 8191, 16383, 32767, 65535, 131071, 262143, 524287, 1048575, 2097151, 4194303, 8388607, 16777215, 33554431, 67108863, 67108863, 268435455, 536870911, 1073741823, 2147483647]
def wristbandlaw09_SolomonRight.D9 : List (Option Tmp) := [some 39, some 40, some 41, some 42, some 43, some 44, some 45, some 46, some 47, some 48, some 49, some 50, some 51, some 52, some 53, some 54, some 55, some 56, some 57, some 58, some 59, some 60, some 61, some 62, some 63, some 64, some 65, some 66, some 67, some 68, some 69, some 4]
def wristbandlaw09_SolomonRight.T10 : List Nat := [0, 1, 3, 7, 15, 7, 39, 103, 255, 511, 1023, 2047, 2047, 2047, 14335, 32767, 65535, 131071, 262143, 262143, 1048575, 262143, 262143, 8388607, 16777215, 33554431]
def wristbandlaw09_SolomonRight.D10 : List (Option Tmp) := [some 70, some 71, some 72, some 73, some 74, some 75, some 76, some 77, some 78, some 79, some 80, some 81, some 82, some 83, some 84, some 85, some 86, some 87, some 88, some 89, some 90, some 91, some 92, some 93, some 94, some 95]
def wristbandlaw09_SolomonRight.T11 : List Nat := [0]
def wristbandlaw09_SolomonRight.D11 : List (Option Tmp) := [some 4]
def wristbandlaw09_SolomonRight.T12 : List Nat := [0, 1, 3, 7, 15, 7, 7, 103, 231, 511, 1023, 2047, 4095, 8191, 16383, 32767, 65535, 131071, 262143, 524287]
def wristbandlaw09_SolomonRight.D12 : List (Option Tmp) := [some 96, some 97, some 98, some 99, some 100, some 101, some 102, some 103, some 104, some 105, some 106, some 107, some 108, some 109, some 110, some 111, some 112, some 113, some 114, some 115]
def wristbandlaw09_SolomonRight.T13 : List Nat := [0]
def wristbandlaw09_SolomonRight.D13 : List (Option Tmp) := [some 4]
def wristbandlaw09_SolomonRight.T14 : List Nat := [0, 1, 0, 7, 15]
def wristbandlaw09_SolomonRight.D14 : List (Option Tmp) := [some 116, some 117, some 118, some 119, some 120]
def wristbandlaw09_SolomonRight.T15 : List Nat := [0, 1, 3, 7, 15, 31, 63, 127]
def wristbandlaw09_SolomonRight.D15 : List (Option Tmp) := [some 121, some 122, some 123, some 124, some 125, some 126, some 127, some 4]
def wristbandlaw09_SolomonRight.T16 : List Nat := [0, 1, 3, 7, 15, 7, 7, 103, 231, 511, 1023, 2047]
def wristbandlaw09_SolomonRight.D16 : List (Option Tmp) := [some 128, some 129, some 130, some 131, some 132, some 133, some 134, some 135, some 136, some 137, some 138, some 4]
/-- What the law asks, told of the walks' own functions. -/
def wristbandlaw09_SolomonRight.ok (k : Nat) (l0 : List Int) (a1 : Int) : Prop := (∃ (t1 : Bool), wristbandlaw09_awake.f k = some t1 ∧ ((t1 = true) ∧ (((((l0).length : Int) > (300 : Int)) → True) ∧ (¬ (((l0).length : Int) > (300 : Int)) → (∃ (t2 : List Int) (t3 : Int), solomon_Gen.f k (a1) = some (t2, t3) ∧ (∃ (t4 : List Int) (t5 : Int), solomon_Put.f k (l0) (a1) = some (t4, t5) ∧ (∃ (t6 : List Int) (t7 : Int), solomon_Signs.f k (l0) (a1) = some (t6, t7) ∧ (((a1 < (1 : Int)) → ((t3 = (1 : Int)) ∧ ((t5 = (1 : Int)) ∧ ((t7 = (1 : Int)) ∧ ((((t2).length : Int) = (0 : Int)) ∧ ((((t4).length : Int) = (0 : Int)) ∧ ((((t6).length : Int) = (0 : Int)) ∧ (∃ (t8 : Bool), solomon_Fine.f k (l0) (a1) = some t8 ∧ (¬ (t8 = true) ∧ True))))))))) ∧ (¬ (a1 < (1 : Int)) → (((a1 > (64 : Int)) → ((t3 = (1 : Int)) ∧ ((t5 = (1 : Int)) ∧ ((t7 = (1 : Int)) ∧ ((((t2).length : Int) = (0 : Int)) ∧ ((((t4).length : Int) = (0 : Int)) ∧ ((((t6).length : Int) = (0 : Int)) ∧ (∃ (t8 : Bool), solomon_Fine.f k (l0) (a1) = some t8 ∧ (¬ (t8 = true) ∧ True))))))))) ∧ (¬ (a1 > (64 : Int)) → ((t3 = (0 : Int)) ∧ (∃ (t8 : List Int), wristbandref09_Gen.f k (a1) = some t8 ∧ (((strOfNums (t2)).toList = (strOfNums (t8)).toList) ∧ (∃ (t9 : Int), wristbandref09_Error.f k (l0) (a1) = some t9 ∧ ((t7 = t9) ∧ (∃ (t10 : Bool), solomon_Fine.f k (l0) (a1) = some t10 ∧ (((t10 = true) → (∃ (t11 : Bool), wristbandref09_Fine.f k (l0) (a1) = some t11 ∧ ((t11 = true) ∧ (((t7 = (0 : Int)) → (∃ (t12 : List Int), wristbandref09_Signs.f k (l0) (a1) = some t12 ∧ (((strOfNums (t6)).toList = (strOfNums (t12)).toList) ∧ (((wrap64 (((l0).length : Int) + a1) > (255 : Int)) → ((t5 = (4 : Int)) ∧ ((((t4).length : Int) = (0 : Int)) ∧ True))) ∧ (¬ (wrap64 (((l0).length : Int) + a1) > (255 : Int)) → ((t5 = (0 : Int)) ∧ (∃ (t13 : List Int), wristbandref09_Put.f k (l0) (a1) = some t13 ∧ (((strOfNums (t4)).toList = (strOfNums (t13)).toList) ∧ True)))))))) ∧ (¬ (t7 = (0 : Int)) → ((((t6).length : Int) = (0 : Int)) ∧ (((wrap64 (((l0).length : Int) + a1) > (255 : Int)) → ((t5 = (4 : Int)) ∧ ((((t4).length : Int) = (0 : Int)) ∧ True))) ∧ (¬ (wrap64 (((l0).length : Int) + a1) > (255 : Int)) → ((t5 = (0 : Int)) ∧ (∃ (t12 : List Int), wristbandref09_Put.f k (l0) (a1) = some t12 ∧ (((strOfNums (t4)).toList = (strOfNums (t12)).toList) ∧ True))))))))))) ∧ (¬ (t10 = true) → (∃ (t11 : Bool), wristbandref09_Fine.f k (l0) (a1) = some t11 ∧ (¬ (t11 = true) ∧ (((t7 = (0 : Int)) → (∃ (t12 : List Int), wristbandref09_Signs.f k (l0) (a1) = some t12 ∧ (((strOfNums (t6)).toList = (strOfNums (t12)).toList) ∧ (((wrap64 (((l0).length : Int) + a1) > (255 : Int)) → ((t5 = (4 : Int)) ∧ ((((t4).length : Int) = (0 : Int)) ∧ True))) ∧ (¬ (wrap64 (((l0).length : Int) + a1) > (255 : Int)) → ((t5 = (0 : Int)) ∧ (∃ (t13 : List Int), wristbandref09_Put.f k (l0) (a1) = some t13 ∧ (((strOfNums (t4)).toList = (strOfNums (t13)).toList) ∧ True)))))))) ∧ (¬ (t7 = (0 : Int)) → ((((t6).length : Int) = (0 : Int)) ∧ (((wrap64 (((l0).length : Int) + a1) > (255 : Int)) → ((t5 = (4 : Int)) ∧ ((((t4).length : Int) = (0 : Int)) ∧ True))) ∧ (¬ (wrap64 (((l0).length : Int) + a1) > (255 : Int)) → ((t5 = (0 : Int)) ∧ (∃ (t12 : List Int), wristbandref09_Put.f k (l0) (a1) = some t12 ∧ (((strOfNums (t4)).toList = (strOfNums (t12)).toList) ∧ True)))))))))))))))))))))))))))))
set_option maxRecDepth 100000 in
set_option maxHeartbeats 40000000 in
theorem wristbandlaw09_SolomonRight.calls (k : Nat) (A0 : Option Addr) (c0 : Nat) (l0 : List Int) (a1 : Int) (w : World) (hr0 : Kd.C (Kd.int .u8) w A0 l0.length l0) (hc0 : l0.length ≤ c0) (h : wristbandlaw09_SolomonRight.ok k l0 a1) :
  Calls Try.prog 6 #[.slice A0 l0.length c0, .int .i64 a1] w fun e w' => e = .returned (.bool true) ∧ Below w.heap.size w w' := by
 unfold wristbandlaw09_SolomonRight.ok at h
 refine enter Try.func6 rfl (n := 139) rfl ?_
 intro ac0 hn0 hd0 ha
 have hB0 := Below.refl w.heap.size w
 have g0_0 : (pB (l0)).V (get ac0 0) w := by rw [ha 0 (by simp)]; exact ⟨A0, c0, rfl, hr0, hc0⟩
 have g0_1 : (pI (a1)).V (get ac0 1) w := by rw [ha 1 (by simp)]; exact rfl
 clear ha
 obtain ⟨t1, H1, h⟩ := h
 obtain ⟨c1000, h⟩ := h
 refine wp_seq ?_
 refine Reg.plain (T := wristbandlaw09_SolomonRight.T0) (D := wristbandlaw09_SolomonRight.D0) (n := 139) (by kernel_rfl) hn0 (told [pF]) (told_pst _) (owedS owed0 ?s0) ?_
 case s0 =>
  intro b w1 hb hp hu
  exact st_assign rfl (want0 rfl _) rfl rfl
 intro ac1 wo1 hn1 hd_ hb hv hs
 have g1_4 : (pF).V (get ac1 4) wo1 := hv 0 4 rfl
 have g1_0 : (pB (l0)).V (get ac1 0) wo1 := Pv.keep _ g0_0 (hs 0 rfl) hb
 have g1_1 : (pI (a1)).V (get ac1 1) wo1 := Pv.keep _ g0_1 (hs 1 rfl) hb
 have hB1 := below_step hB0 hb
 have hd1 := hd_.trans hd0
 clear hv hs hd_ hb hB0 hn0 hd0 g0_0 g0_1
 show Code.wp _ _ _ _ _
 refine wp_seq ?_
 refine wp_seq ?_
 refine Reg.plain (T := wristbandlaw09_SolomonRight.T1) (D := wristbandlaw09_SolomonRight.D1) (n := 139) (by kernel_rfl) hn1 (told [pT, pF]) (told_pst _) (owedS (owedS owed0 ?s0) ?s1) ?_
 case s0 =>
  intro b w1 hb hp hu
  refine st_call rfl (want0 rfl _) rfl Try.func27 (by kernel_rfl) rfl #[] (by simp) ?_
  refine (wristbandlaw09_awake.calls k  _ w1  H1).mono ?_
  rintro e w2 ⟨rfl, hb2⟩
  exact ⟨_, rfl, (show (Pv.is (.bool true)).V (.bool t1) w2 from by rw [c1000]; first | done | exact rfl), hb2⟩
 case s1 =>
  intro b w1 hb hp hu
  have x11 : (pT).V (get b 11) w1 := hp 0 11 (by kernel_rfl) rfl
  exact st_un (v := .bool false) (vx := .bool true) rfl (want0 rfl _) rfl x11 (by first | rfl | (go_simp; first | done | rfl | (simp only [i64_w, i32_w]; done))) rfl
 intro ac2 wo2 hn2 hd_ hb hv hs
 have g2_12 : (pF).V (get ac2 12) wo2 := hv 1 12 rfl
 have g2_4 : (pF).V (get ac2 4) wo2 := Pv.keep _ g1_4 (hs 4 rfl) hb
 have g2_0 : (pB (l0)).V (get ac2 0) wo2 := Pv.keep _ g1_0 (hs 0 rfl) hb
 have g2_1 : (pI (a1)).V (get ac2 1) wo2 := Pv.keep _ g1_1 (hs 1 rfl) hb
 have hB2 := below_step hB1 hb
 have hd2 := hd_.trans hd1
 clear hv hs hd_ hb hB1 hn1 hd1 g1_4 g1_0 g1_1
 show Code.wp _ _ _ _ _
 refine wp_cond_false (show ac2.eval (Operand.tmp 12) = .bool false from g2_12) ?_
 refine wp_skip ?_
 show Code.wp _ _ _ _ _
 refine wp_seq ?_
 refine wp_seq ?_
 obtain ⟨hy, hn⟩ := h
 by_cases c1001 : ((l0).length : Int) > (300 : Int)
 ·have h := hy c1001
  clear hy hn
  refine Reg.plain (T := wristbandlaw09_SolomonRight.T3) (D := wristbandlaw09_SolomonRight.D3) (n := 139) (by kernel_rfl) hn2 (told [pB (l0), pI (((l0).length : Int)), pT]) (told_pst _) (owedS (owedS (owedS owed0 ?s0) ?s1) ?s2) ?_
  case s0 =>
   intro b w1 hb hp hu
   have x0 : (pB (l0)).V (get b 0) w1 := Pv.keep _ g2_0 (hu 0 (by kernel_rfl)) hb
   exact st_move rfl (want0 rfl _) rfl x0
  case s1 =>
   intro b w1 hb hp hu
   have x13 : (pB (l0)).V (get b 13) w1 := hp 0 13 (by kernel_rfl) rfl
   obtain ⟨A_, c_, e_, _, _⟩ := x13
   exact st_len rfl (want0 rfl _) rfl Try.underlying22 e_ rfl
  case s2 =>
   intro b w1 hb hp hu
   have x14 : (pI (((l0).length : Int))).V (get b 14) w1 := hp 1 14 (by kernel_rfl) rfl
   exact st_gtr (b := true) (κ := .i64) (m := (((l0).length : Int))) (n := ((300 : Int))) rfl (want0 rfl _) rfl x14 rfl (decide_eq_true c1001)
  intro ac3 wo3 hn3 hd_ hb hv hs
  have g3_15 : (pT).V (get ac3 15) wo3 := hv 2 15 rfl
  have g3_4 : (pF).V (get ac3 4) wo3 := Pv.keep _ g2_4 (hs 4 rfl) hb
  have hB3 := below_step hB2 hb
  have hd3 := hd_.trans hd2
  clear hv hs hd_ hb hB2 hn2 hd2 g2_12 g2_4 g2_0 g2_1
  show Code.wp _ _ _ _ _
  refine wp_cond_true (show ac3.eval (Operand.tmp 15) = .bool true from g3_15) ?_
  refine wp_seq ?_
  refine Reg.plain (T := wristbandlaw09_SolomonRight.T4) (D := wristbandlaw09_SolomonRight.D4) (n := 139) (by kernel_rfl) hn3 (told [pT]) (told_pst _) (owedS owed0 ?s0) ?_
  case s0 =>
   intro b w1 hb hp hu
   exact st_assign rfl (want0 rfl _) rfl rfl
  intro ac4 wo4 hn4 hd_ hb hv hs
  have g4_4 : (pT).V (get ac4 4) wo4 := hv 0 4 rfl
  have hB4 := below_step hB3 hb
  have hd4 := hd_.trans hd3
  clear hv hs hd_ hb hB3 hn3 hd3 g3_15 g3_4
  show Code.wp _ _ _ _ _
  refine wp_ret ?_
  repeat (refine then_ret ?_)
  exact back_is rfl hd4 g4_4 ⟨rfl, hB4⟩
 ·have h := hn c1001
  clear hy hn
  obtain ⟨t2, t3, H2, h⟩ := h
  obtain ⟨t4, t5, H3, h⟩ := h
  obtain ⟨t6, t7, H4, h⟩ := h
  refine Reg.plain (T := wristbandlaw09_SolomonRight.T3) (D := wristbandlaw09_SolomonRight.D3) (n := 139) (by kernel_rfl) hn2 (told [pB (l0), pI (((l0).length : Int)), pF]) (told_pst _) (owedS (owedS (owedS owed0 ?s0) ?s1) ?s2) ?_
  case s0 =>
   intro b w1 hb hp hu
   have x0 : (pB (l0)).V (get b 0) w1 := Pv.keep _ g2_0 (hu 0 (by kernel_rfl)) hb
   exact st_move rfl (want0 rfl _) rfl x0
  case s1 =>
   intro b w1 hb hp hu
   have x13 : (pB (l0)).V (get b 13) w1 := hp 0 13 (by kernel_rfl) rfl
   obtain ⟨A_, c_, e_, _, _⟩ := x13
   exact st_len rfl (want0 rfl _) rfl Try.underlying22 e_ rfl
  case s2 =>
   intro b w1 hb hp hu
   have x14 : (pI (((l0).length : Int))).V (get b 14) w1 := hp 1 14 (by kernel_rfl) rfl
   exact st_gtr (b := false) (κ := .i64) (m := (((l0).length : Int))) (n := ((300 : Int))) rfl (want0 rfl _) rfl x14 rfl (decide_eq_false c1001)
  intro ac3 wo3 hn3 hd_ hb hv hs
  have g3_15 : (pF).V (get ac3 15) wo3 := hv 2 15 rfl
  have g3_4 : (pF).V (get ac3 4) wo3 := Pv.keep _ g2_4 (hs 4 rfl) hb
  have g3_0 : (pB (l0)).V (get ac3 0) wo3 := Pv.keep _ g2_0 (hs 0 rfl) hb
  have g3_1 : (pI (a1)).V (get ac3 1) wo3 := Pv.keep _ g2_1 (hs 1 rfl) hb
  have hB3 := below_step hB2 hb
  have hd3 := hd_.trans hd2
  clear hv hs hd_ hb hB2 hn2 hd2 g2_12 g2_4 g2_0 g2_1
  show Code.wp _ _ _ _ _
  refine wp_cond_false (show ac3.eval (Operand.tmp 15) = .bool false from g3_15) ?_
  refine wp_skip ?_
  show Code.wp _ _ _ _ _
  refine wp_seq ?_
  refine Reg.plain (T := wristbandlaw09_SolomonRight.T5) (D := wristbandlaw09_SolomonRight.D5) (n := 139) (by kernel_rfl) hn3 (told [pI (a1), Pv.tup [pB (t2), pI (t3)], Pv.tup [pB (t2), pI (t3)], pB (t2), pI (t3), pB (t2), pI (t3)]) (told_pst _) (owedS (owedS (owedS (owedS (owedS (owedS (owedS owed0 ?s0) ?s1) ?s2) ?s3) ?s4) ?s5) ?s6) ?_
  case s0 =>
   intro b w1 hb hp hu
   have x1 : (pI (a1)).V (get b 1) w1 := Pv.keep _ g3_1 (hu 1 (by kernel_rfl)) hb
   exact st_move rfl (want0 rfl _) rfl x1
  case s1 =>
   intro b w1 hb hp hu
   have x17 : (pI (a1)).V (get b 17) w1 := hp 0 17 (by kernel_rfl) rfl
   have e0 : b.eval (Operand.tmp 17) = .int .i64 (a1) := x17
   refine st_call rfl (want0 rfl _) rfl Try.func28 (by kernel_rfl) rfl #[.int .i64 (a1)] (by simp only [List.map_toArray, List.map_cons, List.map_nil, e0]) ?_
   refine (solomon_Gen.calls k _ _ _ w1  H2).mono ?_
   rintro e w2 ⟨v0_, rfl, ho0, hb2⟩
   exact ⟨_, rfl, ⟨[_, _], rfl, Pv.of_sl ho0, rfl, trivial⟩, hb2⟩
  case s2 =>
   intro b w1 hb hp hu
   have x18 : (Pv.tup [pB (t2), pI (t3)]).V (get b 18) w1 := hp 1 18 (by kernel_rfl) rfl
   exact st_move rfl (want0 rfl _) rfl x18
  case s3 =>
   intro b w1 hb hp hu
   have x16 : (Pv.tup [pB (t2), pI (t3)]).V (get b 16) w1 := hp 2 16 (by kernel_rfl) rfl
   exact st_extract rfl (want0 rfl _) rfl x16 rfl (fun _ h => h)
  case s4 =>
   intro b w1 hb hp hu
   have x16 : (Pv.tup [pB (t2), pI (t3)]).V (get b 16) w1 := hp 2 16 (by kernel_rfl) rfl
   exact st_extract rfl (want0 rfl _) rfl x16 rfl (fun _ h => h)
  case s5 =>
   intro b w1 hb hp hu
   have x19 : (pB (t2)).V (get b 19) w1 := hp 3 19 (by kernel_rfl) rfl
   exact st_assign rfl (want0 rfl _) rfl x19
  case s6 =>
   intro b w1 hb hp hu
   have x20 : (pI (t3)).V (get b 20) w1 := hp 4 20 (by kernel_rfl) rfl
   exact st_assign rfl (want0 rfl _) rfl x20
  intro ac4 wo4 hn4 hd_ hb hv hs
  have g4_5 : (pB (t2)).V (get ac4 5) wo4 := hv 5 5 rfl
  have g4_6 : (pI (t3)).V (get ac4 6) wo4 := hv 6 6 rfl
  have g4_4 : (pF).V (get ac4 4) wo4 := Pv.keep _ g3_4 (hs 4 rfl) hb
  have g4_0 : (pB (l0)).V (get ac4 0) wo4 := Pv.keep _ g3_0 (hs 0 rfl) hb
  have g4_1 : (pI (a1)).V (get ac4 1) wo4 := Pv.keep _ g3_1 (hs 1 rfl) hb
  have hB4 := below_step hB3 hb
  have hd4 := hd_.trans hd3
  clear hv hs hd_ hb hB3 hn3 hd3 g3_15 g3_4 g3_0 g3_1
  show Code.wp _ _ _ _ _
  refine wp_seq ?_
  refine Reg.plain (T := wristbandlaw09_SolomonRight.T6) (D := wristbandlaw09_SolomonRight.D6) (n := 139) (by kernel_rfl) hn4 (told [pB (l0), pI (a1), Pv.tup [pB (t4), pI (t5)], Pv.tup [pB (t4), pI (t5)], pB (t4), pI (t5), pB (t4), pI (t5)]) (told_pst _) (owedS (owedS (owedS (owedS (owedS (owedS (owedS (owedS owed0 ?s0) ?s1) ?s2) ?s3) ?s4) ?s5) ?s6) ?s7) ?_
  case s0 =>
   intro b w1 hb hp hu
   have x0 : (pB (l0)).V (get b 0) w1 := Pv.keep _ g4_0 (hu 0 (by kernel_rfl)) hb
   exact st_move rfl (want0 rfl _) rfl x0
  case s1 =>
   intro b w1 hb hp hu
   have x1 : (pI (a1)).V (get b 1) w1 := Pv.keep _ g4_1 (hu 1 (by kernel_rfl)) hb
   exact st_move rfl (want0 rfl _) rfl x1
  case s2 =>
   intro b w1 hb hp hu
   have x22 : (pB (l0)).V (get b 22) w1 := hp 0 22 (by kernel_rfl) rfl
   obtain ⟨B0, d0, e0_, hC0, hl0⟩ := x22
   have e0 : b.eval (Operand.tmp 22) = .slice B0 (l0).length d0 := e0_
   have x23 : (pI (a1)).V (get b 23) w1 := hp 1 23 (by kernel_rfl) rfl
   have e1 : b.eval (Operand.tmp 23) = .int .i64 (a1) := x23
   refine st_call rfl (want0 rfl _) rfl Try.func29 (by kernel_rfl) rfl #[.slice B0 (l0).length d0, .int .i64 (a1)] (by simp only [List.map_toArray, List.map_cons, List.map_nil, e0, e1]) ?_
   refine (solomon_Put.callsC k B0 d0 _ _ _ _ w1 hC0 hl0 H3).mono ?_
   rintro e w2 ⟨v0_, rfl, ho0, hb2⟩
   exact ⟨_, rfl, ⟨[_, _], rfl, Pv.of_sl ho0, rfl, trivial⟩, hb2⟩
  case s3 =>
   intro b w1 hb hp hu
   have x24 : (Pv.tup [pB (t4), pI (t5)]).V (get b 24) w1 := hp 2 24 (by kernel_rfl) rfl
   exact st_move rfl (want0 rfl _) rfl x24
  case s4 =>
   intro b w1 hb hp hu
   have x21 : (Pv.tup [pB (t4), pI (t5)]).V (get b 21) w1 := hp 3 21 (by kernel_rfl) rfl
   exact st_extract rfl (want0 rfl _) rfl x21 rfl (fun _ h => h)
  case s5 =>
   intro b w1 hb hp hu
   have x21 : (Pv.tup [pB (t4), pI (t5)]).V (get b 21) w1 := hp 3 21 (by kernel_rfl) rfl
   exact st_extract rfl (want0 rfl _) rfl x21 rfl (fun _ h => h)
  case s6 =>
   intro b w1 hb hp hu
   have x25 : (pB (t4)).V (get b 25) w1 := hp 4 25 (by kernel_rfl) rfl
   exact st_assign rfl (want0 rfl _) rfl x25
  case s7 =>
   intro b w1 hb hp hu
   have x26 : (pI (t5)).V (get b 26) w1 := hp 5 26 (by kernel_rfl) rfl
   exact st_assign rfl (want0 rfl _) rfl x26
  intro ac5 wo5 hn5 hd_ hb hv hs
  have g5_7 : (pB (t4)).V (get ac5 7) wo5 := hv 6 7 rfl
  have g5_8 : (pI (t5)).V (get ac5 8) wo5 := hv 7 8 rfl
  have g5_5 : (pB (t2)).V (get ac5 5) wo5 := Pv.keep _ g4_5 (hs 5 rfl) hb
  have g5_6 : (pI (t3)).V (get ac5 6) wo5 := Pv.keep _ g4_6 (hs 6 rfl) hb
  have g5_4 : (pF).V (get ac5 4) wo5 := Pv.keep _ g4_4 (hs 4 rfl) hb
  have g5_0 : (pB (l0)).V (get ac5 0) wo5 := Pv.keep _ g4_0 (hs 0 rfl) hb
  have g5_1 : (pI (a1)).V (get ac5 1) wo5 := Pv.keep _ g4_1 (hs 1 rfl) hb
  have hB5 := below_step hB4 hb
  have hd5 := hd_.trans hd4
  clear hv hs hd_ hb hB4 hn4 hd4 g4_5 g4_6 g4_4 g4_0 g4_1
  show Code.wp _ _ _ _ _
  refine wp_seq ?_
  refine Reg.plain (T := wristbandlaw09_SolomonRight.T7) (D := wristbandlaw09_SolomonRight.D7) (n := 139) (by kernel_rfl) hn5 (told [pB (l0), pI (a1), Pv.tup [pB (t6), pI (t7)], Pv.tup [pB (t6), pI (t7)], pB (t6), pI (t7), pB (t6), pI (t7)]) (told_pst _) (owedS (owedS (owedS (owedS (owedS (owedS (owedS (owedS owed0 ?s0) ?s1) ?s2) ?s3) ?s4) ?s5) ?s6) ?s7) ?_
  case s0 =>
   intro b w1 hb hp hu
   have x0 : (pB (l0)).V (get b 0) w1 := Pv.keep _ g5_0 (hu 0 (by kernel_rfl)) hb
   exact st_move rfl (want0 rfl _) rfl x0
  case s1 =>
   intro b w1 hb hp hu
   have x1 : (pI (a1)).V (get b 1) w1 := Pv.keep _ g5_1 (hu 1 (by kernel_rfl)) hb
   exact st_move rfl (want0 rfl _) rfl x1
  case s2 =>
   intro b w1 hb hp hu
   have x28 : (pB (l0)).V (get b 28) w1 := hp 0 28 (by kernel_rfl) rfl
   obtain ⟨B0, d0, e0_, hC0, hl0⟩ := x28
   have e0 : b.eval (Operand.tmp 28) = .slice B0 (l0).length d0 := e0_
   have x29 : (pI (a1)).V (get b 29) w1 := hp 1 29 (by kernel_rfl) rfl
   have e1 : b.eval (Operand.tmp 29) = .int .i64 (a1) := x29
   refine st_call rfl (want0 rfl _) rfl Try.func30 (by kernel_rfl) rfl #[.slice B0 (l0).length d0, .int .i64 (a1)] (by simp only [List.map_toArray, List.map_cons, List.map_nil, e0, e1]) ?_
   refine (solomon_Signs.calls k B0 d0 _ _ _ _ w1 hC0 hl0 H4).mono ?_
   rintro e w2 ⟨v0_, rfl, ho0, hb2⟩
   exact ⟨_, rfl, ⟨[_, _], rfl, Pv.of_sl ho0, rfl, trivial⟩, hb2⟩
  case s3 =>
   intro b w1 hb hp hu
   have x30 : (Pv.tup [pB (t6), pI (t7)]).V (get b 30) w1 := hp 2 30 (by kernel_rfl) rfl
   exact st_move rfl (want0 rfl _) rfl x30
  case s4 =>
   intro b w1 hb hp hu
   have x27 : (Pv.tup [pB (t6), pI (t7)]).V (get b 27) w1 := hp 3 27 (by kernel_rfl) rfl
   exact st_extract rfl (want0 rfl _) rfl x27 rfl (fun _ h => h)
  case s5 =>
   intro b w1 hb hp hu
   have x27 : (Pv.tup [pB (t6), pI (t7)]).V (get b 27) w1 := hp 3 27 (by kernel_rfl) rfl
   exact st_extract rfl (want0 rfl _) rfl x27 rfl (fun _ h => h)
  case s6 =>
   intro b w1 hb hp hu
   have x31 : (pB (t6)).V (get b 31) w1 := hp 4 31 (by kernel_rfl) rfl
   exact st_assign rfl (want0 rfl _) rfl x31
  case s7 =>
   intro b w1 hb hp hu
   have x32 : (pI (t7)).V (get b 32) w1 := hp 5 32 (by kernel_rfl) rfl
   exact st_assign rfl (want0 rfl _) rfl x32
  intro ac6 wo6 hn6 hd_ hb hv hs
  have g6_9 : (pB (t6)).V (get ac6 9) wo6 := hv 6 9 rfl
  have g6_10 : (pI (t7)).V (get ac6 10) wo6 := hv 7 10 rfl
  have g6_7 : (pB (t4)).V (get ac6 7) wo6 := Pv.keep _ g5_7 (hs 7 rfl) hb
  have g6_8 : (pI (t5)).V (get ac6 8) wo6 := Pv.keep _ g5_8 (hs 8 rfl) hb
  have g6_5 : (pB (t2)).V (get ac6 5) wo6 := Pv.keep _ g5_5 (hs 5 rfl) hb
  have g6_6 : (pI (t3)).V (get ac6 6) wo6 := Pv.keep _ g5_6 (hs 6 rfl) hb
  have g6_4 : (pF).V (get ac6 4) wo6 := Pv.keep _ g5_4 (hs 4 rfl) hb
  have g6_0 : (pB (l0)).V (get ac6 0) wo6 := Pv.keep _ g5_0 (hs 0 rfl) hb
  have g6_1 : (pI (a1)).V (get ac6 1) wo6 := Pv.keep _ g5_1 (hs 1 rfl) hb
  have hB6 := below_step hB5 hb
  have hd6 := hd_.trans hd5
  clear hv hs hd_ hb hB5 hn5 hd5 g5_7 g5_8 g5_5 g5_6 g5_4 g5_0 g5_1
  show Code.wp _ _ _ _ _
  refine wp_seq ?_
  refine wp_seq ?_
  obtain ⟨hy, hn⟩ := h
  by_cases c1002 : a1 < (1 : Int)
  ·have h := hy c1002
   clear hy hn
   obtain ⟨c1003, h⟩ := h
   obtain ⟨c1004, h⟩ := h
   obtain ⟨c1005, h⟩ := h
   obtain ⟨c1006, h⟩ := h
   obtain ⟨c1007, h⟩ := h
   obtain ⟨c1008, h⟩ := h
   obtain ⟨t8, H5, h⟩ := h
   obtain ⟨c1009, h⟩ := h
   refine Reg.plain (T := wristbandlaw09_SolomonRight.T8) (D := wristbandlaw09_SolomonRight.D8) (n := 139) (by kernel_rfl) hn6 (told [pI (a1), pT, pT, Pv.is (undef), Pv.is (undef), pT]) (told_pst _) (owedS (owedS (owedS (owedS (owedS (owedS owed0 ?s0) ?s1) ?s2) ?s3) ?s4) ?s5) ?_
   case s0 =>
    intro b w1 hb hp hu
    have x1 : (pI (a1)).V (get b 1) w1 := Pv.keep _ g6_1 (hu 1 (by kernel_rfl)) hb
    exact st_move rfl (want0 rfl _) rfl x1
   case s1 =>
    intro b w1 hb hp hu
    have x33 : (pI (a1)).V (get b 33) w1 := hp 0 33 (by kernel_rfl) rfl
    exact st_lss (b := true) (κ := .i64) (m := a1) (n := ((1 : Int))) rfl (want0 rfl _) rfl x33 rfl (decide_eq_true c1002)
   case s2 =>
    intro b w1 hb hp hu
    have x34 : (pT).V (get b 34) w1 := hp 1 34 (by kernel_rfl) rfl
    exact st_move rfl (want0 rfl _) rfl x34
   case s3 =>
    intro b w1 hb hp hu
    have x35 : (pT).V (get b 35) w1 := hp 2 35 (by kernel_rfl) rfl
    exact st_off rfl ((want_is (N := 35) rfl rfl x35).trans rfl) rfl
   case s4 =>
    intro b w1 hb hp hu
    have x35 : (pT).V (get b 35) w1 := hp 2 35 (by kernel_rfl) rfl
    exact st_off rfl ((want_is (N := 35) rfl rfl x35).trans rfl) rfl
   case s5 =>
    intro b w1 hb hp hu
    have x35 : (pT).V (get b 35) w1 := hp 2 35 (by kernel_rfl) rfl
    exact st_pick (b := true) rfl (want0 rfl _) rfl x35 rfl
   intro ac7 wo7 hn7 hd_ hb hv hs
   have g7_38 : (pT).V (get ac7 38) wo7 := hv 5 38 rfl
   have g7_9 : (pB (t6)).V (get ac7 9) wo7 := Pv.keep _ g6_9 (hs 9 rfl) hb
   have g7_10 : (pI (t7)).V (get ac7 10) wo7 := Pv.keep _ g6_10 (hs 10 rfl) hb
   have g7_7 : (pB (t4)).V (get ac7 7) wo7 := Pv.keep _ g6_7 (hs 7 rfl) hb
   have g7_8 : (pI (t5)).V (get ac7 8) wo7 := Pv.keep _ g6_8 (hs 8 rfl) hb
   have g7_5 : (pB (t2)).V (get ac7 5) wo7 := Pv.keep _ g6_5 (hs 5 rfl) hb
   have g7_6 : (pI (t3)).V (get ac7 6) wo7 := Pv.keep _ g6_6 (hs 6 rfl) hb
   have g7_4 : (pF).V (get ac7 4) wo7 := Pv.keep _ g6_4 (hs 4 rfl) hb
   have g7_0 : (pB (l0)).V (get ac7 0) wo7 := Pv.keep _ g6_0 (hs 0 rfl) hb
   have g7_1 : (pI (a1)).V (get ac7 1) wo7 := Pv.keep _ g6_1 (hs 1 rfl) hb
   have hB7 := below_step hB6 hb
   have hd7 := hd_.trans hd6
   clear hv hs hd_ hb hB6 hn6 hd6 g6_9 g6_10 g6_7 g6_8 g6_5 g6_6 g6_4 g6_0 g6_1
   show Code.wp _ _ _ _ _
   refine wp_cond_true (show ac7.eval (Operand.tmp 38) = .bool true from g7_38) ?_
   refine wp_seq ?_
   refine Reg.plain (T := wristbandlaw09_SolomonRight.T9) (D := wristbandlaw09_SolomonRight.D9) (n := 139) (by kernel_rfl) hn7 (told [pI (t3), pT, pT, pI (t5), pT, pT, pT, pI (t7), pT, pT, pT, pB (t2), pI (((t2).length : Int)), pT, pT, pT, pB (t4), pI (((t4).length : Int)), pT, pT, pT, pB (t6), pI (((t6).length : Int)), pT, pT, pT, pB (l0), pI (a1), pF, pT, pT, pT]) (told_pst _) (owedS (owedS (owedS (owedS (owedS (owedS (owedS (owedS (owedS (owedS (owedS (owedS (owedS (owedS (owedS (owedS (owedS (owedS (owedS (owedS (owedS (owedS (owedS (owedS (owedS (owedS (owedS (owedS (owedS (owedS (owedS (owedS owed0 ?s0) ?s1) ?s2) ?s3) ?s4) ?s5) ?s6) ?s7) ?s8) ?s9) ?s10) ?s11) ?s12) ?s13) ?s14) ?s15) ?s16) ?s17) ?s18) ?s19) ?s20) ?s21) ?s22) ?s23) ?s24) ?s25) ?s26) ?s27) ?s28) ?s29) ?s30) ?s31) ?_
   case s0 =>
    intro b w1 hb hp hu
    have x6 : (pI (t3)).V (get b 6) w1 := Pv.keep _ g7_6 (hu 6 (by kernel_rfl)) hb
    exact st_move rfl (want0 rfl _) rfl x6
   case s1 =>
    intro b w1 hb hp hu
    have x39 : (pI (t3)).V (get b 39) w1 := hp 0 39 (by kernel_rfl) rfl
    exact st_eql (b := true) (κ := .i64) (m := t3) (n := ((1 : Int))) rfl (want0 rfl _) rfl x39 rfl (decide_eq_true c1003)
   case s2 =>
    intro b w1 hb hp hu
    have x40 : (pT).V (get b 40) w1 := hp 1 40 (by kernel_rfl) rfl
    exact st_move rfl (want0 rfl _) rfl x40
   case s3 =>
    intro b w1 hb hp hu
    have x41 : (pT).V (get b 41) w1 := hp 2 41 (by kernel_rfl) rfl
    have x8 : (pI (t5)).V (get b 8) w1 := Pv.keep _ g7_8 (hu 8 (by kernel_rfl)) hb
    exact st_move rfl ((want_is (N := 41) rfl rfl x41).trans rfl) rfl x8
   case s4 =>
    intro b w1 hb hp hu
    have x41 : (pT).V (get b 41) w1 := hp 2 41 (by kernel_rfl) rfl
    have x42 : (pI (t5)).V (get b 42) w1 := hp 3 42 (by kernel_rfl) rfl
    exact st_eql (b := true) (κ := .i64) (m := t5) (n := ((1 : Int))) rfl ((want_is (N := 41) rfl rfl x41).trans rfl) rfl x42 rfl (decide_eq_true c1004)
   case s5 =>
    intro b w1 hb hp hu
    have x41 : (pT).V (get b 41) w1 := hp 2 41 (by kernel_rfl) rfl
    have x43 : (pT).V (get b 43) w1 := hp 4 43 (by kernel_rfl) rfl
    exact st_pick (b := true) rfl (want0 rfl _) rfl x41 x43
   case s6 =>
    intro b w1 hb hp hu
    have x44 : (pT).V (get b 44) w1 := hp 5 44 (by kernel_rfl) rfl
    exact st_move rfl (want0 rfl _) rfl x44
   case s7 =>
    intro b w1 hb hp hu
    have x45 : (pT).V (get b 45) w1 := hp 6 45 (by kernel_rfl) rfl
    have x10 : (pI (t7)).V (get b 10) w1 := Pv.keep _ g7_10 (hu 10 (by kernel_rfl)) hb
    exact st_move rfl ((want_is (N := 45) rfl rfl x45).trans rfl) rfl x10
   case s8 =>
    intro b w1 hb hp hu
    have x45 : (pT).V (get b 45) w1 := hp 6 45 (by kernel_rfl) rfl
    have x46 : (pI (t7)).V (get b 46) w1 := hp 7 46 (by kernel_rfl) rfl
    exact st_eql (b := true) (κ := .i64) (m := t7) (n := ((1 : Int))) rfl ((want_is (N := 45) rfl rfl x45).trans rfl) rfl x46 rfl (decide_eq_true c1005)
   case s9 =>
    intro b w1 hb hp hu
    have x45 : (pT).V (get b 45) w1 := hp 6 45 (by kernel_rfl) rfl
    have x47 : (pT).V (get b 47) w1 := hp 8 47 (by kernel_rfl) rfl
    exact st_pick (b := true) rfl (want0 rfl _) rfl x45 x47
   case s10 =>
    intro b w1 hb hp hu
    have x48 : (pT).V (get b 48) w1 := hp 9 48 (by kernel_rfl) rfl
    exact st_move rfl (want0 rfl _) rfl x48
   case s11 =>
    intro b w1 hb hp hu
    have x49 : (pT).V (get b 49) w1 := hp 10 49 (by kernel_rfl) rfl
    have x5 : (pB (t2)).V (get b 5) w1 := Pv.keep _ g7_5 (hu 5 (by kernel_rfl)) hb
    exact st_move rfl ((want_is (N := 49) rfl rfl x49).trans rfl) rfl x5
   case s12 =>
    intro b w1 hb hp hu
    have x49 : (pT).V (get b 49) w1 := hp 10 49 (by kernel_rfl) rfl
    have x50 : (pB (t2)).V (get b 50) w1 := hp 11 50 (by kernel_rfl) rfl
    obtain ⟨A_, c_, e_, _, _⟩ := x50
    exact st_len rfl ((want_is (N := 49) rfl rfl x49).trans rfl) rfl Try.underlying22 e_ rfl
   case s13 =>
    intro b w1 hb hp hu
    have x49 : (pT).V (get b 49) w1 := hp 10 49 (by kernel_rfl) rfl
    have x51 : (pI (((t2).length : Int))).V (get b 51) w1 := hp 12 51 (by kernel_rfl) rfl
    exact st_eql (b := true) (κ := .i64) (m := (((t2).length : Int))) (n := ((0 : Int))) rfl ((want_is (N := 49) rfl rfl x49).trans rfl) rfl x51 rfl (decide_eq_true c1006)
   case s14 =>
    intro b w1 hb hp hu
    have x49 : (pT).V (get b 49) w1 := hp 10 49 (by kernel_rfl) rfl
    have x52 : (pT).V (get b 52) w1 := hp 13 52 (by kernel_rfl) rfl
    exact st_pick (b := true) rfl (want0 rfl _) rfl x49 x52
   case s15 =>
    intro b w1 hb hp hu
    have x53 : (pT).V (get b 53) w1 := hp 14 53 (by kernel_rfl) rfl
    exact st_move rfl (want0 rfl _) rfl x53
   case s16 =>
    intro b w1 hb hp hu
    have x54 : (pT).V (get b 54) w1 := hp 15 54 (by kernel_rfl) rfl
    have x7 : (pB (t4)).V (get b 7) w1 := Pv.keep _ g7_7 (hu 7 (by kernel_rfl)) hb
    exact st_move rfl ((want_is (N := 54) rfl rfl x54).trans rfl) rfl x7
   case s17 =>
    intro b w1 hb hp hu
    have x54 : (pT).V (get b 54) w1 := hp 15 54 (by kernel_rfl) rfl
    have x55 : (pB (t4)).V (get b 55) w1 := hp 16 55 (by kernel_rfl) rfl
    obtain ⟨A_, c_, e_, _, _⟩ := x55
    exact st_len rfl ((want_is (N := 54) rfl rfl x54).trans rfl) rfl Try.underlying22 e_ rfl
   case s18 =>
    intro b w1 hb hp hu
    have x54 : (pT).V (get b 54) w1 := hp 15 54 (by kernel_rfl) rfl
    have x56 : (pI (((t4).length : Int))).V (get b 56) w1 := hp 17 56 (by kernel_rfl) rfl
    exact st_eql (b := true) (κ := .i64) (m := (((t4).length : Int))) (n := ((0 : Int))) rfl ((want_is (N := 54) rfl rfl x54).trans rfl) rfl x56 rfl (decide_eq_true c1007)
   case s19 =>
    intro b w1 hb hp hu
    have x54 : (pT).V (get b 54) w1 := hp 15 54 (by kernel_rfl) rfl
    have x57 : (pT).V (get b 57) w1 := hp 18 57 (by kernel_rfl) rfl
    exact st_pick (b := true) rfl (want0 rfl _) rfl x54 x57
   case s20 =>
    intro b w1 hb hp hu
    have x58 : (pT).V (get b 58) w1 := hp 19 58 (by kernel_rfl) rfl
    exact st_move rfl (want0 rfl _) rfl x58
   case s21 =>
    intro b w1 hb hp hu
    have x59 : (pT).V (get b 59) w1 := hp 20 59 (by kernel_rfl) rfl
    have x9 : (pB (t6)).V (get b 9) w1 := Pv.keep _ g7_9 (hu 9 (by kernel_rfl)) hb
    exact st_move rfl ((want_is (N := 59) rfl rfl x59).trans rfl) rfl x9
   case s22 =>
    intro b w1 hb hp hu
    have x59 : (pT).V (get b 59) w1 := hp 20 59 (by kernel_rfl) rfl
    have x60 : (pB (t6)).V (get b 60) w1 := hp 21 60 (by kernel_rfl) rfl
    obtain ⟨A_, c_, e_, _, _⟩ := x60
    exact st_len rfl ((want_is (N := 59) rfl rfl x59).trans rfl) rfl Try.underlying22 e_ rfl
   case s23 =>
    intro b w1 hb hp hu
    have x59 : (pT).V (get b 59) w1 := hp 20 59 (by kernel_rfl) rfl
    have x61 : (pI (((t6).length : Int))).V (get b 61) w1 := hp 22 61 (by kernel_rfl) rfl
    exact st_eql (b := true) (κ := .i64) (m := (((t6).length : Int))) (n := ((0 : Int))) rfl ((want_is (N := 59) rfl rfl x59).trans rfl) rfl x61 rfl (decide_eq_true c1008)
   case s24 =>
    intro b w1 hb hp hu
    have x59 : (pT).V (get b 59) w1 := hp 20 59 (by kernel_rfl) rfl
    have x62 : (pT).V (get b 62) w1 := hp 23 62 (by kernel_rfl) rfl
    exact st_pick (b := true) rfl (want0 rfl _) rfl x59 x62
   case s25 =>
    intro b w1 hb hp hu
    have x63 : (pT).V (get b 63) w1 := hp 24 63 (by kernel_rfl) rfl
    exact st_move rfl (want0 rfl _) rfl x63
   case s26 =>
    intro b w1 hb hp hu
    have x64 : (pT).V (get b 64) w1 := hp 25 64 (by kernel_rfl) rfl
    have x0 : (pB (l0)).V (get b 0) w1 := Pv.keep _ g7_0 (hu 0 (by kernel_rfl)) hb
    exact st_move rfl ((want_is (N := 64) rfl rfl x64).trans rfl) rfl x0
   case s27 =>
    intro b w1 hb hp hu
    have x64 : (pT).V (get b 64) w1 := hp 25 64 (by kernel_rfl) rfl
    have x1 : (pI (a1)).V (get b 1) w1 := Pv.keep _ g7_1 (hu 1 (by kernel_rfl)) hb
    exact st_move rfl ((want_is (N := 64) rfl rfl x64).trans rfl) rfl x1
   case s28 =>
    intro b w1 hb hp hu
    have x64 : (pT).V (get b 64) w1 := hp 25 64 (by kernel_rfl) rfl
    have x65 : (pB (l0)).V (get b 65) w1 := hp 26 65 (by kernel_rfl) rfl
    obtain ⟨B0, d0, e0_, hC0, hl0⟩ := x65
    have e0 : b.eval (Operand.tmp 65) = .slice B0 (l0).length d0 := e0_
    have x66 : (pI (a1)).V (get b 66) w1 := hp 27 66 (by kernel_rfl) rfl
    have e1 : b.eval (Operand.tmp 66) = .int .i64 (a1) := x66
    refine st_call rfl ((want_is (N := 64) rfl rfl x64).trans rfl) rfl Try.func31 (by kernel_rfl) rfl #[.slice B0 (l0).length d0, .int .i64 (a1)] (by simp only [List.map_toArray, List.map_cons, List.map_nil, e0, e1]) ?_
    refine (solomon_Fine.calls k B0 d0 _ _ _ w1 hC0 hl0 H5).mono ?_
    rintro e w2 ⟨rfl, hb2⟩
    exact ⟨_, rfl, (show (Pv.is (.bool false)).V (.bool t8) w2 from by rw [Bool.eq_false_iff.mpr c1009]; first | done | exact rfl), hb2⟩
   case s29 =>
    intro b w1 hb hp hu
    have x64 : (pT).V (get b 64) w1 := hp 25 64 (by kernel_rfl) rfl
    have x67 : (pF).V (get b 67) w1 := hp 28 67 (by kernel_rfl) rfl
    exact st_un (v := .bool true) (vx := .bool false) rfl ((want_is (N := 64) rfl rfl x64).trans rfl) rfl x67 (by first | rfl | (go_simp; first | done | rfl | (simp only [i64_w, i32_w]; done))) rfl
   case s30 =>
    intro b w1 hb hp hu
    have x64 : (pT).V (get b 64) w1 := hp 25 64 (by kernel_rfl) rfl
    have x68 : (pT).V (get b 68) w1 := hp 29 68 (by kernel_rfl) rfl
    exact st_pick (b := true) rfl (want0 rfl _) rfl x64 x68
   case s31 =>
    intro b w1 hb hp hu
    have x69 : (pT).V (get b 69) w1 := hp 30 69 (by kernel_rfl) rfl
    exact st_assign rfl (want0 rfl _) rfl x69
   intro ac8 wo8 hn8 hd_ hb hv hs
   have g8_4 : (pT).V (get ac8 4) wo8 := hv 31 4 rfl
   have hB8 := below_step hB7 hb
   have hd8 := hd_.trans hd7
   clear hv hs hd_ hb hB7 hn7 hd7 g7_38 g7_9 g7_10 g7_7 g7_8 g7_5 g7_6 g7_4 g7_0 g7_1
   show Code.wp _ _ _ _ _
   refine wp_ret ?_
   repeat (refine then_ret ?_)
   exact back_is rfl hd8 g8_4 ⟨rfl, hB8⟩
  ·have h := hn c1002
   clear hy hn
   obtain ⟨hy, hn⟩ := h
   by_cases c1003 : a1 > (64 : Int)
   ·have h := hy c1003
    clear hy hn
    obtain ⟨c1004, h⟩ := h
    obtain ⟨c1005, h⟩ := h
    obtain ⟨c1006, h⟩ := h
    obtain ⟨c1007, h⟩ := h
    obtain ⟨c1008, h⟩ := h
    obtain ⟨c1009, h⟩ := h
    obtain ⟨t8, H5, h⟩ := h
    obtain ⟨c1010, h⟩ := h
    refine Reg.plain (T := wristbandlaw09_SolomonRight.T8) (D := wristbandlaw09_SolomonRight.D8) (n := 139) (by kernel_rfl) hn6 (told [pI (a1), pF, pF, pI (a1), pT, pT]) (told_pst _) (owedS (owedS (owedS (owedS (owedS (owedS owed0 ?s0) ?s1) ?s2) ?s3) ?s4) ?s5) ?_
    case s0 =>
     intro b w1 hb hp hu
     have x1 : (pI (a1)).V (get b 1) w1 := Pv.keep _ g6_1 (hu 1 (by kernel_rfl)) hb
     exact st_move rfl (want0 rfl _) rfl x1
    case s1 =>
     intro b w1 hb hp hu
     have x33 : (pI (a1)).V (get b 33) w1 := hp 0 33 (by kernel_rfl) rfl
     exact st_lss (b := false) (κ := .i64) (m := a1) (n := ((1 : Int))) rfl (want0 rfl _) rfl x33 rfl (decide_eq_false c1002)
    case s2 =>
     intro b w1 hb hp hu
     have x34 : (pF).V (get b 34) w1 := hp 1 34 (by kernel_rfl) rfl
     exact st_move rfl (want0 rfl _) rfl x34
    case s3 =>
     intro b w1 hb hp hu
     have x35 : (pF).V (get b 35) w1 := hp 2 35 (by kernel_rfl) rfl
     have x1 : (pI (a1)).V (get b 1) w1 := Pv.keep _ g6_1 (hu 1 (by kernel_rfl)) hb
     exact st_move rfl ((want_is (N := 35) rfl rfl x35).trans rfl) rfl x1
    case s4 =>
     intro b w1 hb hp hu
     have x35 : (pF).V (get b 35) w1 := hp 2 35 (by kernel_rfl) rfl
     have x36 : (pI (a1)).V (get b 36) w1 := hp 3 36 (by kernel_rfl) rfl
     exact st_gtr (b := true) (κ := .i64) (m := a1) (n := ((64 : Int))) rfl ((want_is (N := 35) rfl rfl x35).trans rfl) rfl x36 rfl (decide_eq_true c1003)
    case s5 =>
     intro b w1 hb hp hu
     have x35 : (pF).V (get b 35) w1 := hp 2 35 (by kernel_rfl) rfl
     have x37 : (pT).V (get b 37) w1 := hp 4 37 (by kernel_rfl) rfl
     exact st_pick (b := false) rfl (want0 rfl _) rfl x35 x37
    intro ac7 wo7 hn7 hd_ hb hv hs
    have g7_38 : (pT).V (get ac7 38) wo7 := hv 5 38 rfl
    have g7_9 : (pB (t6)).V (get ac7 9) wo7 := Pv.keep _ g6_9 (hs 9 rfl) hb
    have g7_10 : (pI (t7)).V (get ac7 10) wo7 := Pv.keep _ g6_10 (hs 10 rfl) hb
    have g7_7 : (pB (t4)).V (get ac7 7) wo7 := Pv.keep _ g6_7 (hs 7 rfl) hb
    have g7_8 : (pI (t5)).V (get ac7 8) wo7 := Pv.keep _ g6_8 (hs 8 rfl) hb
    have g7_5 : (pB (t2)).V (get ac7 5) wo7 := Pv.keep _ g6_5 (hs 5 rfl) hb
    have g7_6 : (pI (t3)).V (get ac7 6) wo7 := Pv.keep _ g6_6 (hs 6 rfl) hb
    have g7_4 : (pF).V (get ac7 4) wo7 := Pv.keep _ g6_4 (hs 4 rfl) hb
    have g7_0 : (pB (l0)).V (get ac7 0) wo7 := Pv.keep _ g6_0 (hs 0 rfl) hb
    have g7_1 : (pI (a1)).V (get ac7 1) wo7 := Pv.keep _ g6_1 (hs 1 rfl) hb
    have hB7 := below_step hB6 hb
    have hd7 := hd_.trans hd6
    clear hv hs hd_ hb hB6 hn6 hd6 g6_9 g6_10 g6_7 g6_8 g6_5 g6_6 g6_4 g6_0 g6_1
    show Code.wp _ _ _ _ _
    refine wp_cond_true (show ac7.eval (Operand.tmp 38) = .bool true from g7_38) ?_
    refine wp_seq ?_
    refine Reg.plain (T := wristbandlaw09_SolomonRight.T9) (D := wristbandlaw09_SolomonRight.D9) (n := 139) (by kernel_rfl) hn7 (told [pI (t3), pT, pT, pI (t5), pT, pT, pT, pI (t7), pT, pT, pT, pB (t2), pI (((t2).length : Int)), pT, pT, pT, pB (t4), pI (((t4).length : Int)), pT, pT, pT, pB (t6), pI (((t6).length : Int)), pT, pT, pT, pB (l0), pI (a1), pF, pT, pT, pT]) (told_pst _) (owedS (owedS (owedS (owedS (owedS (owedS (owedS (owedS (owedS (owedS (owedS (owedS (owedS (owedS (owedS (owedS (owedS (owedS (owedS (owedS (owedS (owedS (owedS (owedS (owedS (owedS (owedS (owedS (owedS (owedS (owedS (owedS owed0 ?s0) ?s1) ?s2) ?s3) ?s4) ?s5) ?s6) ?s7) ?s8) ?s9) ?s10) ?s11) ?s12) ?s13) ?s14) ?s15) ?s16) ?s17) ?s18) ?s19) ?s20) ?s21) ?s22) ?s23) ?s24) ?s25) ?s26) ?s27) ?s28) ?s29) ?s30) ?s31) ?_
    case s0 =>
     intro b w1 hb hp hu
     have x6 : (pI (t3)).V (get b 6) w1 := Pv.keep _ g7_6 (hu 6 (by kernel_rfl)) hb
     exact st_move rfl (want0 rfl _) rfl x6
    case s1 =>
     intro b w1 hb hp hu
     have x39 : (pI (t3)).V (get b 39) w1 := hp 0 39 (by kernel_rfl) rfl
     exact st_eql (b := true) (κ := .i64) (m := t3) (n := ((1 : Int))) rfl (want0 rfl _) rfl x39 rfl (decide_eq_true c1004)
    case s2 =>
     intro b w1 hb hp hu
     have x40 : (pT).V (get b 40) w1 := hp 1 40 (by kernel_rfl) rfl
     exact st_move rfl (want0 rfl _) rfl x40
    case s3 =>
     intro b w1 hb hp hu
     have x41 : (pT).V (get b 41) w1 := hp 2 41 (by kernel_rfl) rfl
     have x8 : (pI (t5)).V (get b 8) w1 := Pv.keep _ g7_8 (hu 8 (by kernel_rfl)) hb
     exact st_move rfl ((want_is (N := 41) rfl rfl x41).trans rfl) rfl x8
    case s4 =>
     intro b w1 hb hp hu
     have x41 : (pT).V (get b 41) w1 := hp 2 41 (by kernel_rfl) rfl
     have x42 : (pI (t5)).V (get b 42) w1 := hp 3 42 (by kernel_rfl) rfl
     exact st_eql (b := true) (κ := .i64) (m := t5) (n := ((1 : Int))) rfl ((want_is (N := 41) rfl rfl x41).trans rfl) rfl x42 rfl (decide_eq_true c1005)
    case s5 =>
     intro b w1 hb hp hu
     have x41 : (pT).V (get b 41) w1 := hp 2 41 (by kernel_rfl) rfl
     have x43 : (pT).V (get b 43) w1 := hp 4 43 (by kernel_rfl) rfl
     exact st_pick (b := true) rfl (want0 rfl _) rfl x41 x43
    case s6 =>
     intro b w1 hb hp hu
     have x44 : (pT).V (get b 44) w1 := hp 5 44 (by kernel_rfl) rfl
     exact st_move rfl (want0 rfl _) rfl x44
    case s7 =>
     intro b w1 hb hp hu
     have x45 : (pT).V (get b 45) w1 := hp 6 45 (by kernel_rfl) rfl
     have x10 : (pI (t7)).V (get b 10) w1 := Pv.keep _ g7_10 (hu 10 (by kernel_rfl)) hb
     exact st_move rfl ((want_is (N := 45) rfl rfl x45).trans rfl) rfl x10
    case s8 =>
     intro b w1 hb hp hu
     have x45 : (pT).V (get b 45) w1 := hp 6 45 (by kernel_rfl) rfl
     have x46 : (pI (t7)).V (get b 46) w1 := hp 7 46 (by kernel_rfl) rfl
     exact st_eql (b := true) (κ := .i64) (m := t7) (n := ((1 : Int))) rfl ((want_is (N := 45) rfl rfl x45).trans rfl) rfl x46 rfl (decide_eq_true c1006)
    case s9 =>
     intro b w1 hb hp hu
     have x45 : (pT).V (get b 45) w1 := hp 6 45 (by kernel_rfl) rfl
     have x47 : (pT).V (get b 47) w1 := hp 8 47 (by kernel_rfl) rfl
     exact st_pick (b := true) rfl (want0 rfl _) rfl x45 x47
    case s10 =>
     intro b w1 hb hp hu
     have x48 : (pT).V (get b 48) w1 := hp 9 48 (by kernel_rfl) rfl
     exact st_move rfl (want0 rfl _) rfl x48
    case s11 =>
     intro b w1 hb hp hu
     have x49 : (pT).V (get b 49) w1 := hp 10 49 (by kernel_rfl) rfl
     have x5 : (pB (t2)).V (get b 5) w1 := Pv.keep _ g7_5 (hu 5 (by kernel_rfl)) hb
     exact st_move rfl ((want_is (N := 49) rfl rfl x49).trans rfl) rfl x5
    case s12 =>
     intro b w1 hb hp hu
     have x49 : (pT).V (get b 49) w1 := hp 10 49 (by kernel_rfl) rfl
     have x50 : (pB (t2)).V (get b 50) w1 := hp 11 50 (by kernel_rfl) rfl
     obtain ⟨A_, c_, e_, _, _⟩ := x50
     exact st_len rfl ((want_is (N := 49) rfl rfl x49).trans rfl) rfl Try.underlying22 e_ rfl
    case s13 =>
     intro b w1 hb hp hu
     have x49 : (pT).V (get b 49) w1 := hp 10 49 (by kernel_rfl) rfl
     have x51 : (pI (((t2).length : Int))).V (get b 51) w1 := hp 12 51 (by kernel_rfl) rfl
     exact st_eql (b := true) (κ := .i64) (m := (((t2).length : Int))) (n := ((0 : Int))) rfl ((want_is (N := 49) rfl rfl x49).trans rfl) rfl x51 rfl (decide_eq_true c1007)
    case s14 =>
     intro b w1 hb hp hu
     have x49 : (pT).V (get b 49) w1 := hp 10 49 (by kernel_rfl) rfl
     have x52 : (pT).V (get b 52) w1 := hp 13 52 (by kernel_rfl) rfl
     exact st_pick (b := true) rfl (want0 rfl _) rfl x49 x52
    case s15 =>
     intro b w1 hb hp hu
     have x53 : (pT).V (get b 53) w1 := hp 14 53 (by kernel_rfl) rfl
     exact st_move rfl (want0 rfl _) rfl x53
    case s16 =>
     intro b w1 hb hp hu
     have x54 : (pT).V (get b 54) w1 := hp 15 54 (by kernel_rfl) rfl
     have x7 : (pB (t4)).V (get b 7) w1 := Pv.keep _ g7_7 (hu 7 (by kernel_rfl)) hb
     exact st_move rfl ((want_is (N := 54) rfl rfl x54).trans rfl) rfl x7
    case s17 =>
     intro b w1 hb hp hu
     have x54 : (pT).V (get b 54) w1 := hp 15 54 (by kernel_rfl) rfl
     have x55 : (pB (t4)).V (get b 55) w1 := hp 16 55 (by kernel_rfl) rfl
     obtain ⟨A_, c_, e_, _, _⟩ := x55
     exact st_len rfl ((want_is (N := 54) rfl rfl x54).trans rfl) rfl Try.underlying22 e_ rfl
    case s18 =>
     intro b w1 hb hp hu
     have x54 : (pT).V (get b 54) w1 := hp 15 54 (by kernel_rfl) rfl
     have x56 : (pI (((t4).length : Int))).V (get b 56) w1 := hp 17 56 (by kernel_rfl) rfl
     exact st_eql (b := true) (κ := .i64) (m := (((t4).length : Int))) (n := ((0 : Int))) rfl ((want_is (N := 54) rfl rfl x54).trans rfl) rfl x56 rfl (decide_eq_true c1008)
    case s19 =>
     intro b w1 hb hp hu
     have x54 : (pT).V (get b 54) w1 := hp 15 54 (by kernel_rfl) rfl
     have x57 : (pT).V (get b 57) w1 := hp 18 57 (by kernel_rfl) rfl
     exact st_pick (b := true) rfl (want0 rfl _) rfl x54 x57
    case s20 =>
     intro b w1 hb hp hu
     have x58 : (pT).V (get b 58) w1 := hp 19 58 (by kernel_rfl) rfl
     exact st_move rfl (want0 rfl _) rfl x58
    case s21 =>
     intro b w1 hb hp hu
     have x59 : (pT).V (get b 59) w1 := hp 20 59 (by kernel_rfl) rfl
     have x9 : (pB (t6)).V (get b 9) w1 := Pv.keep _ g7_9 (hu 9 (by kernel_rfl)) hb
     exact st_move rfl ((want_is (N := 59) rfl rfl x59).trans rfl) rfl x9
    case s22 =>
     intro b w1 hb hp hu
     have x59 : (pT).V (get b 59) w1 := hp 20 59 (by kernel_rfl) rfl
     have x60 : (pB (t6)).V (get b 60) w1 := hp 21 60 (by kernel_rfl) rfl
     obtain ⟨A_, c_, e_, _, _⟩ := x60
     exact st_len rfl ((want_is (N := 59) rfl rfl x59).trans rfl) rfl Try.underlying22 e_ rfl
    case s23 =>
     intro b w1 hb hp hu
     have x59 : (pT).V (get b 59) w1 := hp 20 59 (by kernel_rfl) rfl
     have x61 : (pI (((t6).length : Int))).V (get b 61) w1 := hp 22 61 (by kernel_rfl) rfl
     exact st_eql (b := true) (κ := .i64) (m := (((t6).length : Int))) (n := ((0 : Int))) rfl ((want_is (N := 59) rfl rfl x59).trans rfl) rfl x61 rfl (decide_eq_true c1009)
    case s24 =>
     intro b w1 hb hp hu
     have x59 : (pT).V (get b 59) w1 := hp 20 59 (by kernel_rfl) rfl
     have x62 : (pT).V (get b 62) w1 := hp 23 62 (by kernel_rfl) rfl
     exact st_pick (b := true) rfl (want0 rfl _) rfl x59 x62
    case s25 =>
     intro b w1 hb hp hu
     have x63 : (pT).V (get b 63) w1 := hp 24 63 (by kernel_rfl) rfl
     exact st_move rfl (want0 rfl _) rfl x63
    case s26 =>
     intro b w1 hb hp hu
     have x64 : (pT).V (get b 64) w1 := hp 25 64 (by kernel_rfl) rfl
     have x0 : (pB (l0)).V (get b 0) w1 := Pv.keep _ g7_0 (hu 0 (by kernel_rfl)) hb
     exact st_move rfl ((want_is (N := 64) rfl rfl x64).trans rfl) rfl x0
    case s27 =>
     intro b w1 hb hp hu
     have x64 : (pT).V (get b 64) w1 := hp 25 64 (by kernel_rfl) rfl
     have x1 : (pI (a1)).V (get b 1) w1 := Pv.keep _ g7_1 (hu 1 (by kernel_rfl)) hb
     exact st_move rfl ((want_is (N := 64) rfl rfl x64).trans rfl) rfl x1
    case s28 =>
     intro b w1 hb hp hu
     have x64 : (pT).V (get b 64) w1 := hp 25 64 (by kernel_rfl) rfl
     have x65 : (pB (l0)).V (get b 65) w1 := hp 26 65 (by kernel_rfl) rfl
     obtain ⟨B0, d0, e0_, hC0, hl0⟩ := x65
     have e0 : b.eval (Operand.tmp 65) = .slice B0 (l0).length d0 := e0_
     have x66 : (pI (a1)).V (get b 66) w1 := hp 27 66 (by kernel_rfl) rfl
     have e1 : b.eval (Operand.tmp 66) = .int .i64 (a1) := x66
     refine st_call rfl ((want_is (N := 64) rfl rfl x64).trans rfl) rfl Try.func31 (by kernel_rfl) rfl #[.slice B0 (l0).length d0, .int .i64 (a1)] (by simp only [List.map_toArray, List.map_cons, List.map_nil, e0, e1]) ?_
     refine (solomon_Fine.calls k B0 d0 _ _ _ w1 hC0 hl0 H5).mono ?_
     rintro e w2 ⟨rfl, hb2⟩
     exact ⟨_, rfl, (show (Pv.is (.bool false)).V (.bool t8) w2 from by rw [Bool.eq_false_iff.mpr c1010]; first | done | exact rfl), hb2⟩
    case s29 =>
     intro b w1 hb hp hu
     have x64 : (pT).V (get b 64) w1 := hp 25 64 (by kernel_rfl) rfl
     have x67 : (pF).V (get b 67) w1 := hp 28 67 (by kernel_rfl) rfl
     exact st_un (v := .bool true) (vx := .bool false) rfl ((want_is (N := 64) rfl rfl x64).trans rfl) rfl x67 (by first | rfl | (go_simp; first | done | rfl | (simp only [i64_w, i32_w]; done))) rfl
    case s30 =>
     intro b w1 hb hp hu
     have x64 : (pT).V (get b 64) w1 := hp 25 64 (by kernel_rfl) rfl
     have x68 : (pT).V (get b 68) w1 := hp 29 68 (by kernel_rfl) rfl
     exact st_pick (b := true) rfl (want0 rfl _) rfl x64 x68
    case s31 =>
     intro b w1 hb hp hu
     have x69 : (pT).V (get b 69) w1 := hp 30 69 (by kernel_rfl) rfl
     exact st_assign rfl (want0 rfl _) rfl x69
    intro ac8 wo8 hn8 hd_ hb hv hs
    have g8_4 : (pT).V (get ac8 4) wo8 := hv 31 4 rfl
    have hB8 := below_step hB7 hb
    have hd8 := hd_.trans hd7
    clear hv hs hd_ hb hB7 hn7 hd7 g7_38 g7_9 g7_10 g7_7 g7_8 g7_5 g7_6 g7_4 g7_0 g7_1
    show Code.wp _ _ _ _ _
    refine wp_ret ?_
    repeat (refine then_ret ?_)
    exact back_is rfl hd8 g8_4 ⟨rfl, hB8⟩
   ·have h := hn c1003
    clear hy hn
    obtain ⟨c1004, h⟩ := h
    obtain ⟨t8, H5, h⟩ := h
    obtain ⟨c1005, h⟩ := h
    obtain ⟨t9, H6, h⟩ := h
    obtain ⟨c1006, h⟩ := h
    obtain ⟨t10, H7, h⟩ := h
    refine Reg.plain (T := wristbandlaw09_SolomonRight.T8) (D := wristbandlaw09_SolomonRight.D8) (n := 139) (by kernel_rfl) hn6 (told [pI (a1), pF, pF, pI (a1), pF, pF]) (told_pst _) (owedS (owedS (owedS (owedS (owedS (owedS owed0 ?s0) ?s1) ?s2) ?s3) ?s4) ?s5) ?_
    case s0 =>
     intro b w1 hb hp hu
     have x1 : (pI (a1)).V (get b 1) w1 := Pv.keep _ g6_1 (hu 1 (by kernel_rfl)) hb
     exact st_move rfl (want0 rfl _) rfl x1
    case s1 =>
     intro b w1 hb hp hu
     have x33 : (pI (a1)).V (get b 33) w1 := hp 0 33 (by kernel_rfl) rfl
     exact st_lss (b := false) (κ := .i64) (m := a1) (n := ((1 : Int))) rfl (want0 rfl _) rfl x33 rfl (decide_eq_false c1002)
    case s2 =>
     intro b w1 hb hp hu
     have x34 : (pF).V (get b 34) w1 := hp 1 34 (by kernel_rfl) rfl
     exact st_move rfl (want0 rfl _) rfl x34
    case s3 =>
     intro b w1 hb hp hu
     have x35 : (pF).V (get b 35) w1 := hp 2 35 (by kernel_rfl) rfl
     have x1 : (pI (a1)).V (get b 1) w1 := Pv.keep _ g6_1 (hu 1 (by kernel_rfl)) hb
     exact st_move rfl ((want_is (N := 35) rfl rfl x35).trans rfl) rfl x1
    case s4 =>
     intro b w1 hb hp hu
     have x35 : (pF).V (get b 35) w1 := hp 2 35 (by kernel_rfl) rfl
     have x36 : (pI (a1)).V (get b 36) w1 := hp 3 36 (by kernel_rfl) rfl
     exact st_gtr (b := false) (κ := .i64) (m := a1) (n := ((64 : Int))) rfl ((want_is (N := 35) rfl rfl x35).trans rfl) rfl x36 rfl (decide_eq_false c1003)
    case s5 =>
     intro b w1 hb hp hu
     have x35 : (pF).V (get b 35) w1 := hp 2 35 (by kernel_rfl) rfl
     have x37 : (pF).V (get b 37) w1 := hp 4 37 (by kernel_rfl) rfl
     exact st_pick (b := false) rfl (want0 rfl _) rfl x35 x37
    intro ac7 wo7 hn7 hd_ hb hv hs
    have g7_38 : (pF).V (get ac7 38) wo7 := hv 5 38 rfl
    have g7_9 : (pB (t6)).V (get ac7 9) wo7 := Pv.keep _ g6_9 (hs 9 rfl) hb
    have g7_10 : (pI (t7)).V (get ac7 10) wo7 := Pv.keep _ g6_10 (hs 10 rfl) hb
    have g7_7 : (pB (t4)).V (get ac7 7) wo7 := Pv.keep _ g6_7 (hs 7 rfl) hb
    have g7_8 : (pI (t5)).V (get ac7 8) wo7 := Pv.keep _ g6_8 (hs 8 rfl) hb
    have g7_5 : (pB (t2)).V (get ac7 5) wo7 := Pv.keep _ g6_5 (hs 5 rfl) hb
    have g7_6 : (pI (t3)).V (get ac7 6) wo7 := Pv.keep _ g6_6 (hs 6 rfl) hb
    have g7_4 : (pF).V (get ac7 4) wo7 := Pv.keep _ g6_4 (hs 4 rfl) hb
    have g7_0 : (pB (l0)).V (get ac7 0) wo7 := Pv.keep _ g6_0 (hs 0 rfl) hb
    have g7_1 : (pI (a1)).V (get ac7 1) wo7 := Pv.keep _ g6_1 (hs 1 rfl) hb
    have hB7 := below_step hB6 hb
    have hd7 := hd_.trans hd6
    clear hv hs hd_ hb hB6 hn6 hd6 g6_9 g6_10 g6_7 g6_8 g6_5 g6_6 g6_4 g6_0 g6_1
    show Code.wp _ _ _ _ _
    refine wp_cond_false (show ac7.eval (Operand.tmp 38) = .bool false from g7_38) ?_
    refine wp_skip ?_
    show Code.wp _ _ _ _ _
    refine wp_seq ?_
    refine wp_seq ?_
    obtain ⟨hy, hn⟩ := h
    by_cases c1007 : t10 = true
    ·have h := hy c1007
     clear hy hn
     obtain ⟨t11, H8, h⟩ := h
     obtain ⟨c1008, h⟩ := h
     refine Reg.draws (T := wristbandlaw09_SolomonRight.T10) (D := wristbandlaw09_SolomonRight.D10) (n := 139) rfl (by kernel_rfl) hn7 (told [pI (t3), pF, pF, pB (t2), Pv.is (.string (strOfNums (t2))), pI (a1), pB (t8), Pv.is (.string (strOfNums (t8))), pF, pF, pF, pI (t7), pB (l0), pI (a1), pI (t9), pF, pF, pF, pB (l0), pI (a1), pT, pB (l0), pI (a1), pT, pF, pF]) (told_pst _) (owedS (owedS (owedS (owedS (owedS (owedS (owedS (owedS (owedS (owedS (owedS (owedS (owedS (owedS (owedS (owedS (owedS (owedS (owedS (owedS (owedS (owedS (owedS (owedS (owedS (owedS owed0 ?s0) ?s1) ?s2) ?s3) ?s4) ?s5) ?s6) ?s7) ?s8) ?s9) ?s10) ?s11) ?s12) ?s13) ?s14) ?s15) ?s16) ?s17) ?s18) ?s19) ?s20) ?s21) ?s22) ?s23) ?s24) ?s25) ?_
     case s0 =>
      intro b w1 hb hp hu
      have x6 : (pI (t3)).V (get b 6) w1 := Pv.keep _ g7_6 (hu 6 (by kernel_rfl)) hb
      exact st_move rfl (want0 rfl _) rfl x6
     case s1 =>
      intro b w1 hb hp hu
      have x70 : (pI (t3)).V (get b 70) w1 := hp 0 70 (by kernel_rfl) rfl
      exact st_neq (b := true) (κ := .i64) (m := t3) (n := ((0 : Int))) rfl (want0 rfl _) rfl x70 rfl (decide_eq_true c1004)
     case s2 =>
      intro b w1 hb hp hu
      have x71 : (pF).V (get b 71) w1 := hp 1 71 (by kernel_rfl) rfl
      exact st_move rfl (want0 rfl _) rfl x71
     case s3 =>
      intro b w1 hb hp hu
      have x72 : (pF).V (get b 72) w1 := hp 2 72 (by kernel_rfl) rfl
      have x5 : (pB (t2)).V (get b 5) w1 := Pv.keep _ g7_5 (hu 5 (by kernel_rfl)) hb
      exact st_move rfl ((want_is (N := 72) rfl rfl x72).trans rfl) rfl x5
     case s4 =>
      intro b w1 hb hp hu
      have x72 : (pF).V (get b 72) w1 := hp 2 72 (by kernel_rfl) rfl
      have x73 : (pB (t2)).V (get b 73) w1 := hp 3 73 (by kernel_rfl) rfl
      exact st_string Try.underlying22 Try.underlying5 Try.underlying9 rfl ((want_is (N := 72) rfl rfl x72).trans rfl) rfl x73 rfl
     case s5 =>
      intro b w1 hb hp hu
      have x72 : (pF).V (get b 72) w1 := hp 2 72 (by kernel_rfl) rfl
      have x1 : (pI (a1)).V (get b 1) w1 := Pv.keep _ g7_1 (hu 1 (by kernel_rfl)) hb
      exact st_move rfl ((want_is (N := 72) rfl rfl x72).trans rfl) rfl x1
     case s6 =>
      intro b w1 hb hp hu
      have x72 : (pF).V (get b 72) w1 := hp 2 72 (by kernel_rfl) rfl
      have x75 : (pI (a1)).V (get b 75) w1 := hp 5 75 (by kernel_rfl) rfl
      have e0 : b.eval (Operand.tmp 75) = .int .i64 (a1) := x75
      refine st_call rfl ((want_is (N := 72) rfl rfl x72).trans rfl) rfl Try.func32 (by kernel_rfl) rfl #[.int .i64 (a1)] (by simp only [List.map_toArray, List.map_cons, List.map_nil, e0]) ?_
      refine (wristbandref09_Gen.calls k _ _ w1  H5).mono ?_
      rintro e w2 ⟨v0_, rfl, ho0, hb2⟩
      exact ⟨_, rfl, Pv.of_sl ho0, hb2⟩
     case s7 =>
      intro b w1 hb hp hu
      have x72 : (pF).V (get b 72) w1 := hp 2 72 (by kernel_rfl) rfl
      have x76 : (pB (t8)).V (get b 76) w1 := hp 6 76 (by kernel_rfl) rfl
      exact st_string Try.underlying22 Try.underlying5 Try.underlying9 rfl ((want_is (N := 72) rfl rfl x72).trans rfl) rfl x76 rfl
     case s8 =>
      intro b w1 hb hp hu
      have x72 : (pF).V (get b 72) w1 := hp 2 72 (by kernel_rfl) rfl
      have x74 : (Pv.is (.string (strOfNums (t2)))).V (get b 74) w1 := hp 4 74 (by kernel_rfl) rfl
      have x77 : (Pv.is (.string (strOfNums (t8)))).V (get b 77) w1 := hp 7 77 (by kernel_rfl) rfl
      exact st_bin (v := .bool false) (vx := .string (strOfNums (t2))) (vy := .string (strOfNums (t8))) rfl ((want_is (N := 72) rfl rfl x72).trans rfl) rfl x74 x77 (by first | rfl | (have c_ := c1005; clear hb hp hu; go_simp; first | done | rfl | (simp [c_]; done) | (simp; omega))) rfl
     case s9 =>
      intro b w1 hb hp hu
      have x72 : (pF).V (get b 72) w1 := hp 2 72 (by kernel_rfl) rfl
      have x78 : (pF).V (get b 78) w1 := hp 8 78 (by kernel_rfl) rfl
      exact st_pick (b := false) rfl (want0 rfl _) rfl x72 x78
     case s10 =>
      intro b w1 hb hp hu
      have x79 : (pF).V (get b 79) w1 := hp 9 79 (by kernel_rfl) rfl
      exact st_move rfl (want0 rfl _) rfl x79
     case s11 =>
      intro b w1 hb hp hu
      have x80 : (pF).V (get b 80) w1 := hp 10 80 (by kernel_rfl) rfl
      have x10 : (pI (t7)).V (get b 10) w1 := Pv.keep _ g7_10 (hu 10 (by kernel_rfl)) hb
      exact st_move rfl ((want_is (N := 80) rfl rfl x80).trans rfl) rfl x10
     case s12 =>
      intro b w1 hb hp hu
      have x80 : (pF).V (get b 80) w1 := hp 10 80 (by kernel_rfl) rfl
      have x0 : (pB (l0)).V (get b 0) w1 := Pv.keep _ g7_0 (hu 0 (by kernel_rfl)) hb
      exact st_move rfl ((want_is (N := 80) rfl rfl x80).trans rfl) rfl x0
     case s13 =>
      intro b w1 hb hp hu
      have x80 : (pF).V (get b 80) w1 := hp 10 80 (by kernel_rfl) rfl
      have x1 : (pI (a1)).V (get b 1) w1 := Pv.keep _ g7_1 (hu 1 (by kernel_rfl)) hb
      exact st_move rfl ((want_is (N := 80) rfl rfl x80).trans rfl) rfl x1
     case s14 =>
      intro b w1 hb hp hu
      have x80 : (pF).V (get b 80) w1 := hp 10 80 (by kernel_rfl) rfl
      have x82 : (pB (l0)).V (get b 82) w1 := hp 12 82 (by kernel_rfl) rfl
      obtain ⟨B0, d0, e0_, hC0, hl0⟩ := x82
      have e0 : b.eval (Operand.tmp 82) = .slice B0 (l0).length d0 := e0_
      have x83 : (pI (a1)).V (get b 83) w1 := hp 13 83 (by kernel_rfl) rfl
      have e1 : b.eval (Operand.tmp 83) = .int .i64 (a1) := x83
      refine st_call rfl ((want_is (N := 80) rfl rfl x80).trans rfl) rfl Try.func33 (by kernel_rfl) rfl #[.slice B0 (l0).length d0, .int .i64 (a1)] (by simp only [List.map_toArray, List.map_cons, List.map_nil, e0, e1]) ?_
      refine (wristbandref09_Error.calls k B0 d0 _ _ _ w1 hC0 hl0 H6).mono ?_
      rintro e w2 ⟨rfl, hb2⟩
      exact ⟨_, rfl, rfl, (below_of_drawn hb2)⟩
     case s15 =>
      intro b w1 hb hp hu
      have x80 : (pF).V (get b 80) w1 := hp 10 80 (by kernel_rfl) rfl
      have x81 : (pI (t7)).V (get b 81) w1 := hp 11 81 (by kernel_rfl) rfl
      have x84 : (pI (t9)).V (get b 84) w1 := hp 14 84 (by kernel_rfl) rfl
      exact st_neq (b := true) (κ := .i64) (m := t7) (n := t9) rfl ((want_is (N := 80) rfl rfl x80).trans rfl) rfl x81 x84 (decide_eq_true c1006)
     case s16 =>
      intro b w1 hb hp hu
      have x80 : (pF).V (get b 80) w1 := hp 10 80 (by kernel_rfl) rfl
      have x85 : (pF).V (get b 85) w1 := hp 15 85 (by kernel_rfl) rfl
      exact st_pick (b := false) rfl (want0 rfl _) rfl x80 x85
     case s17 =>
      intro b w1 hb hp hu
      have x86 : (pF).V (get b 86) w1 := hp 16 86 (by kernel_rfl) rfl
      exact st_move rfl (want0 rfl _) rfl x86
     case s18 =>
      intro b w1 hb hp hu
      have x87 : (pF).V (get b 87) w1 := hp 17 87 (by kernel_rfl) rfl
      have x0 : (pB (l0)).V (get b 0) w1 := Pv.keep _ g7_0 (hu 0 (by kernel_rfl)) hb
      exact st_move rfl ((want_is (N := 87) rfl rfl x87).trans rfl) rfl x0
     case s19 =>
      intro b w1 hb hp hu
      have x87 : (pF).V (get b 87) w1 := hp 17 87 (by kernel_rfl) rfl
      have x1 : (pI (a1)).V (get b 1) w1 := Pv.keep _ g7_1 (hu 1 (by kernel_rfl)) hb
      exact st_move rfl ((want_is (N := 87) rfl rfl x87).trans rfl) rfl x1
     case s20 =>
      intro b w1 hb hp hu
      have x87 : (pF).V (get b 87) w1 := hp 17 87 (by kernel_rfl) rfl
      have x88 : (pB (l0)).V (get b 88) w1 := hp 18 88 (by kernel_rfl) rfl
      obtain ⟨B0, d0, e0_, hC0, hl0⟩ := x88
      have e0 : b.eval (Operand.tmp 88) = .slice B0 (l0).length d0 := e0_
      have x89 : (pI (a1)).V (get b 89) w1 := hp 19 89 (by kernel_rfl) rfl
      have e1 : b.eval (Operand.tmp 89) = .int .i64 (a1) := x89
      refine st_call rfl ((want_is (N := 87) rfl rfl x87).trans rfl) rfl Try.func31 (by kernel_rfl) rfl #[.slice B0 (l0).length d0, .int .i64 (a1)] (by simp only [List.map_toArray, List.map_cons, List.map_nil, e0, e1]) ?_
      refine (solomon_Fine.calls k B0 d0 _ _ _ w1 hC0 hl0 H7).mono ?_
      rintro e w2 ⟨rfl, hb2⟩
      exact ⟨_, rfl, (show (Pv.is (.bool true)).V (.bool t10) w2 from by rw [c1007]; first | done | exact rfl), hb2⟩
     case s21 =>
      intro b w1 hb hp hu
      have x87 : (pF).V (get b 87) w1 := hp 17 87 (by kernel_rfl) rfl
      have x0 : (pB (l0)).V (get b 0) w1 := Pv.keep _ g7_0 (hu 0 (by kernel_rfl)) hb
      exact st_move rfl ((want_is (N := 87) rfl rfl x87).trans rfl) rfl x0
     case s22 =>
      intro b w1 hb hp hu
      have x87 : (pF).V (get b 87) w1 := hp 17 87 (by kernel_rfl) rfl
      have x1 : (pI (a1)).V (get b 1) w1 := Pv.keep _ g7_1 (hu 1 (by kernel_rfl)) hb
      exact st_move rfl ((want_is (N := 87) rfl rfl x87).trans rfl) rfl x1
     case s23 =>
      intro b w1 hb hp hu
      have x87 : (pF).V (get b 87) w1 := hp 17 87 (by kernel_rfl) rfl
      have x91 : (pB (l0)).V (get b 91) w1 := hp 21 91 (by kernel_rfl) rfl
      obtain ⟨B0, d0, e0_, hC0, hl0⟩ := x91
      have e0 : b.eval (Operand.tmp 91) = .slice B0 (l0).length d0 := e0_
      have x92 : (pI (a1)).V (get b 92) w1 := hp 22 92 (by kernel_rfl) rfl
      have e1 : b.eval (Operand.tmp 92) = .int .i64 (a1) := x92
      refine st_call rfl ((want_is (N := 87) rfl rfl x87).trans rfl) rfl Try.func34 (by kernel_rfl) rfl #[.slice B0 (l0).length d0, .int .i64 (a1)] (by simp only [List.map_toArray, List.map_cons, List.map_nil, e0, e1]) ?_
      refine (wristbandref09_Fine.calls k B0 d0 _ _ _ w1 hC0 hl0 H8).mono ?_
      rintro e w2 ⟨rfl, hb2⟩
      exact ⟨_, rfl, (show (Pv.is (.bool true)).V (.bool t11) w2 from by rw [c1008]; first | done | exact rfl), hb2⟩
     case s24 =>
      intro b w1 hb hp hu
      have x87 : (pF).V (get b 87) w1 := hp 17 87 (by kernel_rfl) rfl
      have x90 : (pT).V (get b 90) w1 := hp 20 90 (by kernel_rfl) rfl
      have x93 : (pT).V (get b 93) w1 := hp 23 93 (by kernel_rfl) rfl
      exact st_bin (v := .bool false) (vx := .bool true) (vy := .bool true) rfl ((want_is (N := 87) rfl rfl x87).trans rfl) rfl x90 x93 (by first | rfl | (go_simp; first | done | rfl | (simp only [i64_w, i32_w]; done))) rfl
     case s25 =>
      intro b w1 hb hp hu
      have x87 : (pF).V (get b 87) w1 := hp 17 87 (by kernel_rfl) rfl
      have x94 : (pF).V (get b 94) w1 := hp 24 94 (by kernel_rfl) rfl
      exact st_pick (b := false) rfl (want0 rfl _) rfl x87 x94
     intro ac8 wo8 hn8 hd_ hb hv hs
     have g8_95 : (pF).V (get ac8 95) wo8 := hv 25 95 rfl
     have g8_9 : (pB (t6)).V (get ac8 9) wo8 := Pv.keep _ g7_9 (hs 9 rfl) hb
     have g8_10 : (pI (t7)).V (get ac8 10) wo8 := Pv.keep _ g7_10 (hs 10 rfl) hb
     have g8_7 : (pB (t4)).V (get ac8 7) wo8 := Pv.keep _ g7_7 (hs 7 rfl) hb
     have g8_8 : (pI (t5)).V (get ac8 8) wo8 := Pv.keep _ g7_8 (hs 8 rfl) hb
     have g8_4 : (pF).V (get ac8 4) wo8 := Pv.keep _ g7_4 (hs 4 rfl) hb
     have g8_0 : (pB (l0)).V (get ac8 0) wo8 := Pv.keep _ g7_0 (hs 0 rfl) hb
     have g8_1 : (pI (a1)).V (get ac8 1) wo8 := Pv.keep _ g7_1 (hs 1 rfl) hb
     have hB8 := below_step hB7 hb
     have hd8 := hd_.trans hd7
     clear hv hs hd_ hb hB7 hn7 hd7 g7_38 g7_9 g7_10 g7_7 g7_8 g7_5 g7_6 g7_4 g7_0 g7_1
     show Code.wp _ _ _ _ _
     refine wp_cond_false (show ac8.eval (Operand.tmp 95) = .bool false from g8_95) ?_
     refine wp_skip ?_
     show Code.wp _ _ _ _ _
     refine wp_seq ?_
     refine wp_seq ?_
     obtain ⟨hy, hn⟩ := h
     by_cases c1009 : t7 = (0 : Int)
     ·have h := hy c1009
      clear hy hn
      obtain ⟨t12, H9, h⟩ := h
      obtain ⟨c1010, h⟩ := h
      refine Reg.draws (T := wristbandlaw09_SolomonRight.T12) (D := wristbandlaw09_SolomonRight.D12) (n := 139) rfl (by kernel_rfl) hn8 (told [pI (t7), pT, pT, pB (t6), Pv.is (.string (strOfNums (t6))), pB (l0), pI (a1), pB (t12), Pv.is (.string (strOfNums (t12))), pF, pF, pF, pI (t7), pF, pF, Pv.is (undef), Pv.is (undef), Pv.is (undef), pF, pF]) (told_pst _) (owedS (owedS (owedS (owedS (owedS (owedS (owedS (owedS (owedS (owedS (owedS (owedS (owedS (owedS (owedS (owedS (owedS (owedS (owedS (owedS owed0 ?s0) ?s1) ?s2) ?s3) ?s4) ?s5) ?s6) ?s7) ?s8) ?s9) ?s10) ?s11) ?s12) ?s13) ?s14) ?s15) ?s16) ?s17) ?s18) ?s19) ?_
      case s0 =>
       intro b w1 hb hp hu
       have x10 : (pI (t7)).V (get b 10) w1 := Pv.keep _ g8_10 (hu 10 (by kernel_rfl)) hb
       exact st_move rfl (want0 rfl _) rfl x10
      case s1 =>
       intro b w1 hb hp hu
       have x96 : (pI (t7)).V (get b 96) w1 := hp 0 96 (by kernel_rfl) rfl
       exact st_eql (b := true) (κ := .i64) (m := t7) (n := ((0 : Int))) rfl (want0 rfl _) rfl x96 rfl (decide_eq_true c1009)
      case s2 =>
       intro b w1 hb hp hu
       have x97 : (pT).V (get b 97) w1 := hp 1 97 (by kernel_rfl) rfl
       exact st_move rfl (want0 rfl _) rfl x97
      case s3 =>
       intro b w1 hb hp hu
       have x98 : (pT).V (get b 98) w1 := hp 2 98 (by kernel_rfl) rfl
       have x9 : (pB (t6)).V (get b 9) w1 := Pv.keep _ g8_9 (hu 9 (by kernel_rfl)) hb
       exact st_move rfl ((want_is (N := 98) rfl rfl x98).trans rfl) rfl x9
      case s4 =>
       intro b w1 hb hp hu
       have x98 : (pT).V (get b 98) w1 := hp 2 98 (by kernel_rfl) rfl
       have x99 : (pB (t6)).V (get b 99) w1 := hp 3 99 (by kernel_rfl) rfl
       exact st_string Try.underlying22 Try.underlying5 Try.underlying9 rfl ((want_is (N := 98) rfl rfl x98).trans rfl) rfl x99 rfl
      case s5 =>
       intro b w1 hb hp hu
       have x98 : (pT).V (get b 98) w1 := hp 2 98 (by kernel_rfl) rfl
       have x0 : (pB (l0)).V (get b 0) w1 := Pv.keep _ g8_0 (hu 0 (by kernel_rfl)) hb
       exact st_move rfl ((want_is (N := 98) rfl rfl x98).trans rfl) rfl x0
      case s6 =>
       intro b w1 hb hp hu
       have x98 : (pT).V (get b 98) w1 := hp 2 98 (by kernel_rfl) rfl
       have x1 : (pI (a1)).V (get b 1) w1 := Pv.keep _ g8_1 (hu 1 (by kernel_rfl)) hb
       exact st_move rfl ((want_is (N := 98) rfl rfl x98).trans rfl) rfl x1
      case s7 =>
       intro b w1 hb hp hu
       have x98 : (pT).V (get b 98) w1 := hp 2 98 (by kernel_rfl) rfl
       have x101 : (pB (l0)).V (get b 101) w1 := hp 5 101 (by kernel_rfl) rfl
       obtain ⟨B0, d0, e0_, hC0, hl0⟩ := x101
       have e0 : b.eval (Operand.tmp 101) = .slice B0 (l0).length d0 := e0_
       have x102 : (pI (a1)).V (get b 102) w1 := hp 6 102 (by kernel_rfl) rfl
       have e1 : b.eval (Operand.tmp 102) = .int .i64 (a1) := x102
       refine st_call rfl ((want_is (N := 98) rfl rfl x98).trans rfl) rfl Try.func35 (by kernel_rfl) rfl #[.slice B0 (l0).length d0, .int .i64 (a1)] (by simp only [List.map_toArray, List.map_cons, List.map_nil, e0, e1]) ?_
       refine (wristbandref09_Signs.calls k B0 d0 _ _ _ w1 hC0 hl0 H9).mono ?_
       rintro e w2 ⟨v0_, rfl, ho0, hb2⟩
       exact ⟨_, rfl, Pv.of_sl ho0, hb2⟩
      case s8 =>
       intro b w1 hb hp hu
       have x98 : (pT).V (get b 98) w1 := hp 2 98 (by kernel_rfl) rfl
       have x103 : (pB (t12)).V (get b 103) w1 := hp 7 103 (by kernel_rfl) rfl
       exact st_string Try.underlying22 Try.underlying5 Try.underlying9 rfl ((want_is (N := 98) rfl rfl x98).trans rfl) rfl x103 rfl
      case s9 =>
       intro b w1 hb hp hu
       have x98 : (pT).V (get b 98) w1 := hp 2 98 (by kernel_rfl) rfl
       have x100 : (Pv.is (.string (strOfNums (t6)))).V (get b 100) w1 := hp 4 100 (by kernel_rfl) rfl
       have x104 : (Pv.is (.string (strOfNums (t12)))).V (get b 104) w1 := hp 8 104 (by kernel_rfl) rfl
       exact st_bin (v := .bool false) (vx := .string (strOfNums (t6))) (vy := .string (strOfNums (t12))) rfl ((want_is (N := 98) rfl rfl x98).trans rfl) rfl x100 x104 (by first | rfl | (have c_ := c1010; clear hb hp hu; go_simp; first | done | rfl | (simp [c_]; done) | (simp; omega))) rfl
      case s10 =>
       intro b w1 hb hp hu
       have x98 : (pT).V (get b 98) w1 := hp 2 98 (by kernel_rfl) rfl
       have x105 : (pF).V (get b 105) w1 := hp 9 105 (by kernel_rfl) rfl
       exact st_pick (b := true) rfl (want0 rfl _) rfl x98 x105
      case s11 =>
       intro b w1 hb hp hu
       have x106 : (pF).V (get b 106) w1 := hp 10 106 (by kernel_rfl) rfl
       exact st_move rfl (want0 rfl _) rfl x106
      case s12 =>
       intro b w1 hb hp hu
       have x107 : (pF).V (get b 107) w1 := hp 11 107 (by kernel_rfl) rfl
       have x10 : (pI (t7)).V (get b 10) w1 := Pv.keep _ g8_10 (hu 10 (by kernel_rfl)) hb
       exact st_move rfl ((want_is (N := 107) rfl rfl x107).trans rfl) rfl x10
      case s13 =>
       intro b w1 hb hp hu
       have x107 : (pF).V (get b 107) w1 := hp 11 107 (by kernel_rfl) rfl
       have x108 : (pI (t7)).V (get b 108) w1 := hp 12 108 (by kernel_rfl) rfl
       exact st_neq (b := true) (κ := .i64) (m := t7) (n := ((0 : Int))) rfl ((want_is (N := 107) rfl rfl x107).trans rfl) rfl x108 rfl (decide_eq_true c1009)
      case s14 =>
       intro b w1 hb hp hu
       have x107 : (pF).V (get b 107) w1 := hp 11 107 (by kernel_rfl) rfl
       have x109 : (pF).V (get b 109) w1 := hp 13 109 (by kernel_rfl) rfl
       exact st_move rfl ((want_is (N := 107) rfl rfl x107).trans rfl) rfl x109
      case s15 =>
       intro b w1 hb hp hu
       have x110 : (pF).V (get b 110) w1 := hp 14 110 (by kernel_rfl) rfl
       exact st_off rfl ((want_is (N := 110) rfl rfl x110).trans rfl) rfl
      case s16 =>
       intro b w1 hb hp hu
       have x110 : (pF).V (get b 110) w1 := hp 14 110 (by kernel_rfl) rfl
       exact st_off rfl ((want_is (N := 110) rfl rfl x110).trans rfl) rfl
      case s17 =>
       intro b w1 hb hp hu
       have x110 : (pF).V (get b 110) w1 := hp 14 110 (by kernel_rfl) rfl
       exact st_off rfl ((want_is (N := 110) rfl rfl x110).trans rfl) rfl
      case s18 =>
       intro b w1 hb hp hu
       have x107 : (pF).V (get b 107) w1 := hp 11 107 (by kernel_rfl) rfl
       have x110 : (pF).V (get b 110) w1 := hp 14 110 (by kernel_rfl) rfl
       exact st_pick (b := false) rfl ((want_is (N := 107) rfl rfl x107).trans rfl) rfl x110 rfl
      case s19 =>
       intro b w1 hb hp hu
       have x107 : (pF).V (get b 107) w1 := hp 11 107 (by kernel_rfl) rfl
       have x114 : (pF).V (get b 114) w1 := hp 18 114 (by kernel_rfl) rfl
       exact st_pick (b := false) rfl (want0 rfl _) rfl x107 x114
      intro ac9 wo9 hn9 hd_ hb hv hs
      have g9_115 : (pF).V (get ac9 115) wo9 := hv 19 115 rfl
      have g9_7 : (pB (t4)).V (get ac9 7) wo9 := Pv.keep _ g8_7 (hs 7 rfl) hb
      have g9_8 : (pI (t5)).V (get ac9 8) wo9 := Pv.keep _ g8_8 (hs 8 rfl) hb
      have g9_4 : (pF).V (get ac9 4) wo9 := Pv.keep _ g8_4 (hs 4 rfl) hb
      have g9_0 : (pB (l0)).V (get ac9 0) wo9 := Pv.keep _ g8_0 (hs 0 rfl) hb
      have g9_1 : (pI (a1)).V (get ac9 1) wo9 := Pv.keep _ g8_1 (hs 1 rfl) hb
      have hB9 := below_step hB8 hb
      have hd9 := hd_.trans hd8
      clear hv hs hd_ hb hB8 hn8 hd8 g8_95 g8_9 g8_10 g8_7 g8_8 g8_4 g8_0 g8_1
      show Code.wp _ _ _ _ _
      refine wp_cond_false (show ac9.eval (Operand.tmp 115) = .bool false from g9_115) ?_
      refine wp_skip ?_
      show Code.wp _ _ _ _ _
      refine wp_seq ?_
      refine wp_seq ?_
      obtain ⟨hy, hn⟩ := h
      by_cases c1011 : wrap64 (((l0).length : Int) + a1) > (255 : Int)
      ·have h := hy c1011
       clear hy hn
       obtain ⟨c1012, h⟩ := h
       obtain ⟨c1013, h⟩ := h
       refine Reg.plain (T := wristbandlaw09_SolomonRight.T14) (D := wristbandlaw09_SolomonRight.D14) (n := 139) (by kernel_rfl) hn9 (told [pB (l0), pI (((l0).length : Int)), pI (a1), pI (wrap64 (((l0).length : Int) + a1)), pT]) (told_pst _) (owedS (owedS (owedS (owedS (owedS owed0 ?s0) ?s1) ?s2) ?s3) ?s4) ?_
       case s0 =>
        intro b w1 hb hp hu
        have x0 : (pB (l0)).V (get b 0) w1 := Pv.keep _ g9_0 (hu 0 (by kernel_rfl)) hb
        exact st_move rfl (want0 rfl _) rfl x0
       case s1 =>
        intro b w1 hb hp hu
        have x116 : (pB (l0)).V (get b 116) w1 := hp 0 116 (by kernel_rfl) rfl
        obtain ⟨A_, c_, e_, _, _⟩ := x116
        exact st_len rfl (want0 rfl _) rfl Try.underlying22 e_ rfl
       case s2 =>
        intro b w1 hb hp hu
        have x1 : (pI (a1)).V (get b 1) w1 := Pv.keep _ g9_1 (hu 1 (by kernel_rfl)) hb
        exact st_move rfl (want0 rfl _) rfl x1
       case s3 =>
        intro b w1 hb hp hu
        have x117 : (pI (((l0).length : Int))).V (get b 117) w1 := hp 1 117 (by kernel_rfl) rfl
        have x118 : (pI (a1)).V (get b 118) w1 := hp 2 118 (by kernel_rfl) rfl
        exact st_bin (v := .int .i64 (wrap64 (((l0).length : Int) + a1))) (vx := .int .i64 (((l0).length : Int))) (vy := .int .i64 (a1)) rfl (want0 rfl _) rfl x117 x118 (by first | rfl | (go_simp; first | done | rfl | (simp only [i64_w, i32_w]; done))) rfl
       case s4 =>
        intro b w1 hb hp hu
        have x119 : (pI (wrap64 (((l0).length : Int) + a1))).V (get b 119) w1 := hp 3 119 (by kernel_rfl) rfl
        exact st_gtr (b := true) (κ := .i64) (m := (wrap64 (((l0).length : Int) + a1))) (n := ((255 : Int))) rfl (want0 rfl _) rfl x119 rfl (decide_eq_true c1011)
       intro ac10 wo10 hn10 hd_ hb hv hs
       have g10_120 : (pT).V (get ac10 120) wo10 := hv 4 120 rfl
       have g10_7 : (pB (t4)).V (get ac10 7) wo10 := Pv.keep _ g9_7 (hs 7 rfl) hb
       have g10_8 : (pI (t5)).V (get ac10 8) wo10 := Pv.keep _ g9_8 (hs 8 rfl) hb
       have g10_4 : (pF).V (get ac10 4) wo10 := Pv.keep _ g9_4 (hs 4 rfl) hb
       have hB10 := below_step hB9 hb
       have hd10 := hd_.trans hd9
       clear hv hs hd_ hb hB9 hn9 hd9 g9_115 g9_7 g9_8 g9_4 g9_0 g9_1
       show Code.wp _ _ _ _ _
       refine wp_cond_true (show ac10.eval (Operand.tmp 120) = .bool true from g10_120) ?_
       refine wp_seq ?_
       refine Reg.plain (T := wristbandlaw09_SolomonRight.T15) (D := wristbandlaw09_SolomonRight.D15) (n := 139) (by kernel_rfl) hn10 (told [pI (t5), pT, pT, pB (t4), pI (((t4).length : Int)), pT, pT, pT]) (told_pst _) (owedS (owedS (owedS (owedS (owedS (owedS (owedS (owedS owed0 ?s0) ?s1) ?s2) ?s3) ?s4) ?s5) ?s6) ?s7) ?_
       case s0 =>
        intro b w1 hb hp hu
        have x8 : (pI (t5)).V (get b 8) w1 := Pv.keep _ g10_8 (hu 8 (by kernel_rfl)) hb
        exact st_move rfl (want0 rfl _) rfl x8
       case s1 =>
        intro b w1 hb hp hu
        have x121 : (pI (t5)).V (get b 121) w1 := hp 0 121 (by kernel_rfl) rfl
        exact st_eql (b := true) (κ := .i64) (m := t5) (n := ((4 : Int))) rfl (want0 rfl _) rfl x121 rfl (decide_eq_true c1012)
       case s2 =>
        intro b w1 hb hp hu
        have x122 : (pT).V (get b 122) w1 := hp 1 122 (by kernel_rfl) rfl
        exact st_move rfl (want0 rfl _) rfl x122
       case s3 =>
        intro b w1 hb hp hu
        have x123 : (pT).V (get b 123) w1 := hp 2 123 (by kernel_rfl) rfl
        have x7 : (pB (t4)).V (get b 7) w1 := Pv.keep _ g10_7 (hu 7 (by kernel_rfl)) hb
        exact st_move rfl ((want_is (N := 123) rfl rfl x123).trans rfl) rfl x7
       case s4 =>
        intro b w1 hb hp hu
        have x123 : (pT).V (get b 123) w1 := hp 2 123 (by kernel_rfl) rfl
        have x124 : (pB (t4)).V (get b 124) w1 := hp 3 124 (by kernel_rfl) rfl
        obtain ⟨A_, c_, e_, _, _⟩ := x124
        exact st_len rfl ((want_is (N := 123) rfl rfl x123).trans rfl) rfl Try.underlying22 e_ rfl
       case s5 =>
        intro b w1 hb hp hu
        have x123 : (pT).V (get b 123) w1 := hp 2 123 (by kernel_rfl) rfl
        have x125 : (pI (((t4).length : Int))).V (get b 125) w1 := hp 4 125 (by kernel_rfl) rfl
        exact st_eql (b := true) (κ := .i64) (m := (((t4).length : Int))) (n := ((0 : Int))) rfl ((want_is (N := 123) rfl rfl x123).trans rfl) rfl x125 rfl (decide_eq_true c1013)
       case s6 =>
        intro b w1 hb hp hu
        have x123 : (pT).V (get b 123) w1 := hp 2 123 (by kernel_rfl) rfl
        have x126 : (pT).V (get b 126) w1 := hp 5 126 (by kernel_rfl) rfl
        exact st_pick (b := true) rfl (want0 rfl _) rfl x123 x126
       case s7 =>
        intro b w1 hb hp hu
        have x127 : (pT).V (get b 127) w1 := hp 6 127 (by kernel_rfl) rfl
        exact st_assign rfl (want0 rfl _) rfl x127
       intro ac11 wo11 hn11 hd_ hb hv hs
       have g11_4 : (pT).V (get ac11 4) wo11 := hv 7 4 rfl
       have hB11 := below_step hB10 hb
       have hd11 := hd_.trans hd10
       clear hv hs hd_ hb hB10 hn10 hd10 g10_120 g10_7 g10_8 g10_4
       show Code.wp _ _ _ _ _
       refine wp_ret ?_
       repeat (refine then_ret ?_)
       exact back_is rfl hd11 g11_4 ⟨rfl, hB11⟩
      ·have h := hn c1011
       clear hy hn
       obtain ⟨c1012, h⟩ := h
       obtain ⟨t13, H10, h⟩ := h
       obtain ⟨c1013, h⟩ := h
       refine Reg.plain (T := wristbandlaw09_SolomonRight.T14) (D := wristbandlaw09_SolomonRight.D14) (n := 139) (by kernel_rfl) hn9 (told [pB (l0), pI (((l0).length : Int)), pI (a1), pI (wrap64 (((l0).length : Int) + a1)), pF]) (told_pst _) (owedS (owedS (owedS (owedS (owedS owed0 ?s0) ?s1) ?s2) ?s3) ?s4) ?_
       case s0 =>
        intro b w1 hb hp hu
        have x0 : (pB (l0)).V (get b 0) w1 := Pv.keep _ g9_0 (hu 0 (by kernel_rfl)) hb
        exact st_move rfl (want0 rfl _) rfl x0
       case s1 =>
        intro b w1 hb hp hu
        have x116 : (pB (l0)).V (get b 116) w1 := hp 0 116 (by kernel_rfl) rfl
        obtain ⟨A_, c_, e_, _, _⟩ := x116
        exact st_len rfl (want0 rfl _) rfl Try.underlying22 e_ rfl
       case s2 =>
        intro b w1 hb hp hu
        have x1 : (pI (a1)).V (get b 1) w1 := Pv.keep _ g9_1 (hu 1 (by kernel_rfl)) hb
        exact st_move rfl (want0 rfl _) rfl x1
       case s3 =>
        intro b w1 hb hp hu
        have x117 : (pI (((l0).length : Int))).V (get b 117) w1 := hp 1 117 (by kernel_rfl) rfl
        have x118 : (pI (a1)).V (get b 118) w1 := hp 2 118 (by kernel_rfl) rfl
        exact st_bin (v := .int .i64 (wrap64 (((l0).length : Int) + a1))) (vx := .int .i64 (((l0).length : Int))) (vy := .int .i64 (a1)) rfl (want0 rfl _) rfl x117 x118 (by first | rfl | (go_simp; first | done | rfl | (simp only [i64_w, i32_w]; done))) rfl
       case s4 =>
        intro b w1 hb hp hu
        have x119 : (pI (wrap64 (((l0).length : Int) + a1))).V (get b 119) w1 := hp 3 119 (by kernel_rfl) rfl
        exact st_gtr (b := false) (κ := .i64) (m := (wrap64 (((l0).length : Int) + a1))) (n := ((255 : Int))) rfl (want0 rfl _) rfl x119 rfl (decide_eq_false c1011)
       intro ac10 wo10 hn10 hd_ hb hv hs
       have g10_120 : (pF).V (get ac10 120) wo10 := hv 4 120 rfl
       have g10_7 : (pB (t4)).V (get ac10 7) wo10 := Pv.keep _ g9_7 (hs 7 rfl) hb
       have g10_8 : (pI (t5)).V (get ac10 8) wo10 := Pv.keep _ g9_8 (hs 8 rfl) hb
       have g10_4 : (pF).V (get ac10 4) wo10 := Pv.keep _ g9_4 (hs 4 rfl) hb
       have g10_0 : (pB (l0)).V (get ac10 0) wo10 := Pv.keep _ g9_0 (hs 0 rfl) hb
       have g10_1 : (pI (a1)).V (get ac10 1) wo10 := Pv.keep _ g9_1 (hs 1 rfl) hb
       have hB10 := below_step hB9 hb
       have hd10 := hd_.trans hd9
       clear hv hs hd_ hb hB9 hn9 hd9 g9_115 g9_7 g9_8 g9_4 g9_0 g9_1
       show Code.wp _ _ _ _ _
       refine wp_cond_false (show ac10.eval (Operand.tmp 120) = .bool false from g10_120) ?_
       refine wp_skip ?_
       show Code.wp _ _ _ _ _
       refine wp_seq ?_
       refine Reg.draws (T := wristbandlaw09_SolomonRight.T16) (D := wristbandlaw09_SolomonRight.D16) (n := 139) rfl (by kernel_rfl) hn10 (told [pI (t5), pT, pT, pB (t4), Pv.is (.string (strOfNums (t4))), pB (l0), pI (a1), pB (t13), Pv.is (.string (strOfNums (t13))), pT, pT, pT]) (told_pst _) (owedS (owedS (owedS (owedS (owedS (owedS (owedS (owedS (owedS (owedS (owedS (owedS owed0 ?s0) ?s1) ?s2) ?s3) ?s4) ?s5) ?s6) ?s7) ?s8) ?s9) ?s10) ?s11) ?_
       case s0 =>
        intro b w1 hb hp hu
        have x8 : (pI (t5)).V (get b 8) w1 := Pv.keep _ g10_8 (hu 8 (by kernel_rfl)) hb
        exact st_move rfl (want0 rfl _) rfl x8
       case s1 =>
        intro b w1 hb hp hu
        have x128 : (pI (t5)).V (get b 128) w1 := hp 0 128 (by kernel_rfl) rfl
        exact st_eql (b := true) (κ := .i64) (m := t5) (n := ((0 : Int))) rfl (want0 rfl _) rfl x128 rfl (decide_eq_true c1012)
       case s2 =>
        intro b w1 hb hp hu
        have x129 : (pT).V (get b 129) w1 := hp 1 129 (by kernel_rfl) rfl
        exact st_move rfl (want0 rfl _) rfl x129
       case s3 =>
        intro b w1 hb hp hu
        have x130 : (pT).V (get b 130) w1 := hp 2 130 (by kernel_rfl) rfl
        have x7 : (pB (t4)).V (get b 7) w1 := Pv.keep _ g10_7 (hu 7 (by kernel_rfl)) hb
        exact st_move rfl ((want_is (N := 130) rfl rfl x130).trans rfl) rfl x7
       case s4 =>
        intro b w1 hb hp hu
        have x130 : (pT).V (get b 130) w1 := hp 2 130 (by kernel_rfl) rfl
        have x131 : (pB (t4)).V (get b 131) w1 := hp 3 131 (by kernel_rfl) rfl
        exact st_string Try.underlying22 Try.underlying5 Try.underlying9 rfl ((want_is (N := 130) rfl rfl x130).trans rfl) rfl x131 rfl
       case s5 =>
        intro b w1 hb hp hu
        have x130 : (pT).V (get b 130) w1 := hp 2 130 (by kernel_rfl) rfl
        have x0 : (pB (l0)).V (get b 0) w1 := Pv.keep _ g10_0 (hu 0 (by kernel_rfl)) hb
        exact st_move rfl ((want_is (N := 130) rfl rfl x130).trans rfl) rfl x0
       case s6 =>
        intro b w1 hb hp hu
        have x130 : (pT).V (get b 130) w1 := hp 2 130 (by kernel_rfl) rfl
        have x1 : (pI (a1)).V (get b 1) w1 := Pv.keep _ g10_1 (hu 1 (by kernel_rfl)) hb
        exact st_move rfl ((want_is (N := 130) rfl rfl x130).trans rfl) rfl x1
       case s7 =>
        intro b w1 hb hp hu
        have x130 : (pT).V (get b 130) w1 := hp 2 130 (by kernel_rfl) rfl
        have x133 : (pB (l0)).V (get b 133) w1 := hp 5 133 (by kernel_rfl) rfl
        obtain ⟨B0, d0, e0_, hC0, hl0⟩ := x133
        have e0 : b.eval (Operand.tmp 133) = .slice B0 (l0).length d0 := e0_
        have x134 : (pI (a1)).V (get b 134) w1 := hp 6 134 (by kernel_rfl) rfl
        have e1 : b.eval (Operand.tmp 134) = .int .i64 (a1) := x134
        refine st_call rfl ((want_is (N := 130) rfl rfl x130).trans rfl) rfl Try.func36 (by kernel_rfl) rfl #[.slice B0 (l0).length d0, .int .i64 (a1)] (by simp only [List.map_toArray, List.map_cons, List.map_nil, e0, e1]) ?_
        refine (wristbandref09_Put.calls k B0 d0 _ _ _ w1 hC0 hl0 H10).mono ?_
        rintro e w2 ⟨v0_, rfl, ho0, hb2⟩
        exact ⟨_, rfl, Pv.of_sl ho0, hb2⟩
       case s8 =>
        intro b w1 hb hp hu
        have x130 : (pT).V (get b 130) w1 := hp 2 130 (by kernel_rfl) rfl
        have x135 : (pB (t13)).V (get b 135) w1 := hp 7 135 (by kernel_rfl) rfl
        exact st_string Try.underlying22 Try.underlying5 Try.underlying9 rfl ((want_is (N := 130) rfl rfl x130).trans rfl) rfl x135 rfl
       case s9 =>
        intro b w1 hb hp hu
        have x130 : (pT).V (get b 130) w1 := hp 2 130 (by kernel_rfl) rfl
        have x132 : (Pv.is (.string (strOfNums (t4)))).V (get b 132) w1 := hp 4 132 (by kernel_rfl) rfl
        have x136 : (Pv.is (.string (strOfNums (t13)))).V (get b 136) w1 := hp 8 136 (by kernel_rfl) rfl
        exact st_bin (v := .bool true) (vx := .string (strOfNums (t4))) (vy := .string (strOfNums (t13))) rfl ((want_is (N := 130) rfl rfl x130).trans rfl) rfl x132 x136 (by first | rfl | (have c_ := c1013; clear hb hp hu; go_simp; first | done | rfl | (simp [c_]; done) | (simp; omega))) rfl
       case s10 =>
        intro b w1 hb hp hu
        have x130 : (pT).V (get b 130) w1 := hp 2 130 (by kernel_rfl) rfl
        have x137 : (pT).V (get b 137) w1 := hp 9 137 (by kernel_rfl) rfl
        exact st_pick (b := true) rfl (want0 rfl _) rfl x130 x137
       case s11 =>
        intro b w1 hb hp hu
        have x138 : (pT).V (get b 138) w1 := hp 10 138 (by kernel_rfl) rfl
        exact st_assign rfl (want0 rfl _) rfl x138
       intro ac11 wo11 hn11 hd_ hb hv hs
       have g11_4 : (pT).V (get ac11 4) wo11 := hv 11 4 rfl
       have hB11 := below_step hB10 hb
       have hd11 := hd_.trans hd10
       clear hv hs hd_ hb hB10 hn10 hd10 g10_120 g10_7 g10_8 g10_4 g10_0 g10_1
       show Code.wp _ _ _ _ _
       refine wp_ret ?_
       repeat (refine then_ret ?_)
       exact back_is rfl hd11 g11_4 ⟨rfl, hB11⟩
     ·have h := hn c1009
      clear hy hn
      obtain ⟨c1010, h⟩ := h
      refine Reg.draws (T := wristbandlaw09_SolomonRight.T12) (D := wristbandlaw09_SolomonRight.D12) (n := 139) rfl (by kernel_rfl) hn8 (told [pI (t7), pF, pF, Pv.is (undef), Pv.is (undef), Pv.is (undef), Pv.is (undef), Pv.is (undef), Pv.is (undef), Pv.is (undef), pF, pF, pI (t7), pT, pT, pB (t6), pI (((t6).length : Int)), pF, pF, pF]) (told_pst _) (owedS (owedS (owedS (owedS (owedS (owedS (owedS (owedS (owedS (owedS (owedS (owedS (owedS (owedS (owedS (owedS (owedS (owedS (owedS (owedS owed0 ?s0) ?s1) ?s2) ?s3) ?s4) ?s5) ?s6) ?s7) ?s8) ?s9) ?s10) ?s11) ?s12) ?s13) ?s14) ?s15) ?s16) ?s17) ?s18) ?s19) ?_
      case s0 =>
       intro b w1 hb hp hu
       have x10 : (pI (t7)).V (get b 10) w1 := Pv.keep _ g8_10 (hu 10 (by kernel_rfl)) hb
       exact st_move rfl (want0 rfl _) rfl x10
      case s1 =>
       intro b w1 hb hp hu
       have x96 : (pI (t7)).V (get b 96) w1 := hp 0 96 (by kernel_rfl) rfl
       exact st_eql (b := false) (κ := .i64) (m := t7) (n := ((0 : Int))) rfl (want0 rfl _) rfl x96 rfl (decide_eq_false c1009)
      case s2 =>
       intro b w1 hb hp hu
       have x97 : (pF).V (get b 97) w1 := hp 1 97 (by kernel_rfl) rfl
       exact st_move rfl (want0 rfl _) rfl x97
      case s3 =>
       intro b w1 hb hp hu
       have x98 : (pF).V (get b 98) w1 := hp 2 98 (by kernel_rfl) rfl
       exact st_off rfl ((want_is (N := 98) rfl rfl x98).trans rfl) rfl
      case s4 =>
       intro b w1 hb hp hu
       have x98 : (pF).V (get b 98) w1 := hp 2 98 (by kernel_rfl) rfl
       exact st_off rfl ((want_is (N := 98) rfl rfl x98).trans rfl) rfl
      case s5 =>
       intro b w1 hb hp hu
       have x98 : (pF).V (get b 98) w1 := hp 2 98 (by kernel_rfl) rfl
       exact st_off rfl ((want_is (N := 98) rfl rfl x98).trans rfl) rfl
      case s6 =>
       intro b w1 hb hp hu
       have x98 : (pF).V (get b 98) w1 := hp 2 98 (by kernel_rfl) rfl
       exact st_off rfl ((want_is (N := 98) rfl rfl x98).trans rfl) rfl
      case s7 =>
       intro b w1 hb hp hu
       have x98 : (pF).V (get b 98) w1 := hp 2 98 (by kernel_rfl) rfl
       exact st_off rfl ((want_is (N := 98) rfl rfl x98).trans rfl) rfl
      case s8 =>
       intro b w1 hb hp hu
       have x98 : (pF).V (get b 98) w1 := hp 2 98 (by kernel_rfl) rfl
       exact st_off rfl ((want_is (N := 98) rfl rfl x98).trans rfl) rfl
      case s9 =>
       intro b w1 hb hp hu
       have x98 : (pF).V (get b 98) w1 := hp 2 98 (by kernel_rfl) rfl
       exact st_off rfl ((want_is (N := 98) rfl rfl x98).trans rfl) rfl
      case s10 =>
       intro b w1 hb hp hu
       have x98 : (pF).V (get b 98) w1 := hp 2 98 (by kernel_rfl) rfl
       exact st_pick (b := false) rfl (want0 rfl _) rfl x98 rfl
      case s11 =>
       intro b w1 hb hp hu
       have x106 : (pF).V (get b 106) w1 := hp 10 106 (by kernel_rfl) rfl
       exact st_move rfl (want0 rfl _) rfl x106
      case s12 =>
       intro b w1 hb hp hu
       have x107 : (pF).V (get b 107) w1 := hp 11 107 (by kernel_rfl) rfl
       have x10 : (pI (t7)).V (get b 10) w1 := Pv.keep _ g8_10 (hu 10 (by kernel_rfl)) hb
       exact st_move rfl ((want_is (N := 107) rfl rfl x107).trans rfl) rfl x10
      case s13 =>
       intro b w1 hb hp hu
       have x107 : (pF).V (get b 107) w1 := hp 11 107 (by kernel_rfl) rfl
       have x108 : (pI (t7)).V (get b 108) w1 := hp 12 108 (by kernel_rfl) rfl
       exact st_neq (b := false) (κ := .i64) (m := t7) (n := ((0 : Int))) rfl ((want_is (N := 107) rfl rfl x107).trans rfl) rfl x108 rfl (decide_eq_false c1009)
      case s14 =>
       intro b w1 hb hp hu
       have x107 : (pF).V (get b 107) w1 := hp 11 107 (by kernel_rfl) rfl
       have x109 : (pT).V (get b 109) w1 := hp 13 109 (by kernel_rfl) rfl
       exact st_move rfl ((want_is (N := 107) rfl rfl x107).trans rfl) rfl x109
      case s15 =>
       intro b w1 hb hp hu
       have x110 : (pT).V (get b 110) w1 := hp 14 110 (by kernel_rfl) rfl
       have x9 : (pB (t6)).V (get b 9) w1 := Pv.keep _ g8_9 (hu 9 (by kernel_rfl)) hb
       exact st_move rfl ((want_is (N := 110) rfl rfl x110).trans rfl) rfl x9
      case s16 =>
       intro b w1 hb hp hu
       have x110 : (pT).V (get b 110) w1 := hp 14 110 (by kernel_rfl) rfl
       have x111 : (pB (t6)).V (get b 111) w1 := hp 15 111 (by kernel_rfl) rfl
       obtain ⟨A_, c_, e_, _, _⟩ := x111
       exact st_len rfl ((want_is (N := 110) rfl rfl x110).trans rfl) rfl Try.underlying22 e_ rfl
      case s17 =>
       intro b w1 hb hp hu
       have x110 : (pT).V (get b 110) w1 := hp 14 110 (by kernel_rfl) rfl
       have x112 : (pI (((t6).length : Int))).V (get b 112) w1 := hp 16 112 (by kernel_rfl) rfl
       exact st_neq (b := true) (κ := .i64) (m := (((t6).length : Int))) (n := ((0 : Int))) rfl ((want_is (N := 110) rfl rfl x110).trans rfl) rfl x112 rfl (decide_eq_true c1010)
      case s18 =>
       intro b w1 hb hp hu
       have x107 : (pF).V (get b 107) w1 := hp 11 107 (by kernel_rfl) rfl
       have x110 : (pT).V (get b 110) w1 := hp 14 110 (by kernel_rfl) rfl
       have x113 : (pF).V (get b 113) w1 := hp 17 113 (by kernel_rfl) rfl
       exact st_pick (b := true) rfl ((want_is (N := 107) rfl rfl x107).trans rfl) rfl x110 x113
      case s19 =>
       intro b w1 hb hp hu
       have x107 : (pF).V (get b 107) w1 := hp 11 107 (by kernel_rfl) rfl
       have x114 : (pF).V (get b 114) w1 := hp 18 114 (by kernel_rfl) rfl
       exact st_pick (b := false) rfl (want0 rfl _) rfl x107 x114
      intro ac9 wo9 hn9 hd_ hb hv hs
      have g9_115 : (pF).V (get ac9 115) wo9 := hv 19 115 rfl
      have g9_7 : (pB (t4)).V (get ac9 7) wo9 := Pv.keep _ g8_7 (hs 7 rfl) hb
      have g9_8 : (pI (t5)).V (get ac9 8) wo9 := Pv.keep _ g8_8 (hs 8 rfl) hb
      have g9_4 : (pF).V (get ac9 4) wo9 := Pv.keep _ g8_4 (hs 4 rfl) hb
      have g9_0 : (pB (l0)).V (get ac9 0) wo9 := Pv.keep _ g8_0 (hs 0 rfl) hb
      have g9_1 : (pI (a1)).V (get ac9 1) wo9 := Pv.keep _ g8_1 (hs 1 rfl) hb
      have hB9 := below_step hB8 hb
      have hd9 := hd_.trans hd8
      clear hv hs hd_ hb hB8 hn8 hd8 g8_95 g8_9 g8_10 g8_7 g8_8 g8_4 g8_0 g8_1
      show Code.wp _ _ _ _ _
      refine wp_cond_false (show ac9.eval (Operand.tmp 115) = .bool false from g9_115) ?_
      refine wp_skip ?_
      show Code.wp _ _ _ _ _
      refine wp_seq ?_
      refine wp_seq ?_
      obtain ⟨hy, hn⟩ := h
      by_cases c1011 : wrap64 (((l0).length : Int) + a1) > (255 : Int)
      ·have h := hy c1011
       clear hy hn
       obtain ⟨c1012, h⟩ := h
       obtain ⟨c1013, h⟩ := h
       refine Reg.plain (T := wristbandlaw09_SolomonRight.T14) (D := wristbandlaw09_SolomonRight.D14) (n := 139) (by kernel_rfl) hn9 (told [pB (l0), pI (((l0).length : Int)), pI (a1), pI (wrap64 (((l0).length : Int) + a1)), pT]) (told_pst _) (owedS (owedS (owedS (owedS (owedS owed0 ?s0) ?s1) ?s2) ?s3) ?s4) ?_
       case s0 =>
        intro b w1 hb hp hu
        have x0 : (pB (l0)).V (get b 0) w1 := Pv.keep _ g9_0 (hu 0 (by kernel_rfl)) hb
        exact st_move rfl (want0 rfl _) rfl x0
       case s1 =>
        intro b w1 hb hp hu
        have x116 : (pB (l0)).V (get b 116) w1 := hp 0 116 (by kernel_rfl) rfl
        obtain ⟨A_, c_, e_, _, _⟩ := x116
        exact st_len rfl (want0 rfl _) rfl Try.underlying22 e_ rfl
       case s2 =>
        intro b w1 hb hp hu
        have x1 : (pI (a1)).V (get b 1) w1 := Pv.keep _ g9_1 (hu 1 (by kernel_rfl)) hb
        exact st_move rfl (want0 rfl _) rfl x1
       case s3 =>
        intro b w1 hb hp hu
        have x117 : (pI (((l0).length : Int))).V (get b 117) w1 := hp 1 117 (by kernel_rfl) rfl
        have x118 : (pI (a1)).V (get b 118) w1 := hp 2 118 (by kernel_rfl) rfl
        exact st_bin (v := .int .i64 (wrap64 (((l0).length : Int) + a1))) (vx := .int .i64 (((l0).length : Int))) (vy := .int .i64 (a1)) rfl (want0 rfl _) rfl x117 x118 (by first | rfl | (go_simp; first | done | rfl | (simp only [i64_w, i32_w]; done))) rfl
       case s4 =>
        intro b w1 hb hp hu
        have x119 : (pI (wrap64 (((l0).length : Int) + a1))).V (get b 119) w1 := hp 3 119 (by kernel_rfl) rfl
        exact st_gtr (b := true) (κ := .i64) (m := (wrap64 (((l0).length : Int) + a1))) (n := ((255 : Int))) rfl (want0 rfl _) rfl x119 rfl (decide_eq_true c1011)
       intro ac10 wo10 hn10 hd_ hb hv hs
       have g10_120 : (pT).V (get ac10 120) wo10 := hv 4 120 rfl
       have g10_7 : (pB (t4)).V (get ac10 7) wo10 := Pv.keep _ g9_7 (hs 7 rfl) hb
       have g10_8 : (pI (t5)).V (get ac10 8) wo10 := Pv.keep _ g9_8 (hs 8 rfl) hb
       have g10_4 : (pF).V (get ac10 4) wo10 := Pv.keep _ g9_4 (hs 4 rfl) hb
       have hB10 := below_step hB9 hb
       have hd10 := hd_.trans hd9
       clear hv hs hd_ hb hB9 hn9 hd9 g9_115 g9_7 g9_8 g9_4 g9_0 g9_1
       show Code.wp _ _ _ _ _
       refine wp_cond_true (show ac10.eval (Operand.tmp 120) = .bool true from g10_120) ?_
       refine wp_seq ?_
       refine Reg.plain (T := wristbandlaw09_SolomonRight.T15) (D := wristbandlaw09_SolomonRight.D15) (n := 139) (by kernel_rfl) hn10 (told [pI (t5), pT, pT, pB (t4), pI (((t4).length : Int)), pT, pT, pT]) (told_pst _) (owedS (owedS (owedS (owedS (owedS (owedS (owedS (owedS owed0 ?s0) ?s1) ?s2) ?s3) ?s4) ?s5) ?s6) ?s7) ?_
       case s0 =>
        intro b w1 hb hp hu
        have x8 : (pI (t5)).V (get b 8) w1 := Pv.keep _ g10_8 (hu 8 (by kernel_rfl)) hb
        exact st_move rfl (want0 rfl _) rfl x8
       case s1 =>
        intro b w1 hb hp hu
        have x121 : (pI (t5)).V (get b 121) w1 := hp 0 121 (by kernel_rfl) rfl
        exact st_eql (b := true) (κ := .i64) (m := t5) (n := ((4 : Int))) rfl (want0 rfl _) rfl x121 rfl (decide_eq_true c1012)
       case s2 =>
        intro b w1 hb hp hu
        have x122 : (pT).V (get b 122) w1 := hp 1 122 (by kernel_rfl) rfl
        exact st_move rfl (want0 rfl _) rfl x122
       case s3 =>
        intro b w1 hb hp hu
        have x123 : (pT).V (get b 123) w1 := hp 2 123 (by kernel_rfl) rfl
        have x7 : (pB (t4)).V (get b 7) w1 := Pv.keep _ g10_7 (hu 7 (by kernel_rfl)) hb
        exact st_move rfl ((want_is (N := 123) rfl rfl x123).trans rfl) rfl x7
       case s4 =>
        intro b w1 hb hp hu
        have x123 : (pT).V (get b 123) w1 := hp 2 123 (by kernel_rfl) rfl
        have x124 : (pB (t4)).V (get b 124) w1 := hp 3 124 (by kernel_rfl) rfl
        obtain ⟨A_, c_, e_, _, _⟩ := x124
        exact st_len rfl ((want_is (N := 123) rfl rfl x123).trans rfl) rfl Try.underlying22 e_ rfl
       case s5 =>
        intro b w1 hb hp hu
        have x123 : (pT).V (get b 123) w1 := hp 2 123 (by kernel_rfl) rfl
        have x125 : (pI (((t4).length : Int))).V (get b 125) w1 := hp 4 125 (by kernel_rfl) rfl
        exact st_eql (b := true) (κ := .i64) (m := (((t4).length : Int))) (n := ((0 : Int))) rfl ((want_is (N := 123) rfl rfl x123).trans rfl) rfl x125 rfl (decide_eq_true c1013)
       case s6 =>
        intro b w1 hb hp hu
        have x123 : (pT).V (get b 123) w1 := hp 2 123 (by kernel_rfl) rfl
        have x126 : (pT).V (get b 126) w1 := hp 5 126 (by kernel_rfl) rfl
        exact st_pick (b := true) rfl (want0 rfl _) rfl x123 x126
       case s7 =>
        intro b w1 hb hp hu
        have x127 : (pT).V (get b 127) w1 := hp 6 127 (by kernel_rfl) rfl
        exact st_assign rfl (want0 rfl _) rfl x127
       intro ac11 wo11 hn11 hd_ hb hv hs
       have g11_4 : (pT).V (get ac11 4) wo11 := hv 7 4 rfl
       have hB11 := below_step hB10 hb
       have hd11 := hd_.trans hd10
       clear hv hs hd_ hb hB10 hn10 hd10 g10_120 g10_7 g10_8 g10_4
       show Code.wp _ _ _ _ _
       refine wp_ret ?_
       repeat (refine then_ret ?_)
       exact back_is rfl hd11 g11_4 ⟨rfl, hB11⟩
      ·have h := hn c1011
       clear hy hn
       obtain ⟨c1012, h⟩ := h
       obtain ⟨t12, H9, h⟩ := h
       obtain ⟨c1013, h⟩ := h
       refine Reg.plain (T := wristbandlaw09_SolomonRight.T14) (D := wristbandlaw09_SolomonRight.D14) (n := 139) (by kernel_rfl) hn9 (told [pB (l0), pI (((l0).length : Int)), pI (a1), pI (wrap64 (((l0).length : Int) + a1)), pF]) (told_pst _) (owedS (owedS (owedS (owedS (owedS owed0 ?s0) ?s1) ?s2) ?s3) ?s4) ?_
       case s0 =>
        intro b w1 hb hp hu
        have x0 : (pB (l0)).V (get b 0) w1 := Pv.keep _ g9_0 (hu 0 (by kernel_rfl)) hb
        exact st_move rfl (want0 rfl _) rfl x0
       case s1 =>
        intro b w1 hb hp hu
        have x116 : (pB (l0)).V (get b 116) w1 := hp 0 116 (by kernel_rfl) rfl
        obtain ⟨A_, c_, e_, _, _⟩ := x116
        exact st_len rfl (want0 rfl _) rfl Try.underlying22 e_ rfl
       case s2 =>
        intro b w1 hb hp hu
        have x1 : (pI (a1)).V (get b 1) w1 := Pv.keep _ g9_1 (hu 1 (by kernel_rfl)) hb
        exact st_move rfl (want0 rfl _) rfl x1
       case s3 =>
        intro b w1 hb hp hu
        have x117 : (pI (((l0).length : Int))).V (get b 117) w1 := hp 1 117 (by kernel_rfl) rfl
        have x118 : (pI (a1)).V (get b 118) w1 := hp 2 118 (by kernel_rfl) rfl
        exact st_bin (v := .int .i64 (wrap64 (((l0).length : Int) + a1))) (vx := .int .i64 (((l0).length : Int))) (vy := .int .i64 (a1)) rfl (want0 rfl _) rfl x117 x118 (by first | rfl | (go_simp; first | done | rfl | (simp only [i64_w, i32_w]; done))) rfl
       case s4 =>
        intro b w1 hb hp hu
        have x119 : (pI (wrap64 (((l0).length : Int) + a1))).V (get b 119) w1 := hp 3 119 (by kernel_rfl) rfl
        exact st_gtr (b := false) (κ := .i64) (m := (wrap64 (((l0).length : Int) + a1))) (n := ((255 : Int))) rfl (want0 rfl _) rfl x119 rfl (decide_eq_false c1011)
       intro ac10 wo10 hn10 hd_ hb hv hs
       have g10_120 : (pF).V (get ac10 120) wo10 := hv 4 120 rfl
       have g10_7 : (pB (t4)).V (get ac10 7) wo10 := Pv.keep _ g9_7 (hs 7 rfl) hb
       have g10_8 : (pI (t5)).V (get ac10 8) wo10 := Pv.keep _ g9_8 (hs 8 rfl) hb
       have g10_4 : (pF).V (get ac10 4) wo10 := Pv.keep _ g9_4 (hs 4 rfl) hb
       have g10_0 : (pB (l0)).V (get ac10 0) wo10 := Pv.keep _ g9_0 (hs 0 rfl) hb
       have g10_1 : (pI (a1)).V (get ac10 1) wo10 := Pv.keep _ g9_1 (hs 1 rfl) hb
       have hB10 := below_step hB9 hb
       have hd10 := hd_.trans hd9
       clear hv hs hd_ hb hB9 hn9 hd9 g9_115 g9_7 g9_8 g9_4 g9_0 g9_1
       show Code.wp _ _ _ _ _
       refine wp_cond_false (show ac10.eval (Operand.tmp 120) = .bool false from g10_120) ?_
       refine wp_skip ?_
       show Code.wp _ _ _ _ _
       refine wp_seq ?_
       refine Reg.draws (T := wristbandlaw09_SolomonRight.T16) (D := wristbandlaw09_SolomonRight.D16) (n := 139) rfl (by kernel_rfl) hn10 (told [pI (t5), pT, pT, pB (t4), Pv.is (.string (strOfNums (t4))), pB (l0), pI (a1), pB (t12), Pv.is (.string (strOfNums (t12))), pT, pT, pT]) (told_pst _) (owedS (owedS (owedS (owedS (owedS (owedS (owedS (owedS (owedS (owedS (owedS (owedS owed0 ?s0) ?s1) ?s2) ?s3) ?s4) ?s5) ?s6) ?s7) ?s8) ?s9) ?s10) ?s11) ?_
       case s0 =>
        intro b w1 hb hp hu
        have x8 : (pI (t5)).V (get b 8) w1 := Pv.keep _ g10_8 (hu 8 (by kernel_rfl)) hb
        exact st_move rfl (want0 rfl _) rfl x8
       case s1 =>
        intro b w1 hb hp hu
        have x128 : (pI (t5)).V (get b 128) w1 := hp 0 128 (by kernel_rfl) rfl
        exact st_eql (b := true) (κ := .i64) (m := t5) (n := ((0 : Int))) rfl (want0 rfl _) rfl x128 rfl (decide_eq_true c1012)
       case s2 =>
        intro b w1 hb hp hu
        have x129 : (pT).V (get b 129) w1 := hp 1 129 (by kernel_rfl) rfl
        exact st_move rfl (want0 rfl _) rfl x129
       case s3 =>
        intro b w1 hb hp hu
        have x130 : (pT).V (get b 130) w1 := hp 2 130 (by kernel_rfl) rfl
        have x7 : (pB (t4)).V (get b 7) w1 := Pv.keep _ g10_7 (hu 7 (by kernel_rfl)) hb
        exact st_move rfl ((want_is (N := 130) rfl rfl x130).trans rfl) rfl x7
       case s4 =>
        intro b w1 hb hp hu
        have x130 : (pT).V (get b 130) w1 := hp 2 130 (by kernel_rfl) rfl
        have x131 : (pB (t4)).V (get b 131) w1 := hp 3 131 (by kernel_rfl) rfl
        exact st_string Try.underlying22 Try.underlying5 Try.underlying9 rfl ((want_is (N := 130) rfl rfl x130).trans rfl) rfl x131 rfl
       case s5 =>
        intro b w1 hb hp hu
        have x130 : (pT).V (get b 130) w1 := hp 2 130 (by kernel_rfl) rfl
        have x0 : (pB (l0)).V (get b 0) w1 := Pv.keep _ g10_0 (hu 0 (by kernel_rfl)) hb
        exact st_move rfl ((want_is (N := 130) rfl rfl x130).trans rfl) rfl x0
       case s6 =>
        intro b w1 hb hp hu
        have x130 : (pT).V (get b 130) w1 := hp 2 130 (by kernel_rfl) rfl
        have x1 : (pI (a1)).V (get b 1) w1 := Pv.keep _ g10_1 (hu 1 (by kernel_rfl)) hb
        exact st_move rfl ((want_is (N := 130) rfl rfl x130).trans rfl) rfl x1
       case s7 =>
        intro b w1 hb hp hu
        have x130 : (pT).V (get b 130) w1 := hp 2 130 (by kernel_rfl) rfl
        have x133 : (pB (l0)).V (get b 133) w1 := hp 5 133 (by kernel_rfl) rfl
        obtain ⟨B0, d0, e0_, hC0, hl0⟩ := x133
        have e0 : b.eval (Operand.tmp 133) = .slice B0 (l0).length d0 := e0_
        have x134 : (pI (a1)).V (get b 134) w1 := hp 6 134 (by kernel_rfl) rfl
        have e1 : b.eval (Operand.tmp 134) = .int .i64 (a1) := x134
        refine st_call rfl ((want_is (N := 130) rfl rfl x130).trans rfl) rfl Try.func36 (by kernel_rfl) rfl #[.slice B0 (l0).length d0, .int .i64 (a1)] (by simp only [List.map_toArray, List.map_cons, List.map_nil, e0, e1]) ?_
        refine (wristbandref09_Put.calls k B0 d0 _ _ _ w1 hC0 hl0 H9).mono ?_
        rintro e w2 ⟨v0_, rfl, ho0, hb2⟩
        exact ⟨_, rfl, Pv.of_sl ho0, hb2⟩
       case s8 =>
        intro b w1 hb hp hu
        have x130 : (pT).V (get b 130) w1 := hp 2 130 (by kernel_rfl) rfl
        have x135 : (pB (t12)).V (get b 135) w1 := hp 7 135 (by kernel_rfl) rfl
        exact st_string Try.underlying22 Try.underlying5 Try.underlying9 rfl ((want_is (N := 130) rfl rfl x130).trans rfl) rfl x135 rfl
       case s9 =>
        intro b w1 hb hp hu
        have x130 : (pT).V (get b 130) w1 := hp 2 130 (by kernel_rfl) rfl
        have x132 : (Pv.is (.string (strOfNums (t4)))).V (get b 132) w1 := hp 4 132 (by kernel_rfl) rfl
        have x136 : (Pv.is (.string (strOfNums (t12)))).V (get b 136) w1 := hp 8 136 (by kernel_rfl) rfl
        exact st_bin (v := .bool true) (vx := .string (strOfNums (t4))) (vy := .string (strOfNums (t12))) rfl ((want_is (N := 130) rfl rfl x130).trans rfl) rfl x132 x136 (by first | rfl | (have c_ := c1013; clear hb hp hu; go_simp; first | done | rfl | (simp [c_]; done) | (simp; omega))) rfl
       case s10 =>
        intro b w1 hb hp hu
        have x130 : (pT).V (get b 130) w1 := hp 2 130 (by kernel_rfl) rfl
        have x137 : (pT).V (get b 137) w1 := hp 9 137 (by kernel_rfl) rfl
        exact st_pick (b := true) rfl (want0 rfl _) rfl x130 x137
       case s11 =>
        intro b w1 hb hp hu
        have x138 : (pT).V (get b 138) w1 := hp 10 138 (by kernel_rfl) rfl
        exact st_assign rfl (want0 rfl _) rfl x138
       intro ac11 wo11 hn11 hd_ hb hv hs
       have g11_4 : (pT).V (get ac11 4) wo11 := hv 11 4 rfl
       have hB11 := below_step hB10 hb
       have hd11 := hd_.trans hd10
       clear hv hs hd_ hb hB10 hn10 hd10 g10_120 g10_7 g10_8 g10_4 g10_0 g10_1
       show Code.wp _ _ _ _ _
       refine wp_ret ?_
       repeat (refine then_ret ?_)
       exact back_is rfl hd11 g11_4 ⟨rfl, hB11⟩
    ·have h := hn c1007
     clear hy hn
     obtain ⟨t11, H8, h⟩ := h
     obtain ⟨c1008, h⟩ := h
     refine Reg.draws (T := wristbandlaw09_SolomonRight.T10) (D := wristbandlaw09_SolomonRight.D10) (n := 139) rfl (by kernel_rfl) hn7 (told [pI (t3), pF, pF, pB (t2), Pv.is (.string (strOfNums (t2))), pI (a1), pB (t8), Pv.is (.string (strOfNums (t8))), pF, pF, pF, pI (t7), pB (l0), pI (a1), pI (t9), pF, pF, pF, pB (l0), pI (a1), pF, pB (l0), pI (a1), pF, pF, pF]) (told_pst _) (owedS (owedS (owedS (owedS (owedS (owedS (owedS (owedS (owedS (owedS (owedS (owedS (owedS (owedS (owedS (owedS (owedS (owedS (owedS (owedS (owedS (owedS (owedS (owedS (owedS (owedS owed0 ?s0) ?s1) ?s2) ?s3) ?s4) ?s5) ?s6) ?s7) ?s8) ?s9) ?s10) ?s11) ?s12) ?s13) ?s14) ?s15) ?s16) ?s17) ?s18) ?s19) ?s20) ?s21) ?s22) ?s23) ?s24) ?s25) ?_
     case s0 =>
      intro b w1 hb hp hu
      have x6 : (pI (t3)).V (get b 6) w1 := Pv.keep _ g7_6 (hu 6 (by kernel_rfl)) hb
      exact st_move rfl (want0 rfl _) rfl x6
     case s1 =>
      intro b w1 hb hp hu
      have x70 : (pI (t3)).V (get b 70) w1 := hp 0 70 (by kernel_rfl) rfl
      exact st_neq (b := true) (κ := .i64) (m := t3) (n := ((0 : Int))) rfl (want0 rfl _) rfl x70 rfl (decide_eq_true c1004)
     case s2 =>
      intro b w1 hb hp hu
      have x71 : (pF).V (get b 71) w1 := hp 1 71 (by kernel_rfl) rfl
      exact st_move rfl (want0 rfl _) rfl x71
     case s3 =>
      intro b w1 hb hp hu
      have x72 : (pF).V (get b 72) w1 := hp 2 72 (by kernel_rfl) rfl
      have x5 : (pB (t2)).V (get b 5) w1 := Pv.keep _ g7_5 (hu 5 (by kernel_rfl)) hb
      exact st_move rfl ((want_is (N := 72) rfl rfl x72).trans rfl) rfl x5
     case s4 =>
      intro b w1 hb hp hu
      have x72 : (pF).V (get b 72) w1 := hp 2 72 (by kernel_rfl) rfl
      have x73 : (pB (t2)).V (get b 73) w1 := hp 3 73 (by kernel_rfl) rfl
      exact st_string Try.underlying22 Try.underlying5 Try.underlying9 rfl ((want_is (N := 72) rfl rfl x72).trans rfl) rfl x73 rfl
     case s5 =>
      intro b w1 hb hp hu
      have x72 : (pF).V (get b 72) w1 := hp 2 72 (by kernel_rfl) rfl
      have x1 : (pI (a1)).V (get b 1) w1 := Pv.keep _ g7_1 (hu 1 (by kernel_rfl)) hb
      exact st_move rfl ((want_is (N := 72) rfl rfl x72).trans rfl) rfl x1
     case s6 =>
      intro b w1 hb hp hu
      have x72 : (pF).V (get b 72) w1 := hp 2 72 (by kernel_rfl) rfl
      have x75 : (pI (a1)).V (get b 75) w1 := hp 5 75 (by kernel_rfl) rfl
      have e0 : b.eval (Operand.tmp 75) = .int .i64 (a1) := x75
      refine st_call rfl ((want_is (N := 72) rfl rfl x72).trans rfl) rfl Try.func32 (by kernel_rfl) rfl #[.int .i64 (a1)] (by simp only [List.map_toArray, List.map_cons, List.map_nil, e0]) ?_
      refine (wristbandref09_Gen.calls k _ _ w1  H5).mono ?_
      rintro e w2 ⟨v0_, rfl, ho0, hb2⟩
      exact ⟨_, rfl, Pv.of_sl ho0, hb2⟩
     case s7 =>
      intro b w1 hb hp hu
      have x72 : (pF).V (get b 72) w1 := hp 2 72 (by kernel_rfl) rfl
      have x76 : (pB (t8)).V (get b 76) w1 := hp 6 76 (by kernel_rfl) rfl
      exact st_string Try.underlying22 Try.underlying5 Try.underlying9 rfl ((want_is (N := 72) rfl rfl x72).trans rfl) rfl x76 rfl
     case s8 =>
      intro b w1 hb hp hu
      have x72 : (pF).V (get b 72) w1 := hp 2 72 (by kernel_rfl) rfl
      have x74 : (Pv.is (.string (strOfNums (t2)))).V (get b 74) w1 := hp 4 74 (by kernel_rfl) rfl
      have x77 : (Pv.is (.string (strOfNums (t8)))).V (get b 77) w1 := hp 7 77 (by kernel_rfl) rfl
      exact st_bin (v := .bool false) (vx := .string (strOfNums (t2))) (vy := .string (strOfNums (t8))) rfl ((want_is (N := 72) rfl rfl x72).trans rfl) rfl x74 x77 (by first | rfl | (have c_ := c1005; clear hb hp hu; go_simp; first | done | rfl | (simp [c_]; done) | (simp; omega))) rfl
     case s9 =>
      intro b w1 hb hp hu
      have x72 : (pF).V (get b 72) w1 := hp 2 72 (by kernel_rfl) rfl
      have x78 : (pF).V (get b 78) w1 := hp 8 78 (by kernel_rfl) rfl
      exact st_pick (b := false) rfl (want0 rfl _) rfl x72 x78
     case s10 =>
      intro b w1 hb hp hu
      have x79 : (pF).V (get b 79) w1 := hp 9 79 (by kernel_rfl) rfl
      exact st_move rfl (want0 rfl _) rfl x79
     case s11 =>
      intro b w1 hb hp hu
      have x80 : (pF).V (get b 80) w1 := hp 10 80 (by kernel_rfl) rfl
      have x10 : (pI (t7)).V (get b 10) w1 := Pv.keep _ g7_10 (hu 10 (by kernel_rfl)) hb
      exact st_move rfl ((want_is (N := 80) rfl rfl x80).trans rfl) rfl x10
     case s12 =>
      intro b w1 hb hp hu
      have x80 : (pF).V (get b 80) w1 := hp 10 80 (by kernel_rfl) rfl
      have x0 : (pB (l0)).V (get b 0) w1 := Pv.keep _ g7_0 (hu 0 (by kernel_rfl)) hb
      exact st_move rfl ((want_is (N := 80) rfl rfl x80).trans rfl) rfl x0
     case s13 =>
      intro b w1 hb hp hu
      have x80 : (pF).V (get b 80) w1 := hp 10 80 (by kernel_rfl) rfl
      have x1 : (pI (a1)).V (get b 1) w1 := Pv.keep _ g7_1 (hu 1 (by kernel_rfl)) hb
      exact st_move rfl ((want_is (N := 80) rfl rfl x80).trans rfl) rfl x1
     case s14 =>
      intro b w1 hb hp hu
      have x80 : (pF).V (get b 80) w1 := hp 10 80 (by kernel_rfl) rfl
      have x82 : (pB (l0)).V (get b 82) w1 := hp 12 82 (by kernel_rfl) rfl
      obtain ⟨B0, d0, e0_, hC0, hl0⟩ := x82
      have e0 : b.eval (Operand.tmp 82) = .slice B0 (l0).length d0 := e0_
      have x83 : (pI (a1)).V (get b 83) w1 := hp 13 83 (by kernel_rfl) rfl
      have e1 : b.eval (Operand.tmp 83) = .int .i64 (a1) := x83
      refine st_call rfl ((want_is (N := 80) rfl rfl x80).trans rfl) rfl Try.func33 (by kernel_rfl) rfl #[.slice B0 (l0).length d0, .int .i64 (a1)] (by simp only [List.map_toArray, List.map_cons, List.map_nil, e0, e1]) ?_
      refine (wristbandref09_Error.calls k B0 d0 _ _ _ w1 hC0 hl0 H6).mono ?_
      rintro e w2 ⟨rfl, hb2⟩
      exact ⟨_, rfl, rfl, (below_of_drawn hb2)⟩
     case s15 =>
      intro b w1 hb hp hu
      have x80 : (pF).V (get b 80) w1 := hp 10 80 (by kernel_rfl) rfl
      have x81 : (pI (t7)).V (get b 81) w1 := hp 11 81 (by kernel_rfl) rfl
      have x84 : (pI (t9)).V (get b 84) w1 := hp 14 84 (by kernel_rfl) rfl
      exact st_neq (b := true) (κ := .i64) (m := t7) (n := t9) rfl ((want_is (N := 80) rfl rfl x80).trans rfl) rfl x81 x84 (decide_eq_true c1006)
     case s16 =>
      intro b w1 hb hp hu
      have x80 : (pF).V (get b 80) w1 := hp 10 80 (by kernel_rfl) rfl
      have x85 : (pF).V (get b 85) w1 := hp 15 85 (by kernel_rfl) rfl
      exact st_pick (b := false) rfl (want0 rfl _) rfl x80 x85
     case s17 =>
      intro b w1 hb hp hu
      have x86 : (pF).V (get b 86) w1 := hp 16 86 (by kernel_rfl) rfl
      exact st_move rfl (want0 rfl _) rfl x86
     case s18 =>
      intro b w1 hb hp hu
      have x87 : (pF).V (get b 87) w1 := hp 17 87 (by kernel_rfl) rfl
      have x0 : (pB (l0)).V (get b 0) w1 := Pv.keep _ g7_0 (hu 0 (by kernel_rfl)) hb
      exact st_move rfl ((want_is (N := 87) rfl rfl x87).trans rfl) rfl x0
     case s19 =>
      intro b w1 hb hp hu
      have x87 : (pF).V (get b 87) w1 := hp 17 87 (by kernel_rfl) rfl
      have x1 : (pI (a1)).V (get b 1) w1 := Pv.keep _ g7_1 (hu 1 (by kernel_rfl)) hb
      exact st_move rfl ((want_is (N := 87) rfl rfl x87).trans rfl) rfl x1
     case s20 =>
      intro b w1 hb hp hu
      have x87 : (pF).V (get b 87) w1 := hp 17 87 (by kernel_rfl) rfl
      have x88 : (pB (l0)).V (get b 88) w1 := hp 18 88 (by kernel_rfl) rfl
      obtain ⟨B0, d0, e0_, hC0, hl0⟩ := x88
      have e0 : b.eval (Operand.tmp 88) = .slice B0 (l0).length d0 := e0_
      have x89 : (pI (a1)).V (get b 89) w1 := hp 19 89 (by kernel_rfl) rfl
      have e1 : b.eval (Operand.tmp 89) = .int .i64 (a1) := x89
      refine st_call rfl ((want_is (N := 87) rfl rfl x87).trans rfl) rfl Try.func31 (by kernel_rfl) rfl #[.slice B0 (l0).length d0, .int .i64 (a1)] (by simp only [List.map_toArray, List.map_cons, List.map_nil, e0, e1]) ?_
      refine (solomon_Fine.calls k B0 d0 _ _ _ w1 hC0 hl0 H7).mono ?_
      rintro e w2 ⟨rfl, hb2⟩
      exact ⟨_, rfl, (show (Pv.is (.bool false)).V (.bool t10) w2 from by rw [Bool.eq_false_iff.mpr c1007]; first | done | exact rfl), hb2⟩
     case s21 =>
      intro b w1 hb hp hu
      have x87 : (pF).V (get b 87) w1 := hp 17 87 (by kernel_rfl) rfl
      have x0 : (pB (l0)).V (get b 0) w1 := Pv.keep _ g7_0 (hu 0 (by kernel_rfl)) hb
      exact st_move rfl ((want_is (N := 87) rfl rfl x87).trans rfl) rfl x0
     case s22 =>
      intro b w1 hb hp hu
      have x87 : (pF).V (get b 87) w1 := hp 17 87 (by kernel_rfl) rfl
      have x1 : (pI (a1)).V (get b 1) w1 := Pv.keep _ g7_1 (hu 1 (by kernel_rfl)) hb
      exact st_move rfl ((want_is (N := 87) rfl rfl x87).trans rfl) rfl x1
     case s23 =>
      intro b w1 hb hp hu
      have x87 : (pF).V (get b 87) w1 := hp 17 87 (by kernel_rfl) rfl
      have x91 : (pB (l0)).V (get b 91) w1 := hp 21 91 (by kernel_rfl) rfl
      obtain ⟨B0, d0, e0_, hC0, hl0⟩ := x91
      have e0 : b.eval (Operand.tmp 91) = .slice B0 (l0).length d0 := e0_
      have x92 : (pI (a1)).V (get b 92) w1 := hp 22 92 (by kernel_rfl) rfl
      have e1 : b.eval (Operand.tmp 92) = .int .i64 (a1) := x92
      refine st_call rfl ((want_is (N := 87) rfl rfl x87).trans rfl) rfl Try.func34 (by kernel_rfl) rfl #[.slice B0 (l0).length d0, .int .i64 (a1)] (by simp only [List.map_toArray, List.map_cons, List.map_nil, e0, e1]) ?_
      refine (wristbandref09_Fine.calls k B0 d0 _ _ _ w1 hC0 hl0 H8).mono ?_
      rintro e w2 ⟨rfl, hb2⟩
      exact ⟨_, rfl, (show (Pv.is (.bool false)).V (.bool t11) w2 from by rw [Bool.eq_false_iff.mpr c1008]; first | done | exact rfl), hb2⟩
     case s24 =>
      intro b w1 hb hp hu
      have x87 : (pF).V (get b 87) w1 := hp 17 87 (by kernel_rfl) rfl
      have x90 : (pF).V (get b 90) w1 := hp 20 90 (by kernel_rfl) rfl
      have x93 : (pF).V (get b 93) w1 := hp 23 93 (by kernel_rfl) rfl
      exact st_bin (v := .bool false) (vx := .bool false) (vy := .bool false) rfl ((want_is (N := 87) rfl rfl x87).trans rfl) rfl x90 x93 (by first | rfl | (go_simp; first | done | rfl | (simp only [i64_w, i32_w]; done))) rfl
     case s25 =>
      intro b w1 hb hp hu
      have x87 : (pF).V (get b 87) w1 := hp 17 87 (by kernel_rfl) rfl
      have x94 : (pF).V (get b 94) w1 := hp 24 94 (by kernel_rfl) rfl
      exact st_pick (b := false) rfl (want0 rfl _) rfl x87 x94
     intro ac8 wo8 hn8 hd_ hb hv hs
     have g8_95 : (pF).V (get ac8 95) wo8 := hv 25 95 rfl
     have g8_9 : (pB (t6)).V (get ac8 9) wo8 := Pv.keep _ g7_9 (hs 9 rfl) hb
     have g8_10 : (pI (t7)).V (get ac8 10) wo8 := Pv.keep _ g7_10 (hs 10 rfl) hb
     have g8_7 : (pB (t4)).V (get ac8 7) wo8 := Pv.keep _ g7_7 (hs 7 rfl) hb
     have g8_8 : (pI (t5)).V (get ac8 8) wo8 := Pv.keep _ g7_8 (hs 8 rfl) hb
     have g8_4 : (pF).V (get ac8 4) wo8 := Pv.keep _ g7_4 (hs 4 rfl) hb
     have g8_0 : (pB (l0)).V (get ac8 0) wo8 := Pv.keep _ g7_0 (hs 0 rfl) hb
     have g8_1 : (pI (a1)).V (get ac8 1) wo8 := Pv.keep _ g7_1 (hs 1 rfl) hb
     have hB8 := below_step hB7 hb
     have hd8 := hd_.trans hd7
     clear hv hs hd_ hb hB7 hn7 hd7 g7_38 g7_9 g7_10 g7_7 g7_8 g7_5 g7_6 g7_4 g7_0 g7_1
     show Code.wp _ _ _ _ _
     refine wp_cond_false (show ac8.eval (Operand.tmp 95) = .bool false from g8_95) ?_
     refine wp_skip ?_
     show Code.wp _ _ _ _ _
     refine wp_seq ?_
     refine wp_seq ?_
     obtain ⟨hy, hn⟩ := h
     by_cases c1009 : t7 = (0 : Int)
     ·have h := hy c1009
      clear hy hn
      obtain ⟨t12, H9, h⟩ := h
      obtain ⟨c1010, h⟩ := h
      refine Reg.draws (T := wristbandlaw09_SolomonRight.T12) (D := wristbandlaw09_SolomonRight.D12) (n := 139) rfl (by kernel_rfl) hn8 (told [pI (t7), pT, pT, pB (t6), Pv.is (.string (strOfNums (t6))), pB (l0), pI (a1), pB (t12), Pv.is (.string (strOfNums (t12))), pF, pF, pF, pI (t7), pF, pF, Pv.is (undef), Pv.is (undef), Pv.is (undef), pF, pF]) (told_pst _) (owedS (owedS (owedS (owedS (owedS (owedS (owedS (owedS (owedS (owedS (owedS (owedS (owedS (owedS (owedS (owedS (owedS (owedS (owedS (owedS owed0 ?s0) ?s1) ?s2) ?s3) ?s4) ?s5) ?s6) ?s7) ?s8) ?s9) ?s10) ?s11) ?s12) ?s13) ?s14) ?s15) ?s16) ?s17) ?s18) ?s19) ?_
      case s0 =>
       intro b w1 hb hp hu
       have x10 : (pI (t7)).V (get b 10) w1 := Pv.keep _ g8_10 (hu 10 (by kernel_rfl)) hb
       exact st_move rfl (want0 rfl _) rfl x10
      case s1 =>
       intro b w1 hb hp hu
       have x96 : (pI (t7)).V (get b 96) w1 := hp 0 96 (by kernel_rfl) rfl
       exact st_eql (b := true) (κ := .i64) (m := t7) (n := ((0 : Int))) rfl (want0 rfl _) rfl x96 rfl (decide_eq_true c1009)
      case s2 =>
       intro b w1 hb hp hu
       have x97 : (pT).V (get b 97) w1 := hp 1 97 (by kernel_rfl) rfl
       exact st_move rfl (want0 rfl _) rfl x97
      case s3 =>
       intro b w1 hb hp hu
       have x98 : (pT).V (get b 98) w1 := hp 2 98 (by kernel_rfl) rfl
       have x9 : (pB (t6)).V (get b 9) w1 := Pv.keep _ g8_9 (hu 9 (by kernel_rfl)) hb
       exact st_move rfl ((want_is (N := 98) rfl rfl x98).trans rfl) rfl x9
      case s4 =>
       intro b w1 hb hp hu
       have x98 : (pT).V (get b 98) w1 := hp 2 98 (by kernel_rfl) rfl
       have x99 : (pB (t6)).V (get b 99) w1 := hp 3 99 (by kernel_rfl) rfl
       exact st_string Try.underlying22 Try.underlying5 Try.underlying9 rfl ((want_is (N := 98) rfl rfl x98).trans rfl) rfl x99 rfl
      case s5 =>
       intro b w1 hb hp hu
       have x98 : (pT).V (get b 98) w1 := hp 2 98 (by kernel_rfl) rfl
       have x0 : (pB (l0)).V (get b 0) w1 := Pv.keep _ g8_0 (hu 0 (by kernel_rfl)) hb
       exact st_move rfl ((want_is (N := 98) rfl rfl x98).trans rfl) rfl x0
      case s6 =>
       intro b w1 hb hp hu
       have x98 : (pT).V (get b 98) w1 := hp 2 98 (by kernel_rfl) rfl
       have x1 : (pI (a1)).V (get b 1) w1 := Pv.keep _ g8_1 (hu 1 (by kernel_rfl)) hb
       exact st_move rfl ((want_is (N := 98) rfl rfl x98).trans rfl) rfl x1
      case s7 =>
       intro b w1 hb hp hu
       have x98 : (pT).V (get b 98) w1 := hp 2 98 (by kernel_rfl) rfl
       have x101 : (pB (l0)).V (get b 101) w1 := hp 5 101 (by kernel_rfl) rfl
       obtain ⟨B0, d0, e0_, hC0, hl0⟩ := x101
       have e0 : b.eval (Operand.tmp 101) = .slice B0 (l0).length d0 := e0_
       have x102 : (pI (a1)).V (get b 102) w1 := hp 6 102 (by kernel_rfl) rfl
       have e1 : b.eval (Operand.tmp 102) = .int .i64 (a1) := x102
       refine st_call rfl ((want_is (N := 98) rfl rfl x98).trans rfl) rfl Try.func35 (by kernel_rfl) rfl #[.slice B0 (l0).length d0, .int .i64 (a1)] (by simp only [List.map_toArray, List.map_cons, List.map_nil, e0, e1]) ?_
       refine (wristbandref09_Signs.calls k B0 d0 _ _ _ w1 hC0 hl0 H9).mono ?_
       rintro e w2 ⟨v0_, rfl, ho0, hb2⟩
       exact ⟨_, rfl, Pv.of_sl ho0, hb2⟩
      case s8 =>
       intro b w1 hb hp hu
       have x98 : (pT).V (get b 98) w1 := hp 2 98 (by kernel_rfl) rfl
       have x103 : (pB (t12)).V (get b 103) w1 := hp 7 103 (by kernel_rfl) rfl
       exact st_string Try.underlying22 Try.underlying5 Try.underlying9 rfl ((want_is (N := 98) rfl rfl x98).trans rfl) rfl x103 rfl
      case s9 =>
       intro b w1 hb hp hu
       have x98 : (pT).V (get b 98) w1 := hp 2 98 (by kernel_rfl) rfl
       have x100 : (Pv.is (.string (strOfNums (t6)))).V (get b 100) w1 := hp 4 100 (by kernel_rfl) rfl
       have x104 : (Pv.is (.string (strOfNums (t12)))).V (get b 104) w1 := hp 8 104 (by kernel_rfl) rfl
       exact st_bin (v := .bool false) (vx := .string (strOfNums (t6))) (vy := .string (strOfNums (t12))) rfl ((want_is (N := 98) rfl rfl x98).trans rfl) rfl x100 x104 (by first | rfl | (have c_ := c1010; clear hb hp hu; go_simp; first | done | rfl | (simp [c_]; done) | (simp; omega))) rfl
      case s10 =>
       intro b w1 hb hp hu
       have x98 : (pT).V (get b 98) w1 := hp 2 98 (by kernel_rfl) rfl
       have x105 : (pF).V (get b 105) w1 := hp 9 105 (by kernel_rfl) rfl
       exact st_pick (b := true) rfl (want0 rfl _) rfl x98 x105
      case s11 =>
       intro b w1 hb hp hu
       have x106 : (pF).V (get b 106) w1 := hp 10 106 (by kernel_rfl) rfl
       exact st_move rfl (want0 rfl _) rfl x106
      case s12 =>
       intro b w1 hb hp hu
       have x107 : (pF).V (get b 107) w1 := hp 11 107 (by kernel_rfl) rfl
       have x10 : (pI (t7)).V (get b 10) w1 := Pv.keep _ g8_10 (hu 10 (by kernel_rfl)) hb
       exact st_move rfl ((want_is (N := 107) rfl rfl x107).trans rfl) rfl x10
      case s13 =>
       intro b w1 hb hp hu
       have x107 : (pF).V (get b 107) w1 := hp 11 107 (by kernel_rfl) rfl
       have x108 : (pI (t7)).V (get b 108) w1 := hp 12 108 (by kernel_rfl) rfl
       exact st_neq (b := true) (κ := .i64) (m := t7) (n := ((0 : Int))) rfl ((want_is (N := 107) rfl rfl x107).trans rfl) rfl x108 rfl (decide_eq_true c1009)
      case s14 =>
       intro b w1 hb hp hu
       have x107 : (pF).V (get b 107) w1 := hp 11 107 (by kernel_rfl) rfl
       have x109 : (pF).V (get b 109) w1 := hp 13 109 (by kernel_rfl) rfl
       exact st_move rfl ((want_is (N := 107) rfl rfl x107).trans rfl) rfl x109
      case s15 =>
       intro b w1 hb hp hu
       have x110 : (pF).V (get b 110) w1 := hp 14 110 (by kernel_rfl) rfl
       exact st_off rfl ((want_is (N := 110) rfl rfl x110).trans rfl) rfl
      case s16 =>
       intro b w1 hb hp hu
       have x110 : (pF).V (get b 110) w1 := hp 14 110 (by kernel_rfl) rfl
       exact st_off rfl ((want_is (N := 110) rfl rfl x110).trans rfl) rfl
      case s17 =>
       intro b w1 hb hp hu
       have x110 : (pF).V (get b 110) w1 := hp 14 110 (by kernel_rfl) rfl
       exact st_off rfl ((want_is (N := 110) rfl rfl x110).trans rfl) rfl
      case s18 =>
       intro b w1 hb hp hu
       have x107 : (pF).V (get b 107) w1 := hp 11 107 (by kernel_rfl) rfl
       have x110 : (pF).V (get b 110) w1 := hp 14 110 (by kernel_rfl) rfl
       exact st_pick (b := false) rfl ((want_is (N := 107) rfl rfl x107).trans rfl) rfl x110 rfl
      case s19 =>
       intro b w1 hb hp hu
       have x107 : (pF).V (get b 107) w1 := hp 11 107 (by kernel_rfl) rfl
       have x114 : (pF).V (get b 114) w1 := hp 18 114 (by kernel_rfl) rfl
       exact st_pick (b := false) rfl (want0 rfl _) rfl x107 x114
      intro ac9 wo9 hn9 hd_ hb hv hs
      have g9_115 : (pF).V (get ac9 115) wo9 := hv 19 115 rfl
      have g9_7 : (pB (t4)).V (get ac9 7) wo9 := Pv.keep _ g8_7 (hs 7 rfl) hb
      have g9_8 : (pI (t5)).V (get ac9 8) wo9 := Pv.keep _ g8_8 (hs 8 rfl) hb
      have g9_4 : (pF).V (get ac9 4) wo9 := Pv.keep _ g8_4 (hs 4 rfl) hb
      have g9_0 : (pB (l0)).V (get ac9 0) wo9 := Pv.keep _ g8_0 (hs 0 rfl) hb
      have g9_1 : (pI (a1)).V (get ac9 1) wo9 := Pv.keep _ g8_1 (hs 1 rfl) hb
      have hB9 := below_step hB8 hb
      have hd9 := hd_.trans hd8
      clear hv hs hd_ hb hB8 hn8 hd8 g8_95 g8_9 g8_10 g8_7 g8_8 g8_4 g8_0 g8_1
      show Code.wp _ _ _ _ _
      refine wp_cond_false (show ac9.eval (Operand.tmp 115) = .bool false from g9_115) ?_
      refine wp_skip ?_
      show Code.wp _ _ _ _ _
      refine wp_seq ?_
      refine wp_seq ?_
      obtain ⟨hy, hn⟩ := h
      by_cases c1011 : wrap64 (((l0).length : Int) + a1) > (255 : Int)
      ·have h := hy c1011
       clear hy hn
       obtain ⟨c1012, h⟩ := h
       obtain ⟨c1013, h⟩ := h
       refine Reg.plain (T := wristbandlaw09_SolomonRight.T14) (D := wristbandlaw09_SolomonRight.D14) (n := 139) (by kernel_rfl) hn9 (told [pB (l0), pI (((l0).length : Int)), pI (a1), pI (wrap64 (((l0).length : Int) + a1)), pT]) (told_pst _) (owedS (owedS (owedS (owedS (owedS owed0 ?s0) ?s1) ?s2) ?s3) ?s4) ?_
       case s0 =>
        intro b w1 hb hp hu
        have x0 : (pB (l0)).V (get b 0) w1 := Pv.keep _ g9_0 (hu 0 (by kernel_rfl)) hb
        exact st_move rfl (want0 rfl _) rfl x0
       case s1 =>
        intro b w1 hb hp hu
        have x116 : (pB (l0)).V (get b 116) w1 := hp 0 116 (by kernel_rfl) rfl
        obtain ⟨A_, c_, e_, _, _⟩ := x116
        exact st_len rfl (want0 rfl _) rfl Try.underlying22 e_ rfl
       case s2 =>
        intro b w1 hb hp hu
        have x1 : (pI (a1)).V (get b 1) w1 := Pv.keep _ g9_1 (hu 1 (by kernel_rfl)) hb
        exact st_move rfl (want0 rfl _) rfl x1
       case s3 =>
        intro b w1 hb hp hu
        have x117 : (pI (((l0).length : Int))).V (get b 117) w1 := hp 1 117 (by kernel_rfl) rfl
        have x118 : (pI (a1)).V (get b 118) w1 := hp 2 118 (by kernel_rfl) rfl
        exact st_bin (v := .int .i64 (wrap64 (((l0).length : Int) + a1))) (vx := .int .i64 (((l0).length : Int))) (vy := .int .i64 (a1)) rfl (want0 rfl _) rfl x117 x118 (by first | rfl | (go_simp; first | done | rfl | (simp only [i64_w, i32_w]; done))) rfl
       case s4 =>
        intro b w1 hb hp hu
        have x119 : (pI (wrap64 (((l0).length : Int) + a1))).V (get b 119) w1 := hp 3 119 (by kernel_rfl) rfl
        exact st_gtr (b := true) (κ := .i64) (m := (wrap64 (((l0).length : Int) + a1))) (n := ((255 : Int))) rfl (want0 rfl _) rfl x119 rfl (decide_eq_true c1011)
       intro ac10 wo10 hn10 hd_ hb hv hs
       have g10_120 : (pT).V (get ac10 120) wo10 := hv 4 120 rfl
       have g10_7 : (pB (t4)).V (get ac10 7) wo10 := Pv.keep _ g9_7 (hs 7 rfl) hb
       have g10_8 : (pI (t5)).V (get ac10 8) wo10 := Pv.keep _ g9_8 (hs 8 rfl) hb
       have g10_4 : (pF).V (get ac10 4) wo10 := Pv.keep _ g9_4 (hs 4 rfl) hb
       have hB10 := below_step hB9 hb
       have hd10 := hd_.trans hd9
       clear hv hs hd_ hb hB9 hn9 hd9 g9_115 g9_7 g9_8 g9_4 g9_0 g9_1
       show Code.wp _ _ _ _ _
       refine wp_cond_true (show ac10.eval (Operand.tmp 120) = .bool true from g10_120) ?_
       refine wp_seq ?_
       refine Reg.plain (T := wristbandlaw09_SolomonRight.T15) (D := wristbandlaw09_SolomonRight.D15) (n := 139) (by kernel_rfl) hn10 (told [pI (t5), pT, pT, pB (t4), pI (((t4).length : Int)), pT, pT, pT]) (told_pst _) (owedS (owedS (owedS (owedS (owedS (owedS (owedS (owedS owed0 ?s0) ?s1) ?s2) ?s3) ?s4) ?s5) ?s6) ?s7) ?_
       case s0 =>
        intro b w1 hb hp hu
        have x8 : (pI (t5)).V (get b 8) w1 := Pv.keep _ g10_8 (hu 8 (by kernel_rfl)) hb
        exact st_move rfl (want0 rfl _) rfl x8
       case s1 =>
        intro b w1 hb hp hu
        have x121 : (pI (t5)).V (get b 121) w1 := hp 0 121 (by kernel_rfl) rfl
        exact st_eql (b := true) (κ := .i64) (m := t5) (n := ((4 : Int))) rfl (want0 rfl _) rfl x121 rfl (decide_eq_true c1012)
       case s2 =>
        intro b w1 hb hp hu
        have x122 : (pT).V (get b 122) w1 := hp 1 122 (by kernel_rfl) rfl
        exact st_move rfl (want0 rfl _) rfl x122
       case s3 =>
        intro b w1 hb hp hu
        have x123 : (pT).V (get b 123) w1 := hp 2 123 (by kernel_rfl) rfl
        have x7 : (pB (t4)).V (get b 7) w1 := Pv.keep _ g10_7 (hu 7 (by kernel_rfl)) hb
        exact st_move rfl ((want_is (N := 123) rfl rfl x123).trans rfl) rfl x7
       case s4 =>
        intro b w1 hb hp hu
        have x123 : (pT).V (get b 123) w1 := hp 2 123 (by kernel_rfl) rfl
        have x124 : (pB (t4)).V (get b 124) w1 := hp 3 124 (by kernel_rfl) rfl
        obtain ⟨A_, c_, e_, _, _⟩ := x124
        exact st_len rfl ((want_is (N := 123) rfl rfl x123).trans rfl) rfl Try.underlying22 e_ rfl
       case s5 =>
        intro b w1 hb hp hu
        have x123 : (pT).V (get b 123) w1 := hp 2 123 (by kernel_rfl) rfl
        have x125 : (pI (((t4).length : Int))).V (get b 125) w1 := hp 4 125 (by kernel_rfl) rfl
        exact st_eql (b := true) (κ := .i64) (m := (((t4).length : Int))) (n := ((0 : Int))) rfl ((want_is (N := 123) rfl rfl x123).trans rfl) rfl x125 rfl (decide_eq_true c1013)
       case s6 =>
        intro b w1 hb hp hu
        have x123 : (pT).V (get b 123) w1 := hp 2 123 (by kernel_rfl) rfl
        have x126 : (pT).V (get b 126) w1 := hp 5 126 (by kernel_rfl) rfl
        exact st_pick (b := true) rfl (want0 rfl _) rfl x123 x126
       case s7 =>
        intro b w1 hb hp hu
        have x127 : (pT).V (get b 127) w1 := hp 6 127 (by kernel_rfl) rfl
        exact st_assign rfl (want0 rfl _) rfl x127
       intro ac11 wo11 hn11 hd_ hb hv hs
       have g11_4 : (pT).V (get ac11 4) wo11 := hv 7 4 rfl
       have hB11 := below_step hB10 hb
       have hd11 := hd_.trans hd10
       clear hv hs hd_ hb hB10 hn10 hd10 g10_120 g10_7 g10_8 g10_4
       show Code.wp _ _ _ _ _
       refine wp_ret ?_
       repeat (refine then_ret ?_)
       exact back_is rfl hd11 g11_4 ⟨rfl, hB11⟩
      ·have h := hn c1011
       clear hy hn
       obtain ⟨c1012, h⟩ := h
       obtain ⟨t13, H10, h⟩ := h
       obtain ⟨c1013, h⟩ := h
       refine Reg.plain (T := wristbandlaw09_SolomonRight.T14) (D := wristbandlaw09_SolomonRight.D14) (n := 139) (by kernel_rfl) hn9 (told [pB (l0), pI (((l0).length : Int)), pI (a1), pI (wrap64 (((l0).length : Int) + a1)), pF]) (told_pst _) (owedS (owedS (owedS (owedS (owedS owed0 ?s0) ?s1) ?s2) ?s3) ?s4) ?_
       case s0 =>
        intro b w1 hb hp hu
        have x0 : (pB (l0)).V (get b 0) w1 := Pv.keep _ g9_0 (hu 0 (by kernel_rfl)) hb
        exact st_move rfl (want0 rfl _) rfl x0
       case s1 =>
        intro b w1 hb hp hu
        have x116 : (pB (l0)).V (get b 116) w1 := hp 0 116 (by kernel_rfl) rfl
        obtain ⟨A_, c_, e_, _, _⟩ := x116
        exact st_len rfl (want0 rfl _) rfl Try.underlying22 e_ rfl
       case s2 =>
        intro b w1 hb hp hu
        have x1 : (pI (a1)).V (get b 1) w1 := Pv.keep _ g9_1 (hu 1 (by kernel_rfl)) hb
        exact st_move rfl (want0 rfl _) rfl x1
       case s3 =>
        intro b w1 hb hp hu
        have x117 : (pI (((l0).length : Int))).V (get b 117) w1 := hp 1 117 (by kernel_rfl) rfl
        have x118 : (pI (a1)).V (get b 118) w1 := hp 2 118 (by kernel_rfl) rfl
        exact st_bin (v := .int .i64 (wrap64 (((l0).length : Int) + a1))) (vx := .int .i64 (((l0).length : Int))) (vy := .int .i64 (a1)) rfl (want0 rfl _) rfl x117 x118 (by first | rfl | (go_simp; first | done | rfl | (simp only [i64_w, i32_w]; done))) rfl
       case s4 =>
        intro b w1 hb hp hu
        have x119 : (pI (wrap64 (((l0).length : Int) + a1))).V (get b 119) w1 := hp 3 119 (by kernel_rfl) rfl
        exact st_gtr (b := false) (κ := .i64) (m := (wrap64 (((l0).length : Int) + a1))) (n := ((255 : Int))) rfl (want0 rfl _) rfl x119 rfl (decide_eq_false c1011)
       intro ac10 wo10 hn10 hd_ hb hv hs
       have g10_120 : (pF).V (get ac10 120) wo10 := hv 4 120 rfl
       have g10_7 : (pB (t4)).V (get ac10 7) wo10 := Pv.keep _ g9_7 (hs 7 rfl) hb
       have g10_8 : (pI (t5)).V (get ac10 8) wo10 := Pv.keep _ g9_8 (hs 8 rfl) hb
       have g10_4 : (pF).V (get ac10 4) wo10 := Pv.keep _ g9_4 (hs 4 rfl) hb
       have g10_0 : (pB (l0)).V (get ac10 0) wo10 := Pv.keep _ g9_0 (hs 0 rfl) hb
       have g10_1 : (pI (a1)).V (get ac10 1) wo10 := Pv.keep _ g9_1 (hs 1 rfl) hb
       have hB10 := below_step hB9 hb
       have hd10 := hd_.trans hd9
       clear hv hs hd_ hb hB9 hn9 hd9 g9_115 g9_7 g9_8 g9_4 g9_0 g9_1
       show Code.wp _ _ _ _ _
       refine wp_cond_false (show ac10.eval (Operand.tmp 120) = .bool false from g10_120) ?_
       refine wp_skip ?_
       show Code.wp _ _ _ _ _
       refine wp_seq ?_
       refine Reg.draws (T := wristbandlaw09_SolomonRight.T16) (D := wristbandlaw09_SolomonRight.D16) (n := 139) rfl (by kernel_rfl) hn10 (told [pI (t5), pT, pT, pB (t4), Pv.is (.string (strOfNums (t4))), pB (l0), pI (a1), pB (t13), Pv.is (.string (strOfNums (t13))), pT, pT, pT]) (told_pst _) (owedS (owedS (owedS (owedS (owedS (owedS (owedS (owedS (owedS (owedS (owedS (owedS owed0 ?s0) ?s1) ?s2) ?s3) ?s4) ?s5) ?s6) ?s7) ?s8) ?s9) ?s10) ?s11) ?_
       case s0 =>
        intro b w1 hb hp hu
        have x8 : (pI (t5)).V (get b 8) w1 := Pv.keep _ g10_8 (hu 8 (by kernel_rfl)) hb
        exact st_move rfl (want0 rfl _) rfl x8
       case s1 =>
        intro b w1 hb hp hu
        have x128 : (pI (t5)).V (get b 128) w1 := hp 0 128 (by kernel_rfl) rfl
        exact st_eql (b := true) (κ := .i64) (m := t5) (n := ((0 : Int))) rfl (want0 rfl _) rfl x128 rfl (decide_eq_true c1012)
       case s2 =>
        intro b w1 hb hp hu
        have x129 : (pT).V (get b 129) w1 := hp 1 129 (by kernel_rfl) rfl
        exact st_move rfl (want0 rfl _) rfl x129
       case s3 =>
        intro b w1 hb hp hu
        have x130 : (pT).V (get b 130) w1 := hp 2 130 (by kernel_rfl) rfl
        have x7 : (pB (t4)).V (get b 7) w1 := Pv.keep _ g10_7 (hu 7 (by kernel_rfl)) hb
        exact st_move rfl ((want_is (N := 130) rfl rfl x130).trans rfl) rfl x7
       case s4 =>
        intro b w1 hb hp hu
        have x130 : (pT).V (get b 130) w1 := hp 2 130 (by kernel_rfl) rfl
        have x131 : (pB (t4)).V (get b 131) w1 := hp 3 131 (by kernel_rfl) rfl
        exact st_string Try.underlying22 Try.underlying5 Try.underlying9 rfl ((want_is (N := 130) rfl rfl x130).trans rfl) rfl x131 rfl
       case s5 =>
        intro b w1 hb hp hu
        have x130 : (pT).V (get b 130) w1 := hp 2 130 (by kernel_rfl) rfl
        have x0 : (pB (l0)).V (get b 0) w1 := Pv.keep _ g10_0 (hu 0 (by kernel_rfl)) hb
        exact st_move rfl ((want_is (N := 130) rfl rfl x130).trans rfl) rfl x0
       case s6 =>
        intro b w1 hb hp hu
        have x130 : (pT).V (get b 130) w1 := hp 2 130 (by kernel_rfl) rfl
        have x1 : (pI (a1)).V (get b 1) w1 := Pv.keep _ g10_1 (hu 1 (by kernel_rfl)) hb
        exact st_move rfl ((want_is (N := 130) rfl rfl x130).trans rfl) rfl x1
       case s7 =>
        intro b w1 hb hp hu
        have x130 : (pT).V (get b 130) w1 := hp 2 130 (by kernel_rfl) rfl
        have x133 : (pB (l0)).V (get b 133) w1 := hp 5 133 (by kernel_rfl) rfl
        obtain ⟨B0, d0, e0_, hC0, hl0⟩ := x133
        have e0 : b.eval (Operand.tmp 133) = .slice B0 (l0).length d0 := e0_
        have x134 : (pI (a1)).V (get b 134) w1 := hp 6 134 (by kernel_rfl) rfl
        have e1 : b.eval (Operand.tmp 134) = .int .i64 (a1) := x134
        refine st_call rfl ((want_is (N := 130) rfl rfl x130).trans rfl) rfl Try.func36 (by kernel_rfl) rfl #[.slice B0 (l0).length d0, .int .i64 (a1)] (by simp only [List.map_toArray, List.map_cons, List.map_nil, e0, e1]) ?_
        refine (wristbandref09_Put.calls k B0 d0 _ _ _ w1 hC0 hl0 H10).mono ?_
        rintro e w2 ⟨v0_, rfl, ho0, hb2⟩
        exact ⟨_, rfl, Pv.of_sl ho0, hb2⟩
       case s8 =>
        intro b w1 hb hp hu
        have x130 : (pT).V (get b 130) w1 := hp 2 130 (by kernel_rfl) rfl
        have x135 : (pB (t13)).V (get b 135) w1 := hp 7 135 (by kernel_rfl) rfl
        exact st_string Try.underlying22 Try.underlying5 Try.underlying9 rfl ((want_is (N := 130) rfl rfl x130).trans rfl) rfl x135 rfl
       case s9 =>
        intro b w1 hb hp hu
        have x130 : (pT).V (get b 130) w1 := hp 2 130 (by kernel_rfl) rfl
        have x132 : (Pv.is (.string (strOfNums (t4)))).V (get b 132) w1 := hp 4 132 (by kernel_rfl) rfl
        have x136 : (Pv.is (.string (strOfNums (t13)))).V (get b 136) w1 := hp 8 136 (by kernel_rfl) rfl
        exact st_bin (v := .bool true) (vx := .string (strOfNums (t4))) (vy := .string (strOfNums (t13))) rfl ((want_is (N := 130) rfl rfl x130).trans rfl) rfl x132 x136 (by first | rfl | (have c_ := c1013; clear hb hp hu; go_simp; first | done | rfl | (simp [c_]; done) | (simp; omega))) rfl
       case s10 =>
        intro b w1 hb hp hu
        have x130 : (pT).V (get b 130) w1 := hp 2 130 (by kernel_rfl) rfl
        have x137 : (pT).V (get b 137) w1 := hp 9 137 (by kernel_rfl) rfl
        exact st_pick (b := true) rfl (want0 rfl _) rfl x130 x137
       case s11 =>
        intro b w1 hb hp hu
        have x138 : (pT).V (get b 138) w1 := hp 10 138 (by kernel_rfl) rfl
        exact st_assign rfl (want0 rfl _) rfl x138
       intro ac11 wo11 hn11 hd_ hb hv hs
       have g11_4 : (pT).V (get ac11 4) wo11 := hv 11 4 rfl
       have hB11 := below_step hB10 hb
       have hd11 := hd_.trans hd10
       clear hv hs hd_ hb hB10 hn10 hd10 g10_120 g10_7 g10_8 g10_4 g10_0 g10_1
       show Code.wp _ _ _ _ _
       refine wp_ret ?_
       repeat (refine then_ret ?_)
       exact back_is rfl hd11 g11_4 ⟨rfl, hB11⟩
     ·have h := hn c1009
      clear hy hn
      obtain ⟨c1010, h⟩ := h
      refine Reg.draws (T := wristbandlaw09_SolomonRight.T12) (D := wristbandlaw09_SolomonRight.D12) (n := 139) rfl (by kernel_rfl) hn8 (told [pI (t7), pF, pF, Pv.is (undef), Pv.is (undef), Pv.is (undef), Pv.is (undef), Pv.is (undef), Pv.is (undef), Pv.is (undef), pF, pF, pI (t7), pT, pT, pB (t6), pI (((t6).length : Int)), pF, pF, pF]) (told_pst _) (owedS (owedS (owedS (owedS (owedS (owedS (owedS (owedS (owedS (owedS (owedS (owedS (owedS (owedS (owedS (owedS (owedS (owedS (owedS (owedS owed0 ?s0) ?s1) ?s2) ?s3) ?s4) ?s5) ?s6) ?s7) ?s8) ?s9) ?s10) ?s11) ?s12) ?s13) ?s14) ?s15) ?s16) ?s17) ?s18) ?s19) ?_
      case s0 =>
       intro b w1 hb hp hu
       have x10 : (pI (t7)).V (get b 10) w1 := Pv.keep _ g8_10 (hu 10 (by kernel_rfl)) hb
       exact st_move rfl (want0 rfl _) rfl x10
      case s1 =>
       intro b w1 hb hp hu
       have x96 : (pI (t7)).V (get b 96) w1 := hp 0 96 (by kernel_rfl) rfl
       exact st_eql (b := false) (κ := .i64) (m := t7) (n := ((0 : Int))) rfl (want0 rfl _) rfl x96 rfl (decide_eq_false c1009)
      case s2 =>
       intro b w1 hb hp hu
       have x97 : (pF).V (get b 97) w1 := hp 1 97 (by kernel_rfl) rfl
       exact st_move rfl (want0 rfl _) rfl x97
      case s3 =>
       intro b w1 hb hp hu
       have x98 : (pF).V (get b 98) w1 := hp 2 98 (by kernel_rfl) rfl
       exact st_off rfl ((want_is (N := 98) rfl rfl x98).trans rfl) rfl
      case s4 =>
       intro b w1 hb hp hu
       have x98 : (pF).V (get b 98) w1 := hp 2 98 (by kernel_rfl) rfl
       exact st_off rfl ((want_is (N := 98) rfl rfl x98).trans rfl) rfl
      case s5 =>
       intro b w1 hb hp hu
       have x98 : (pF).V (get b 98) w1 := hp 2 98 (by kernel_rfl) rfl
       exact st_off rfl ((want_is (N := 98) rfl rfl x98).trans rfl) rfl
      case s6 =>
       intro b w1 hb hp hu
       have x98 : (pF).V (get b 98) w1 := hp 2 98 (by kernel_rfl) rfl
       exact st_off rfl ((want_is (N := 98) rfl rfl x98).trans rfl) rfl
      case s7 =>
       intro b w1 hb hp hu
       have x98 : (pF).V (get b 98) w1 := hp 2 98 (by kernel_rfl) rfl
       exact st_off rfl ((want_is (N := 98) rfl rfl x98).trans rfl) rfl
      case s8 =>
       intro b w1 hb hp hu
       have x98 : (pF).V (get b 98) w1 := hp 2 98 (by kernel_rfl) rfl
       exact st_off rfl ((want_is (N := 98) rfl rfl x98).trans rfl) rfl
      case s9 =>
       intro b w1 hb hp hu
       have x98 : (pF).V (get b 98) w1 := hp 2 98 (by kernel_rfl) rfl
       exact st_off rfl ((want_is (N := 98) rfl rfl x98).trans rfl) rfl
      case s10 =>
       intro b w1 hb hp hu
       have x98 : (pF).V (get b 98) w1 := hp 2 98 (by kernel_rfl) rfl
       exact st_pick (b := false) rfl (want0 rfl _) rfl x98 rfl
      case s11 =>
       intro b w1 hb hp hu
       have x106 : (pF).V (get b 106) w1 := hp 10 106 (by kernel_rfl) rfl
       exact st_move rfl (want0 rfl _) rfl x106
      case s12 =>
       intro b w1 hb hp hu
       have x107 : (pF).V (get b 107) w1 := hp 11 107 (by kernel_rfl) rfl
       have x10 : (pI (t7)).V (get b 10) w1 := Pv.keep _ g8_10 (hu 10 (by kernel_rfl)) hb
       exact st_move rfl ((want_is (N := 107) rfl rfl x107).trans rfl) rfl x10
      case s13 =>
       intro b w1 hb hp hu
       have x107 : (pF).V (get b 107) w1 := hp 11 107 (by kernel_rfl) rfl
       have x108 : (pI (t7)).V (get b 108) w1 := hp 12 108 (by kernel_rfl) rfl
       exact st_neq (b := false) (κ := .i64) (m := t7) (n := ((0 : Int))) rfl ((want_is (N := 107) rfl rfl x107).trans rfl) rfl x108 rfl (decide_eq_false c1009)
      case s14 =>
       intro b w1 hb hp hu
       have x107 : (pF).V (get b 107) w1 := hp 11 107 (by kernel_rfl) rfl
       have x109 : (pT).V (get b 109) w1 := hp 13 109 (by kernel_rfl) rfl
       exact st_move rfl ((want_is (N := 107) rfl rfl x107).trans rfl) rfl x109
      case s15 =>
       intro b w1 hb hp hu
       have x110 : (pT).V (get b 110) w1 := hp 14 110 (by kernel_rfl) rfl
       have x9 : (pB (t6)).V (get b 9) w1 := Pv.keep _ g8_9 (hu 9 (by kernel_rfl)) hb
       exact st_move rfl ((want_is (N := 110) rfl rfl x110).trans rfl) rfl x9
      case s16 =>
       intro b w1 hb hp hu
       have x110 : (pT).V (get b 110) w1 := hp 14 110 (by kernel_rfl) rfl
       have x111 : (pB (t6)).V (get b 111) w1 := hp 15 111 (by kernel_rfl) rfl
       obtain ⟨A_, c_, e_, _, _⟩ := x111
       exact st_len rfl ((want_is (N := 110) rfl rfl x110).trans rfl) rfl Try.underlying22 e_ rfl
      case s17 =>
       intro b w1 hb hp hu
       have x110 : (pT).V (get b 110) w1 := hp 14 110 (by kernel_rfl) rfl
       have x112 : (pI (((t6).length : Int))).V (get b 112) w1 := hp 16 112 (by kernel_rfl) rfl
       exact st_neq (b := true) (κ := .i64) (m := (((t6).length : Int))) (n := ((0 : Int))) rfl ((want_is (N := 110) rfl rfl x110).trans rfl) rfl x112 rfl (decide_eq_true c1010)
      case s18 =>
       intro b w1 hb hp hu
       have x107 : (pF).V (get b 107) w1 := hp 11 107 (by kernel_rfl) rfl
       have x110 : (pT).V (get b 110) w1 := hp 14 110 (by kernel_rfl) rfl
       have x113 : (pF).V (get b 113) w1 := hp 17 113 (by kernel_rfl) rfl
       exact st_pick (b := true) rfl ((want_is (N := 107) rfl rfl x107).trans rfl) rfl x110 x113
      case s19 =>
       intro b w1 hb hp hu
       have x107 : (pF).V (get b 107) w1 := hp 11 107 (by kernel_rfl) rfl
       have x114 : (pF).V (get b 114) w1 := hp 18 114 (by kernel_rfl) rfl
       exact st_pick (b := false) rfl (want0 rfl _) rfl x107 x114
      intro ac9 wo9 hn9 hd_ hb hv hs
      have g9_115 : (pF).V (get ac9 115) wo9 := hv 19 115 rfl
      have g9_7 : (pB (t4)).V (get ac9 7) wo9 := Pv.keep _ g8_7 (hs 7 rfl) hb
      have g9_8 : (pI (t5)).V (get ac9 8) wo9 := Pv.keep _ g8_8 (hs 8 rfl) hb
      have g9_4 : (pF).V (get ac9 4) wo9 := Pv.keep _ g8_4 (hs 4 rfl) hb
      have g9_0 : (pB (l0)).V (get ac9 0) wo9 := Pv.keep _ g8_0 (hs 0 rfl) hb
      have g9_1 : (pI (a1)).V (get ac9 1) wo9 := Pv.keep _ g8_1 (hs 1 rfl) hb
      have hB9 := below_step hB8 hb
      have hd9 := hd_.trans hd8
      clear hv hs hd_ hb hB8 hn8 hd8 g8_95 g8_9 g8_10 g8_7 g8_8 g8_4 g8_0 g8_1
      show Code.wp _ _ _ _ _
      refine wp_cond_false (show ac9.eval (Operand.tmp 115) = .bool false from g9_115) ?_
      refine wp_skip ?_
      show Code.wp _ _ _ _ _
      refine wp_seq ?_
      refine wp_seq ?_
      obtain ⟨hy, hn⟩ := h
      by_cases c1011 : wrap64 (((l0).length : Int) + a1) > (255 : Int)
      ·have h := hy c1011
       clear hy hn
       obtain ⟨c1012, h⟩ := h
       obtain ⟨c1013, h⟩ := h
       refine Reg.plain (T := wristbandlaw09_SolomonRight.T14) (D := wristbandlaw09_SolomonRight.D14) (n := 139) (by kernel_rfl) hn9 (told [pB (l0), pI (((l0).length : Int)), pI (a1), pI (wrap64 (((l0).length : Int) + a1)), pT]) (told_pst _) (owedS (owedS (owedS (owedS (owedS owed0 ?s0) ?s1) ?s2) ?s3) ?s4) ?_
       case s0 =>
        intro b w1 hb hp hu
        have x0 : (pB (l0)).V (get b 0) w1 := Pv.keep _ g9_0 (hu 0 (by kernel_rfl)) hb
        exact st_move rfl (want0 rfl _) rfl x0
       case s1 =>
        intro b w1 hb hp hu
        have x116 : (pB (l0)).V (get b 116) w1 := hp 0 116 (by kernel_rfl) rfl
        obtain ⟨A_, c_, e_, _, _⟩ := x116
        exact st_len rfl (want0 rfl _) rfl Try.underlying22 e_ rfl
       case s2 =>
        intro b w1 hb hp hu
        have x1 : (pI (a1)).V (get b 1) w1 := Pv.keep _ g9_1 (hu 1 (by kernel_rfl)) hb
        exact st_move rfl (want0 rfl _) rfl x1
       case s3 =>
        intro b w1 hb hp hu
        have x117 : (pI (((l0).length : Int))).V (get b 117) w1 := hp 1 117 (by kernel_rfl) rfl
        have x118 : (pI (a1)).V (get b 118) w1 := hp 2 118 (by kernel_rfl) rfl
        exact st_bin (v := .int .i64 (wrap64 (((l0).length : Int) + a1))) (vx := .int .i64 (((l0).length : Int))) (vy := .int .i64 (a1)) rfl (want0 rfl _) rfl x117 x118 (by first | rfl | (go_simp; first | done | rfl | (simp only [i64_w, i32_w]; done))) rfl
       case s4 =>
        intro b w1 hb hp hu
        have x119 : (pI (wrap64 (((l0).length : Int) + a1))).V (get b 119) w1 := hp 3 119 (by kernel_rfl) rfl
        exact st_gtr (b := true) (κ := .i64) (m := (wrap64 (((l0).length : Int) + a1))) (n := ((255 : Int))) rfl (want0 rfl _) rfl x119 rfl (decide_eq_true c1011)
       intro ac10 wo10 hn10 hd_ hb hv hs
       have g10_120 : (pT).V (get ac10 120) wo10 := hv 4 120 rfl
       have g10_7 : (pB (t4)).V (get ac10 7) wo10 := Pv.keep _ g9_7 (hs 7 rfl) hb
       have g10_8 : (pI (t5)).V (get ac10 8) wo10 := Pv.keep _ g9_8 (hs 8 rfl) hb
       have g10_4 : (pF).V (get ac10 4) wo10 := Pv.keep _ g9_4 (hs 4 rfl) hb
       have hB10 := below_step hB9 hb
       have hd10 := hd_.trans hd9
       clear hv hs hd_ hb hB9 hn9 hd9 g9_115 g9_7 g9_8 g9_4 g9_0 g9_1
       show Code.wp _ _ _ _ _
       refine wp_cond_true (show ac10.eval (Operand.tmp 120) = .bool true from g10_120) ?_
       refine wp_seq ?_
       refine Reg.plain (T := wristbandlaw09_SolomonRight.T15) (D := wristbandlaw09_SolomonRight.D15) (n := 139) (by kernel_rfl) hn10 (told [pI (t5), pT, pT, pB (t4), pI (((t4).length : Int)), pT, pT, pT]) (told_pst _) (owedS (owedS (owedS (owedS (owedS (owedS (owedS (owedS owed0 ?s0) ?s1) ?s2) ?s3) ?s4) ?s5) ?s6) ?s7) ?_
       case s0 =>
        intro b w1 hb hp hu
        have x8 : (pI (t5)).V (get b 8) w1 := Pv.keep _ g10_8 (hu 8 (by kernel_rfl)) hb
        exact st_move rfl (want0 rfl _) rfl x8
       case s1 =>
        intro b w1 hb hp hu
        have x121 : (pI (t5)).V (get b 121) w1 := hp 0 121 (by kernel_rfl) rfl
        exact st_eql (b := true) (κ := .i64) (m := t5) (n := ((4 : Int))) rfl (want0 rfl _) rfl x121 rfl (decide_eq_true c1012)
       case s2 =>
        intro b w1 hb hp hu
        have x122 : (pT).V (get b 122) w1 := hp 1 122 (by kernel_rfl) rfl
        exact st_move rfl (want0 rfl _) rfl x122
       case s3 =>
        intro b w1 hb hp hu
        have x123 : (pT).V (get b 123) w1 := hp 2 123 (by kernel_rfl) rfl
        have x7 : (pB (t4)).V (get b 7) w1 := Pv.keep _ g10_7 (hu 7 (by kernel_rfl)) hb
        exact st_move rfl ((want_is (N := 123) rfl rfl x123).trans rfl) rfl x7
       case s4 =>
        intro b w1 hb hp hu
        have x123 : (pT).V (get b 123) w1 := hp 2 123 (by kernel_rfl) rfl
        have x124 : (pB (t4)).V (get b 124) w1 := hp 3 124 (by kernel_rfl) rfl
        obtain ⟨A_, c_, e_, _, _⟩ := x124
        exact st_len rfl ((want_is (N := 123) rfl rfl x123).trans rfl) rfl Try.underlying22 e_ rfl
       case s5 =>
        intro b w1 hb hp hu
        have x123 : (pT).V (get b 123) w1 := hp 2 123 (by kernel_rfl) rfl
        have x125 : (pI (((t4).length : Int))).V (get b 125) w1 := hp 4 125 (by kernel_rfl) rfl
        exact st_eql (b := true) (κ := .i64) (m := (((t4).length : Int))) (n := ((0 : Int))) rfl ((want_is (N := 123) rfl rfl x123).trans rfl) rfl x125 rfl (decide_eq_true c1013)
       case s6 =>
        intro b w1 hb hp hu
        have x123 : (pT).V (get b 123) w1 := hp 2 123 (by kernel_rfl) rfl
        have x126 : (pT).V (get b 126) w1 := hp 5 126 (by kernel_rfl) rfl
        exact st_pick (b := true) rfl (want0 rfl _) rfl x123 x126
       case s7 =>
        intro b w1 hb hp hu
        have x127 : (pT).V (get b 127) w1 := hp 6 127 (by kernel_rfl) rfl
        exact st_assign rfl (want0 rfl _) rfl x127
       intro ac11 wo11 hn11 hd_ hb hv hs
       have g11_4 : (pT).V (get ac11 4) wo11 := hv 7 4 rfl
       have hB11 := below_step hB10 hb
       have hd11 := hd_.trans hd10
       clear hv hs hd_ hb hB10 hn10 hd10 g10_120 g10_7 g10_8 g10_4
       show Code.wp _ _ _ _ _
       refine wp_ret ?_
       repeat (refine then_ret ?_)
       exact back_is rfl hd11 g11_4 ⟨rfl, hB11⟩
      ·have h := hn c1011
       clear hy hn
       obtain ⟨c1012, h⟩ := h
       obtain ⟨t12, H9, h⟩ := h
       obtain ⟨c1013, h⟩ := h
       refine Reg.plain (T := wristbandlaw09_SolomonRight.T14) (D := wristbandlaw09_SolomonRight.D14) (n := 139) (by kernel_rfl) hn9 (told [pB (l0), pI (((l0).length : Int)), pI (a1), pI (wrap64 (((l0).length : Int) + a1)), pF]) (told_pst _) (owedS (owedS (owedS (owedS (owedS owed0 ?s0) ?s1) ?s2) ?s3) ?s4) ?_
       case s0 =>
        intro b w1 hb hp hu
        have x0 : (pB (l0)).V (get b 0) w1 := Pv.keep _ g9_0 (hu 0 (by kernel_rfl)) hb
        exact st_move rfl (want0 rfl _) rfl x0
       case s1 =>
        intro b w1 hb hp hu
        have x116 : (pB (l0)).V (get b 116) w1 := hp 0 116 (by kernel_rfl) rfl
        obtain ⟨A_, c_, e_, _, _⟩ := x116
        exact st_len rfl (want0 rfl _) rfl Try.underlying22 e_ rfl
       case s2 =>
        intro b w1 hb hp hu
        have x1 : (pI (a1)).V (get b 1) w1 := Pv.keep _ g9_1 (hu 1 (by kernel_rfl)) hb
        exact st_move rfl (want0 rfl _) rfl x1
       case s3 =>
        intro b w1 hb hp hu
        have x117 : (pI (((l0).length : Int))).V (get b 117) w1 := hp 1 117 (by kernel_rfl) rfl
        have x118 : (pI (a1)).V (get b 118) w1 := hp 2 118 (by kernel_rfl) rfl
        exact st_bin (v := .int .i64 (wrap64 (((l0).length : Int) + a1))) (vx := .int .i64 (((l0).length : Int))) (vy := .int .i64 (a1)) rfl (want0 rfl _) rfl x117 x118 (by first | rfl | (go_simp; first | done | rfl | (simp only [i64_w, i32_w]; done))) rfl
       case s4 =>
        intro b w1 hb hp hu
        have x119 : (pI (wrap64 (((l0).length : Int) + a1))).V (get b 119) w1 := hp 3 119 (by kernel_rfl) rfl
        exact st_gtr (b := false) (κ := .i64) (m := (wrap64 (((l0).length : Int) + a1))) (n := ((255 : Int))) rfl (want0 rfl _) rfl x119 rfl (decide_eq_false c1011)
       intro ac10 wo10 hn10 hd_ hb hv hs
       have g10_120 : (pF).V (get ac10 120) wo10 := hv 4 120 rfl
       have g10_7 : (pB (t4)).V (get ac10 7) wo10 := Pv.keep _ g9_7 (hs 7 rfl) hb
       have g10_8 : (pI (t5)).V (get ac10 8) wo10 := Pv.keep _ g9_8 (hs 8 rfl) hb
       have g10_4 : (pF).V (get ac10 4) wo10 := Pv.keep _ g9_4 (hs 4 rfl) hb
       have g10_0 : (pB (l0)).V (get ac10 0) wo10 := Pv.keep _ g9_0 (hs 0 rfl) hb
       have g10_1 : (pI (a1)).V (get ac10 1) wo10 := Pv.keep _ g9_1 (hs 1 rfl) hb
       have hB10 := below_step hB9 hb
       have hd10 := hd_.trans hd9
       clear hv hs hd_ hb hB9 hn9 hd9 g9_115 g9_7 g9_8 g9_4 g9_0 g9_1
       show Code.wp _ _ _ _ _
       refine wp_cond_false (show ac10.eval (Operand.tmp 120) = .bool false from g10_120) ?_
       refine wp_skip ?_
       show Code.wp _ _ _ _ _
       refine wp_seq ?_
       refine Reg.draws (T := wristbandlaw09_SolomonRight.T16) (D := wristbandlaw09_SolomonRight.D16) (n := 139) rfl (by kernel_rfl) hn10 (told [pI (t5), pT, pT, pB (t4), Pv.is (.string (strOfNums (t4))), pB (l0), pI (a1), pB (t12), Pv.is (.string (strOfNums (t12))), pT, pT, pT]) (told_pst _) (owedS (owedS (owedS (owedS (owedS (owedS (owedS (owedS (owedS (owedS (owedS (owedS owed0 ?s0) ?s1) ?s2) ?s3) ?s4) ?s5) ?s6) ?s7) ?s8) ?s9) ?s10) ?s11) ?_
       case s0 =>
        intro b w1 hb hp hu
        have x8 : (pI (t5)).V (get b 8) w1 := Pv.keep _ g10_8 (hu 8 (by kernel_rfl)) hb
        exact st_move rfl (want0 rfl _) rfl x8
       case s1 =>
        intro b w1 hb hp hu
        have x128 : (pI (t5)).V (get b 128) w1 := hp 0 128 (by kernel_rfl) rfl
        exact st_eql (b := true) (κ := .i64) (m := t5) (n := ((0 : Int))) rfl (want0 rfl _) rfl x128 rfl (decide_eq_true c1012)
       case s2 =>
        intro b w1 hb hp hu
        have x129 : (pT).V (get b 129) w1 := hp 1 129 (by kernel_rfl) rfl
        exact st_move rfl (want0 rfl _) rfl x129
       case s3 =>
        intro b w1 hb hp hu
        have x130 : (pT).V (get b 130) w1 := hp 2 130 (by kernel_rfl) rfl
        have x7 : (pB (t4)).V (get b 7) w1 := Pv.keep _ g10_7 (hu 7 (by kernel_rfl)) hb
        exact st_move rfl ((want_is (N := 130) rfl rfl x130).trans rfl) rfl x7
       case s4 =>
        intro b w1 hb hp hu
        have x130 : (pT).V (get b 130) w1 := hp 2 130 (by kernel_rfl) rfl
        have x131 : (pB (t4)).V (get b 131) w1 := hp 3 131 (by kernel_rfl) rfl
        exact st_string Try.underlying22 Try.underlying5 Try.underlying9 rfl ((want_is (N := 130) rfl rfl x130).trans rfl) rfl x131 rfl
       case s5 =>
        intro b w1 hb hp hu
        have x130 : (pT).V (get b 130) w1 := hp 2 130 (by kernel_rfl) rfl
        have x0 : (pB (l0)).V (get b 0) w1 := Pv.keep _ g10_0 (hu 0 (by kernel_rfl)) hb
        exact st_move rfl ((want_is (N := 130) rfl rfl x130).trans rfl) rfl x0
       case s6 =>
        intro b w1 hb hp hu
        have x130 : (pT).V (get b 130) w1 := hp 2 130 (by kernel_rfl) rfl
        have x1 : (pI (a1)).V (get b 1) w1 := Pv.keep _ g10_1 (hu 1 (by kernel_rfl)) hb
        exact st_move rfl ((want_is (N := 130) rfl rfl x130).trans rfl) rfl x1
       case s7 =>
        intro b w1 hb hp hu
        have x130 : (pT).V (get b 130) w1 := hp 2 130 (by kernel_rfl) rfl
        have x133 : (pB (l0)).V (get b 133) w1 := hp 5 133 (by kernel_rfl) rfl
        obtain ⟨B0, d0, e0_, hC0, hl0⟩ := x133
        have e0 : b.eval (Operand.tmp 133) = .slice B0 (l0).length d0 := e0_
        have x134 : (pI (a1)).V (get b 134) w1 := hp 6 134 (by kernel_rfl) rfl
        have e1 : b.eval (Operand.tmp 134) = .int .i64 (a1) := x134
        refine st_call rfl ((want_is (N := 130) rfl rfl x130).trans rfl) rfl Try.func36 (by kernel_rfl) rfl #[.slice B0 (l0).length d0, .int .i64 (a1)] (by simp only [List.map_toArray, List.map_cons, List.map_nil, e0, e1]) ?_
        refine (wristbandref09_Put.calls k B0 d0 _ _ _ w1 hC0 hl0 H9).mono ?_
        rintro e w2 ⟨v0_, rfl, ho0, hb2⟩
        exact ⟨_, rfl, Pv.of_sl ho0, hb2⟩
       case s8 =>
        intro b w1 hb hp hu
        have x130 : (pT).V (get b 130) w1 := hp 2 130 (by kernel_rfl) rfl
        have x135 : (pB (t12)).V (get b 135) w1 := hp 7 135 (by kernel_rfl) rfl
        exact st_string Try.underlying22 Try.underlying5 Try.underlying9 rfl ((want_is (N := 130) rfl rfl x130).trans rfl) rfl x135 rfl
       case s9 =>
        intro b w1 hb hp hu
        have x130 : (pT).V (get b 130) w1 := hp 2 130 (by kernel_rfl) rfl
        have x132 : (Pv.is (.string (strOfNums (t4)))).V (get b 132) w1 := hp 4 132 (by kernel_rfl) rfl
        have x136 : (Pv.is (.string (strOfNums (t12)))).V (get b 136) w1 := hp 8 136 (by kernel_rfl) rfl
        exact st_bin (v := .bool true) (vx := .string (strOfNums (t4))) (vy := .string (strOfNums (t12))) rfl ((want_is (N := 130) rfl rfl x130).trans rfl) rfl x132 x136 (by first | rfl | (have c_ := c1013; clear hb hp hu; go_simp; first | done | rfl | (simp [c_]; done) | (simp; omega))) rfl
       case s10 =>
        intro b w1 hb hp hu
        have x130 : (pT).V (get b 130) w1 := hp 2 130 (by kernel_rfl) rfl
        have x137 : (pT).V (get b 137) w1 := hp 9 137 (by kernel_rfl) rfl
        exact st_pick (b := true) rfl (want0 rfl _) rfl x130 x137
       case s11 =>
        intro b w1 hb hp hu
        have x138 : (pT).V (get b 138) w1 := hp 10 138 (by kernel_rfl) rfl
        exact st_assign rfl (want0 rfl _) rfl x138
       intro ac11 wo11 hn11 hd_ hb hv hs
       have g11_4 : (pT).V (get ac11 4) wo11 := hv 11 4 rfl
       have hB11 := below_step hB10 hb
       have hd11 := hd_.trans hd10
       clear hv hs hd_ hb hB10 hn10 hd10 g10_120 g10_7 g10_8 g10_4 g10_0 g10_1
       show Code.wp _ _ _ _ _
       refine wp_ret ?_
       repeat (refine then_ret ?_)
       exact back_is rfl hd11 g11_4 ⟨rfl, hB11⟩

/-- THE ONE PURE STATEMENT of wristbandlaw09_SolomonRight. -/
def wristbandlaw09_SolomonRight.Pure : Prop := ∀ (l0 : List Int) (a1 : Int), l0.length ≤ maxLen → l0.length * 1 ≤ 140737488351232 → (∀ x ∈ l0, (Lit.int .u8 x).wf = true) → (Lit.int .i64 a1).wf = true → ∃ k, wristbandlaw09_SolomonRight.ok k l0 a1
theorem wristbandlaw09_SolomonRight.walk (P : wristbandlaw09_SolomonRight.Pure) (a0 : Option Addr) (len0 cap0 : Nat) (z0 : List Int) (a1 : Int) (w : World) (w0 : (a0 = none ∧ len0 = 0 ∧ cap0 = 0 ∧ z0 = []) ∨ ∃ x, a0 = some x ∧ len0 ≤ cap0 ∧ cap0 ≤ maxLen ∧ z0.length = cap0 ∧ (∀ i, i < z0.length → w.cell? (x.add i) = some (.int .u8 (z0.getD i 0))) ∧ ∀ n ∈ z0, (Lit.int .u8 n).wf = true) (y0 : len0 * 1 ≤ 140737488351232) (w1 : (Lit.int .i64 a1).wf = true) :
  Calls Try.prog 6 #[.slice a0 len0 cap0, .int .i64 a1] w fun e w' => e = .returned (.bool true) ∧ Below w.heap.size w w' := by
 obtain ⟨l0, rfl, hr0, hm0, hw0, hc0⟩ := ReadsInt.ofRowC w0
 obtain ⟨k, h⟩ := P l0 a1 hm0 y0 hw0 w1
 exact wristbandlaw09_SolomonRight.calls k _ _ l0 a1 w (Kd.C_of_reads (d := (0 : Int)) (h1 := fun _ => rfl) hr0) hc0 h

end Go.Proofs.Ytgieppcadnhhaaa.P
