-- Written by a program of this session (its own contracts laid into the walks). Lean checks it.
import Derived.Test.YtgieppcadnhhaaaPx0
import Derived.Test.YtgieppcadnhhaaaPx2
import Derived.Test.YtgieppcadnhhaaaPx3
import Derived.Test.YtgieppcadnhhaaaPx4
import Derived.Test.YtgieppcadnhhaaaPx5
import Derived.Test.YtgieppcadnhhaaaPx6
import Derived.Test.YtgieppcadnhhaaaPx7
import Derived.Test.YtgieppcadnhhaaaPx8
import Derived.Test.YtgieppcadnhhaaaPx9
import Derived.Test.YtgieppcadnhhaaaPx10
import Derived.Test.YtgieppcadnhhaaaPx11
import Derived.Test.YtgieppcadnhhaaaPx12
import Derived.Test.YtgieppcadnhhaaaPx13
import Derived.Test.YtgieppcadnhhaaaReg
namespace Go.Proofs.Ytgieppcadnhhaaa.P
open Go.RowKit Go.Proofs.YtgieppcadnhhaaaW.PrintWords Go.Proofs.YtgieppcadnhhaaaW.PrintLast Go.Proofs.YtgieppcadnhhaaaW.PrintMore
attribute [local go_sem] max2_int min2_int max_two min_two max_three min_three max_four min_four   -- for this text's walks alone
set_option linter.unusedVariables false
set_option linter.unusedSimpArgs false

/-! ### wristbandlaw08_PolyRight: function 3 -/
-- IMPORTS Derived.Test.YtgieppcadnhhaaaReg
open Go.Proofs.Ytgieppcadnhhaaa.Reg
def wristbandlaw08_PolyRight.T0 : List Nat := [0]
def wristbandlaw08_PolyRight.D0 : List (Option Tmp) := [some 6]
def wristbandlaw08_PolyRight.T1 : List Nat := [0, 1]
def wristbandlaw08_PolyRight.D1 : List (Option Tmp) := [some 12, some 13]
def wristbandlaw08_PolyRight.T3 : List Nat := [0, 1, 3, 7, 15, 31, 63, 127]
def wristbandlaw08_PolyRight.D3 : List (Option Tmp) := [some 14, some 15, some 16, some 17, some 18, some 19, some 20, some 21]
def wristbandlaw08_PolyRight.T4 : List Nat := [0]
def wristbandlaw08_PolyRight.D4 : List (Option Tmp) := [some 6]
def wristbandlaw08_PolyRight.T5 : List Nat := [0, 1, 3, 0, 11, 27, 63, 127, 255, 511, 255, 2047, 4095, 8191, 16383, 32767, 65535, 131071, 131071, 524287, 1048575, 131071, 131071, 7340031, 15728639, 33554431, 67108863, 134217727, 268435455, 268435455, 1073741823, 2147483647, 268435455, 268435455, 15032385535, 32212254719, 68719476735, 137438953471]
def wristbandlaw08_PolyRight.D5 : List (Option Tmp) := [some 22, some 23, some 24, some 25, some 26, some 27, some 28, some 29, some 30, some 31, some 32, some 33, some 34, some 35, some 36, some 37, some 38, some 39, some 40, some 41, some 42, some 43, some 44, some 45, some 46, some 47, some 48, some 49, some 50, some 51, some 52, some 53, some 54, some 55, some 56, some 57, some 58, some 59]
def wristbandlaw08_PolyRight.T6 : List Nat := [0]
def wristbandlaw08_PolyRight.D6 : List (Option Tmp) := [some 6]
def wristbandlaw08_PolyRight.T7 : List Nat := [0, 0, 3, 7, 0, 0, 55, 119, 255, 511, 1023, 1023, 4095, 1023, 1023, 32767, 65535, 131071, 262143, 524287, 1048575, 2097151, 524287, 6291455, 14680063, 33554431, 67108863]
def wristbandlaw08_PolyRight.D7 : List (Option Tmp) := [some 60, some 61, some 62, some 63, some 64, some 65, some 66, some 67, some 68, some 69, some 70, some 71, some 72, some 73, some 74, some 75, some 76, some 77, some 78, some 79, some 80, some 81, some 82, some 83, some 84, some 85, some 86]
def wristbandlaw08_PolyRight.T8 : List Nat := [0]
def wristbandlaw08_PolyRight.D8 : List (Option Tmp) := [some 6]
def wristbandlaw08_PolyRight.T9 : List Nat := [0, 0, 3, 7, 15, 15, 15, 31, 191, 511]
def wristbandlaw08_PolyRight.D9 : List (Option Tmp) := [some 88, some 89, some 90, some 87, some 91, some 92, some 93, some 7, some 8, some 9]
def wristbandlaw08_PolyRight.T10 : List Nat := [0, 1, 3, 7]
def wristbandlaw08_PolyRight.D10 : List (Option Tmp) := [some 94, some 95, some 96, some 97]
def wristbandlaw08_PolyRight.T11 : List Nat := [0, 1, 3, 7, 15, 31, 63, 127, 255, 511, 1023, 2047, 4095]
def wristbandlaw08_PolyRight.D11 : List (Option Tmp) := [some 98, some 99, some 100, some 101, some 102, some 103, some 104, some 105, some 106, some 107, some 108, some 109, some 6]
def wristbandlaw08_PolyRight.T12 : List Nat := [0, 0, 3, 7, 15, 15, 31, 127]
def wristbandlaw08_PolyRight.D12 : List (Option Tmp) := [some 111, some 112, some 113, some 110, some 114, some 115, some 10, some 11]
def wristbandlaw08_PolyRight.T13 : List Nat := [0, 1, 3, 7, 15, 7, 39, 127, 255, 511, 1023, 2047, 1023, 5119, 16383, 32767, 65535]
def wristbandlaw08_PolyRight.D13 : List (Option Tmp) := [some 116, some 117, some 118, some 119, some 120, some 121, some 122, some 123, some 124, some 125, some 126, some 127, some 128, some 129, some 130, some 131, some 6]
/-- What the law asks, told of the walks' own functions. -/
def wristbandlaw08_PolyRight.ok (k : Nat) (l0 : List Int) (l1 : List Int) (a2 : Int) : Prop := wristbandlaw08_awake.ok k ∧ (((((l0).length : Int) > (120 : Int)) → True) ∧ (¬ (((l0).length : Int) > (120 : Int)) → (((((l1).length : Int) > (120 : Int)) → True) ∧ (¬ (((l1).length : Int) > (120 : Int)) → (∃ (t1 : List Int), poly_Plain.f (l0) = some t1 ∧ (∃ (t2 : List Int), wristbandref08_Plain.f k (l0) = some t2 ∧ (((strOfNums (t1)).toList = (strOfNums (t2)).toList) ∧ (∃ (t3 : Int), poly_Degree.f (l0) = some t3 ∧ ((t3 = wrap64 (((t2).length : Int) - (1 : Int))) ∧ (∃ (t4 : List Int), poly_Add.f k (l0) (l1) = some t4 ∧ (∃ (t5 : List Int), wristbandref08_Add.f k (l0) (l1) = some t5 ∧ (((strOfNums (t4)).toList = (strOfNums (t5)).toList) ∧ (∃ (t6 : List Int), poly_Mul.f k (l0) (l1) = some t6 ∧ (∃ (t7 : List Int), wristbandref08_Mul.f k (l0) (l1) = some t7 ∧ (((strOfNums (t6)).toList = (strOfNums (t7)).toList) ∧ (∃ (t8 : List Int), poly_Times.f k (l0) (a2) = some t8 ∧ (∃ (t9 : List Int), wristbandref08_Times.f k (l0) (a2) = some t9 ∧ (((strOfNums (t8)).toList = (strOfNums (t9)).toList) ∧ (∃ (t10 : Int), poly_Eval.f k (l0) (a2) = some t10 ∧ (∃ (t11 : Int), wristbandref08_Eval.f k (l0) (a2) = some t11 ∧ ((t10 = t11) ∧ (∃ (t12 : List Int), poly_Slope.f k (l0) = some t12 ∧ (∃ (t13 : List Int), wristbandref08_Slope.f k (l0) = some t13 ∧ (((strOfNums (t12)).toList = (strOfNums (t13)).toList) ∧ (∃ (t14 : List Int) (t15 : List Int) (t16 : Int), poly_Quo.f k (l0) (l1) = some (t14, t15, t16) ∧ (∃ (t17 : List Int), wristbandref08_Plain.f k (l1) = some t17 ∧ (((((t17).length : Int) = (0 : Int)) → ((t16 = (1 : Int)) ∧ ((((t14).length : Int) = (0 : Int)) ∧ ((((t15).length : Int) = (0 : Int)) ∧ True)))) ∧ (¬ (((t17).length : Int) = (0 : Int)) → (∃ (t18 : List Int) (t19 : List Int), wristbandref08_Quo.f k (l0) (l1) = some (t18, t19) ∧ ((t16 = (0 : Int)) ∧ (((strOfNums (t14)).toList = (strOfNums (t18)).toList) ∧ (((strOfNums (t15)).toList = (strOfNums (t19)).toList) ∧ True))))))))))))))))))))))))))))))))
set_option maxRecDepth 100000 in
set_option maxHeartbeats 4000000 in
theorem wristbandlaw08_PolyRight.way1 (k : Nat) (A0 : Option Addr) (c0 : Nat) (l0 : List Int) (A1 : Option Addr) (c1 : Nat) (l1 : List Int) (a2 : Int) (w : World) (hr0 : Kd.C (Kd.int .u8) w A0 l0.length l0) (hc0 : l0.length ≤ c0) (hr1 : Kd.C (Kd.int .u8) w A1 l1.length l1) (hc1 : l1.length ≤ c1) (H1 : wristbandlaw08_awake.ok k) (c1000 : ((l0).length : Int) > (120 : Int)) :
    Calls Try.prog 3 #[.slice A0 l0.length c0, .slice A1 l1.length c1, .int .u8 a2] w fun e w' => e = .returned (.bool true) ∧ Below w.heap.size w w' := by
  refine enter Try.func3 rfl (n := 132) rfl ?_
  intro ac0 hn0 hd0 ha
  have hB0 := Below.refl w.heap.size w
  have g0_0 : (Pv.sl (Kd.int .u8) (l0)).V (get ac0 0) w := by rw [ha 0 (by simp)]; exact ⟨A0, c0, rfl, hr0, hc0⟩
  have g0_1 : (Pv.sl (Kd.int .u8) (l1)).V (get ac0 1) w := by rw [ha 1 (by simp)]; exact ⟨A1, c1, rfl, hr1, hc1⟩
  have g0_2 : (Pv.is (.int .u8 (a2))).V (get ac0 2) w := by rw [ha 2 (by simp)]; exact rfl
  clear ha
  refine wp_seq ?_
  refine Reg.plain (T := wristbandlaw08_PolyRight.T0) (D := wristbandlaw08_PolyRight.D0) (n := 132) (by kernel_rfl) hn0 (told [Pv.is (.bool false)]) (told_pst _) (owedS owed0 ?s0) ?_
  case s0 =>
    intro b w1 hb hp hu
    exact st_assign rfl (want0 rfl _) rfl rfl
  intro ac1 wo1 hn1 hd_ hb hv hs
  have g1_6 : (Pv.is (.bool false)).V (get ac1 6) wo1 := hv 0 6 rfl
  have g1_0 : (Pv.sl (Kd.int .u8) (l0)).V (get ac1 0) wo1 := Pv.keep _ g0_0 (hs 0 rfl) hb
  have hB1 := below_step hB0 hb
  have hd1 := hd_.trans hd0
  clear hv hs hd_ hb hB0 hn0 hd0 g0_0 g0_1 g0_2
  show Code.wp _ _ _ _ _
  refine wp_seq ?_
  refine wp_seq ?_
  refine Reg.plain (T := wristbandlaw08_PolyRight.T1) (D := wristbandlaw08_PolyRight.D1) (n := 132) (by kernel_rfl) hn1 (told [Pv.is (.bool true), Pv.is (.bool false)]) (told_pst _) (owedS (owedS owed0 ?s0) ?s1) ?_
  case s0 =>
    intro b w1 hb hp hu
    refine st_call rfl (want0 rfl _) rfl Try.func9 (by kernel_rfl) rfl #[] (by simp) ?_
    refine (wristbandlaw08_awake.calls k  w1  H1).mono ?_
    rintro e w2 ⟨rfl, hb2⟩
    exact ⟨_, rfl, rfl, hb2⟩
  case s1 =>
    intro b w1 hb hp hu
    have x12 : (Pv.is (.bool true)).V (get b 12) w1 := hp 0 12 (by kernel_rfl) rfl
    exact st_un (v := .bool false) (vx := .bool true) rfl (want0 rfl _) rfl x12 (by first | rfl | (go_simp; first | done | rfl | (simp only [i64_w, i32_w]; done))) rfl
  intro ac2 wo2 hn2 hd_ hb hv hs
  have g2_13 : (Pv.is (.bool false)).V (get ac2 13) wo2 := hv 1 13 rfl
  have g2_6 : (Pv.is (.bool false)).V (get ac2 6) wo2 := Pv.keep _ g1_6 (hs 6 rfl) hb
  have g2_0 : (Pv.sl (Kd.int .u8) (l0)).V (get ac2 0) wo2 := Pv.keep _ g1_0 (hs 0 rfl) hb
  have hB2 := below_step hB1 hb
  have hd2 := hd_.trans hd1
  clear hv hs hd_ hb hB1 hn1 hd1 g1_6 g1_0
  show Code.wp _ _ _ _ _
  refine wp_cond_false (show ac2.eval (Operand.tmp 13) = .bool false from g2_13) ?_
  refine wp_skip ?_
  show Code.wp _ _ _ _ _
  refine wp_seq ?_
  refine wp_seq ?_
  refine Reg.plain (T := wristbandlaw08_PolyRight.T3) (D := wristbandlaw08_PolyRight.D3) (n := 132) (by kernel_rfl) hn2 (told [Pv.sl (Kd.int .u8) (l0), Pv.is (.int .i64 (((l0).length : Int))), Pv.is (.bool true), Pv.is (.bool true), Pv.is (undef), Pv.is (undef), Pv.is (undef), Pv.is (.bool true)]) (told_pst _) (owedS (owedS (owedS (owedS (owedS (owedS (owedS (owedS owed0 ?s0) ?s1) ?s2) ?s3) ?s4) ?s5) ?s6) ?s7) ?_
  case s0 =>
    intro b w1 hb hp hu
    have x0 : (Pv.sl (Kd.int .u8) (l0)).V (get b 0) w1 := Pv.keep _ g2_0 (hu 0 (by kernel_rfl)) hb
    exact st_move rfl (want0 rfl _) rfl x0
  case s1 =>
    intro b w1 hb hp hu
    have x14 : (Pv.sl (Kd.int .u8) (l0)).V (get b 14) w1 := hp 0 14 (by kernel_rfl) rfl
    obtain ⟨A_, c_, e_, _, _⟩ := x14
    exact st_len rfl (want0 rfl _) rfl Try.underlying22 e_ rfl
  case s2 =>
    intro b w1 hb hp hu
    have x15 : (Pv.is (.int .i64 (((l0).length : Int)))).V (get b 15) w1 := hp 1 15 (by kernel_rfl) rfl
    exact st_bin (v := .bool true) (vx := .int .i64 (((l0).length : Int))) (vy := .int .i64 ((120 : Int))) rfl (want0 rfl _) rfl x15 rfl (by first | rfl | (have c_ := c1000; refine Eq.trans (b := Result.ok (.bool decide ((((l0).length : Int)) > ((120 : Int)))) w1) rfl ?_; rw [show decide ((((l0).length : Int)) > ((120 : Int))) = true from decide_eq_true c_]) | (have c_ := c1000; clear hb hp hu; go_simp; first | done | rfl | (simp [c_]; done) | (simp; omega))) rfl
  case s3 =>
    intro b w1 hb hp hu
    have x16 : (Pv.is (.bool true)).V (get b 16) w1 := hp 2 16 (by kernel_rfl) rfl
    exact st_move rfl (want0 rfl _) rfl x16
  case s4 =>
    intro b w1 hb hp hu
    have x17 : (Pv.is (.bool true)).V (get b 17) w1 := hp 3 17 (by kernel_rfl) rfl
    exact st_off rfl ((want_is (N := 17) rfl rfl x17).trans rfl) rfl
  case s5 =>
    intro b w1 hb hp hu
    have x17 : (Pv.is (.bool true)).V (get b 17) w1 := hp 3 17 (by kernel_rfl) rfl
    exact st_off rfl ((want_is (N := 17) rfl rfl x17).trans rfl) rfl
  case s6 =>
    intro b w1 hb hp hu
    have x17 : (Pv.is (.bool true)).V (get b 17) w1 := hp 3 17 (by kernel_rfl) rfl
    exact st_off rfl ((want_is (N := 17) rfl rfl x17).trans rfl) rfl
  case s7 =>
    intro b w1 hb hp hu
    have x17 : (Pv.is (.bool true)).V (get b 17) w1 := hp 3 17 (by kernel_rfl) rfl
    exact st_pick (b := true) rfl (want0 rfl _) rfl x17 rfl
  intro ac3 wo3 hn3 hd_ hb hv hs
  have g3_21 : (Pv.is (.bool true)).V (get ac3 21) wo3 := hv 7 21 rfl
  have g3_6 : (Pv.is (.bool false)).V (get ac3 6) wo3 := Pv.keep _ g2_6 (hs 6 rfl) hb
  have hB3 := below_step hB2 hb
  have hd3 := hd_.trans hd2
  clear hv hs hd_ hb hB2 hn2 hd2 g2_13 g2_6 g2_0
  show Code.wp _ _ _ _ _
  refine wp_cond_true (show ac3.eval (Operand.tmp 21) = .bool true from g3_21) ?_
  refine wp_seq ?_
  refine Reg.plain (T := wristbandlaw08_PolyRight.T4) (D := wristbandlaw08_PolyRight.D4) (n := 132) (by kernel_rfl) hn3 (told [Pv.is (.bool true)]) (told_pst _) (owedS owed0 ?s0) ?_
  case s0 =>
    intro b w1 hb hp hu
    exact st_assign rfl (want0 rfl _) rfl rfl
  intro ac4 wo4 hn4 hd_ hb hv hs
  have g4_6 : (Pv.is (.bool true)).V (get ac4 6) wo4 := hv 0 6 rfl
  have hB4 := below_step hB3 hb
  have hd4 := hd_.trans hd3
  clear hv hs hd_ hb hB3 hn3 hd3 g3_21 g3_6
  show Code.wp _ _ _ _ _
  refine wp_ret ?_
  repeat (refine then_ret ?_)
  exact back_is rfl hd4 g4_6 ⟨rfl, hB4⟩
set_option maxRecDepth 100000 in
set_option maxHeartbeats 4000000 in
theorem wristbandlaw08_PolyRight.way2 (k : Nat) (A0 : Option Addr) (c0 : Nat) (l0 : List Int) (A1 : Option Addr) (c1 : Nat) (l1 : List Int) (a2 : Int) (w : World) (hr0 : Kd.C (Kd.int .u8) w A0 l0.length l0) (hc0 : l0.length ≤ c0) (hr1 : Kd.C (Kd.int .u8) w A1 l1.length l1) (hc1 : l1.length ≤ c1) (H1 : wristbandlaw08_awake.ok k) (c1000 : ¬ (((l0).length : Int) > (120 : Int))) (c1001 : ((l1).length : Int) > (120 : Int)) :
    Calls Try.prog 3 #[.slice A0 l0.length c0, .slice A1 l1.length c1, .int .u8 a2] w fun e w' => e = .returned (.bool true) ∧ Below w.heap.size w w' := by
  refine enter Try.func3 rfl (n := 132) rfl ?_
  intro ac0 hn0 hd0 ha
  have hB0 := Below.refl w.heap.size w
  have g0_0 : (Pv.sl (Kd.int .u8) (l0)).V (get ac0 0) w := by rw [ha 0 (by simp)]; exact ⟨A0, c0, rfl, hr0, hc0⟩
  have g0_1 : (Pv.sl (Kd.int .u8) (l1)).V (get ac0 1) w := by rw [ha 1 (by simp)]; exact ⟨A1, c1, rfl, hr1, hc1⟩
  have g0_2 : (Pv.is (.int .u8 (a2))).V (get ac0 2) w := by rw [ha 2 (by simp)]; exact rfl
  clear ha
  refine wp_seq ?_
  refine Reg.plain (T := wristbandlaw08_PolyRight.T0) (D := wristbandlaw08_PolyRight.D0) (n := 132) (by kernel_rfl) hn0 (told [Pv.is (.bool false)]) (told_pst _) (owedS owed0 ?s0) ?_
  case s0 =>
    intro b w1 hb hp hu
    exact st_assign rfl (want0 rfl _) rfl rfl
  intro ac1 wo1 hn1 hd_ hb hv hs
  have g1_6 : (Pv.is (.bool false)).V (get ac1 6) wo1 := hv 0 6 rfl
  have g1_0 : (Pv.sl (Kd.int .u8) (l0)).V (get ac1 0) wo1 := Pv.keep _ g0_0 (hs 0 rfl) hb
  have g1_1 : (Pv.sl (Kd.int .u8) (l1)).V (get ac1 1) wo1 := Pv.keep _ g0_1 (hs 1 rfl) hb
  have hB1 := below_step hB0 hb
  have hd1 := hd_.trans hd0
  clear hv hs hd_ hb hB0 hn0 hd0 g0_0 g0_1 g0_2
  show Code.wp _ _ _ _ _
  refine wp_seq ?_
  refine wp_seq ?_
  refine Reg.plain (T := wristbandlaw08_PolyRight.T1) (D := wristbandlaw08_PolyRight.D1) (n := 132) (by kernel_rfl) hn1 (told [Pv.is (.bool true), Pv.is (.bool false)]) (told_pst _) (owedS (owedS owed0 ?s0) ?s1) ?_
  case s0 =>
    intro b w1 hb hp hu
    refine st_call rfl (want0 rfl _) rfl Try.func9 (by kernel_rfl) rfl #[] (by simp) ?_
    refine (wristbandlaw08_awake.calls k  w1  H1).mono ?_
    rintro e w2 ⟨rfl, hb2⟩
    exact ⟨_, rfl, rfl, hb2⟩
  case s1 =>
    intro b w1 hb hp hu
    have x12 : (Pv.is (.bool true)).V (get b 12) w1 := hp 0 12 (by kernel_rfl) rfl
    exact st_un (v := .bool false) (vx := .bool true) rfl (want0 rfl _) rfl x12 (by first | rfl | (go_simp; first | done | rfl | (simp only [i64_w, i32_w]; done))) rfl
  intro ac2 wo2 hn2 hd_ hb hv hs
  have g2_13 : (Pv.is (.bool false)).V (get ac2 13) wo2 := hv 1 13 rfl
  have g2_6 : (Pv.is (.bool false)).V (get ac2 6) wo2 := Pv.keep _ g1_6 (hs 6 rfl) hb
  have g2_0 : (Pv.sl (Kd.int .u8) (l0)).V (get ac2 0) wo2 := Pv.keep _ g1_0 (hs 0 rfl) hb
  have g2_1 : (Pv.sl (Kd.int .u8) (l1)).V (get ac2 1) wo2 := Pv.keep _ g1_1 (hs 1 rfl) hb
  have hB2 := below_step hB1 hb
  have hd2 := hd_.trans hd1
  clear hv hs hd_ hb hB1 hn1 hd1 g1_6 g1_0 g1_1
  show Code.wp _ _ _ _ _
  refine wp_cond_false (show ac2.eval (Operand.tmp 13) = .bool false from g2_13) ?_
  refine wp_skip ?_
  show Code.wp _ _ _ _ _
  refine wp_seq ?_
  refine wp_seq ?_
  refine Reg.plain (T := wristbandlaw08_PolyRight.T3) (D := wristbandlaw08_PolyRight.D3) (n := 132) (by kernel_rfl) hn2 (told [Pv.sl (Kd.int .u8) (l0), Pv.is (.int .i64 (((l0).length : Int))), Pv.is (.bool false), Pv.is (.bool false), Pv.sl (Kd.int .u8) (l1), Pv.is (.int .i64 (((l1).length : Int))), Pv.is (.bool true), Pv.is (.bool true)]) (told_pst _) (owedS (owedS (owedS (owedS (owedS (owedS (owedS (owedS owed0 ?s0) ?s1) ?s2) ?s3) ?s4) ?s5) ?s6) ?s7) ?_
  case s0 =>
    intro b w1 hb hp hu
    have x0 : (Pv.sl (Kd.int .u8) (l0)).V (get b 0) w1 := Pv.keep _ g2_0 (hu 0 (by kernel_rfl)) hb
    exact st_move rfl (want0 rfl _) rfl x0
  case s1 =>
    intro b w1 hb hp hu
    have x14 : (Pv.sl (Kd.int .u8) (l0)).V (get b 14) w1 := hp 0 14 (by kernel_rfl) rfl
    obtain ⟨A_, c_, e_, _, _⟩ := x14
    exact st_len rfl (want0 rfl _) rfl Try.underlying22 e_ rfl
  case s2 =>
    intro b w1 hb hp hu
    have x15 : (Pv.is (.int .i64 (((l0).length : Int)))).V (get b 15) w1 := hp 1 15 (by kernel_rfl) rfl
    exact st_bin (v := .bool false) (vx := .int .i64 (((l0).length : Int))) (vy := .int .i64 ((120 : Int))) rfl (want0 rfl _) rfl x15 rfl (by first | rfl | (have c_ := c1000; refine Eq.trans (b := Result.ok (.bool decide ((((l0).length : Int)) > ((120 : Int)))) w1) rfl ?_; rw [show decide ((((l0).length : Int)) > ((120 : Int))) = false from decide_eq_false c_]) | (have c_ := c1000; clear hb hp hu; go_simp; first | done | rfl | (simp [c_]; done) | (simp; omega))) rfl
  case s3 =>
    intro b w1 hb hp hu
    have x16 : (Pv.is (.bool false)).V (get b 16) w1 := hp 2 16 (by kernel_rfl) rfl
    exact st_move rfl (want0 rfl _) rfl x16
  case s4 =>
    intro b w1 hb hp hu
    have x17 : (Pv.is (.bool false)).V (get b 17) w1 := hp 3 17 (by kernel_rfl) rfl
    have x1 : (Pv.sl (Kd.int .u8) (l1)).V (get b 1) w1 := Pv.keep _ g2_1 (hu 1 (by kernel_rfl)) hb
    exact st_move rfl ((want_is (N := 17) rfl rfl x17).trans rfl) rfl x1
  case s5 =>
    intro b w1 hb hp hu
    have x17 : (Pv.is (.bool false)).V (get b 17) w1 := hp 3 17 (by kernel_rfl) rfl
    have x18 : (Pv.sl (Kd.int .u8) (l1)).V (get b 18) w1 := hp 4 18 (by kernel_rfl) rfl
    obtain ⟨A_, c_, e_, _, _⟩ := x18
    exact st_len rfl ((want_is (N := 17) rfl rfl x17).trans rfl) rfl Try.underlying22 e_ rfl
  case s6 =>
    intro b w1 hb hp hu
    have x17 : (Pv.is (.bool false)).V (get b 17) w1 := hp 3 17 (by kernel_rfl) rfl
    have x19 : (Pv.is (.int .i64 (((l1).length : Int)))).V (get b 19) w1 := hp 5 19 (by kernel_rfl) rfl
    exact st_bin (v := .bool true) (vx := .int .i64 (((l1).length : Int))) (vy := .int .i64 ((120 : Int))) rfl ((want_is (N := 17) rfl rfl x17).trans rfl) rfl x19 rfl (by first | rfl | (have c_ := c1001; refine Eq.trans (b := Result.ok (.bool decide ((((l1).length : Int)) > ((120 : Int)))) w1) rfl ?_; rw [show decide ((((l1).length : Int)) > ((120 : Int))) = true from decide_eq_true c_]) | (have c_ := c1001; clear hb hp hu; go_simp; first | done | rfl | (simp [c_]; done) | (simp; omega))) rfl
  case s7 =>
    intro b w1 hb hp hu
    have x17 : (Pv.is (.bool false)).V (get b 17) w1 := hp 3 17 (by kernel_rfl) rfl
    have x20 : (Pv.is (.bool true)).V (get b 20) w1 := hp 6 20 (by kernel_rfl) rfl
    exact st_pick (b := false) rfl (want0 rfl _) rfl x17 x20
  intro ac3 wo3 hn3 hd_ hb hv hs
  have g3_21 : (Pv.is (.bool true)).V (get ac3 21) wo3 := hv 7 21 rfl
  have g3_6 : (Pv.is (.bool false)).V (get ac3 6) wo3 := Pv.keep _ g2_6 (hs 6 rfl) hb
  have hB3 := below_step hB2 hb
  have hd3 := hd_.trans hd2
  clear hv hs hd_ hb hB2 hn2 hd2 g2_13 g2_6 g2_0 g2_1
  show Code.wp _ _ _ _ _
  refine wp_cond_true (show ac3.eval (Operand.tmp 21) = .bool true from g3_21) ?_
  refine wp_seq ?_
  refine Reg.plain (T := wristbandlaw08_PolyRight.T4) (D := wristbandlaw08_PolyRight.D4) (n := 132) (by kernel_rfl) hn3 (told [Pv.is (.bool true)]) (told_pst _) (owedS owed0 ?s0) ?_
  case s0 =>
    intro b w1 hb hp hu
    exact st_assign rfl (want0 rfl _) rfl rfl
  intro ac4 wo4 hn4 hd_ hb hv hs
  have g4_6 : (Pv.is (.bool true)).V (get ac4 6) wo4 := hv 0 6 rfl
  have hB4 := below_step hB3 hb
  have hd4 := hd_.trans hd3
  clear hv hs hd_ hb hB3 hn3 hd3 g3_21 g3_6
  show Code.wp _ _ _ _ _
  refine wp_ret ?_
  repeat (refine then_ret ?_)
  exact back_is rfl hd4 g4_6 ⟨rfl, hB4⟩
set_option maxRecDepth 100000 in
set_option maxHeartbeats 4000000 in
theorem wristbandlaw08_PolyRight.way3 (k : Nat) (A0 : Option Addr) (c0 : Nat) (l0 : List Int) (A1 : Option Addr) (c1 : Nat) (l1 : List Int) (a2 : Int) (w : World) (hr0 : Kd.C (Kd.int .u8) w A0 l0.length l0) (hc0 : l0.length ≤ c0) (hr1 : Kd.C (Kd.int .u8) w A1 l1.length l1) (hc1 : l1.length ≤ c1) (H1 : wristbandlaw08_awake.ok k) (t1 : List Int) (H2 : poly_Plain.f (l0) = some t1) (t2 : List Int) (H3 : wristbandref08_Plain.f k (l0) = some t2) (t3 : Int) (H4 : poly_Degree.f (l0) = some t3) (t4 : List Int) (H5 : poly_Add.f k (l0) (l1) = some t4) (t5 : List Int) (H6 : wristbandref08_Add.f k (l0) (l1) = some t5) (t6 : List Int) (H7 : poly_Mul.f k (l0) (l1) = some t6) (t7 : List Int) (H8 : wristbandref08_Mul.f k (l0) (l1) = some t7) (t8 : List Int) (H9 : poly_Times.f k (l0) (a2) = some t8) (t9 : List Int) (H10 : wristbandref08_Times.f k (l0) (a2) = some t9) (t10 : Int) (H11 : poly_Eval.f k (l0) (a2) = some t10) (t11 : Int) (H12 : wristbandref08_Eval.f k (l0) (a2) = some t11) (t12 : List Int) (H13 : poly_Slope.f k (l0) = some t12) (t13 : List Int) (H14 : wristbandref08_Slope.f k (l0) = some t13) (t14 : List Int) (t15 : List Int) (t16 : Int) (H15 : poly_Quo.f k (l0) (l1) = some (t14, t15, t16)) (t17 : List Int) (H16 : wristbandref08_Plain.f k (l1) = some t17) (c1000 : ¬ (((l0).length : Int) > (120 : Int))) (c1001 : ¬ (((l1).length : Int) > (120 : Int))) (c1002 : (strOfNums (t1)).toList = (strOfNums (t2)).toList) (c1003 : t3 = wrap64 (((t2).length : Int) - (1 : Int))) (c1004 : (strOfNums (t4)).toList = (strOfNums (t5)).toList) (c1005 : (strOfNums (t6)).toList = (strOfNums (t7)).toList) (c1006 : (strOfNums (t8)).toList = (strOfNums (t9)).toList) (c1007 : t10 = t11) (c1008 : (strOfNums (t12)).toList = (strOfNums (t13)).toList) (c1009 : ((t17).length : Int) = (0 : Int)) (c1010 : t16 = (1 : Int)) (c1011 : ((t14).length : Int) = (0 : Int)) (c1012 : ((t15).length : Int) = (0 : Int)) :
    Calls Try.prog 3 #[.slice A0 l0.length c0, .slice A1 l1.length c1, .int .u8 a2] w fun e w' => e = .returned (.bool true) ∧ Below w.heap.size w w' := by
  refine enter Try.func3 rfl (n := 132) rfl ?_
  intro ac0 hn0 hd0 ha
  have hB0 := Below.refl w.heap.size w
  have g0_0 : (Pv.sl (Kd.int .u8) (l0)).V (get ac0 0) w := by rw [ha 0 (by simp)]; exact ⟨A0, c0, rfl, hr0, hc0⟩
  have g0_1 : (Pv.sl (Kd.int .u8) (l1)).V (get ac0 1) w := by rw [ha 1 (by simp)]; exact ⟨A1, c1, rfl, hr1, hc1⟩
  have g0_2 : (Pv.is (.int .u8 (a2))).V (get ac0 2) w := by rw [ha 2 (by simp)]; exact rfl
  clear ha
  refine wp_seq ?_
  refine Reg.plain (T := wristbandlaw08_PolyRight.T0) (D := wristbandlaw08_PolyRight.D0) (n := 132) (by kernel_rfl) hn0 (told [Pv.is (.bool false)]) (told_pst _) (owedS owed0 ?s0) ?_
  case s0 =>
    intro b w1 hb hp hu
    exact st_assign rfl (want0 rfl _) rfl rfl
  intro ac1 wo1 hn1 hd_ hb hv hs
  have g1_6 : (Pv.is (.bool false)).V (get ac1 6) wo1 := hv 0 6 rfl
  have g1_0 : (Pv.sl (Kd.int .u8) (l0)).V (get ac1 0) wo1 := Pv.keep _ g0_0 (hs 0 rfl) hb
  have g1_1 : (Pv.sl (Kd.int .u8) (l1)).V (get ac1 1) wo1 := Pv.keep _ g0_1 (hs 1 rfl) hb
  have g1_2 : (Pv.is (.int .u8 (a2))).V (get ac1 2) wo1 := Pv.keep _ g0_2 (hs 2 rfl) hb
  have hB1 := below_step hB0 hb
  have hd1 := hd_.trans hd0
  clear hv hs hd_ hb hB0 hn0 hd0 g0_0 g0_1 g0_2
  show Code.wp _ _ _ _ _
  refine wp_seq ?_
  refine wp_seq ?_
  refine Reg.plain (T := wristbandlaw08_PolyRight.T1) (D := wristbandlaw08_PolyRight.D1) (n := 132) (by kernel_rfl) hn1 (told [Pv.is (.bool true), Pv.is (.bool false)]) (told_pst _) (owedS (owedS owed0 ?s0) ?s1) ?_
  case s0 =>
    intro b w1 hb hp hu
    refine st_call rfl (want0 rfl _) rfl Try.func9 (by kernel_rfl) rfl #[] (by simp) ?_
    refine (wristbandlaw08_awake.calls k  w1  H1).mono ?_
    rintro e w2 ⟨rfl, hb2⟩
    exact ⟨_, rfl, rfl, hb2⟩
  case s1 =>
    intro b w1 hb hp hu
    have x12 : (Pv.is (.bool true)).V (get b 12) w1 := hp 0 12 (by kernel_rfl) rfl
    exact st_un (v := .bool false) (vx := .bool true) rfl (want0 rfl _) rfl x12 (by first | rfl | (go_simp; first | done | rfl | (simp only [i64_w, i32_w]; done))) rfl
  intro ac2 wo2 hn2 hd_ hb hv hs
  have g2_13 : (Pv.is (.bool false)).V (get ac2 13) wo2 := hv 1 13 rfl
  have g2_6 : (Pv.is (.bool false)).V (get ac2 6) wo2 := Pv.keep _ g1_6 (hs 6 rfl) hb
  have g2_0 : (Pv.sl (Kd.int .u8) (l0)).V (get ac2 0) wo2 := Pv.keep _ g1_0 (hs 0 rfl) hb
  have g2_1 : (Pv.sl (Kd.int .u8) (l1)).V (get ac2 1) wo2 := Pv.keep _ g1_1 (hs 1 rfl) hb
  have g2_2 : (Pv.is (.int .u8 (a2))).V (get ac2 2) wo2 := Pv.keep _ g1_2 (hs 2 rfl) hb
  have hB2 := below_step hB1 hb
  have hd2 := hd_.trans hd1
  clear hv hs hd_ hb hB1 hn1 hd1 g1_6 g1_0 g1_1 g1_2
  show Code.wp _ _ _ _ _
  refine wp_cond_false (show ac2.eval (Operand.tmp 13) = .bool false from g2_13) ?_
  refine wp_skip ?_
  show Code.wp _ _ _ _ _
  refine wp_seq ?_
  refine wp_seq ?_
  refine Reg.plain (T := wristbandlaw08_PolyRight.T3) (D := wristbandlaw08_PolyRight.D3) (n := 132) (by kernel_rfl) hn2 (told [Pv.sl (Kd.int .u8) (l0), Pv.is (.int .i64 (((l0).length : Int))), Pv.is (.bool false), Pv.is (.bool false), Pv.sl (Kd.int .u8) (l1), Pv.is (.int .i64 (((l1).length : Int))), Pv.is (.bool false), Pv.is (.bool false)]) (told_pst _) (owedS (owedS (owedS (owedS (owedS (owedS (owedS (owedS owed0 ?s0) ?s1) ?s2) ?s3) ?s4) ?s5) ?s6) ?s7) ?_
  case s0 =>
    intro b w1 hb hp hu
    have x0 : (Pv.sl (Kd.int .u8) (l0)).V (get b 0) w1 := Pv.keep _ g2_0 (hu 0 (by kernel_rfl)) hb
    exact st_move rfl (want0 rfl _) rfl x0
  case s1 =>
    intro b w1 hb hp hu
    have x14 : (Pv.sl (Kd.int .u8) (l0)).V (get b 14) w1 := hp 0 14 (by kernel_rfl) rfl
    obtain ⟨A_, c_, e_, _, _⟩ := x14
    exact st_len rfl (want0 rfl _) rfl Try.underlying22 e_ rfl
  case s2 =>
    intro b w1 hb hp hu
    have x15 : (Pv.is (.int .i64 (((l0).length : Int)))).V (get b 15) w1 := hp 1 15 (by kernel_rfl) rfl
    exact st_bin (v := .bool false) (vx := .int .i64 (((l0).length : Int))) (vy := .int .i64 ((120 : Int))) rfl (want0 rfl _) rfl x15 rfl (by first | rfl | (have c_ := c1000; refine Eq.trans (b := Result.ok (.bool decide ((((l0).length : Int)) > ((120 : Int)))) w1) rfl ?_; rw [show decide ((((l0).length : Int)) > ((120 : Int))) = false from decide_eq_false c_]) | (have c_ := c1000; clear hb hp hu; go_simp; first | done | rfl | (simp [c_]; done) | (simp; omega))) rfl
  case s3 =>
    intro b w1 hb hp hu
    have x16 : (Pv.is (.bool false)).V (get b 16) w1 := hp 2 16 (by kernel_rfl) rfl
    exact st_move rfl (want0 rfl _) rfl x16
  case s4 =>
    intro b w1 hb hp hu
    have x17 : (Pv.is (.bool false)).V (get b 17) w1 := hp 3 17 (by kernel_rfl) rfl
    have x1 : (Pv.sl (Kd.int .u8) (l1)).V (get b 1) w1 := Pv.keep _ g2_1 (hu 1 (by kernel_rfl)) hb
    exact st_move rfl ((want_is (N := 17) rfl rfl x17).trans rfl) rfl x1
  case s5 =>
    intro b w1 hb hp hu
    have x17 : (Pv.is (.bool false)).V (get b 17) w1 := hp 3 17 (by kernel_rfl) rfl
    have x18 : (Pv.sl (Kd.int .u8) (l1)).V (get b 18) w1 := hp 4 18 (by kernel_rfl) rfl
    obtain ⟨A_, c_, e_, _, _⟩ := x18
    exact st_len rfl ((want_is (N := 17) rfl rfl x17).trans rfl) rfl Try.underlying22 e_ rfl
  case s6 =>
    intro b w1 hb hp hu
    have x17 : (Pv.is (.bool false)).V (get b 17) w1 := hp 3 17 (by kernel_rfl) rfl
    have x19 : (Pv.is (.int .i64 (((l1).length : Int)))).V (get b 19) w1 := hp 5 19 (by kernel_rfl) rfl
    exact st_bin (v := .bool false) (vx := .int .i64 (((l1).length : Int))) (vy := .int .i64 ((120 : Int))) rfl ((want_is (N := 17) rfl rfl x17).trans rfl) rfl x19 rfl (by first | rfl | (have c_ := c1001; refine Eq.trans (b := Result.ok (.bool decide ((((l1).length : Int)) > ((120 : Int)))) w1) rfl ?_; rw [show decide ((((l1).length : Int)) > ((120 : Int))) = false from decide_eq_false c_]) | (have c_ := c1001; clear hb hp hu; go_simp; first | done | rfl | (simp [c_]; done) | (simp; omega))) rfl
  case s7 =>
    intro b w1 hb hp hu
    have x17 : (Pv.is (.bool false)).V (get b 17) w1 := hp 3 17 (by kernel_rfl) rfl
    have x20 : (Pv.is (.bool false)).V (get b 20) w1 := hp 6 20 (by kernel_rfl) rfl
    exact st_pick (b := false) rfl (want0 rfl _) rfl x17 x20
  intro ac3 wo3 hn3 hd_ hb hv hs
  have g3_21 : (Pv.is (.bool false)).V (get ac3 21) wo3 := hv 7 21 rfl
  have g3_6 : (Pv.is (.bool false)).V (get ac3 6) wo3 := Pv.keep _ g2_6 (hs 6 rfl) hb
  have g3_0 : (Pv.sl (Kd.int .u8) (l0)).V (get ac3 0) wo3 := Pv.keep _ g2_0 (hs 0 rfl) hb
  have g3_1 : (Pv.sl (Kd.int .u8) (l1)).V (get ac3 1) wo3 := Pv.keep _ g2_1 (hs 1 rfl) hb
  have g3_2 : (Pv.is (.int .u8 (a2))).V (get ac3 2) wo3 := Pv.keep _ g2_2 (hs 2 rfl) hb
  have hB3 := below_step hB2 hb
  have hd3 := hd_.trans hd2
  clear hv hs hd_ hb hB2 hn2 hd2 g2_13 g2_6 g2_0 g2_1 g2_2
  show Code.wp _ _ _ _ _
  refine wp_cond_false (show ac3.eval (Operand.tmp 21) = .bool false from g3_21) ?_
  refine wp_skip ?_
  show Code.wp _ _ _ _ _
  refine wp_seq ?_
  refine wp_seq ?_
  refine Reg.draws (T := wristbandlaw08_PolyRight.T5) (D := wristbandlaw08_PolyRight.D5) (n := 132) rfl (by kernel_rfl) hn3 (told [Pv.sl (Kd.int .u8) (l0), Pv.sl (Kd.int .u8) (t1), Pv.is (.string (strOfNums (t1))), Pv.sl (Kd.int .u8) (l0), Pv.sl (Kd.int .u8) (t2), Pv.is (.string (strOfNums (t2))), Pv.is (.bool false), Pv.is (.bool false), Pv.sl (Kd.int .u8) (l0), Pv.is (.int .i64 (t3)), Pv.sl (Kd.int .u8) (l0), Pv.sl (Kd.int .u8) (t2), Pv.is (.int .i64 (((t2).length : Int))), Pv.is (.int .i64 (wrap64 (((t2).length : Int) - (1 : Int)))), Pv.is (.bool false), Pv.is (.bool false), Pv.is (.bool false), Pv.sl (Kd.int .u8) (l0), Pv.sl (Kd.int .u8) (l1), Pv.sl (Kd.int .u8) (t4), Pv.is (.string (strOfNums (t4))), Pv.sl (Kd.int .u8) (l0), Pv.sl (Kd.int .u8) (l1), Pv.sl (Kd.int .u8) (t5), Pv.is (.string (strOfNums (t5))), Pv.is (.bool false), Pv.is (.bool false), Pv.is (.bool false), Pv.sl (Kd.int .u8) (l0), Pv.sl (Kd.int .u8) (l1), Pv.sl (Kd.int .u8) (t6), Pv.is (.string (strOfNums (t6))), Pv.sl (Kd.int .u8) (l0), Pv.sl (Kd.int .u8) (l1), Pv.sl (Kd.int .u8) (t7), Pv.is (.string (strOfNums (t7))), Pv.is (.bool false), Pv.is (.bool false)]) (told_pst _) (owedS (owedS (owedS (owedS (owedS (owedS (owedS (owedS (owedS (owedS (owedS (owedS (owedS (owedS (owedS (owedS (owedS (owedS (owedS (owedS (owedS (owedS (owedS (owedS (owedS (owedS (owedS (owedS (owedS (owedS (owedS (owedS (owedS (owedS (owedS (owedS (owedS (owedS owed0 ?s0) ?s1) ?s2) ?s3) ?s4) ?s5) ?s6) ?s7) ?s8) ?s9) ?s10) ?s11) ?s12) ?s13) ?s14) ?s15) ?s16) ?s17) ?s18) ?s19) ?s20) ?s21) ?s22) ?s23) ?s24) ?s25) ?s26) ?s27) ?s28) ?s29) ?s30) ?s31) ?s32) ?s33) ?s34) ?s35) ?s36) ?s37) ?_
  case s0 =>
    intro b w1 hb hp hu
    have x0 : (Pv.sl (Kd.int .u8) (l0)).V (get b 0) w1 := Pv.keep _ g3_0 (hu 0 (by kernel_rfl)) hb
    exact st_move rfl (want0 rfl _) rfl x0
  case s1 =>
    intro b w1 hb hp hu
    have x22 : (Pv.sl (Kd.int .u8) (l0)).V (get b 22) w1 := hp 0 22 (by kernel_rfl) rfl
    obtain ⟨B0, d0, e0_, hC0, hl0⟩ := x22
    have e0 : b.eval (Operand.tmp 22) = .slice B0 (l0).length d0 := e0_
    refine st_call rfl (want0 rfl _) rfl Try.func10 (by kernel_rfl) rfl #[.slice B0 (l0).length d0] (by simp only [List.map_toArray, List.map_cons, List.map_nil, e0]) ?_
    refine (poly_Plain.calls B0 d0 _ _ w1 hC0 hl0 H2).mono ?_
    rintro e w2 ⟨v0_, rfl, ho0, hb2⟩
    exact ⟨_, rfl, Pv.of_sl ho0, hb2⟩
  case s2 =>
    intro b w1 hb hp hu
    have x23 : (Pv.sl (Kd.int .u8) (t1)).V (get b 23) w1 := hp 1 23 (by kernel_rfl) rfl
    exact st_string Try.underlying22 Try.underlying5 Try.underlying9 rfl (want0 rfl _) rfl x23 rfl
  case s3 =>
    intro b w1 hb hp hu
    have x0 : (Pv.sl (Kd.int .u8) (l0)).V (get b 0) w1 := Pv.keep _ g3_0 (hu 0 (by kernel_rfl)) hb
    exact st_move rfl (want0 rfl _) rfl x0
  case s4 =>
    intro b w1 hb hp hu
    have x25 : (Pv.sl (Kd.int .u8) (l0)).V (get b 25) w1 := hp 3 25 (by kernel_rfl) rfl
    obtain ⟨B0, d0, e0_, hC0, hl0⟩ := x25
    have e0 : b.eval (Operand.tmp 25) = .slice B0 (l0).length d0 := e0_
    refine st_call rfl (want0 rfl _) rfl Try.func11 (by kernel_rfl) rfl #[.slice B0 (l0).length d0] (by simp only [List.map_toArray, List.map_cons, List.map_nil, e0]) ?_
    refine (wristbandref08_Plain.calls k B0 d0 _ _ w1 hC0 hl0 H3).mono ?_
    rintro e w2 ⟨v0_, rfl, ho0, hb2⟩
    exact ⟨_, rfl, Pv.of_sl ho0, hb2⟩
  case s5 =>
    intro b w1 hb hp hu
    have x26 : (Pv.sl (Kd.int .u8) (t2)).V (get b 26) w1 := hp 4 26 (by kernel_rfl) rfl
    exact st_string Try.underlying22 Try.underlying5 Try.underlying9 rfl (want0 rfl _) rfl x26 rfl
  case s6 =>
    intro b w1 hb hp hu
    have x24 : (Pv.is (.string (strOfNums (t1)))).V (get b 24) w1 := hp 2 24 (by kernel_rfl) rfl
    have x27 : (Pv.is (.string (strOfNums (t2)))).V (get b 27) w1 := hp 5 27 (by kernel_rfl) rfl
    exact st_bin (v := .bool false) (vx := .string (strOfNums (t1))) (vy := .string (strOfNums (t2))) rfl (want0 rfl _) rfl x24 x27 (by first | rfl | (have c_ := c1002; clear hb hp hu; go_simp; first | done | rfl | (simp [c_]; done) | (simp; omega))) rfl
  case s7 =>
    intro b w1 hb hp hu
    have x28 : (Pv.is (.bool false)).V (get b 28) w1 := hp 6 28 (by kernel_rfl) rfl
    exact st_move rfl (want0 rfl _) rfl x28
  case s8 =>
    intro b w1 hb hp hu
    have x29 : (Pv.is (.bool false)).V (get b 29) w1 := hp 7 29 (by kernel_rfl) rfl
    have x0 : (Pv.sl (Kd.int .u8) (l0)).V (get b 0) w1 := Pv.keep _ g3_0 (hu 0 (by kernel_rfl)) hb
    exact st_move rfl ((want_is (N := 29) rfl rfl x29).trans rfl) rfl x0
  case s9 =>
    intro b w1 hb hp hu
    have x29 : (Pv.is (.bool false)).V (get b 29) w1 := hp 7 29 (by kernel_rfl) rfl
    have x30 : (Pv.sl (Kd.int .u8) (l0)).V (get b 30) w1 := hp 8 30 (by kernel_rfl) rfl
    obtain ⟨B0, d0, e0_, hC0, hl0⟩ := x30
    have e0 : b.eval (Operand.tmp 30) = .slice B0 (l0).length d0 := e0_
    refine st_call rfl ((want_is (N := 29) rfl rfl x29).trans rfl) rfl Try.func12 (by kernel_rfl) rfl #[.slice B0 (l0).length d0] (by simp only [List.map_toArray, List.map_cons, List.map_nil, e0]) ?_
    refine (poly_Degree.calls B0 d0 _ _ w1 hC0 hl0 H4).mono ?_
    rintro e w2 ⟨rfl, hb2⟩
    exact ⟨_, rfl, rfl, hb2⟩
  case s10 =>
    intro b w1 hb hp hu
    have x29 : (Pv.is (.bool false)).V (get b 29) w1 := hp 7 29 (by kernel_rfl) rfl
    have x0 : (Pv.sl (Kd.int .u8) (l0)).V (get b 0) w1 := Pv.keep _ g3_0 (hu 0 (by kernel_rfl)) hb
    exact st_move rfl ((want_is (N := 29) rfl rfl x29).trans rfl) rfl x0
  case s11 =>
    intro b w1 hb hp hu
    have x29 : (Pv.is (.bool false)).V (get b 29) w1 := hp 7 29 (by kernel_rfl) rfl
    have x32 : (Pv.sl (Kd.int .u8) (l0)).V (get b 32) w1 := hp 10 32 (by kernel_rfl) rfl
    obtain ⟨B0, d0, e0_, hC0, hl0⟩ := x32
    have e0 : b.eval (Operand.tmp 32) = .slice B0 (l0).length d0 := e0_
    refine st_call rfl ((want_is (N := 29) rfl rfl x29).trans rfl) rfl Try.func11 (by kernel_rfl) rfl #[.slice B0 (l0).length d0] (by simp only [List.map_toArray, List.map_cons, List.map_nil, e0]) ?_
    refine (wristbandref08_Plain.calls k B0 d0 _ _ w1 hC0 hl0 H3).mono ?_
    rintro e w2 ⟨v0_, rfl, ho0, hb2⟩
    exact ⟨_, rfl, Pv.of_sl ho0, hb2⟩
  case s12 =>
    intro b w1 hb hp hu
    have x29 : (Pv.is (.bool false)).V (get b 29) w1 := hp 7 29 (by kernel_rfl) rfl
    have x33 : (Pv.sl (Kd.int .u8) (t2)).V (get b 33) w1 := hp 11 33 (by kernel_rfl) rfl
    obtain ⟨A_, c_, e_, _, _⟩ := x33
    exact st_len rfl ((want_is (N := 29) rfl rfl x29).trans rfl) rfl Try.underlying22 e_ rfl
  case s13 =>
    intro b w1 hb hp hu
    have x29 : (Pv.is (.bool false)).V (get b 29) w1 := hp 7 29 (by kernel_rfl) rfl
    have x34 : (Pv.is (.int .i64 (((t2).length : Int)))).V (get b 34) w1 := hp 12 34 (by kernel_rfl) rfl
    exact st_bin (v := .int .i64 (wrap64 (((t2).length : Int) - (1 : Int)))) (vx := .int .i64 (((t2).length : Int))) (vy := .int .i64 ((1 : Int))) rfl ((want_is (N := 29) rfl rfl x29).trans rfl) rfl x34 rfl (by first | rfl | (go_simp; first | done | rfl | (simp only [i64_w, i32_w]; done))) rfl
  case s14 =>
    intro b w1 hb hp hu
    have x29 : (Pv.is (.bool false)).V (get b 29) w1 := hp 7 29 (by kernel_rfl) rfl
    have x31 : (Pv.is (.int .i64 (t3))).V (get b 31) w1 := hp 9 31 (by kernel_rfl) rfl
    have x35 : (Pv.is (.int .i64 (wrap64 (((t2).length : Int) - (1 : Int))))).V (get b 35) w1 := hp 13 35 (by kernel_rfl) rfl
    exact st_bin (v := .bool false) (vx := .int .i64 (t3)) (vy := .int .i64 (wrap64 (((t2).length : Int) - (1 : Int)))) rfl ((want_is (N := 29) rfl rfl x29).trans rfl) rfl x31 x35 (by first | rfl | (have c_ := c1003; refine Eq.trans (b := Result.ok (.bool ((t3) != (wrap64 (((t2).length : Int) - (1 : Int))))) w1) rfl ?_; rw [show ((t3) != (wrap64 (((t2).length : Int) - (1 : Int)))) = false from bne_eq_false_iff_eq.mpr c_]) | (have c_ := c1003; clear hb hp hu; go_simp; first | done | rfl | (simp [c_]; done) | (simp; omega))) rfl
  case s15 =>
    intro b w1 hb hp hu
    have x29 : (Pv.is (.bool false)).V (get b 29) w1 := hp 7 29 (by kernel_rfl) rfl
    have x36 : (Pv.is (.bool false)).V (get b 36) w1 := hp 14 36 (by kernel_rfl) rfl
    exact st_pick (b := false) rfl (want0 rfl _) rfl x29 x36
  case s16 =>
    intro b w1 hb hp hu
    have x37 : (Pv.is (.bool false)).V (get b 37) w1 := hp 15 37 (by kernel_rfl) rfl
    exact st_move rfl (want0 rfl _) rfl x37
  case s17 =>
    intro b w1 hb hp hu
    have x38 : (Pv.is (.bool false)).V (get b 38) w1 := hp 16 38 (by kernel_rfl) rfl
    have x0 : (Pv.sl (Kd.int .u8) (l0)).V (get b 0) w1 := Pv.keep _ g3_0 (hu 0 (by kernel_rfl)) hb
    exact st_move rfl ((want_is (N := 38) rfl rfl x38).trans rfl) rfl x0
  case s18 =>
    intro b w1 hb hp hu
    have x38 : (Pv.is (.bool false)).V (get b 38) w1 := hp 16 38 (by kernel_rfl) rfl
    have x1 : (Pv.sl (Kd.int .u8) (l1)).V (get b 1) w1 := Pv.keep _ g3_1 (hu 1 (by kernel_rfl)) hb
    exact st_move rfl ((want_is (N := 38) rfl rfl x38).trans rfl) rfl x1
  case s19 =>
    intro b w1 hb hp hu
    have x38 : (Pv.is (.bool false)).V (get b 38) w1 := hp 16 38 (by kernel_rfl) rfl
    have x39 : (Pv.sl (Kd.int .u8) (l0)).V (get b 39) w1 := hp 17 39 (by kernel_rfl) rfl
    obtain ⟨B0, d0, e0_, hC0, hl0⟩ := x39
    have e0 : b.eval (Operand.tmp 39) = .slice B0 (l0).length d0 := e0_
    have x40 : (Pv.sl (Kd.int .u8) (l1)).V (get b 40) w1 := hp 18 40 (by kernel_rfl) rfl
    obtain ⟨B1, d1, e1_, hC1, hl1⟩ := x40
    have e1 : b.eval (Operand.tmp 40) = .slice B1 (l1).length d1 := e1_
    refine st_call rfl ((want_is (N := 38) rfl rfl x38).trans rfl) rfl Try.func13 (by kernel_rfl) rfl #[.slice B0 (l0).length d0, .slice B1 (l1).length d1] (by simp only [List.map_toArray, List.map_cons, List.map_nil, e0, e1]) ?_
    refine (poly_Add.calls k B0 d0 _ B1 d1 _ _ w1 hC0 hl0 hC1 hl1 H5).mono ?_
    rintro e w2 ⟨v0_, rfl, ho0, hb2⟩
    exact ⟨_, rfl, Pv.of_sl ho0, hb2⟩
  case s20 =>
    intro b w1 hb hp hu
    have x38 : (Pv.is (.bool false)).V (get b 38) w1 := hp 16 38 (by kernel_rfl) rfl
    have x41 : (Pv.sl (Kd.int .u8) (t4)).V (get b 41) w1 := hp 19 41 (by kernel_rfl) rfl
    exact st_string Try.underlying22 Try.underlying5 Try.underlying9 rfl ((want_is (N := 38) rfl rfl x38).trans rfl) rfl x41 rfl
  case s21 =>
    intro b w1 hb hp hu
    have x38 : (Pv.is (.bool false)).V (get b 38) w1 := hp 16 38 (by kernel_rfl) rfl
    have x0 : (Pv.sl (Kd.int .u8) (l0)).V (get b 0) w1 := Pv.keep _ g3_0 (hu 0 (by kernel_rfl)) hb
    exact st_move rfl ((want_is (N := 38) rfl rfl x38).trans rfl) rfl x0
  case s22 =>
    intro b w1 hb hp hu
    have x38 : (Pv.is (.bool false)).V (get b 38) w1 := hp 16 38 (by kernel_rfl) rfl
    have x1 : (Pv.sl (Kd.int .u8) (l1)).V (get b 1) w1 := Pv.keep _ g3_1 (hu 1 (by kernel_rfl)) hb
    exact st_move rfl ((want_is (N := 38) rfl rfl x38).trans rfl) rfl x1
  case s23 =>
    intro b w1 hb hp hu
    have x38 : (Pv.is (.bool false)).V (get b 38) w1 := hp 16 38 (by kernel_rfl) rfl
    have x43 : (Pv.sl (Kd.int .u8) (l0)).V (get b 43) w1 := hp 21 43 (by kernel_rfl) rfl
    obtain ⟨B0, d0, e0_, hC0, hl0⟩ := x43
    have e0 : b.eval (Operand.tmp 43) = .slice B0 (l0).length d0 := e0_
    have x44 : (Pv.sl (Kd.int .u8) (l1)).V (get b 44) w1 := hp 22 44 (by kernel_rfl) rfl
    obtain ⟨B1, d1, e1_, hC1, hl1⟩ := x44
    have e1 : b.eval (Operand.tmp 44) = .slice B1 (l1).length d1 := e1_
    refine st_call rfl ((want_is (N := 38) rfl rfl x38).trans rfl) rfl Try.func14 (by kernel_rfl) rfl #[.slice B0 (l0).length d0, .slice B1 (l1).length d1] (by simp only [List.map_toArray, List.map_cons, List.map_nil, e0, e1]) ?_
    refine (wristbandref08_Add.calls k B0 d0 _ B1 d1 _ _ w1 hC0 hl0 hC1 hl1 H6).mono ?_
    rintro e w2 ⟨v0_, rfl, ho0, hb2⟩
    exact ⟨_, rfl, Pv.of_sl ho0, hb2⟩
  case s24 =>
    intro b w1 hb hp hu
    have x38 : (Pv.is (.bool false)).V (get b 38) w1 := hp 16 38 (by kernel_rfl) rfl
    have x45 : (Pv.sl (Kd.int .u8) (t5)).V (get b 45) w1 := hp 23 45 (by kernel_rfl) rfl
    exact st_string Try.underlying22 Try.underlying5 Try.underlying9 rfl ((want_is (N := 38) rfl rfl x38).trans rfl) rfl x45 rfl
  case s25 =>
    intro b w1 hb hp hu
    have x38 : (Pv.is (.bool false)).V (get b 38) w1 := hp 16 38 (by kernel_rfl) rfl
    have x42 : (Pv.is (.string (strOfNums (t4)))).V (get b 42) w1 := hp 20 42 (by kernel_rfl) rfl
    have x46 : (Pv.is (.string (strOfNums (t5)))).V (get b 46) w1 := hp 24 46 (by kernel_rfl) rfl
    exact st_bin (v := .bool false) (vx := .string (strOfNums (t4))) (vy := .string (strOfNums (t5))) rfl ((want_is (N := 38) rfl rfl x38).trans rfl) rfl x42 x46 (by first | rfl | (have c_ := c1004; clear hb hp hu; go_simp; first | done | rfl | (simp [c_]; done) | (simp; omega))) rfl
  case s26 =>
    intro b w1 hb hp hu
    have x38 : (Pv.is (.bool false)).V (get b 38) w1 := hp 16 38 (by kernel_rfl) rfl
    have x47 : (Pv.is (.bool false)).V (get b 47) w1 := hp 25 47 (by kernel_rfl) rfl
    exact st_pick (b := false) rfl (want0 rfl _) rfl x38 x47
  case s27 =>
    intro b w1 hb hp hu
    have x48 : (Pv.is (.bool false)).V (get b 48) w1 := hp 26 48 (by kernel_rfl) rfl
    exact st_move rfl (want0 rfl _) rfl x48
  case s28 =>
    intro b w1 hb hp hu
    have x49 : (Pv.is (.bool false)).V (get b 49) w1 := hp 27 49 (by kernel_rfl) rfl
    have x0 : (Pv.sl (Kd.int .u8) (l0)).V (get b 0) w1 := Pv.keep _ g3_0 (hu 0 (by kernel_rfl)) hb
    exact st_move rfl ((want_is (N := 49) rfl rfl x49).trans rfl) rfl x0
  case s29 =>
    intro b w1 hb hp hu
    have x49 : (Pv.is (.bool false)).V (get b 49) w1 := hp 27 49 (by kernel_rfl) rfl
    have x1 : (Pv.sl (Kd.int .u8) (l1)).V (get b 1) w1 := Pv.keep _ g3_1 (hu 1 (by kernel_rfl)) hb
    exact st_move rfl ((want_is (N := 49) rfl rfl x49).trans rfl) rfl x1
  case s30 =>
    intro b w1 hb hp hu
    have x49 : (Pv.is (.bool false)).V (get b 49) w1 := hp 27 49 (by kernel_rfl) rfl
    have x50 : (Pv.sl (Kd.int .u8) (l0)).V (get b 50) w1 := hp 28 50 (by kernel_rfl) rfl
    obtain ⟨B0, d0, e0_, hC0, hl0⟩ := x50
    have e0 : b.eval (Operand.tmp 50) = .slice B0 (l0).length d0 := e0_
    have x51 : (Pv.sl (Kd.int .u8) (l1)).V (get b 51) w1 := hp 29 51 (by kernel_rfl) rfl
    obtain ⟨B1, d1, e1_, hC1, hl1⟩ := x51
    have e1 : b.eval (Operand.tmp 51) = .slice B1 (l1).length d1 := e1_
    refine st_call rfl ((want_is (N := 49) rfl rfl x49).trans rfl) rfl Try.func15 (by kernel_rfl) rfl #[.slice B0 (l0).length d0, .slice B1 (l1).length d1] (by simp only [List.map_toArray, List.map_cons, List.map_nil, e0, e1]) ?_
    refine (poly_Mul.calls k B0 d0 _ B1 d1 _ _ w1 hC0 hl0 hC1 hl1 H7).mono ?_
    rintro e w2 ⟨v0_, rfl, ho0, hb2⟩
    exact ⟨_, rfl, Pv.of_sl ho0, hb2⟩
  case s31 =>
    intro b w1 hb hp hu
    have x49 : (Pv.is (.bool false)).V (get b 49) w1 := hp 27 49 (by kernel_rfl) rfl
    have x52 : (Pv.sl (Kd.int .u8) (t6)).V (get b 52) w1 := hp 30 52 (by kernel_rfl) rfl
    exact st_string Try.underlying22 Try.underlying5 Try.underlying9 rfl ((want_is (N := 49) rfl rfl x49).trans rfl) rfl x52 rfl
  case s32 =>
    intro b w1 hb hp hu
    have x49 : (Pv.is (.bool false)).V (get b 49) w1 := hp 27 49 (by kernel_rfl) rfl
    have x0 : (Pv.sl (Kd.int .u8) (l0)).V (get b 0) w1 := Pv.keep _ g3_0 (hu 0 (by kernel_rfl)) hb
    exact st_move rfl ((want_is (N := 49) rfl rfl x49).trans rfl) rfl x0
  case s33 =>
    intro b w1 hb hp hu
    have x49 : (Pv.is (.bool false)).V (get b 49) w1 := hp 27 49 (by kernel_rfl) rfl
    have x1 : (Pv.sl (Kd.int .u8) (l1)).V (get b 1) w1 := Pv.keep _ g3_1 (hu 1 (by kernel_rfl)) hb
    exact st_move rfl ((want_is (N := 49) rfl rfl x49).trans rfl) rfl x1
  case s34 =>
    intro b w1 hb hp hu
    have x49 : (Pv.is (.bool false)).V (get b 49) w1 := hp 27 49 (by kernel_rfl) rfl
    have x54 : (Pv.sl (Kd.int .u8) (l0)).V (get b 54) w1 := hp 32 54 (by kernel_rfl) rfl
    obtain ⟨B0, d0, e0_, hC0, hl0⟩ := x54
    have e0 : b.eval (Operand.tmp 54) = .slice B0 (l0).length d0 := e0_
    have x55 : (Pv.sl (Kd.int .u8) (l1)).V (get b 55) w1 := hp 33 55 (by kernel_rfl) rfl
    obtain ⟨B1, d1, e1_, hC1, hl1⟩ := x55
    have e1 : b.eval (Operand.tmp 55) = .slice B1 (l1).length d1 := e1_
    refine st_call rfl ((want_is (N := 49) rfl rfl x49).trans rfl) rfl Try.func16 (by kernel_rfl) rfl #[.slice B0 (l0).length d0, .slice B1 (l1).length d1] (by simp only [List.map_toArray, List.map_cons, List.map_nil, e0, e1]) ?_
    refine (wristbandref08_Mul.calls k B0 d0 _ B1 d1 _ _ w1 hC0 hl0 hC1 hl1 H8).mono ?_
    rintro e w2 ⟨v0_, rfl, ho0, hb2⟩
    exact ⟨_, rfl, Pv.of_sl ho0, hb2⟩
  case s35 =>
    intro b w1 hb hp hu
    have x49 : (Pv.is (.bool false)).V (get b 49) w1 := hp 27 49 (by kernel_rfl) rfl
    have x56 : (Pv.sl (Kd.int .u8) (t7)).V (get b 56) w1 := hp 34 56 (by kernel_rfl) rfl
    exact st_string Try.underlying22 Try.underlying5 Try.underlying9 rfl ((want_is (N := 49) rfl rfl x49).trans rfl) rfl x56 rfl
  case s36 =>
    intro b w1 hb hp hu
    have x49 : (Pv.is (.bool false)).V (get b 49) w1 := hp 27 49 (by kernel_rfl) rfl
    have x53 : (Pv.is (.string (strOfNums (t6)))).V (get b 53) w1 := hp 31 53 (by kernel_rfl) rfl
    have x57 : (Pv.is (.string (strOfNums (t7)))).V (get b 57) w1 := hp 35 57 (by kernel_rfl) rfl
    exact st_bin (v := .bool false) (vx := .string (strOfNums (t6))) (vy := .string (strOfNums (t7))) rfl ((want_is (N := 49) rfl rfl x49).trans rfl) rfl x53 x57 (by first | rfl | (have c_ := c1005; clear hb hp hu; go_simp; first | done | rfl | (simp [c_]; done) | (simp; omega))) rfl
  case s37 =>
    intro b w1 hb hp hu
    have x49 : (Pv.is (.bool false)).V (get b 49) w1 := hp 27 49 (by kernel_rfl) rfl
    have x58 : (Pv.is (.bool false)).V (get b 58) w1 := hp 36 58 (by kernel_rfl) rfl
    exact st_pick (b := false) rfl (want0 rfl _) rfl x49 x58
  intro ac4 wo4 hn4 hd_ hb hv hs
  have g4_59 : (Pv.is (.bool false)).V (get ac4 59) wo4 := hv 37 59 rfl
  have g4_6 : (Pv.is (.bool false)).V (get ac4 6) wo4 := Pv.keep _ g3_6 (hs 6 rfl) hb
  have g4_0 : (Pv.sl (Kd.int .u8) (l0)).V (get ac4 0) wo4 := Pv.keep _ g3_0 (hs 0 rfl) hb
  have g4_1 : (Pv.sl (Kd.int .u8) (l1)).V (get ac4 1) wo4 := Pv.keep _ g3_1 (hs 1 rfl) hb
  have g4_2 : (Pv.is (.int .u8 (a2))).V (get ac4 2) wo4 := Pv.keep _ g3_2 (hs 2 rfl) hb
  have hB4 := below_step hB3 hb
  have hd4 := hd_.trans hd3
  clear hv hs hd_ hb hB3 hn3 hd3 g3_21 g3_6 g3_0 g3_1 g3_2
  show Code.wp _ _ _ _ _
  refine wp_cond_false (show ac4.eval (Operand.tmp 59) = .bool false from g4_59) ?_
  refine wp_skip ?_
  show Code.wp _ _ _ _ _
  refine wp_seq ?_
  refine wp_seq ?_
  refine Reg.draws (T := wristbandlaw08_PolyRight.T7) (D := wristbandlaw08_PolyRight.D7) (n := 132) rfl (by kernel_rfl) hn4 (told [Pv.sl (Kd.int .u8) (l0), Pv.is (.int .u8 (a2)), Pv.sl (Kd.int .u8) (t8), Pv.is (.string (strOfNums (t8))), Pv.sl (Kd.int .u8) (l0), Pv.is (.int .u8 (a2)), Pv.sl (Kd.int .u8) (t9), Pv.is (.string (strOfNums (t9))), Pv.is (.bool false), Pv.is (.bool false), Pv.sl (Kd.int .u8) (l0), Pv.is (.int .u8 (a2)), Pv.is (.int .u8 (t10)), Pv.sl (Kd.int .u8) (l0), Pv.is (.int .u8 (a2)), Pv.is (.int .u8 (t11)), Pv.is (.bool false), Pv.is (.bool false), Pv.is (.bool false), Pv.sl (Kd.int .u8) (l0), Pv.sl (Kd.int .u8) (t12), Pv.is (.string (strOfNums (t12))), Pv.sl (Kd.int .u8) (l0), Pv.sl (Kd.int .u8) (t13), Pv.is (.string (strOfNums (t13))), Pv.is (.bool false), Pv.is (.bool false)]) (told_pst _) (owedS (owedS (owedS (owedS (owedS (owedS (owedS (owedS (owedS (owedS (owedS (owedS (owedS (owedS (owedS (owedS (owedS (owedS (owedS (owedS (owedS (owedS (owedS (owedS (owedS (owedS (owedS owed0 ?s0) ?s1) ?s2) ?s3) ?s4) ?s5) ?s6) ?s7) ?s8) ?s9) ?s10) ?s11) ?s12) ?s13) ?s14) ?s15) ?s16) ?s17) ?s18) ?s19) ?s20) ?s21) ?s22) ?s23) ?s24) ?s25) ?s26) ?_
  case s0 =>
    intro b w1 hb hp hu
    have x0 : (Pv.sl (Kd.int .u8) (l0)).V (get b 0) w1 := Pv.keep _ g4_0 (hu 0 (by kernel_rfl)) hb
    exact st_move rfl (want0 rfl _) rfl x0
  case s1 =>
    intro b w1 hb hp hu
    have x2 : (Pv.is (.int .u8 (a2))).V (get b 2) w1 := Pv.keep _ g4_2 (hu 2 (by kernel_rfl)) hb
    exact st_move rfl (want0 rfl _) rfl x2
  case s2 =>
    intro b w1 hb hp hu
    have x60 : (Pv.sl (Kd.int .u8) (l0)).V (get b 60) w1 := hp 0 60 (by kernel_rfl) rfl
    obtain ⟨B0, d0, e0_, hC0, hl0⟩ := x60
    have e0 : b.eval (Operand.tmp 60) = .slice B0 (l0).length d0 := e0_
    have x61 : (Pv.is (.int .u8 (a2))).V (get b 61) w1 := hp 1 61 (by kernel_rfl) rfl
    have e1 : b.eval (Operand.tmp 61) = .int .u8 (a2) := x61
    refine st_call rfl (want0 rfl _) rfl Try.func17 (by kernel_rfl) rfl #[.slice B0 (l0).length d0, .int .u8 (a2)] (by simp only [List.map_toArray, List.map_cons, List.map_nil, e0, e1]) ?_
    refine (poly_Times.calls k B0 d0 _ _ _ w1 hC0 hl0 H9).mono ?_
    rintro e w2 ⟨v0_, rfl, ho0, hb2⟩
    exact ⟨_, rfl, Pv.of_sl ho0, hb2⟩
  case s3 =>
    intro b w1 hb hp hu
    have x62 : (Pv.sl (Kd.int .u8) (t8)).V (get b 62) w1 := hp 2 62 (by kernel_rfl) rfl
    exact st_string Try.underlying22 Try.underlying5 Try.underlying9 rfl (want0 rfl _) rfl x62 rfl
  case s4 =>
    intro b w1 hb hp hu
    have x0 : (Pv.sl (Kd.int .u8) (l0)).V (get b 0) w1 := Pv.keep _ g4_0 (hu 0 (by kernel_rfl)) hb
    exact st_move rfl (want0 rfl _) rfl x0
  case s5 =>
    intro b w1 hb hp hu
    have x2 : (Pv.is (.int .u8 (a2))).V (get b 2) w1 := Pv.keep _ g4_2 (hu 2 (by kernel_rfl)) hb
    exact st_move rfl (want0 rfl _) rfl x2
  case s6 =>
    intro b w1 hb hp hu
    have x64 : (Pv.sl (Kd.int .u8) (l0)).V (get b 64) w1 := hp 4 64 (by kernel_rfl) rfl
    obtain ⟨B0, d0, e0_, hC0, hl0⟩ := x64
    have e0 : b.eval (Operand.tmp 64) = .slice B0 (l0).length d0 := e0_
    have x65 : (Pv.is (.int .u8 (a2))).V (get b 65) w1 := hp 5 65 (by kernel_rfl) rfl
    have e1 : b.eval (Operand.tmp 65) = .int .u8 (a2) := x65
    refine st_call rfl (want0 rfl _) rfl Try.func18 (by kernel_rfl) rfl #[.slice B0 (l0).length d0, .int .u8 (a2)] (by simp only [List.map_toArray, List.map_cons, List.map_nil, e0, e1]) ?_
    refine (wristbandref08_Times.calls k B0 d0 _ _ _ w1 hC0 hl0 H10).mono ?_
    rintro e w2 ⟨v0_, rfl, ho0, hb2⟩
    exact ⟨_, rfl, Pv.of_sl ho0, hb2⟩
  case s7 =>
    intro b w1 hb hp hu
    have x66 : (Pv.sl (Kd.int .u8) (t9)).V (get b 66) w1 := hp 6 66 (by kernel_rfl) rfl
    exact st_string Try.underlying22 Try.underlying5 Try.underlying9 rfl (want0 rfl _) rfl x66 rfl
  case s8 =>
    intro b w1 hb hp hu
    have x63 : (Pv.is (.string (strOfNums (t8)))).V (get b 63) w1 := hp 3 63 (by kernel_rfl) rfl
    have x67 : (Pv.is (.string (strOfNums (t9)))).V (get b 67) w1 := hp 7 67 (by kernel_rfl) rfl
    exact st_bin (v := .bool false) (vx := .string (strOfNums (t8))) (vy := .string (strOfNums (t9))) rfl (want0 rfl _) rfl x63 x67 (by first | rfl | (have c_ := c1006; clear hb hp hu; go_simp; first | done | rfl | (simp [c_]; done) | (simp; omega))) rfl
  case s9 =>
    intro b w1 hb hp hu
    have x68 : (Pv.is (.bool false)).V (get b 68) w1 := hp 8 68 (by kernel_rfl) rfl
    exact st_move rfl (want0 rfl _) rfl x68
  case s10 =>
    intro b w1 hb hp hu
    have x69 : (Pv.is (.bool false)).V (get b 69) w1 := hp 9 69 (by kernel_rfl) rfl
    have x0 : (Pv.sl (Kd.int .u8) (l0)).V (get b 0) w1 := Pv.keep _ g4_0 (hu 0 (by kernel_rfl)) hb
    exact st_move rfl ((want_is (N := 69) rfl rfl x69).trans rfl) rfl x0
  case s11 =>
    intro b w1 hb hp hu
    have x69 : (Pv.is (.bool false)).V (get b 69) w1 := hp 9 69 (by kernel_rfl) rfl
    have x2 : (Pv.is (.int .u8 (a2))).V (get b 2) w1 := Pv.keep _ g4_2 (hu 2 (by kernel_rfl)) hb
    exact st_move rfl ((want_is (N := 69) rfl rfl x69).trans rfl) rfl x2
  case s12 =>
    intro b w1 hb hp hu
    have x69 : (Pv.is (.bool false)).V (get b 69) w1 := hp 9 69 (by kernel_rfl) rfl
    have x70 : (Pv.sl (Kd.int .u8) (l0)).V (get b 70) w1 := hp 10 70 (by kernel_rfl) rfl
    obtain ⟨B0, d0, e0_, hC0, hl0⟩ := x70
    have e0 : b.eval (Operand.tmp 70) = .slice B0 (l0).length d0 := e0_
    have x71 : (Pv.is (.int .u8 (a2))).V (get b 71) w1 := hp 11 71 (by kernel_rfl) rfl
    have e1 : b.eval (Operand.tmp 71) = .int .u8 (a2) := x71
    refine st_call rfl ((want_is (N := 69) rfl rfl x69).trans rfl) rfl Try.func19 (by kernel_rfl) rfl #[.slice B0 (l0).length d0, .int .u8 (a2)] (by simp only [List.map_toArray, List.map_cons, List.map_nil, e0, e1]) ?_
    refine (poly_Eval.calls k B0 d0 _ _ _ w1 hC0 hl0 H11).mono ?_
    rintro e w2 ⟨rfl, hb2⟩
    exact ⟨_, rfl, rfl, hb2⟩
  case s13 =>
    intro b w1 hb hp hu
    have x69 : (Pv.is (.bool false)).V (get b 69) w1 := hp 9 69 (by kernel_rfl) rfl
    have x0 : (Pv.sl (Kd.int .u8) (l0)).V (get b 0) w1 := Pv.keep _ g4_0 (hu 0 (by kernel_rfl)) hb
    exact st_move rfl ((want_is (N := 69) rfl rfl x69).trans rfl) rfl x0
  case s14 =>
    intro b w1 hb hp hu
    have x69 : (Pv.is (.bool false)).V (get b 69) w1 := hp 9 69 (by kernel_rfl) rfl
    have x2 : (Pv.is (.int .u8 (a2))).V (get b 2) w1 := Pv.keep _ g4_2 (hu 2 (by kernel_rfl)) hb
    exact st_move rfl ((want_is (N := 69) rfl rfl x69).trans rfl) rfl x2
  case s15 =>
    intro b w1 hb hp hu
    have x69 : (Pv.is (.bool false)).V (get b 69) w1 := hp 9 69 (by kernel_rfl) rfl
    have x73 : (Pv.sl (Kd.int .u8) (l0)).V (get b 73) w1 := hp 13 73 (by kernel_rfl) rfl
    obtain ⟨B0, d0, e0_, hC0, hl0⟩ := x73
    have e0 : b.eval (Operand.tmp 73) = .slice B0 (l0).length d0 := e0_
    have x74 : (Pv.is (.int .u8 (a2))).V (get b 74) w1 := hp 14 74 (by kernel_rfl) rfl
    have e1 : b.eval (Operand.tmp 74) = .int .u8 (a2) := x74
    refine st_call rfl ((want_is (N := 69) rfl rfl x69).trans rfl) rfl Try.func20 (by kernel_rfl) rfl #[.slice B0 (l0).length d0, .int .u8 (a2)] (by simp only [List.map_toArray, List.map_cons, List.map_nil, e0, e1]) ?_
    refine (wristbandref08_Eval.calls k B0 d0 _ _ _ w1 hC0 hl0 H12).mono ?_
    rintro e w2 ⟨rfl, hb2⟩
    exact ⟨_, rfl, rfl, (below_of_drawn hb2)⟩
  case s16 =>
    intro b w1 hb hp hu
    have x69 : (Pv.is (.bool false)).V (get b 69) w1 := hp 9 69 (by kernel_rfl) rfl
    have x72 : (Pv.is (.int .u8 (t10))).V (get b 72) w1 := hp 12 72 (by kernel_rfl) rfl
    have x75 : (Pv.is (.int .u8 (t11))).V (get b 75) w1 := hp 15 75 (by kernel_rfl) rfl
    exact st_bin (v := .bool false) (vx := .int .u8 (t10)) (vy := .int .u8 (t11)) rfl ((want_is (N := 69) rfl rfl x69).trans rfl) rfl x72 x75 (by first | rfl | (have c_ := c1007; refine Eq.trans (b := Result.ok (.bool ((t10) != (t11))) w1) rfl ?_; rw [show ((t10) != (t11)) = false from bne_eq_false_iff_eq.mpr c_]) | (have c_ := c1007; clear hb hp hu; go_simp; first | done | rfl | (simp [c_]; done) | (simp; omega))) rfl
  case s17 =>
    intro b w1 hb hp hu
    have x69 : (Pv.is (.bool false)).V (get b 69) w1 := hp 9 69 (by kernel_rfl) rfl
    have x76 : (Pv.is (.bool false)).V (get b 76) w1 := hp 16 76 (by kernel_rfl) rfl
    exact st_pick (b := false) rfl (want0 rfl _) rfl x69 x76
  case s18 =>
    intro b w1 hb hp hu
    have x77 : (Pv.is (.bool false)).V (get b 77) w1 := hp 17 77 (by kernel_rfl) rfl
    exact st_move rfl (want0 rfl _) rfl x77
  case s19 =>
    intro b w1 hb hp hu
    have x78 : (Pv.is (.bool false)).V (get b 78) w1 := hp 18 78 (by kernel_rfl) rfl
    have x0 : (Pv.sl (Kd.int .u8) (l0)).V (get b 0) w1 := Pv.keep _ g4_0 (hu 0 (by kernel_rfl)) hb
    exact st_move rfl ((want_is (N := 78) rfl rfl x78).trans rfl) rfl x0
  case s20 =>
    intro b w1 hb hp hu
    have x78 : (Pv.is (.bool false)).V (get b 78) w1 := hp 18 78 (by kernel_rfl) rfl
    have x79 : (Pv.sl (Kd.int .u8) (l0)).V (get b 79) w1 := hp 19 79 (by kernel_rfl) rfl
    obtain ⟨B0, d0, e0_, hC0, hl0⟩ := x79
    have e0 : b.eval (Operand.tmp 79) = .slice B0 (l0).length d0 := e0_
    refine st_call rfl ((want_is (N := 78) rfl rfl x78).trans rfl) rfl Try.func21 (by kernel_rfl) rfl #[.slice B0 (l0).length d0] (by simp only [List.map_toArray, List.map_cons, List.map_nil, e0]) ?_
    refine (poly_Slope.calls k B0 d0 _ _ w1 hC0 hl0 H13).mono ?_
    rintro e w2 ⟨v0_, rfl, ho0, hb2⟩
    exact ⟨_, rfl, Pv.of_sl ho0, hb2⟩
  case s21 =>
    intro b w1 hb hp hu
    have x78 : (Pv.is (.bool false)).V (get b 78) w1 := hp 18 78 (by kernel_rfl) rfl
    have x80 : (Pv.sl (Kd.int .u8) (t12)).V (get b 80) w1 := hp 20 80 (by kernel_rfl) rfl
    exact st_string Try.underlying22 Try.underlying5 Try.underlying9 rfl ((want_is (N := 78) rfl rfl x78).trans rfl) rfl x80 rfl
  case s22 =>
    intro b w1 hb hp hu
    have x78 : (Pv.is (.bool false)).V (get b 78) w1 := hp 18 78 (by kernel_rfl) rfl
    have x0 : (Pv.sl (Kd.int .u8) (l0)).V (get b 0) w1 := Pv.keep _ g4_0 (hu 0 (by kernel_rfl)) hb
    exact st_move rfl ((want_is (N := 78) rfl rfl x78).trans rfl) rfl x0
  case s23 =>
    intro b w1 hb hp hu
    have x78 : (Pv.is (.bool false)).V (get b 78) w1 := hp 18 78 (by kernel_rfl) rfl
    have x82 : (Pv.sl (Kd.int .u8) (l0)).V (get b 82) w1 := hp 22 82 (by kernel_rfl) rfl
    obtain ⟨B0, d0, e0_, hC0, hl0⟩ := x82
    have e0 : b.eval (Operand.tmp 82) = .slice B0 (l0).length d0 := e0_
    refine st_call rfl ((want_is (N := 78) rfl rfl x78).trans rfl) rfl Try.func22 (by kernel_rfl) rfl #[.slice B0 (l0).length d0] (by simp only [List.map_toArray, List.map_cons, List.map_nil, e0]) ?_
    refine (wristbandref08_Slope.calls k B0 d0 _ _ w1 hC0 hl0 H14).mono ?_
    rintro e w2 ⟨v0_, rfl, ho0, hb2⟩
    exact ⟨_, rfl, Pv.of_sl ho0, hb2⟩
  case s24 =>
    intro b w1 hb hp hu
    have x78 : (Pv.is (.bool false)).V (get b 78) w1 := hp 18 78 (by kernel_rfl) rfl
    have x83 : (Pv.sl (Kd.int .u8) (t13)).V (get b 83) w1 := hp 23 83 (by kernel_rfl) rfl
    exact st_string Try.underlying22 Try.underlying5 Try.underlying9 rfl ((want_is (N := 78) rfl rfl x78).trans rfl) rfl x83 rfl
  case s25 =>
    intro b w1 hb hp hu
    have x78 : (Pv.is (.bool false)).V (get b 78) w1 := hp 18 78 (by kernel_rfl) rfl
    have x81 : (Pv.is (.string (strOfNums (t12)))).V (get b 81) w1 := hp 21 81 (by kernel_rfl) rfl
    have x84 : (Pv.is (.string (strOfNums (t13)))).V (get b 84) w1 := hp 24 84 (by kernel_rfl) rfl
    exact st_bin (v := .bool false) (vx := .string (strOfNums (t12))) (vy := .string (strOfNums (t13))) rfl ((want_is (N := 78) rfl rfl x78).trans rfl) rfl x81 x84 (by first | rfl | (have c_ := c1008; clear hb hp hu; go_simp; first | done | rfl | (simp [c_]; done) | (simp; omega))) rfl
  case s26 =>
    intro b w1 hb hp hu
    have x78 : (Pv.is (.bool false)).V (get b 78) w1 := hp 18 78 (by kernel_rfl) rfl
    have x85 : (Pv.is (.bool false)).V (get b 85) w1 := hp 25 85 (by kernel_rfl) rfl
    exact st_pick (b := false) rfl (want0 rfl _) rfl x78 x85
  intro ac5 wo5 hn5 hd_ hb hv hs
  have g5_86 : (Pv.is (.bool false)).V (get ac5 86) wo5 := hv 26 86 rfl
  have g5_6 : (Pv.is (.bool false)).V (get ac5 6) wo5 := Pv.keep _ g4_6 (hs 6 rfl) hb
  have g5_0 : (Pv.sl (Kd.int .u8) (l0)).V (get ac5 0) wo5 := Pv.keep _ g4_0 (hs 0 rfl) hb
  have g5_1 : (Pv.sl (Kd.int .u8) (l1)).V (get ac5 1) wo5 := Pv.keep _ g4_1 (hs 1 rfl) hb
  have hB5 := below_step hB4 hb
  have hd5 := hd_.trans hd4
  clear hv hs hd_ hb hB4 hn4 hd4 g4_59 g4_6 g4_0 g4_1 g4_2
  show Code.wp _ _ _ _ _
  refine wp_cond_false (show ac5.eval (Operand.tmp 86) = .bool false from g5_86) ?_
  refine wp_skip ?_
  show Code.wp _ _ _ _ _
  refine wp_seq ?_
  refine Reg.plain (T := wristbandlaw08_PolyRight.T9) (D := wristbandlaw08_PolyRight.D9) (n := 132) (by kernel_rfl) hn5 (told [Pv.sl (Kd.int .u8) (l0), Pv.sl (Kd.int .u8) (l1), Pv.tup [Pv.sl (Kd.int .u8) (t14), Pv.sl (Kd.int .u8) (t15), Pv.is (.int .i64 (t16))], Pv.tup [Pv.sl (Kd.int .u8) (t14), Pv.sl (Kd.int .u8) (t15), Pv.is (.int .i64 (t16))], Pv.sl (Kd.int .u8) (t14), Pv.sl (Kd.int .u8) (t15), Pv.is (.int .i64 (t16)), Pv.sl (Kd.int .u8) (t14), Pv.sl (Kd.int .u8) (t15), Pv.is (.int .i64 (t16))]) (told_pst _) (owedS (owedS (owedS (owedS (owedS (owedS (owedS (owedS (owedS (owedS owed0 ?s0) ?s1) ?s2) ?s3) ?s4) ?s5) ?s6) ?s7) ?s8) ?s9) ?_
  case s0 =>
    intro b w1 hb hp hu
    have x0 : (Pv.sl (Kd.int .u8) (l0)).V (get b 0) w1 := Pv.keep _ g5_0 (hu 0 (by kernel_rfl)) hb
    exact st_move rfl (want0 rfl _) rfl x0
  case s1 =>
    intro b w1 hb hp hu
    have x1 : (Pv.sl (Kd.int .u8) (l1)).V (get b 1) w1 := Pv.keep _ g5_1 (hu 1 (by kernel_rfl)) hb
    exact st_move rfl (want0 rfl _) rfl x1
  case s2 =>
    intro b w1 hb hp hu
    have x88 : (Pv.sl (Kd.int .u8) (l0)).V (get b 88) w1 := hp 0 88 (by kernel_rfl) rfl
    obtain ⟨B0, d0, e0_, hC0, hl0⟩ := x88
    have e0 : b.eval (Operand.tmp 88) = .slice B0 (l0).length d0 := e0_
    have x89 : (Pv.sl (Kd.int .u8) (l1)).V (get b 89) w1 := hp 1 89 (by kernel_rfl) rfl
    obtain ⟨B1, d1, e1_, hC1, hl1⟩ := x89
    have e1 : b.eval (Operand.tmp 89) = .slice B1 (l1).length d1 := e1_
    refine st_call rfl (want0 rfl _) rfl Try.func23 (by kernel_rfl) rfl #[.slice B0 (l0).length d0, .slice B1 (l1).length d1] (by simp only [List.map_toArray, List.map_cons, List.map_nil, e0, e1]) ?_
    refine (poly_Quo.calls k B0 d0 _ B1 d1 _ _ _ _ w1 hC0 hl0 hC1 hl1 H15).mono ?_
    rintro e w2 ⟨v0_, v1_, rfl, ho0, ho1, hb2⟩
    exact ⟨_, rfl, ⟨[_, _, _], rfl, Pv.of_sl ho0, Pv.of_sl ho1, rfl, trivial⟩, hb2⟩
  case s3 =>
    intro b w1 hb hp hu
    have x90 : (Pv.tup [Pv.sl (Kd.int .u8) (t14), Pv.sl (Kd.int .u8) (t15), Pv.is (.int .i64 (t16))]).V (get b 90) w1 := hp 2 90 (by kernel_rfl) rfl
    exact st_move rfl (want0 rfl _) rfl x90
  case s4 =>
    intro b w1 hb hp hu
    have x87 : (Pv.tup [Pv.sl (Kd.int .u8) (t14), Pv.sl (Kd.int .u8) (t15), Pv.is (.int .i64 (t16))]).V (get b 87) w1 := hp 3 87 (by kernel_rfl) rfl
    exact st_extract rfl (want0 rfl _) rfl x87 rfl (fun _ h => h)
  case s5 =>
    intro b w1 hb hp hu
    have x87 : (Pv.tup [Pv.sl (Kd.int .u8) (t14), Pv.sl (Kd.int .u8) (t15), Pv.is (.int .i64 (t16))]).V (get b 87) w1 := hp 3 87 (by kernel_rfl) rfl
    exact st_extract rfl (want0 rfl _) rfl x87 rfl (fun _ h => h)
  case s6 =>
    intro b w1 hb hp hu
    have x87 : (Pv.tup [Pv.sl (Kd.int .u8) (t14), Pv.sl (Kd.int .u8) (t15), Pv.is (.int .i64 (t16))]).V (get b 87) w1 := hp 3 87 (by kernel_rfl) rfl
    exact st_extract rfl (want0 rfl _) rfl x87 rfl (fun _ h => h)
  case s7 =>
    intro b w1 hb hp hu
    have x91 : (Pv.sl (Kd.int .u8) (t14)).V (get b 91) w1 := hp 4 91 (by kernel_rfl) rfl
    exact st_assign rfl (want0 rfl _) rfl x91
  case s8 =>
    intro b w1 hb hp hu
    have x92 : (Pv.sl (Kd.int .u8) (t15)).V (get b 92) w1 := hp 5 92 (by kernel_rfl) rfl
    exact st_assign rfl (want0 rfl _) rfl x92
  case s9 =>
    intro b w1 hb hp hu
    have x93 : (Pv.is (.int .i64 (t16))).V (get b 93) w1 := hp 6 93 (by kernel_rfl) rfl
    exact st_assign rfl (want0 rfl _) rfl x93
  intro ac6 wo6 hn6 hd_ hb hv hs
  have g6_7 : (Pv.sl (Kd.int .u8) (t14)).V (get ac6 7) wo6 := hv 7 7 rfl
  have g6_8 : (Pv.sl (Kd.int .u8) (t15)).V (get ac6 8) wo6 := hv 8 8 rfl
  have g6_9 : (Pv.is (.int .i64 (t16))).V (get ac6 9) wo6 := hv 9 9 rfl
  have g6_6 : (Pv.is (.bool false)).V (get ac6 6) wo6 := Pv.keep _ g5_6 (hs 6 rfl) hb
  have g6_1 : (Pv.sl (Kd.int .u8) (l1)).V (get ac6 1) wo6 := Pv.keep _ g5_1 (hs 1 rfl) hb
  have hB6 := below_step hB5 hb
  have hd6 := hd_.trans hd5
  clear hv hs hd_ hb hB5 hn5 hd5 g5_86 g5_6 g5_0 g5_1
  show Code.wp _ _ _ _ _
  refine wp_seq ?_
  refine wp_seq ?_
  refine Reg.plain (T := wristbandlaw08_PolyRight.T10) (D := wristbandlaw08_PolyRight.D10) (n := 132) (by kernel_rfl) hn6 (told [Pv.sl (Kd.int .u8) (l1), Pv.sl (Kd.int .u8) (t17), Pv.is (.int .i64 (((t17).length : Int))), Pv.is (.bool true)]) (told_pst _) (owedS (owedS (owedS (owedS owed0 ?s0) ?s1) ?s2) ?s3) ?_
  case s0 =>
    intro b w1 hb hp hu
    have x1 : (Pv.sl (Kd.int .u8) (l1)).V (get b 1) w1 := Pv.keep _ g6_1 (hu 1 (by kernel_rfl)) hb
    exact st_move rfl (want0 rfl _) rfl x1
  case s1 =>
    intro b w1 hb hp hu
    have x94 : (Pv.sl (Kd.int .u8) (l1)).V (get b 94) w1 := hp 0 94 (by kernel_rfl) rfl
    obtain ⟨B0, d0, e0_, hC0, hl0⟩ := x94
    have e0 : b.eval (Operand.tmp 94) = .slice B0 (l1).length d0 := e0_
    refine st_call rfl (want0 rfl _) rfl Try.func11 (by kernel_rfl) rfl #[.slice B0 (l1).length d0] (by simp only [List.map_toArray, List.map_cons, List.map_nil, e0]) ?_
    refine (wristbandref08_Plain.calls k B0 d0 _ _ w1 hC0 hl0 H16).mono ?_
    rintro e w2 ⟨v0_, rfl, ho0, hb2⟩
    exact ⟨_, rfl, Pv.of_sl ho0, hb2⟩
  case s2 =>
    intro b w1 hb hp hu
    have x95 : (Pv.sl (Kd.int .u8) (t17)).V (get b 95) w1 := hp 1 95 (by kernel_rfl) rfl
    obtain ⟨A_, c_, e_, _, _⟩ := x95
    exact st_len rfl (want0 rfl _) rfl Try.underlying22 e_ rfl
  case s3 =>
    intro b w1 hb hp hu
    have x96 : (Pv.is (.int .i64 (((t17).length : Int)))).V (get b 96) w1 := hp 2 96 (by kernel_rfl) rfl
    exact st_bin (v := .bool true) (vx := .int .i64 (((t17).length : Int))) (vy := .int .i64 ((0 : Int))) rfl (want0 rfl _) rfl x96 rfl (by first | rfl | (have c_ := c1009; refine Eq.trans (b := Result.ok (.bool ((((t17).length : Int)) == ((0 : Int)))) w1) rfl ?_; rw [show ((((t17).length : Int)) == ((0 : Int))) = true from beq_iff_eq.mpr c_]) | (have c_ := c1009; clear hb hp hu; go_simp; first | done | rfl | (simp [c_]; done) | (simp; omega))) rfl
  intro ac7 wo7 hn7 hd_ hb hv hs
  have g7_97 : (Pv.is (.bool true)).V (get ac7 97) wo7 := hv 3 97 rfl
  have g7_7 : (Pv.sl (Kd.int .u8) (t14)).V (get ac7 7) wo7 := Pv.keep _ g6_7 (hs 7 rfl) hb
  have g7_8 : (Pv.sl (Kd.int .u8) (t15)).V (get ac7 8) wo7 := Pv.keep _ g6_8 (hs 8 rfl) hb
  have g7_9 : (Pv.is (.int .i64 (t16))).V (get ac7 9) wo7 := Pv.keep _ g6_9 (hs 9 rfl) hb
  have g7_6 : (Pv.is (.bool false)).V (get ac7 6) wo7 := Pv.keep _ g6_6 (hs 6 rfl) hb
  have hB7 := below_step hB6 hb
  have hd7 := hd_.trans hd6
  clear hv hs hd_ hb hB6 hn6 hd6 g6_7 g6_8 g6_9 g6_6 g6_1
  show Code.wp _ _ _ _ _
  refine wp_cond_true (show ac7.eval (Operand.tmp 97) = .bool true from g7_97) ?_
  refine wp_seq ?_
  refine Reg.plain (T := wristbandlaw08_PolyRight.T11) (D := wristbandlaw08_PolyRight.D11) (n := 132) (by kernel_rfl) hn7 (told [Pv.is (.int .i64 (t16)), Pv.is (.bool true), Pv.is (.bool true), Pv.sl (Kd.int .u8) (t14), Pv.is (.int .i64 (((t14).length : Int))), Pv.is (.bool true), Pv.is (.bool true), Pv.is (.bool true), Pv.sl (Kd.int .u8) (t15), Pv.is (.int .i64 (((t15).length : Int))), Pv.is (.bool true), Pv.is (.bool true), Pv.is (.bool true)]) (told_pst _) (owedS (owedS (owedS (owedS (owedS (owedS (owedS (owedS (owedS (owedS (owedS (owedS (owedS owed0 ?s0) ?s1) ?s2) ?s3) ?s4) ?s5) ?s6) ?s7) ?s8) ?s9) ?s10) ?s11) ?s12) ?_
  case s0 =>
    intro b w1 hb hp hu
    have x9 : (Pv.is (.int .i64 (t16))).V (get b 9) w1 := Pv.keep _ g7_9 (hu 9 (by kernel_rfl)) hb
    exact st_move rfl (want0 rfl _) rfl x9
  case s1 =>
    intro b w1 hb hp hu
    have x98 : (Pv.is (.int .i64 (t16))).V (get b 98) w1 := hp 0 98 (by kernel_rfl) rfl
    exact st_bin (v := .bool true) (vx := .int .i64 (t16)) (vy := .int .i64 ((1 : Int))) rfl (want0 rfl _) rfl x98 rfl (by first | rfl | (have c_ := c1010; refine Eq.trans (b := Result.ok (.bool ((t16) == ((1 : Int)))) w1) rfl ?_; rw [show ((t16) == ((1 : Int))) = true from beq_iff_eq.mpr c_]) | (have c_ := c1010; clear hb hp hu; go_simp; first | done | rfl | (simp [c_]; done) | (simp; omega))) rfl
  case s2 =>
    intro b w1 hb hp hu
    have x99 : (Pv.is (.bool true)).V (get b 99) w1 := hp 1 99 (by kernel_rfl) rfl
    exact st_move rfl (want0 rfl _) rfl x99
  case s3 =>
    intro b w1 hb hp hu
    have x100 : (Pv.is (.bool true)).V (get b 100) w1 := hp 2 100 (by kernel_rfl) rfl
    have x7 : (Pv.sl (Kd.int .u8) (t14)).V (get b 7) w1 := Pv.keep _ g7_7 (hu 7 (by kernel_rfl)) hb
    exact st_move rfl ((want_is (N := 100) rfl rfl x100).trans rfl) rfl x7
  case s4 =>
    intro b w1 hb hp hu
    have x100 : (Pv.is (.bool true)).V (get b 100) w1 := hp 2 100 (by kernel_rfl) rfl
    have x101 : (Pv.sl (Kd.int .u8) (t14)).V (get b 101) w1 := hp 3 101 (by kernel_rfl) rfl
    obtain ⟨A_, c_, e_, _, _⟩ := x101
    exact st_len rfl ((want_is (N := 100) rfl rfl x100).trans rfl) rfl Try.underlying22 e_ rfl
  case s5 =>
    intro b w1 hb hp hu
    have x100 : (Pv.is (.bool true)).V (get b 100) w1 := hp 2 100 (by kernel_rfl) rfl
    have x102 : (Pv.is (.int .i64 (((t14).length : Int)))).V (get b 102) w1 := hp 4 102 (by kernel_rfl) rfl
    exact st_bin (v := .bool true) (vx := .int .i64 (((t14).length : Int))) (vy := .int .i64 ((0 : Int))) rfl ((want_is (N := 100) rfl rfl x100).trans rfl) rfl x102 rfl (by first | rfl | (have c_ := c1011; refine Eq.trans (b := Result.ok (.bool ((((t14).length : Int)) == ((0 : Int)))) w1) rfl ?_; rw [show ((((t14).length : Int)) == ((0 : Int))) = true from beq_iff_eq.mpr c_]) | (have c_ := c1011; clear hb hp hu; go_simp; first | done | rfl | (simp [c_]; done) | (simp; omega))) rfl
  case s6 =>
    intro b w1 hb hp hu
    have x100 : (Pv.is (.bool true)).V (get b 100) w1 := hp 2 100 (by kernel_rfl) rfl
    have x103 : (Pv.is (.bool true)).V (get b 103) w1 := hp 5 103 (by kernel_rfl) rfl
    exact st_pick (b := true) rfl (want0 rfl _) rfl x100 x103
  case s7 =>
    intro b w1 hb hp hu
    have x104 : (Pv.is (.bool true)).V (get b 104) w1 := hp 6 104 (by kernel_rfl) rfl
    exact st_move rfl (want0 rfl _) rfl x104
  case s8 =>
    intro b w1 hb hp hu
    have x105 : (Pv.is (.bool true)).V (get b 105) w1 := hp 7 105 (by kernel_rfl) rfl
    have x8 : (Pv.sl (Kd.int .u8) (t15)).V (get b 8) w1 := Pv.keep _ g7_8 (hu 8 (by kernel_rfl)) hb
    exact st_move rfl ((want_is (N := 105) rfl rfl x105).trans rfl) rfl x8
  case s9 =>
    intro b w1 hb hp hu
    have x105 : (Pv.is (.bool true)).V (get b 105) w1 := hp 7 105 (by kernel_rfl) rfl
    have x106 : (Pv.sl (Kd.int .u8) (t15)).V (get b 106) w1 := hp 8 106 (by kernel_rfl) rfl
    obtain ⟨A_, c_, e_, _, _⟩ := x106
    exact st_len rfl ((want_is (N := 105) rfl rfl x105).trans rfl) rfl Try.underlying22 e_ rfl
  case s10 =>
    intro b w1 hb hp hu
    have x105 : (Pv.is (.bool true)).V (get b 105) w1 := hp 7 105 (by kernel_rfl) rfl
    have x107 : (Pv.is (.int .i64 (((t15).length : Int)))).V (get b 107) w1 := hp 9 107 (by kernel_rfl) rfl
    exact st_bin (v := .bool true) (vx := .int .i64 (((t15).length : Int))) (vy := .int .i64 ((0 : Int))) rfl ((want_is (N := 105) rfl rfl x105).trans rfl) rfl x107 rfl (by first | rfl | (have c_ := c1012; refine Eq.trans (b := Result.ok (.bool ((((t15).length : Int)) == ((0 : Int)))) w1) rfl ?_; rw [show ((((t15).length : Int)) == ((0 : Int))) = true from beq_iff_eq.mpr c_]) | (have c_ := c1012; clear hb hp hu; go_simp; first | done | rfl | (simp [c_]; done) | (simp; omega))) rfl
  case s11 =>
    intro b w1 hb hp hu
    have x105 : (Pv.is (.bool true)).V (get b 105) w1 := hp 7 105 (by kernel_rfl) rfl
    have x108 : (Pv.is (.bool true)).V (get b 108) w1 := hp 10 108 (by kernel_rfl) rfl
    exact st_pick (b := true) rfl (want0 rfl _) rfl x105 x108
  case s12 =>
    intro b w1 hb hp hu
    have x109 : (Pv.is (.bool true)).V (get b 109) w1 := hp 11 109 (by kernel_rfl) rfl
    exact st_assign rfl (want0 rfl _) rfl x109
  intro ac8 wo8 hn8 hd_ hb hv hs
  have g8_6 : (Pv.is (.bool true)).V (get ac8 6) wo8 := hv 12 6 rfl
  have hB8 := below_step hB7 hb
  have hd8 := hd_.trans hd7
  clear hv hs hd_ hb hB7 hn7 hd7 g7_97 g7_7 g7_8 g7_9 g7_6
  show Code.wp _ _ _ _ _
  refine wp_ret ?_
  repeat (refine then_ret ?_)
  exact back_is rfl hd8 g8_6 ⟨rfl, hB8⟩
set_option maxRecDepth 100000 in
set_option maxHeartbeats 4000000 in
theorem wristbandlaw08_PolyRight.way4 (k : Nat) (A0 : Option Addr) (c0 : Nat) (l0 : List Int) (A1 : Option Addr) (c1 : Nat) (l1 : List Int) (a2 : Int) (w : World) (hr0 : Kd.C (Kd.int .u8) w A0 l0.length l0) (hc0 : l0.length ≤ c0) (hr1 : Kd.C (Kd.int .u8) w A1 l1.length l1) (hc1 : l1.length ≤ c1) (H1 : wristbandlaw08_awake.ok k) (t1 : List Int) (H2 : poly_Plain.f (l0) = some t1) (t2 : List Int) (H3 : wristbandref08_Plain.f k (l0) = some t2) (t3 : Int) (H4 : poly_Degree.f (l0) = some t3) (t4 : List Int) (H5 : poly_Add.f k (l0) (l1) = some t4) (t5 : List Int) (H6 : wristbandref08_Add.f k (l0) (l1) = some t5) (t6 : List Int) (H7 : poly_Mul.f k (l0) (l1) = some t6) (t7 : List Int) (H8 : wristbandref08_Mul.f k (l0) (l1) = some t7) (t8 : List Int) (H9 : poly_Times.f k (l0) (a2) = some t8) (t9 : List Int) (H10 : wristbandref08_Times.f k (l0) (a2) = some t9) (t10 : Int) (H11 : poly_Eval.f k (l0) (a2) = some t10) (t11 : Int) (H12 : wristbandref08_Eval.f k (l0) (a2) = some t11) (t12 : List Int) (H13 : poly_Slope.f k (l0) = some t12) (t13 : List Int) (H14 : wristbandref08_Slope.f k (l0) = some t13) (t14 : List Int) (t15 : List Int) (t16 : Int) (H15 : poly_Quo.f k (l0) (l1) = some (t14, t15, t16)) (t17 : List Int) (H16 : wristbandref08_Plain.f k (l1) = some t17) (t18 : List Int) (t19 : List Int) (H17 : wristbandref08_Quo.f k (l0) (l1) = some (t18, t19)) (c1000 : ¬ (((l0).length : Int) > (120 : Int))) (c1001 : ¬ (((l1).length : Int) > (120 : Int))) (c1002 : (strOfNums (t1)).toList = (strOfNums (t2)).toList) (c1003 : t3 = wrap64 (((t2).length : Int) - (1 : Int))) (c1004 : (strOfNums (t4)).toList = (strOfNums (t5)).toList) (c1005 : (strOfNums (t6)).toList = (strOfNums (t7)).toList) (c1006 : (strOfNums (t8)).toList = (strOfNums (t9)).toList) (c1007 : t10 = t11) (c1008 : (strOfNums (t12)).toList = (strOfNums (t13)).toList) (c1009 : ¬ (((t17).length : Int) = (0 : Int))) (c1010 : t16 = (0 : Int)) (c1011 : (strOfNums (t14)).toList = (strOfNums (t18)).toList) (c1012 : (strOfNums (t15)).toList = (strOfNums (t19)).toList) :
    Calls Try.prog 3 #[.slice A0 l0.length c0, .slice A1 l1.length c1, .int .u8 a2] w fun e w' => e = .returned (.bool true) ∧ Below w.heap.size w w' := by
  refine enter Try.func3 rfl (n := 132) rfl ?_
  intro ac0 hn0 hd0 ha
  have hB0 := Below.refl w.heap.size w
  have g0_0 : (Pv.sl (Kd.int .u8) (l0)).V (get ac0 0) w := by rw [ha 0 (by simp)]; exact ⟨A0, c0, rfl, hr0, hc0⟩
  have g0_1 : (Pv.sl (Kd.int .u8) (l1)).V (get ac0 1) w := by rw [ha 1 (by simp)]; exact ⟨A1, c1, rfl, hr1, hc1⟩
  have g0_2 : (Pv.is (.int .u8 (a2))).V (get ac0 2) w := by rw [ha 2 (by simp)]; exact rfl
  clear ha
  refine wp_seq ?_
  refine Reg.plain (T := wristbandlaw08_PolyRight.T0) (D := wristbandlaw08_PolyRight.D0) (n := 132) (by kernel_rfl) hn0 (told [Pv.is (.bool false)]) (told_pst _) (owedS owed0 ?s0) ?_
  case s0 =>
    intro b w1 hb hp hu
    exact st_assign rfl (want0 rfl _) rfl rfl
  intro ac1 wo1 hn1 hd_ hb hv hs
  have g1_6 : (Pv.is (.bool false)).V (get ac1 6) wo1 := hv 0 6 rfl
  have g1_0 : (Pv.sl (Kd.int .u8) (l0)).V (get ac1 0) wo1 := Pv.keep _ g0_0 (hs 0 rfl) hb
  have g1_1 : (Pv.sl (Kd.int .u8) (l1)).V (get ac1 1) wo1 := Pv.keep _ g0_1 (hs 1 rfl) hb
  have g1_2 : (Pv.is (.int .u8 (a2))).V (get ac1 2) wo1 := Pv.keep _ g0_2 (hs 2 rfl) hb
  have hB1 := below_step hB0 hb
  have hd1 := hd_.trans hd0
  clear hv hs hd_ hb hB0 hn0 hd0 g0_0 g0_1 g0_2
  show Code.wp _ _ _ _ _
  refine wp_seq ?_
  refine wp_seq ?_
  refine Reg.plain (T := wristbandlaw08_PolyRight.T1) (D := wristbandlaw08_PolyRight.D1) (n := 132) (by kernel_rfl) hn1 (told [Pv.is (.bool true), Pv.is (.bool false)]) (told_pst _) (owedS (owedS owed0 ?s0) ?s1) ?_
  case s0 =>
    intro b w1 hb hp hu
    refine st_call rfl (want0 rfl _) rfl Try.func9 (by kernel_rfl) rfl #[] (by simp) ?_
    refine (wristbandlaw08_awake.calls k  w1  H1).mono ?_
    rintro e w2 ⟨rfl, hb2⟩
    exact ⟨_, rfl, rfl, hb2⟩
  case s1 =>
    intro b w1 hb hp hu
    have x12 : (Pv.is (.bool true)).V (get b 12) w1 := hp 0 12 (by kernel_rfl) rfl
    exact st_un (v := .bool false) (vx := .bool true) rfl (want0 rfl _) rfl x12 (by first | rfl | (go_simp; first | done | rfl | (simp only [i64_w, i32_w]; done))) rfl
  intro ac2 wo2 hn2 hd_ hb hv hs
  have g2_13 : (Pv.is (.bool false)).V (get ac2 13) wo2 := hv 1 13 rfl
  have g2_6 : (Pv.is (.bool false)).V (get ac2 6) wo2 := Pv.keep _ g1_6 (hs 6 rfl) hb
  have g2_0 : (Pv.sl (Kd.int .u8) (l0)).V (get ac2 0) wo2 := Pv.keep _ g1_0 (hs 0 rfl) hb
  have g2_1 : (Pv.sl (Kd.int .u8) (l1)).V (get ac2 1) wo2 := Pv.keep _ g1_1 (hs 1 rfl) hb
  have g2_2 : (Pv.is (.int .u8 (a2))).V (get ac2 2) wo2 := Pv.keep _ g1_2 (hs 2 rfl) hb
  have hB2 := below_step hB1 hb
  have hd2 := hd_.trans hd1
  clear hv hs hd_ hb hB1 hn1 hd1 g1_6 g1_0 g1_1 g1_2
  show Code.wp _ _ _ _ _
  refine wp_cond_false (show ac2.eval (Operand.tmp 13) = .bool false from g2_13) ?_
  refine wp_skip ?_
  show Code.wp _ _ _ _ _
  refine wp_seq ?_
  refine wp_seq ?_
  refine Reg.plain (T := wristbandlaw08_PolyRight.T3) (D := wristbandlaw08_PolyRight.D3) (n := 132) (by kernel_rfl) hn2 (told [Pv.sl (Kd.int .u8) (l0), Pv.is (.int .i64 (((l0).length : Int))), Pv.is (.bool false), Pv.is (.bool false), Pv.sl (Kd.int .u8) (l1), Pv.is (.int .i64 (((l1).length : Int))), Pv.is (.bool false), Pv.is (.bool false)]) (told_pst _) (owedS (owedS (owedS (owedS (owedS (owedS (owedS (owedS owed0 ?s0) ?s1) ?s2) ?s3) ?s4) ?s5) ?s6) ?s7) ?_
  case s0 =>
    intro b w1 hb hp hu
    have x0 : (Pv.sl (Kd.int .u8) (l0)).V (get b 0) w1 := Pv.keep _ g2_0 (hu 0 (by kernel_rfl)) hb
    exact st_move rfl (want0 rfl _) rfl x0
  case s1 =>
    intro b w1 hb hp hu
    have x14 : (Pv.sl (Kd.int .u8) (l0)).V (get b 14) w1 := hp 0 14 (by kernel_rfl) rfl
    obtain ⟨A_, c_, e_, _, _⟩ := x14
    exact st_len rfl (want0 rfl _) rfl Try.underlying22 e_ rfl
  case s2 =>
    intro b w1 hb hp hu
    have x15 : (Pv.is (.int .i64 (((l0).length : Int)))).V (get b 15) w1 := hp 1 15 (by kernel_rfl) rfl
    exact st_bin (v := .bool false) (vx := .int .i64 (((l0).length : Int))) (vy := .int .i64 ((120 : Int))) rfl (want0 rfl _) rfl x15 rfl (by first | rfl | (have c_ := c1000; refine Eq.trans (b := Result.ok (.bool decide ((((l0).length : Int)) > ((120 : Int)))) w1) rfl ?_; rw [show decide ((((l0).length : Int)) > ((120 : Int))) = false from decide_eq_false c_]) | (have c_ := c1000; clear hb hp hu; go_simp; first | done | rfl | (simp [c_]; done) | (simp; omega))) rfl
  case s3 =>
    intro b w1 hb hp hu
    have x16 : (Pv.is (.bool false)).V (get b 16) w1 := hp 2 16 (by kernel_rfl) rfl
    exact st_move rfl (want0 rfl _) rfl x16
  case s4 =>
    intro b w1 hb hp hu
    have x17 : (Pv.is (.bool false)).V (get b 17) w1 := hp 3 17 (by kernel_rfl) rfl
    have x1 : (Pv.sl (Kd.int .u8) (l1)).V (get b 1) w1 := Pv.keep _ g2_1 (hu 1 (by kernel_rfl)) hb
    exact st_move rfl ((want_is (N := 17) rfl rfl x17).trans rfl) rfl x1
  case s5 =>
    intro b w1 hb hp hu
    have x17 : (Pv.is (.bool false)).V (get b 17) w1 := hp 3 17 (by kernel_rfl) rfl
    have x18 : (Pv.sl (Kd.int .u8) (l1)).V (get b 18) w1 := hp 4 18 (by kernel_rfl) rfl
    obtain ⟨A_, c_, e_, _, _⟩ := x18
    exact st_len rfl ((want_is (N := 17) rfl rfl x17).trans rfl) rfl Try.underlying22 e_ rfl
  case s6 =>
    intro b w1 hb hp hu
    have x17 : (Pv.is (.bool false)).V (get b 17) w1 := hp 3 17 (by kernel_rfl) rfl
    have x19 : (Pv.is (.int .i64 (((l1).length : Int)))).V (get b 19) w1 := hp 5 19 (by kernel_rfl) rfl
    exact st_bin (v := .bool false) (vx := .int .i64 (((l1).length : Int))) (vy := .int .i64 ((120 : Int))) rfl ((want_is (N := 17) rfl rfl x17).trans rfl) rfl x19 rfl (by first | rfl | (have c_ := c1001; refine Eq.trans (b := Result.ok (.bool decide ((((l1).length : Int)) > ((120 : Int)))) w1) rfl ?_; rw [show decide ((((l1).length : Int)) > ((120 : Int))) = false from decide_eq_false c_]) | (have c_ := c1001; clear hb hp hu; go_simp; first | done | rfl | (simp [c_]; done) | (simp; omega))) rfl
  case s7 =>
    intro b w1 hb hp hu
    have x17 : (Pv.is (.bool false)).V (get b 17) w1 := hp 3 17 (by kernel_rfl) rfl
    have x20 : (Pv.is (.bool false)).V (get b 20) w1 := hp 6 20 (by kernel_rfl) rfl
    exact st_pick (b := false) rfl (want0 rfl _) rfl x17 x20
  intro ac3 wo3 hn3 hd_ hb hv hs
  have g3_21 : (Pv.is (.bool false)).V (get ac3 21) wo3 := hv 7 21 rfl
  have g3_6 : (Pv.is (.bool false)).V (get ac3 6) wo3 := Pv.keep _ g2_6 (hs 6 rfl) hb
  have g3_0 : (Pv.sl (Kd.int .u8) (l0)).V (get ac3 0) wo3 := Pv.keep _ g2_0 (hs 0 rfl) hb
  have g3_1 : (Pv.sl (Kd.int .u8) (l1)).V (get ac3 1) wo3 := Pv.keep _ g2_1 (hs 1 rfl) hb
  have g3_2 : (Pv.is (.int .u8 (a2))).V (get ac3 2) wo3 := Pv.keep _ g2_2 (hs 2 rfl) hb
  have hB3 := below_step hB2 hb
  have hd3 := hd_.trans hd2
  clear hv hs hd_ hb hB2 hn2 hd2 g2_13 g2_6 g2_0 g2_1 g2_2
  show Code.wp _ _ _ _ _
  refine wp_cond_false (show ac3.eval (Operand.tmp 21) = .bool false from g3_21) ?_
  refine wp_skip ?_
  show Code.wp _ _ _ _ _
  refine wp_seq ?_
  refine wp_seq ?_
  refine Reg.draws (T := wristbandlaw08_PolyRight.T5) (D := wristbandlaw08_PolyRight.D5) (n := 132) rfl (by kernel_rfl) hn3 (told [Pv.sl (Kd.int .u8) (l0), Pv.sl (Kd.int .u8) (t1), Pv.is (.string (strOfNums (t1))), Pv.sl (Kd.int .u8) (l0), Pv.sl (Kd.int .u8) (t2), Pv.is (.string (strOfNums (t2))), Pv.is (.bool false), Pv.is (.bool false), Pv.sl (Kd.int .u8) (l0), Pv.is (.int .i64 (t3)), Pv.sl (Kd.int .u8) (l0), Pv.sl (Kd.int .u8) (t2), Pv.is (.int .i64 (((t2).length : Int))), Pv.is (.int .i64 (wrap64 (((t2).length : Int) - (1 : Int)))), Pv.is (.bool false), Pv.is (.bool false), Pv.is (.bool false), Pv.sl (Kd.int .u8) (l0), Pv.sl (Kd.int .u8) (l1), Pv.sl (Kd.int .u8) (t4), Pv.is (.string (strOfNums (t4))), Pv.sl (Kd.int .u8) (l0), Pv.sl (Kd.int .u8) (l1), Pv.sl (Kd.int .u8) (t5), Pv.is (.string (strOfNums (t5))), Pv.is (.bool false), Pv.is (.bool false), Pv.is (.bool false), Pv.sl (Kd.int .u8) (l0), Pv.sl (Kd.int .u8) (l1), Pv.sl (Kd.int .u8) (t6), Pv.is (.string (strOfNums (t6))), Pv.sl (Kd.int .u8) (l0), Pv.sl (Kd.int .u8) (l1), Pv.sl (Kd.int .u8) (t7), Pv.is (.string (strOfNums (t7))), Pv.is (.bool false), Pv.is (.bool false)]) (told_pst _) (owedS (owedS (owedS (owedS (owedS (owedS (owedS (owedS (owedS (owedS (owedS (owedS (owedS (owedS (owedS (owedS (owedS (owedS (owedS (owedS (owedS (owedS (owedS (owedS (owedS (owedS (owedS (owedS (owedS (owedS (owedS (owedS (owedS (owedS (owedS (owedS (owedS (owedS owed0 ?s0) ?s1) ?s2) ?s3) ?s4) ?s5) ?s6) ?s7) ?s8) ?s9) ?s10) ?s11) ?s12) ?s13) ?s14) ?s15) ?s16) ?s17) ?s18) ?s19) ?s20) ?s21) ?s22) ?s23) ?s24) ?s25) ?s26) ?s27) ?s28) ?s29) ?s30) ?s31) ?s32) ?s33) ?s34) ?s35) ?s36) ?s37) ?_
  case s0 =>
    intro b w1 hb hp hu
    have x0 : (Pv.sl (Kd.int .u8) (l0)).V (get b 0) w1 := Pv.keep _ g3_0 (hu 0 (by kernel_rfl)) hb
    exact st_move rfl (want0 rfl _) rfl x0
  case s1 =>
    intro b w1 hb hp hu
    have x22 : (Pv.sl (Kd.int .u8) (l0)).V (get b 22) w1 := hp 0 22 (by kernel_rfl) rfl
    obtain ⟨B0, d0, e0_, hC0, hl0⟩ := x22
    have e0 : b.eval (Operand.tmp 22) = .slice B0 (l0).length d0 := e0_
    refine st_call rfl (want0 rfl _) rfl Try.func10 (by kernel_rfl) rfl #[.slice B0 (l0).length d0] (by simp only [List.map_toArray, List.map_cons, List.map_nil, e0]) ?_
    refine (poly_Plain.calls B0 d0 _ _ w1 hC0 hl0 H2).mono ?_
    rintro e w2 ⟨v0_, rfl, ho0, hb2⟩
    exact ⟨_, rfl, Pv.of_sl ho0, hb2⟩
  case s2 =>
    intro b w1 hb hp hu
    have x23 : (Pv.sl (Kd.int .u8) (t1)).V (get b 23) w1 := hp 1 23 (by kernel_rfl) rfl
    exact st_string Try.underlying22 Try.underlying5 Try.underlying9 rfl (want0 rfl _) rfl x23 rfl
  case s3 =>
    intro b w1 hb hp hu
    have x0 : (Pv.sl (Kd.int .u8) (l0)).V (get b 0) w1 := Pv.keep _ g3_0 (hu 0 (by kernel_rfl)) hb
    exact st_move rfl (want0 rfl _) rfl x0
  case s4 =>
    intro b w1 hb hp hu
    have x25 : (Pv.sl (Kd.int .u8) (l0)).V (get b 25) w1 := hp 3 25 (by kernel_rfl) rfl
    obtain ⟨B0, d0, e0_, hC0, hl0⟩ := x25
    have e0 : b.eval (Operand.tmp 25) = .slice B0 (l0).length d0 := e0_
    refine st_call rfl (want0 rfl _) rfl Try.func11 (by kernel_rfl) rfl #[.slice B0 (l0).length d0] (by simp only [List.map_toArray, List.map_cons, List.map_nil, e0]) ?_
    refine (wristbandref08_Plain.calls k B0 d0 _ _ w1 hC0 hl0 H3).mono ?_
    rintro e w2 ⟨v0_, rfl, ho0, hb2⟩
    exact ⟨_, rfl, Pv.of_sl ho0, hb2⟩
  case s5 =>
    intro b w1 hb hp hu
    have x26 : (Pv.sl (Kd.int .u8) (t2)).V (get b 26) w1 := hp 4 26 (by kernel_rfl) rfl
    exact st_string Try.underlying22 Try.underlying5 Try.underlying9 rfl (want0 rfl _) rfl x26 rfl
  case s6 =>
    intro b w1 hb hp hu
    have x24 : (Pv.is (.string (strOfNums (t1)))).V (get b 24) w1 := hp 2 24 (by kernel_rfl) rfl
    have x27 : (Pv.is (.string (strOfNums (t2)))).V (get b 27) w1 := hp 5 27 (by kernel_rfl) rfl
    exact st_bin (v := .bool false) (vx := .string (strOfNums (t1))) (vy := .string (strOfNums (t2))) rfl (want0 rfl _) rfl x24 x27 (by first | rfl | (have c_ := c1002; clear hb hp hu; go_simp; first | done | rfl | (simp [c_]; done) | (simp; omega))) rfl
  case s7 =>
    intro b w1 hb hp hu
    have x28 : (Pv.is (.bool false)).V (get b 28) w1 := hp 6 28 (by kernel_rfl) rfl
    exact st_move rfl (want0 rfl _) rfl x28
  case s8 =>
    intro b w1 hb hp hu
    have x29 : (Pv.is (.bool false)).V (get b 29) w1 := hp 7 29 (by kernel_rfl) rfl
    have x0 : (Pv.sl (Kd.int .u8) (l0)).V (get b 0) w1 := Pv.keep _ g3_0 (hu 0 (by kernel_rfl)) hb
    exact st_move rfl ((want_is (N := 29) rfl rfl x29).trans rfl) rfl x0
  case s9 =>
    intro b w1 hb hp hu
    have x29 : (Pv.is (.bool false)).V (get b 29) w1 := hp 7 29 (by kernel_rfl) rfl
    have x30 : (Pv.sl (Kd.int .u8) (l0)).V (get b 30) w1 := hp 8 30 (by kernel_rfl) rfl
    obtain ⟨B0, d0, e0_, hC0, hl0⟩ := x30
    have e0 : b.eval (Operand.tmp 30) = .slice B0 (l0).length d0 := e0_
    refine st_call rfl ((want_is (N := 29) rfl rfl x29).trans rfl) rfl Try.func12 (by kernel_rfl) rfl #[.slice B0 (l0).length d0] (by simp only [List.map_toArray, List.map_cons, List.map_nil, e0]) ?_
    refine (poly_Degree.calls B0 d0 _ _ w1 hC0 hl0 H4).mono ?_
    rintro e w2 ⟨rfl, hb2⟩
    exact ⟨_, rfl, rfl, hb2⟩
  case s10 =>
    intro b w1 hb hp hu
    have x29 : (Pv.is (.bool false)).V (get b 29) w1 := hp 7 29 (by kernel_rfl) rfl
    have x0 : (Pv.sl (Kd.int .u8) (l0)).V (get b 0) w1 := Pv.keep _ g3_0 (hu 0 (by kernel_rfl)) hb
    exact st_move rfl ((want_is (N := 29) rfl rfl x29).trans rfl) rfl x0
  case s11 =>
    intro b w1 hb hp hu
    have x29 : (Pv.is (.bool false)).V (get b 29) w1 := hp 7 29 (by kernel_rfl) rfl
    have x32 : (Pv.sl (Kd.int .u8) (l0)).V (get b 32) w1 := hp 10 32 (by kernel_rfl) rfl
    obtain ⟨B0, d0, e0_, hC0, hl0⟩ := x32
    have e0 : b.eval (Operand.tmp 32) = .slice B0 (l0).length d0 := e0_
    refine st_call rfl ((want_is (N := 29) rfl rfl x29).trans rfl) rfl Try.func11 (by kernel_rfl) rfl #[.slice B0 (l0).length d0] (by simp only [List.map_toArray, List.map_cons, List.map_nil, e0]) ?_
    refine (wristbandref08_Plain.calls k B0 d0 _ _ w1 hC0 hl0 H3).mono ?_
    rintro e w2 ⟨v0_, rfl, ho0, hb2⟩
    exact ⟨_, rfl, Pv.of_sl ho0, hb2⟩
  case s12 =>
    intro b w1 hb hp hu
    have x29 : (Pv.is (.bool false)).V (get b 29) w1 := hp 7 29 (by kernel_rfl) rfl
    have x33 : (Pv.sl (Kd.int .u8) (t2)).V (get b 33) w1 := hp 11 33 (by kernel_rfl) rfl
    obtain ⟨A_, c_, e_, _, _⟩ := x33
    exact st_len rfl ((want_is (N := 29) rfl rfl x29).trans rfl) rfl Try.underlying22 e_ rfl
  case s13 =>
    intro b w1 hb hp hu
    have x29 : (Pv.is (.bool false)).V (get b 29) w1 := hp 7 29 (by kernel_rfl) rfl
    have x34 : (Pv.is (.int .i64 (((t2).length : Int)))).V (get b 34) w1 := hp 12 34 (by kernel_rfl) rfl
    exact st_bin (v := .int .i64 (wrap64 (((t2).length : Int) - (1 : Int)))) (vx := .int .i64 (((t2).length : Int))) (vy := .int .i64 ((1 : Int))) rfl ((want_is (N := 29) rfl rfl x29).trans rfl) rfl x34 rfl (by first | rfl | (go_simp; first | done | rfl | (simp only [i64_w, i32_w]; done))) rfl
  case s14 =>
    intro b w1 hb hp hu
    have x29 : (Pv.is (.bool false)).V (get b 29) w1 := hp 7 29 (by kernel_rfl) rfl
    have x31 : (Pv.is (.int .i64 (t3))).V (get b 31) w1 := hp 9 31 (by kernel_rfl) rfl
    have x35 : (Pv.is (.int .i64 (wrap64 (((t2).length : Int) - (1 : Int))))).V (get b 35) w1 := hp 13 35 (by kernel_rfl) rfl
    exact st_bin (v := .bool false) (vx := .int .i64 (t3)) (vy := .int .i64 (wrap64 (((t2).length : Int) - (1 : Int)))) rfl ((want_is (N := 29) rfl rfl x29).trans rfl) rfl x31 x35 (by first | rfl | (have c_ := c1003; refine Eq.trans (b := Result.ok (.bool ((t3) != (wrap64 (((t2).length : Int) - (1 : Int))))) w1) rfl ?_; rw [show ((t3) != (wrap64 (((t2).length : Int) - (1 : Int)))) = false from bne_eq_false_iff_eq.mpr c_]) | (have c_ := c1003; clear hb hp hu; go_simp; first | done | rfl | (simp [c_]; done) | (simp; omega))) rfl
  case s15 =>
    intro b w1 hb hp hu
    have x29 : (Pv.is (.bool false)).V (get b 29) w1 := hp 7 29 (by kernel_rfl) rfl
    have x36 : (Pv.is (.bool false)).V (get b 36) w1 := hp 14 36 (by kernel_rfl) rfl
    exact st_pick (b := false) rfl (want0 rfl _) rfl x29 x36
  case s16 =>
    intro b w1 hb hp hu
    have x37 : (Pv.is (.bool false)).V (get b 37) w1 := hp 15 37 (by kernel_rfl) rfl
    exact st_move rfl (want0 rfl _) rfl x37
  case s17 =>
    intro b w1 hb hp hu
    have x38 : (Pv.is (.bool false)).V (get b 38) w1 := hp 16 38 (by kernel_rfl) rfl
    have x0 : (Pv.sl (Kd.int .u8) (l0)).V (get b 0) w1 := Pv.keep _ g3_0 (hu 0 (by kernel_rfl)) hb
    exact st_move rfl ((want_is (N := 38) rfl rfl x38).trans rfl) rfl x0
  case s18 =>
    intro b w1 hb hp hu
    have x38 : (Pv.is (.bool false)).V (get b 38) w1 := hp 16 38 (by kernel_rfl) rfl
    have x1 : (Pv.sl (Kd.int .u8) (l1)).V (get b 1) w1 := Pv.keep _ g3_1 (hu 1 (by kernel_rfl)) hb
    exact st_move rfl ((want_is (N := 38) rfl rfl x38).trans rfl) rfl x1
  case s19 =>
    intro b w1 hb hp hu
    have x38 : (Pv.is (.bool false)).V (get b 38) w1 := hp 16 38 (by kernel_rfl) rfl
    have x39 : (Pv.sl (Kd.int .u8) (l0)).V (get b 39) w1 := hp 17 39 (by kernel_rfl) rfl
    obtain ⟨B0, d0, e0_, hC0, hl0⟩ := x39
    have e0 : b.eval (Operand.tmp 39) = .slice B0 (l0).length d0 := e0_
    have x40 : (Pv.sl (Kd.int .u8) (l1)).V (get b 40) w1 := hp 18 40 (by kernel_rfl) rfl
    obtain ⟨B1, d1, e1_, hC1, hl1⟩ := x40
    have e1 : b.eval (Operand.tmp 40) = .slice B1 (l1).length d1 := e1_
    refine st_call rfl ((want_is (N := 38) rfl rfl x38).trans rfl) rfl Try.func13 (by kernel_rfl) rfl #[.slice B0 (l0).length d0, .slice B1 (l1).length d1] (by simp only [List.map_toArray, List.map_cons, List.map_nil, e0, e1]) ?_
    refine (poly_Add.calls k B0 d0 _ B1 d1 _ _ w1 hC0 hl0 hC1 hl1 H5).mono ?_
    rintro e w2 ⟨v0_, rfl, ho0, hb2⟩
    exact ⟨_, rfl, Pv.of_sl ho0, hb2⟩
  case s20 =>
    intro b w1 hb hp hu
    have x38 : (Pv.is (.bool false)).V (get b 38) w1 := hp 16 38 (by kernel_rfl) rfl
    have x41 : (Pv.sl (Kd.int .u8) (t4)).V (get b 41) w1 := hp 19 41 (by kernel_rfl) rfl
    exact st_string Try.underlying22 Try.underlying5 Try.underlying9 rfl ((want_is (N := 38) rfl rfl x38).trans rfl) rfl x41 rfl
  case s21 =>
    intro b w1 hb hp hu
    have x38 : (Pv.is (.bool false)).V (get b 38) w1 := hp 16 38 (by kernel_rfl) rfl
    have x0 : (Pv.sl (Kd.int .u8) (l0)).V (get b 0) w1 := Pv.keep _ g3_0 (hu 0 (by kernel_rfl)) hb
    exact st_move rfl ((want_is (N := 38) rfl rfl x38).trans rfl) rfl x0
  case s22 =>
    intro b w1 hb hp hu
    have x38 : (Pv.is (.bool false)).V (get b 38) w1 := hp 16 38 (by kernel_rfl) rfl
    have x1 : (Pv.sl (Kd.int .u8) (l1)).V (get b 1) w1 := Pv.keep _ g3_1 (hu 1 (by kernel_rfl)) hb
    exact st_move rfl ((want_is (N := 38) rfl rfl x38).trans rfl) rfl x1
  case s23 =>
    intro b w1 hb hp hu
    have x38 : (Pv.is (.bool false)).V (get b 38) w1 := hp 16 38 (by kernel_rfl) rfl
    have x43 : (Pv.sl (Kd.int .u8) (l0)).V (get b 43) w1 := hp 21 43 (by kernel_rfl) rfl
    obtain ⟨B0, d0, e0_, hC0, hl0⟩ := x43
    have e0 : b.eval (Operand.tmp 43) = .slice B0 (l0).length d0 := e0_
    have x44 : (Pv.sl (Kd.int .u8) (l1)).V (get b 44) w1 := hp 22 44 (by kernel_rfl) rfl
    obtain ⟨B1, d1, e1_, hC1, hl1⟩ := x44
    have e1 : b.eval (Operand.tmp 44) = .slice B1 (l1).length d1 := e1_
    refine st_call rfl ((want_is (N := 38) rfl rfl x38).trans rfl) rfl Try.func14 (by kernel_rfl) rfl #[.slice B0 (l0).length d0, .slice B1 (l1).length d1] (by simp only [List.map_toArray, List.map_cons, List.map_nil, e0, e1]) ?_
    refine (wristbandref08_Add.calls k B0 d0 _ B1 d1 _ _ w1 hC0 hl0 hC1 hl1 H6).mono ?_
    rintro e w2 ⟨v0_, rfl, ho0, hb2⟩
    exact ⟨_, rfl, Pv.of_sl ho0, hb2⟩
  case s24 =>
    intro b w1 hb hp hu
    have x38 : (Pv.is (.bool false)).V (get b 38) w1 := hp 16 38 (by kernel_rfl) rfl
    have x45 : (Pv.sl (Kd.int .u8) (t5)).V (get b 45) w1 := hp 23 45 (by kernel_rfl) rfl
    exact st_string Try.underlying22 Try.underlying5 Try.underlying9 rfl ((want_is (N := 38) rfl rfl x38).trans rfl) rfl x45 rfl
  case s25 =>
    intro b w1 hb hp hu
    have x38 : (Pv.is (.bool false)).V (get b 38) w1 := hp 16 38 (by kernel_rfl) rfl
    have x42 : (Pv.is (.string (strOfNums (t4)))).V (get b 42) w1 := hp 20 42 (by kernel_rfl) rfl
    have x46 : (Pv.is (.string (strOfNums (t5)))).V (get b 46) w1 := hp 24 46 (by kernel_rfl) rfl
    exact st_bin (v := .bool false) (vx := .string (strOfNums (t4))) (vy := .string (strOfNums (t5))) rfl ((want_is (N := 38) rfl rfl x38).trans rfl) rfl x42 x46 (by first | rfl | (have c_ := c1004; clear hb hp hu; go_simp; first | done | rfl | (simp [c_]; done) | (simp; omega))) rfl
  case s26 =>
    intro b w1 hb hp hu
    have x38 : (Pv.is (.bool false)).V (get b 38) w1 := hp 16 38 (by kernel_rfl) rfl
    have x47 : (Pv.is (.bool false)).V (get b 47) w1 := hp 25 47 (by kernel_rfl) rfl
    exact st_pick (b := false) rfl (want0 rfl _) rfl x38 x47
  case s27 =>
    intro b w1 hb hp hu
    have x48 : (Pv.is (.bool false)).V (get b 48) w1 := hp 26 48 (by kernel_rfl) rfl
    exact st_move rfl (want0 rfl _) rfl x48
  case s28 =>
    intro b w1 hb hp hu
    have x49 : (Pv.is (.bool false)).V (get b 49) w1 := hp 27 49 (by kernel_rfl) rfl
    have x0 : (Pv.sl (Kd.int .u8) (l0)).V (get b 0) w1 := Pv.keep _ g3_0 (hu 0 (by kernel_rfl)) hb
    exact st_move rfl ((want_is (N := 49) rfl rfl x49).trans rfl) rfl x0
  case s29 =>
    intro b w1 hb hp hu
    have x49 : (Pv.is (.bool false)).V (get b 49) w1 := hp 27 49 (by kernel_rfl) rfl
    have x1 : (Pv.sl (Kd.int .u8) (l1)).V (get b 1) w1 := Pv.keep _ g3_1 (hu 1 (by kernel_rfl)) hb
    exact st_move rfl ((want_is (N := 49) rfl rfl x49).trans rfl) rfl x1
  case s30 =>
    intro b w1 hb hp hu
    have x49 : (Pv.is (.bool false)).V (get b 49) w1 := hp 27 49 (by kernel_rfl) rfl
    have x50 : (Pv.sl (Kd.int .u8) (l0)).V (get b 50) w1 := hp 28 50 (by kernel_rfl) rfl
    obtain ⟨B0, d0, e0_, hC0, hl0⟩ := x50
    have e0 : b.eval (Operand.tmp 50) = .slice B0 (l0).length d0 := e0_
    have x51 : (Pv.sl (Kd.int .u8) (l1)).V (get b 51) w1 := hp 29 51 (by kernel_rfl) rfl
    obtain ⟨B1, d1, e1_, hC1, hl1⟩ := x51
    have e1 : b.eval (Operand.tmp 51) = .slice B1 (l1).length d1 := e1_
    refine st_call rfl ((want_is (N := 49) rfl rfl x49).trans rfl) rfl Try.func15 (by kernel_rfl) rfl #[.slice B0 (l0).length d0, .slice B1 (l1).length d1] (by simp only [List.map_toArray, List.map_cons, List.map_nil, e0, e1]) ?_
    refine (poly_Mul.calls k B0 d0 _ B1 d1 _ _ w1 hC0 hl0 hC1 hl1 H7).mono ?_
    rintro e w2 ⟨v0_, rfl, ho0, hb2⟩
    exact ⟨_, rfl, Pv.of_sl ho0, hb2⟩
  case s31 =>
    intro b w1 hb hp hu
    have x49 : (Pv.is (.bool false)).V (get b 49) w1 := hp 27 49 (by kernel_rfl) rfl
    have x52 : (Pv.sl (Kd.int .u8) (t6)).V (get b 52) w1 := hp 30 52 (by kernel_rfl) rfl
    exact st_string Try.underlying22 Try.underlying5 Try.underlying9 rfl ((want_is (N := 49) rfl rfl x49).trans rfl) rfl x52 rfl
  case s32 =>
    intro b w1 hb hp hu
    have x49 : (Pv.is (.bool false)).V (get b 49) w1 := hp 27 49 (by kernel_rfl) rfl
    have x0 : (Pv.sl (Kd.int .u8) (l0)).V (get b 0) w1 := Pv.keep _ g3_0 (hu 0 (by kernel_rfl)) hb
    exact st_move rfl ((want_is (N := 49) rfl rfl x49).trans rfl) rfl x0
  case s33 =>
    intro b w1 hb hp hu
    have x49 : (Pv.is (.bool false)).V (get b 49) w1 := hp 27 49 (by kernel_rfl) rfl
    have x1 : (Pv.sl (Kd.int .u8) (l1)).V (get b 1) w1 := Pv.keep _ g3_1 (hu 1 (by kernel_rfl)) hb
    exact st_move rfl ((want_is (N := 49) rfl rfl x49).trans rfl) rfl x1
  case s34 =>
    intro b w1 hb hp hu
    have x49 : (Pv.is (.bool false)).V (get b 49) w1 := hp 27 49 (by kernel_rfl) rfl
    have x54 : (Pv.sl (Kd.int .u8) (l0)).V (get b 54) w1 := hp 32 54 (by kernel_rfl) rfl
    obtain ⟨B0, d0, e0_, hC0, hl0⟩ := x54
    have e0 : b.eval (Operand.tmp 54) = .slice B0 (l0).length d0 := e0_
    have x55 : (Pv.sl (Kd.int .u8) (l1)).V (get b 55) w1 := hp 33 55 (by kernel_rfl) rfl
    obtain ⟨B1, d1, e1_, hC1, hl1⟩ := x55
    have e1 : b.eval (Operand.tmp 55) = .slice B1 (l1).length d1 := e1_
    refine st_call rfl ((want_is (N := 49) rfl rfl x49).trans rfl) rfl Try.func16 (by kernel_rfl) rfl #[.slice B0 (l0).length d0, .slice B1 (l1).length d1] (by simp only [List.map_toArray, List.map_cons, List.map_nil, e0, e1]) ?_
    refine (wristbandref08_Mul.calls k B0 d0 _ B1 d1 _ _ w1 hC0 hl0 hC1 hl1 H8).mono ?_
    rintro e w2 ⟨v0_, rfl, ho0, hb2⟩
    exact ⟨_, rfl, Pv.of_sl ho0, hb2⟩
  case s35 =>
    intro b w1 hb hp hu
    have x49 : (Pv.is (.bool false)).V (get b 49) w1 := hp 27 49 (by kernel_rfl) rfl
    have x56 : (Pv.sl (Kd.int .u8) (t7)).V (get b 56) w1 := hp 34 56 (by kernel_rfl) rfl
    exact st_string Try.underlying22 Try.underlying5 Try.underlying9 rfl ((want_is (N := 49) rfl rfl x49).trans rfl) rfl x56 rfl
  case s36 =>
    intro b w1 hb hp hu
    have x49 : (Pv.is (.bool false)).V (get b 49) w1 := hp 27 49 (by kernel_rfl) rfl
    have x53 : (Pv.is (.string (strOfNums (t6)))).V (get b 53) w1 := hp 31 53 (by kernel_rfl) rfl
    have x57 : (Pv.is (.string (strOfNums (t7)))).V (get b 57) w1 := hp 35 57 (by kernel_rfl) rfl
    exact st_bin (v := .bool false) (vx := .string (strOfNums (t6))) (vy := .string (strOfNums (t7))) rfl ((want_is (N := 49) rfl rfl x49).trans rfl) rfl x53 x57 (by first | rfl | (have c_ := c1005; clear hb hp hu; go_simp; first | done | rfl | (simp [c_]; done) | (simp; omega))) rfl
  case s37 =>
    intro b w1 hb hp hu
    have x49 : (Pv.is (.bool false)).V (get b 49) w1 := hp 27 49 (by kernel_rfl) rfl
    have x58 : (Pv.is (.bool false)).V (get b 58) w1 := hp 36 58 (by kernel_rfl) rfl
    exact st_pick (b := false) rfl (want0 rfl _) rfl x49 x58
  intro ac4 wo4 hn4 hd_ hb hv hs
  have g4_59 : (Pv.is (.bool false)).V (get ac4 59) wo4 := hv 37 59 rfl
  have g4_6 : (Pv.is (.bool false)).V (get ac4 6) wo4 := Pv.keep _ g3_6 (hs 6 rfl) hb
  have g4_0 : (Pv.sl (Kd.int .u8) (l0)).V (get ac4 0) wo4 := Pv.keep _ g3_0 (hs 0 rfl) hb
  have g4_1 : (Pv.sl (Kd.int .u8) (l1)).V (get ac4 1) wo4 := Pv.keep _ g3_1 (hs 1 rfl) hb
  have g4_2 : (Pv.is (.int .u8 (a2))).V (get ac4 2) wo4 := Pv.keep _ g3_2 (hs 2 rfl) hb
  have hB4 := below_step hB3 hb
  have hd4 := hd_.trans hd3
  clear hv hs hd_ hb hB3 hn3 hd3 g3_21 g3_6 g3_0 g3_1 g3_2
  show Code.wp _ _ _ _ _
  refine wp_cond_false (show ac4.eval (Operand.tmp 59) = .bool false from g4_59) ?_
  refine wp_skip ?_
  show Code.wp _ _ _ _ _
  refine wp_seq ?_
  refine wp_seq ?_
  refine Reg.draws (T := wristbandlaw08_PolyRight.T7) (D := wristbandlaw08_PolyRight.D7) (n := 132) rfl (by kernel_rfl) hn4 (told [Pv.sl (Kd.int .u8) (l0), Pv.is (.int .u8 (a2)), Pv.sl (Kd.int .u8) (t8), Pv.is (.string (strOfNums (t8))), Pv.sl (Kd.int .u8) (l0), Pv.is (.int .u8 (a2)), Pv.sl (Kd.int .u8) (t9), Pv.is (.string (strOfNums (t9))), Pv.is (.bool false), Pv.is (.bool false), Pv.sl (Kd.int .u8) (l0), Pv.is (.int .u8 (a2)), Pv.is (.int .u8 (t10)), Pv.sl (Kd.int .u8) (l0), Pv.is (.int .u8 (a2)), Pv.is (.int .u8 (t11)), Pv.is (.bool false), Pv.is (.bool false), Pv.is (.bool false), Pv.sl (Kd.int .u8) (l0), Pv.sl (Kd.int .u8) (t12), Pv.is (.string (strOfNums (t12))), Pv.sl (Kd.int .u8) (l0), Pv.sl (Kd.int .u8) (t13), Pv.is (.string (strOfNums (t13))), Pv.is (.bool false), Pv.is (.bool false)]) (told_pst _) (owedS (owedS (owedS (owedS (owedS (owedS (owedS (owedS (owedS (owedS (owedS (owedS (owedS (owedS (owedS (owedS (owedS (owedS (owedS (owedS (owedS (owedS (owedS (owedS (owedS (owedS (owedS owed0 ?s0) ?s1) ?s2) ?s3) ?s4) ?s5) ?s6) ?s7) ?s8) ?s9) ?s10) ?s11) ?s12) ?s13) ?s14) ?s15) ?s16) ?s17) ?s18) ?s19) ?s20) ?s21) ?s22) ?s23) ?s24) ?s25) ?s26) ?_
  case s0 =>
    intro b w1 hb hp hu
    have x0 : (Pv.sl (Kd.int .u8) (l0)).V (get b 0) w1 := Pv.keep _ g4_0 (hu 0 (by kernel_rfl)) hb
    exact st_move rfl (want0 rfl _) rfl x0
  case s1 =>
    intro b w1 hb hp hu
    have x2 : (Pv.is (.int .u8 (a2))).V (get b 2) w1 := Pv.keep _ g4_2 (hu 2 (by kernel_rfl)) hb
    exact st_move rfl (want0 rfl _) rfl x2
  case s2 =>
    intro b w1 hb hp hu
    have x60 : (Pv.sl (Kd.int .u8) (l0)).V (get b 60) w1 := hp 0 60 (by kernel_rfl) rfl
    obtain ⟨B0, d0, e0_, hC0, hl0⟩ := x60
    have e0 : b.eval (Operand.tmp 60) = .slice B0 (l0).length d0 := e0_
    have x61 : (Pv.is (.int .u8 (a2))).V (get b 61) w1 := hp 1 61 (by kernel_rfl) rfl
    have e1 : b.eval (Operand.tmp 61) = .int .u8 (a2) := x61
    refine st_call rfl (want0 rfl _) rfl Try.func17 (by kernel_rfl) rfl #[.slice B0 (l0).length d0, .int .u8 (a2)] (by simp only [List.map_toArray, List.map_cons, List.map_nil, e0, e1]) ?_
    refine (poly_Times.calls k B0 d0 _ _ _ w1 hC0 hl0 H9).mono ?_
    rintro e w2 ⟨v0_, rfl, ho0, hb2⟩
    exact ⟨_, rfl, Pv.of_sl ho0, hb2⟩
  case s3 =>
    intro b w1 hb hp hu
    have x62 : (Pv.sl (Kd.int .u8) (t8)).V (get b 62) w1 := hp 2 62 (by kernel_rfl) rfl
    exact st_string Try.underlying22 Try.underlying5 Try.underlying9 rfl (want0 rfl _) rfl x62 rfl
  case s4 =>
    intro b w1 hb hp hu
    have x0 : (Pv.sl (Kd.int .u8) (l0)).V (get b 0) w1 := Pv.keep _ g4_0 (hu 0 (by kernel_rfl)) hb
    exact st_move rfl (want0 rfl _) rfl x0
  case s5 =>
    intro b w1 hb hp hu
    have x2 : (Pv.is (.int .u8 (a2))).V (get b 2) w1 := Pv.keep _ g4_2 (hu 2 (by kernel_rfl)) hb
    exact st_move rfl (want0 rfl _) rfl x2
  case s6 =>
    intro b w1 hb hp hu
    have x64 : (Pv.sl (Kd.int .u8) (l0)).V (get b 64) w1 := hp 4 64 (by kernel_rfl) rfl
    obtain ⟨B0, d0, e0_, hC0, hl0⟩ := x64
    have e0 : b.eval (Operand.tmp 64) = .slice B0 (l0).length d0 := e0_
    have x65 : (Pv.is (.int .u8 (a2))).V (get b 65) w1 := hp 5 65 (by kernel_rfl) rfl
    have e1 : b.eval (Operand.tmp 65) = .int .u8 (a2) := x65
    refine st_call rfl (want0 rfl _) rfl Try.func18 (by kernel_rfl) rfl #[.slice B0 (l0).length d0, .int .u8 (a2)] (by simp only [List.map_toArray, List.map_cons, List.map_nil, e0, e1]) ?_
    refine (wristbandref08_Times.calls k B0 d0 _ _ _ w1 hC0 hl0 H10).mono ?_
    rintro e w2 ⟨v0_, rfl, ho0, hb2⟩
    exact ⟨_, rfl, Pv.of_sl ho0, hb2⟩
  case s7 =>
    intro b w1 hb hp hu
    have x66 : (Pv.sl (Kd.int .u8) (t9)).V (get b 66) w1 := hp 6 66 (by kernel_rfl) rfl
    exact st_string Try.underlying22 Try.underlying5 Try.underlying9 rfl (want0 rfl _) rfl x66 rfl
  case s8 =>
    intro b w1 hb hp hu
    have x63 : (Pv.is (.string (strOfNums (t8)))).V (get b 63) w1 := hp 3 63 (by kernel_rfl) rfl
    have x67 : (Pv.is (.string (strOfNums (t9)))).V (get b 67) w1 := hp 7 67 (by kernel_rfl) rfl
    exact st_bin (v := .bool false) (vx := .string (strOfNums (t8))) (vy := .string (strOfNums (t9))) rfl (want0 rfl _) rfl x63 x67 (by first | rfl | (have c_ := c1006; clear hb hp hu; go_simp; first | done | rfl | (simp [c_]; done) | (simp; omega))) rfl
  case s9 =>
    intro b w1 hb hp hu
    have x68 : (Pv.is (.bool false)).V (get b 68) w1 := hp 8 68 (by kernel_rfl) rfl
    exact st_move rfl (want0 rfl _) rfl x68
  case s10 =>
    intro b w1 hb hp hu
    have x69 : (Pv.is (.bool false)).V (get b 69) w1 := hp 9 69 (by kernel_rfl) rfl
    have x0 : (Pv.sl (Kd.int .u8) (l0)).V (get b 0) w1 := Pv.keep _ g4_0 (hu 0 (by kernel_rfl)) hb
    exact st_move rfl ((want_is (N := 69) rfl rfl x69).trans rfl) rfl x0
  case s11 =>
    intro b w1 hb hp hu
    have x69 : (Pv.is (.bool false)).V (get b 69) w1 := hp 9 69 (by kernel_rfl) rfl
    have x2 : (Pv.is (.int .u8 (a2))).V (get b 2) w1 := Pv.keep _ g4_2 (hu 2 (by kernel_rfl)) hb
    exact st_move rfl ((want_is (N := 69) rfl rfl x69).trans rfl) rfl x2
  case s12 =>
    intro b w1 hb hp hu
    have x69 : (Pv.is (.bool false)).V (get b 69) w1 := hp 9 69 (by kernel_rfl) rfl
    have x70 : (Pv.sl (Kd.int .u8) (l0)).V (get b 70) w1 := hp 10 70 (by kernel_rfl) rfl
    obtain ⟨B0, d0, e0_, hC0, hl0⟩ := x70
    have e0 : b.eval (Operand.tmp 70) = .slice B0 (l0).length d0 := e0_
    have x71 : (Pv.is (.int .u8 (a2))).V (get b 71) w1 := hp 11 71 (by kernel_rfl) rfl
    have e1 : b.eval (Operand.tmp 71) = .int .u8 (a2) := x71
    refine st_call rfl ((want_is (N := 69) rfl rfl x69).trans rfl) rfl Try.func19 (by kernel_rfl) rfl #[.slice B0 (l0).length d0, .int .u8 (a2)] (by simp only [List.map_toArray, List.map_cons, List.map_nil, e0, e1]) ?_
    refine (poly_Eval.calls k B0 d0 _ _ _ w1 hC0 hl0 H11).mono ?_
    rintro e w2 ⟨rfl, hb2⟩
    exact ⟨_, rfl, rfl, hb2⟩
  case s13 =>
    intro b w1 hb hp hu
    have x69 : (Pv.is (.bool false)).V (get b 69) w1 := hp 9 69 (by kernel_rfl) rfl
    have x0 : (Pv.sl (Kd.int .u8) (l0)).V (get b 0) w1 := Pv.keep _ g4_0 (hu 0 (by kernel_rfl)) hb
    exact st_move rfl ((want_is (N := 69) rfl rfl x69).trans rfl) rfl x0
  case s14 =>
    intro b w1 hb hp hu
    have x69 : (Pv.is (.bool false)).V (get b 69) w1 := hp 9 69 (by kernel_rfl) rfl
    have x2 : (Pv.is (.int .u8 (a2))).V (get b 2) w1 := Pv.keep _ g4_2 (hu 2 (by kernel_rfl)) hb
    exact st_move rfl ((want_is (N := 69) rfl rfl x69).trans rfl) rfl x2
  case s15 =>
    intro b w1 hb hp hu
    have x69 : (Pv.is (.bool false)).V (get b 69) w1 := hp 9 69 (by kernel_rfl) rfl
    have x73 : (Pv.sl (Kd.int .u8) (l0)).V (get b 73) w1 := hp 13 73 (by kernel_rfl) rfl
    obtain ⟨B0, d0, e0_, hC0, hl0⟩ := x73
    have e0 : b.eval (Operand.tmp 73) = .slice B0 (l0).length d0 := e0_
    have x74 : (Pv.is (.int .u8 (a2))).V (get b 74) w1 := hp 14 74 (by kernel_rfl) rfl
    have e1 : b.eval (Operand.tmp 74) = .int .u8 (a2) := x74
    refine st_call rfl ((want_is (N := 69) rfl rfl x69).trans rfl) rfl Try.func20 (by kernel_rfl) rfl #[.slice B0 (l0).length d0, .int .u8 (a2)] (by simp only [List.map_toArray, List.map_cons, List.map_nil, e0, e1]) ?_
    refine (wristbandref08_Eval.calls k B0 d0 _ _ _ w1 hC0 hl0 H12).mono ?_
    rintro e w2 ⟨rfl, hb2⟩
    exact ⟨_, rfl, rfl, (below_of_drawn hb2)⟩
  case s16 =>
    intro b w1 hb hp hu
    have x69 : (Pv.is (.bool false)).V (get b 69) w1 := hp 9 69 (by kernel_rfl) rfl
    have x72 : (Pv.is (.int .u8 (t10))).V (get b 72) w1 := hp 12 72 (by kernel_rfl) rfl
    have x75 : (Pv.is (.int .u8 (t11))).V (get b 75) w1 := hp 15 75 (by kernel_rfl) rfl
    exact st_bin (v := .bool false) (vx := .int .u8 (t10)) (vy := .int .u8 (t11)) rfl ((want_is (N := 69) rfl rfl x69).trans rfl) rfl x72 x75 (by first | rfl | (have c_ := c1007; refine Eq.trans (b := Result.ok (.bool ((t10) != (t11))) w1) rfl ?_; rw [show ((t10) != (t11)) = false from bne_eq_false_iff_eq.mpr c_]) | (have c_ := c1007; clear hb hp hu; go_simp; first | done | rfl | (simp [c_]; done) | (simp; omega))) rfl
  case s17 =>
    intro b w1 hb hp hu
    have x69 : (Pv.is (.bool false)).V (get b 69) w1 := hp 9 69 (by kernel_rfl) rfl
    have x76 : (Pv.is (.bool false)).V (get b 76) w1 := hp 16 76 (by kernel_rfl) rfl
    exact st_pick (b := false) rfl (want0 rfl _) rfl x69 x76
  case s18 =>
    intro b w1 hb hp hu
    have x77 : (Pv.is (.bool false)).V (get b 77) w1 := hp 17 77 (by kernel_rfl) rfl
    exact st_move rfl (want0 rfl _) rfl x77
  case s19 =>
    intro b w1 hb hp hu
    have x78 : (Pv.is (.bool false)).V (get b 78) w1 := hp 18 78 (by kernel_rfl) rfl
    have x0 : (Pv.sl (Kd.int .u8) (l0)).V (get b 0) w1 := Pv.keep _ g4_0 (hu 0 (by kernel_rfl)) hb
    exact st_move rfl ((want_is (N := 78) rfl rfl x78).trans rfl) rfl x0
  case s20 =>
    intro b w1 hb hp hu
    have x78 : (Pv.is (.bool false)).V (get b 78) w1 := hp 18 78 (by kernel_rfl) rfl
    have x79 : (Pv.sl (Kd.int .u8) (l0)).V (get b 79) w1 := hp 19 79 (by kernel_rfl) rfl
    obtain ⟨B0, d0, e0_, hC0, hl0⟩ := x79
    have e0 : b.eval (Operand.tmp 79) = .slice B0 (l0).length d0 := e0_
    refine st_call rfl ((want_is (N := 78) rfl rfl x78).trans rfl) rfl Try.func21 (by kernel_rfl) rfl #[.slice B0 (l0).length d0] (by simp only [List.map_toArray, List.map_cons, List.map_nil, e0]) ?_
    refine (poly_Slope.calls k B0 d0 _ _ w1 hC0 hl0 H13).mono ?_
    rintro e w2 ⟨v0_, rfl, ho0, hb2⟩
    exact ⟨_, rfl, Pv.of_sl ho0, hb2⟩
  case s21 =>
    intro b w1 hb hp hu
    have x78 : (Pv.is (.bool false)).V (get b 78) w1 := hp 18 78 (by kernel_rfl) rfl
    have x80 : (Pv.sl (Kd.int .u8) (t12)).V (get b 80) w1 := hp 20 80 (by kernel_rfl) rfl
    exact st_string Try.underlying22 Try.underlying5 Try.underlying9 rfl ((want_is (N := 78) rfl rfl x78).trans rfl) rfl x80 rfl
  case s22 =>
    intro b w1 hb hp hu
    have x78 : (Pv.is (.bool false)).V (get b 78) w1 := hp 18 78 (by kernel_rfl) rfl
    have x0 : (Pv.sl (Kd.int .u8) (l0)).V (get b 0) w1 := Pv.keep _ g4_0 (hu 0 (by kernel_rfl)) hb
    exact st_move rfl ((want_is (N := 78) rfl rfl x78).trans rfl) rfl x0
  case s23 =>
    intro b w1 hb hp hu
    have x78 : (Pv.is (.bool false)).V (get b 78) w1 := hp 18 78 (by kernel_rfl) rfl
    have x82 : (Pv.sl (Kd.int .u8) (l0)).V (get b 82) w1 := hp 22 82 (by kernel_rfl) rfl
    obtain ⟨B0, d0, e0_, hC0, hl0⟩ := x82
    have e0 : b.eval (Operand.tmp 82) = .slice B0 (l0).length d0 := e0_
    refine st_call rfl ((want_is (N := 78) rfl rfl x78).trans rfl) rfl Try.func22 (by kernel_rfl) rfl #[.slice B0 (l0).length d0] (by simp only [List.map_toArray, List.map_cons, List.map_nil, e0]) ?_
    refine (wristbandref08_Slope.calls k B0 d0 _ _ w1 hC0 hl0 H14).mono ?_
    rintro e w2 ⟨v0_, rfl, ho0, hb2⟩
    exact ⟨_, rfl, Pv.of_sl ho0, hb2⟩
  case s24 =>
    intro b w1 hb hp hu
    have x78 : (Pv.is (.bool false)).V (get b 78) w1 := hp 18 78 (by kernel_rfl) rfl
    have x83 : (Pv.sl (Kd.int .u8) (t13)).V (get b 83) w1 := hp 23 83 (by kernel_rfl) rfl
    exact st_string Try.underlying22 Try.underlying5 Try.underlying9 rfl ((want_is (N := 78) rfl rfl x78).trans rfl) rfl x83 rfl
  case s25 =>
    intro b w1 hb hp hu
    have x78 : (Pv.is (.bool false)).V (get b 78) w1 := hp 18 78 (by kernel_rfl) rfl
    have x81 : (Pv.is (.string (strOfNums (t12)))).V (get b 81) w1 := hp 21 81 (by kernel_rfl) rfl
    have x84 : (Pv.is (.string (strOfNums (t13)))).V (get b 84) w1 := hp 24 84 (by kernel_rfl) rfl
    exact st_bin (v := .bool false) (vx := .string (strOfNums (t12))) (vy := .string (strOfNums (t13))) rfl ((want_is (N := 78) rfl rfl x78).trans rfl) rfl x81 x84 (by first | rfl | (have c_ := c1008; clear hb hp hu; go_simp; first | done | rfl | (simp [c_]; done) | (simp; omega))) rfl
  case s26 =>
    intro b w1 hb hp hu
    have x78 : (Pv.is (.bool false)).V (get b 78) w1 := hp 18 78 (by kernel_rfl) rfl
    have x85 : (Pv.is (.bool false)).V (get b 85) w1 := hp 25 85 (by kernel_rfl) rfl
    exact st_pick (b := false) rfl (want0 rfl _) rfl x78 x85
  intro ac5 wo5 hn5 hd_ hb hv hs
  have g5_86 : (Pv.is (.bool false)).V (get ac5 86) wo5 := hv 26 86 rfl
  have g5_6 : (Pv.is (.bool false)).V (get ac5 6) wo5 := Pv.keep _ g4_6 (hs 6 rfl) hb
  have g5_0 : (Pv.sl (Kd.int .u8) (l0)).V (get ac5 0) wo5 := Pv.keep _ g4_0 (hs 0 rfl) hb
  have g5_1 : (Pv.sl (Kd.int .u8) (l1)).V (get ac5 1) wo5 := Pv.keep _ g4_1 (hs 1 rfl) hb
  have hB5 := below_step hB4 hb
  have hd5 := hd_.trans hd4
  clear hv hs hd_ hb hB4 hn4 hd4 g4_59 g4_6 g4_0 g4_1 g4_2
  show Code.wp _ _ _ _ _
  refine wp_cond_false (show ac5.eval (Operand.tmp 86) = .bool false from g5_86) ?_
  refine wp_skip ?_
  show Code.wp _ _ _ _ _
  refine wp_seq ?_
  refine Reg.plain (T := wristbandlaw08_PolyRight.T9) (D := wristbandlaw08_PolyRight.D9) (n := 132) (by kernel_rfl) hn5 (told [Pv.sl (Kd.int .u8) (l0), Pv.sl (Kd.int .u8) (l1), Pv.tup [Pv.sl (Kd.int .u8) (t14), Pv.sl (Kd.int .u8) (t15), Pv.is (.int .i64 (t16))], Pv.tup [Pv.sl (Kd.int .u8) (t14), Pv.sl (Kd.int .u8) (t15), Pv.is (.int .i64 (t16))], Pv.sl (Kd.int .u8) (t14), Pv.sl (Kd.int .u8) (t15), Pv.is (.int .i64 (t16)), Pv.sl (Kd.int .u8) (t14), Pv.sl (Kd.int .u8) (t15), Pv.is (.int .i64 (t16))]) (told_pst _) (owedS (owedS (owedS (owedS (owedS (owedS (owedS (owedS (owedS (owedS owed0 ?s0) ?s1) ?s2) ?s3) ?s4) ?s5) ?s6) ?s7) ?s8) ?s9) ?_
  case s0 =>
    intro b w1 hb hp hu
    have x0 : (Pv.sl (Kd.int .u8) (l0)).V (get b 0) w1 := Pv.keep _ g5_0 (hu 0 (by kernel_rfl)) hb
    exact st_move rfl (want0 rfl _) rfl x0
  case s1 =>
    intro b w1 hb hp hu
    have x1 : (Pv.sl (Kd.int .u8) (l1)).V (get b 1) w1 := Pv.keep _ g5_1 (hu 1 (by kernel_rfl)) hb
    exact st_move rfl (want0 rfl _) rfl x1
  case s2 =>
    intro b w1 hb hp hu
    have x88 : (Pv.sl (Kd.int .u8) (l0)).V (get b 88) w1 := hp 0 88 (by kernel_rfl) rfl
    obtain ⟨B0, d0, e0_, hC0, hl0⟩ := x88
    have e0 : b.eval (Operand.tmp 88) = .slice B0 (l0).length d0 := e0_
    have x89 : (Pv.sl (Kd.int .u8) (l1)).V (get b 89) w1 := hp 1 89 (by kernel_rfl) rfl
    obtain ⟨B1, d1, e1_, hC1, hl1⟩ := x89
    have e1 : b.eval (Operand.tmp 89) = .slice B1 (l1).length d1 := e1_
    refine st_call rfl (want0 rfl _) rfl Try.func23 (by kernel_rfl) rfl #[.slice B0 (l0).length d0, .slice B1 (l1).length d1] (by simp only [List.map_toArray, List.map_cons, List.map_nil, e0, e1]) ?_
    refine (poly_Quo.calls k B0 d0 _ B1 d1 _ _ _ _ w1 hC0 hl0 hC1 hl1 H15).mono ?_
    rintro e w2 ⟨v0_, v1_, rfl, ho0, ho1, hb2⟩
    exact ⟨_, rfl, ⟨[_, _, _], rfl, Pv.of_sl ho0, Pv.of_sl ho1, rfl, trivial⟩, hb2⟩
  case s3 =>
    intro b w1 hb hp hu
    have x90 : (Pv.tup [Pv.sl (Kd.int .u8) (t14), Pv.sl (Kd.int .u8) (t15), Pv.is (.int .i64 (t16))]).V (get b 90) w1 := hp 2 90 (by kernel_rfl) rfl
    exact st_move rfl (want0 rfl _) rfl x90
  case s4 =>
    intro b w1 hb hp hu
    have x87 : (Pv.tup [Pv.sl (Kd.int .u8) (t14), Pv.sl (Kd.int .u8) (t15), Pv.is (.int .i64 (t16))]).V (get b 87) w1 := hp 3 87 (by kernel_rfl) rfl
    exact st_extract rfl (want0 rfl _) rfl x87 rfl (fun _ h => h)
  case s5 =>
    intro b w1 hb hp hu
    have x87 : (Pv.tup [Pv.sl (Kd.int .u8) (t14), Pv.sl (Kd.int .u8) (t15), Pv.is (.int .i64 (t16))]).V (get b 87) w1 := hp 3 87 (by kernel_rfl) rfl
    exact st_extract rfl (want0 rfl _) rfl x87 rfl (fun _ h => h)
  case s6 =>
    intro b w1 hb hp hu
    have x87 : (Pv.tup [Pv.sl (Kd.int .u8) (t14), Pv.sl (Kd.int .u8) (t15), Pv.is (.int .i64 (t16))]).V (get b 87) w1 := hp 3 87 (by kernel_rfl) rfl
    exact st_extract rfl (want0 rfl _) rfl x87 rfl (fun _ h => h)
  case s7 =>
    intro b w1 hb hp hu
    have x91 : (Pv.sl (Kd.int .u8) (t14)).V (get b 91) w1 := hp 4 91 (by kernel_rfl) rfl
    exact st_assign rfl (want0 rfl _) rfl x91
  case s8 =>
    intro b w1 hb hp hu
    have x92 : (Pv.sl (Kd.int .u8) (t15)).V (get b 92) w1 := hp 5 92 (by kernel_rfl) rfl
    exact st_assign rfl (want0 rfl _) rfl x92
  case s9 =>
    intro b w1 hb hp hu
    have x93 : (Pv.is (.int .i64 (t16))).V (get b 93) w1 := hp 6 93 (by kernel_rfl) rfl
    exact st_assign rfl (want0 rfl _) rfl x93
  intro ac6 wo6 hn6 hd_ hb hv hs
  have g6_7 : (Pv.sl (Kd.int .u8) (t14)).V (get ac6 7) wo6 := hv 7 7 rfl
  have g6_8 : (Pv.sl (Kd.int .u8) (t15)).V (get ac6 8) wo6 := hv 8 8 rfl
  have g6_9 : (Pv.is (.int .i64 (t16))).V (get ac6 9) wo6 := hv 9 9 rfl
  have g6_6 : (Pv.is (.bool false)).V (get ac6 6) wo6 := Pv.keep _ g5_6 (hs 6 rfl) hb
  have g6_0 : (Pv.sl (Kd.int .u8) (l0)).V (get ac6 0) wo6 := Pv.keep _ g5_0 (hs 0 rfl) hb
  have g6_1 : (Pv.sl (Kd.int .u8) (l1)).V (get ac6 1) wo6 := Pv.keep _ g5_1 (hs 1 rfl) hb
  have hB6 := below_step hB5 hb
  have hd6 := hd_.trans hd5
  clear hv hs hd_ hb hB5 hn5 hd5 g5_86 g5_6 g5_0 g5_1
  show Code.wp _ _ _ _ _
  refine wp_seq ?_
  refine wp_seq ?_
  refine Reg.plain (T := wristbandlaw08_PolyRight.T10) (D := wristbandlaw08_PolyRight.D10) (n := 132) (by kernel_rfl) hn6 (told [Pv.sl (Kd.int .u8) (l1), Pv.sl (Kd.int .u8) (t17), Pv.is (.int .i64 (((t17).length : Int))), Pv.is (.bool false)]) (told_pst _) (owedS (owedS (owedS (owedS owed0 ?s0) ?s1) ?s2) ?s3) ?_
  case s0 =>
    intro b w1 hb hp hu
    have x1 : (Pv.sl (Kd.int .u8) (l1)).V (get b 1) w1 := Pv.keep _ g6_1 (hu 1 (by kernel_rfl)) hb
    exact st_move rfl (want0 rfl _) rfl x1
  case s1 =>
    intro b w1 hb hp hu
    have x94 : (Pv.sl (Kd.int .u8) (l1)).V (get b 94) w1 := hp 0 94 (by kernel_rfl) rfl
    obtain ⟨B0, d0, e0_, hC0, hl0⟩ := x94
    have e0 : b.eval (Operand.tmp 94) = .slice B0 (l1).length d0 := e0_
    refine st_call rfl (want0 rfl _) rfl Try.func11 (by kernel_rfl) rfl #[.slice B0 (l1).length d0] (by simp only [List.map_toArray, List.map_cons, List.map_nil, e0]) ?_
    refine (wristbandref08_Plain.calls k B0 d0 _ _ w1 hC0 hl0 H16).mono ?_
    rintro e w2 ⟨v0_, rfl, ho0, hb2⟩
    exact ⟨_, rfl, Pv.of_sl ho0, hb2⟩
  case s2 =>
    intro b w1 hb hp hu
    have x95 : (Pv.sl (Kd.int .u8) (t17)).V (get b 95) w1 := hp 1 95 (by kernel_rfl) rfl
    obtain ⟨A_, c_, e_, _, _⟩ := x95
    exact st_len rfl (want0 rfl _) rfl Try.underlying22 e_ rfl
  case s3 =>
    intro b w1 hb hp hu
    have x96 : (Pv.is (.int .i64 (((t17).length : Int)))).V (get b 96) w1 := hp 2 96 (by kernel_rfl) rfl
    exact st_bin (v := .bool false) (vx := .int .i64 (((t17).length : Int))) (vy := .int .i64 ((0 : Int))) rfl (want0 rfl _) rfl x96 rfl (by first | rfl | (have c_ := c1009; refine Eq.trans (b := Result.ok (.bool ((((t17).length : Int)) == ((0 : Int)))) w1) rfl ?_; rw [show ((((t17).length : Int)) == ((0 : Int))) = false from beq_eq_false_iff_ne.mpr c_]) | (have c_ := c1009; clear hb hp hu; go_simp; first | done | rfl | (simp [c_]; done) | (simp; omega))) rfl
  intro ac7 wo7 hn7 hd_ hb hv hs
  have g7_97 : (Pv.is (.bool false)).V (get ac7 97) wo7 := hv 3 97 rfl
  have g7_7 : (Pv.sl (Kd.int .u8) (t14)).V (get ac7 7) wo7 := Pv.keep _ g6_7 (hs 7 rfl) hb
  have g7_8 : (Pv.sl (Kd.int .u8) (t15)).V (get ac7 8) wo7 := Pv.keep _ g6_8 (hs 8 rfl) hb
  have g7_9 : (Pv.is (.int .i64 (t16))).V (get ac7 9) wo7 := Pv.keep _ g6_9 (hs 9 rfl) hb
  have g7_6 : (Pv.is (.bool false)).V (get ac7 6) wo7 := Pv.keep _ g6_6 (hs 6 rfl) hb
  have g7_0 : (Pv.sl (Kd.int .u8) (l0)).V (get ac7 0) wo7 := Pv.keep _ g6_0 (hs 0 rfl) hb
  have g7_1 : (Pv.sl (Kd.int .u8) (l1)).V (get ac7 1) wo7 := Pv.keep _ g6_1 (hs 1 rfl) hb
  have hB7 := below_step hB6 hb
  have hd7 := hd_.trans hd6
  clear hv hs hd_ hb hB6 hn6 hd6 g6_7 g6_8 g6_9 g6_6 g6_0 g6_1
  show Code.wp _ _ _ _ _
  refine wp_cond_false (show ac7.eval (Operand.tmp 97) = .bool false from g7_97) ?_
  refine wp_skip ?_
  show Code.wp _ _ _ _ _
  refine wp_seq ?_
  refine Reg.plain (T := wristbandlaw08_PolyRight.T12) (D := wristbandlaw08_PolyRight.D12) (n := 132) (by kernel_rfl) hn7 (told [Pv.sl (Kd.int .u8) (l0), Pv.sl (Kd.int .u8) (l1), Pv.tup [Pv.sl (Kd.int .u8) (t18), Pv.sl (Kd.int .u8) (t19)], Pv.tup [Pv.sl (Kd.int .u8) (t18), Pv.sl (Kd.int .u8) (t19)], Pv.sl (Kd.int .u8) (t18), Pv.sl (Kd.int .u8) (t19), Pv.sl (Kd.int .u8) (t18), Pv.sl (Kd.int .u8) (t19)]) (told_pst _) (owedS (owedS (owedS (owedS (owedS (owedS (owedS (owedS owed0 ?s0) ?s1) ?s2) ?s3) ?s4) ?s5) ?s6) ?s7) ?_
  case s0 =>
    intro b w1 hb hp hu
    have x0 : (Pv.sl (Kd.int .u8) (l0)).V (get b 0) w1 := Pv.keep _ g7_0 (hu 0 (by kernel_rfl)) hb
    exact st_move rfl (want0 rfl _) rfl x0
  case s1 =>
    intro b w1 hb hp hu
    have x1 : (Pv.sl (Kd.int .u8) (l1)).V (get b 1) w1 := Pv.keep _ g7_1 (hu 1 (by kernel_rfl)) hb
    exact st_move rfl (want0 rfl _) rfl x1
  case s2 =>
    intro b w1 hb hp hu
    have x111 : (Pv.sl (Kd.int .u8) (l0)).V (get b 111) w1 := hp 0 111 (by kernel_rfl) rfl
    obtain ⟨B0, d0, e0_, hC0, hl0⟩ := x111
    have e0 : b.eval (Operand.tmp 111) = .slice B0 (l0).length d0 := e0_
    have x112 : (Pv.sl (Kd.int .u8) (l1)).V (get b 112) w1 := hp 1 112 (by kernel_rfl) rfl
    obtain ⟨B1, d1, e1_, hC1, hl1⟩ := x112
    have e1 : b.eval (Operand.tmp 112) = .slice B1 (l1).length d1 := e1_
    refine st_call rfl (want0 rfl _) rfl Try.func24 (by kernel_rfl) rfl #[.slice B0 (l0).length d0, .slice B1 (l1).length d1] (by simp only [List.map_toArray, List.map_cons, List.map_nil, e0, e1]) ?_
    refine (wristbandref08_Quo.calls k B0 d0 _ B1 d1 _ _ _ w1 hC0 hl0 hC1 hl1 H17).mono ?_
    rintro e w2 ⟨v0_, v1_, rfl, ho0, ho1, hb2⟩
    exact ⟨_, rfl, ⟨[_, _], rfl, Pv.of_sl ho0, Pv.of_sl ho1, trivial⟩, hb2⟩
  case s3 =>
    intro b w1 hb hp hu
    have x113 : (Pv.tup [Pv.sl (Kd.int .u8) (t18), Pv.sl (Kd.int .u8) (t19)]).V (get b 113) w1 := hp 2 113 (by kernel_rfl) rfl
    exact st_move rfl (want0 rfl _) rfl x113
  case s4 =>
    intro b w1 hb hp hu
    have x110 : (Pv.tup [Pv.sl (Kd.int .u8) (t18), Pv.sl (Kd.int .u8) (t19)]).V (get b 110) w1 := hp 3 110 (by kernel_rfl) rfl
    exact st_extract rfl (want0 rfl _) rfl x110 rfl (fun _ h => h)
  case s5 =>
    intro b w1 hb hp hu
    have x110 : (Pv.tup [Pv.sl (Kd.int .u8) (t18), Pv.sl (Kd.int .u8) (t19)]).V (get b 110) w1 := hp 3 110 (by kernel_rfl) rfl
    exact st_extract rfl (want0 rfl _) rfl x110 rfl (fun _ h => h)
  case s6 =>
    intro b w1 hb hp hu
    have x114 : (Pv.sl (Kd.int .u8) (t18)).V (get b 114) w1 := hp 4 114 (by kernel_rfl) rfl
    exact st_assign rfl (want0 rfl _) rfl x114
  case s7 =>
    intro b w1 hb hp hu
    have x115 : (Pv.sl (Kd.int .u8) (t19)).V (get b 115) w1 := hp 5 115 (by kernel_rfl) rfl
    exact st_assign rfl (want0 rfl _) rfl x115
  intro ac8 wo8 hn8 hd_ hb hv hs
  have g8_10 : (Pv.sl (Kd.int .u8) (t18)).V (get ac8 10) wo8 := hv 6 10 rfl
  have g8_11 : (Pv.sl (Kd.int .u8) (t19)).V (get ac8 11) wo8 := hv 7 11 rfl
  have g8_7 : (Pv.sl (Kd.int .u8) (t14)).V (get ac8 7) wo8 := Pv.keep _ g7_7 (hs 7 rfl) hb
  have g8_8 : (Pv.sl (Kd.int .u8) (t15)).V (get ac8 8) wo8 := Pv.keep _ g7_8 (hs 8 rfl) hb
  have g8_9 : (Pv.is (.int .i64 (t16))).V (get ac8 9) wo8 := Pv.keep _ g7_9 (hs 9 rfl) hb
  have g8_6 : (Pv.is (.bool false)).V (get ac8 6) wo8 := Pv.keep _ g7_6 (hs 6 rfl) hb
  have hB8 := below_step hB7 hb
  have hd8 := hd_.trans hd7
  clear hv hs hd_ hb hB7 hn7 hd7 g7_97 g7_7 g7_8 g7_9 g7_6 g7_0 g7_1
  show Code.wp _ _ _ _ _
  refine wp_seq ?_
  refine Reg.plain (T := wristbandlaw08_PolyRight.T13) (D := wristbandlaw08_PolyRight.D13) (n := 132) (by kernel_rfl) hn8 (told [Pv.is (.int .i64 (t16)), Pv.is (.bool true), Pv.is (.bool true), Pv.sl (Kd.int .u8) (t14), Pv.is (.string (strOfNums (t14))), Pv.sl (Kd.int .u8) (t18), Pv.is (.string (strOfNums (t18))), Pv.is (.bool true), Pv.is (.bool true), Pv.is (.bool true), Pv.sl (Kd.int .u8) (t15), Pv.is (.string (strOfNums (t15))), Pv.sl (Kd.int .u8) (t19), Pv.is (.string (strOfNums (t19))), Pv.is (.bool true), Pv.is (.bool true), Pv.is (.bool true)]) (told_pst _) (owedS (owedS (owedS (owedS (owedS (owedS (owedS (owedS (owedS (owedS (owedS (owedS (owedS (owedS (owedS (owedS (owedS owed0 ?s0) ?s1) ?s2) ?s3) ?s4) ?s5) ?s6) ?s7) ?s8) ?s9) ?s10) ?s11) ?s12) ?s13) ?s14) ?s15) ?s16) ?_
  case s0 =>
    intro b w1 hb hp hu
    have x9 : (Pv.is (.int .i64 (t16))).V (get b 9) w1 := Pv.keep _ g8_9 (hu 9 (by kernel_rfl)) hb
    exact st_move rfl (want0 rfl _) rfl x9
  case s1 =>
    intro b w1 hb hp hu
    have x116 : (Pv.is (.int .i64 (t16))).V (get b 116) w1 := hp 0 116 (by kernel_rfl) rfl
    exact st_bin (v := .bool true) (vx := .int .i64 (t16)) (vy := .int .i64 ((0 : Int))) rfl (want0 rfl _) rfl x116 rfl (by first | rfl | (have c_ := c1010; refine Eq.trans (b := Result.ok (.bool ((t16) == ((0 : Int)))) w1) rfl ?_; rw [show ((t16) == ((0 : Int))) = true from beq_iff_eq.mpr c_]) | (have c_ := c1010; clear hb hp hu; go_simp; first | done | rfl | (simp [c_]; done) | (simp; omega))) rfl
  case s2 =>
    intro b w1 hb hp hu
    have x117 : (Pv.is (.bool true)).V (get b 117) w1 := hp 1 117 (by kernel_rfl) rfl
    exact st_move rfl (want0 rfl _) rfl x117
  case s3 =>
    intro b w1 hb hp hu
    have x118 : (Pv.is (.bool true)).V (get b 118) w1 := hp 2 118 (by kernel_rfl) rfl
    have x7 : (Pv.sl (Kd.int .u8) (t14)).V (get b 7) w1 := Pv.keep _ g8_7 (hu 7 (by kernel_rfl)) hb
    exact st_move rfl ((want_is (N := 118) rfl rfl x118).trans rfl) rfl x7
  case s4 =>
    intro b w1 hb hp hu
    have x118 : (Pv.is (.bool true)).V (get b 118) w1 := hp 2 118 (by kernel_rfl) rfl
    have x119 : (Pv.sl (Kd.int .u8) (t14)).V (get b 119) w1 := hp 3 119 (by kernel_rfl) rfl
    exact st_string Try.underlying22 Try.underlying5 Try.underlying9 rfl ((want_is (N := 118) rfl rfl x118).trans rfl) rfl x119 rfl
  case s5 =>
    intro b w1 hb hp hu
    have x118 : (Pv.is (.bool true)).V (get b 118) w1 := hp 2 118 (by kernel_rfl) rfl
    have x10 : (Pv.sl (Kd.int .u8) (t18)).V (get b 10) w1 := Pv.keep _ g8_10 (hu 10 (by kernel_rfl)) hb
    exact st_move rfl ((want_is (N := 118) rfl rfl x118).trans rfl) rfl x10
  case s6 =>
    intro b w1 hb hp hu
    have x118 : (Pv.is (.bool true)).V (get b 118) w1 := hp 2 118 (by kernel_rfl) rfl
    have x121 : (Pv.sl (Kd.int .u8) (t18)).V (get b 121) w1 := hp 5 121 (by kernel_rfl) rfl
    exact st_string Try.underlying22 Try.underlying5 Try.underlying9 rfl ((want_is (N := 118) rfl rfl x118).trans rfl) rfl x121 rfl
  case s7 =>
    intro b w1 hb hp hu
    have x118 : (Pv.is (.bool true)).V (get b 118) w1 := hp 2 118 (by kernel_rfl) rfl
    have x120 : (Pv.is (.string (strOfNums (t14)))).V (get b 120) w1 := hp 4 120 (by kernel_rfl) rfl
    have x122 : (Pv.is (.string (strOfNums (t18)))).V (get b 122) w1 := hp 6 122 (by kernel_rfl) rfl
    exact st_bin (v := .bool true) (vx := .string (strOfNums (t14))) (vy := .string (strOfNums (t18))) rfl ((want_is (N := 118) rfl rfl x118).trans rfl) rfl x120 x122 (by first | rfl | (have c_ := c1011; clear hb hp hu; go_simp; first | done | rfl | (simp [c_]; done) | (simp; omega))) rfl
  case s8 =>
    intro b w1 hb hp hu
    have x118 : (Pv.is (.bool true)).V (get b 118) w1 := hp 2 118 (by kernel_rfl) rfl
    have x123 : (Pv.is (.bool true)).V (get b 123) w1 := hp 7 123 (by kernel_rfl) rfl
    exact st_pick (b := true) rfl (want0 rfl _) rfl x118 x123
  case s9 =>
    intro b w1 hb hp hu
    have x124 : (Pv.is (.bool true)).V (get b 124) w1 := hp 8 124 (by kernel_rfl) rfl
    exact st_move rfl (want0 rfl _) rfl x124
  case s10 =>
    intro b w1 hb hp hu
    have x125 : (Pv.is (.bool true)).V (get b 125) w1 := hp 9 125 (by kernel_rfl) rfl
    have x8 : (Pv.sl (Kd.int .u8) (t15)).V (get b 8) w1 := Pv.keep _ g8_8 (hu 8 (by kernel_rfl)) hb
    exact st_move rfl ((want_is (N := 125) rfl rfl x125).trans rfl) rfl x8
  case s11 =>
    intro b w1 hb hp hu
    have x125 : (Pv.is (.bool true)).V (get b 125) w1 := hp 9 125 (by kernel_rfl) rfl
    have x126 : (Pv.sl (Kd.int .u8) (t15)).V (get b 126) w1 := hp 10 126 (by kernel_rfl) rfl
    exact st_string Try.underlying22 Try.underlying5 Try.underlying9 rfl ((want_is (N := 125) rfl rfl x125).trans rfl) rfl x126 rfl
  case s12 =>
    intro b w1 hb hp hu
    have x125 : (Pv.is (.bool true)).V (get b 125) w1 := hp 9 125 (by kernel_rfl) rfl
    have x11 : (Pv.sl (Kd.int .u8) (t19)).V (get b 11) w1 := Pv.keep _ g8_11 (hu 11 (by kernel_rfl)) hb
    exact st_move rfl ((want_is (N := 125) rfl rfl x125).trans rfl) rfl x11
  case s13 =>
    intro b w1 hb hp hu
    have x125 : (Pv.is (.bool true)).V (get b 125) w1 := hp 9 125 (by kernel_rfl) rfl
    have x128 : (Pv.sl (Kd.int .u8) (t19)).V (get b 128) w1 := hp 12 128 (by kernel_rfl) rfl
    exact st_string Try.underlying22 Try.underlying5 Try.underlying9 rfl ((want_is (N := 125) rfl rfl x125).trans rfl) rfl x128 rfl
  case s14 =>
    intro b w1 hb hp hu
    have x125 : (Pv.is (.bool true)).V (get b 125) w1 := hp 9 125 (by kernel_rfl) rfl
    have x127 : (Pv.is (.string (strOfNums (t15)))).V (get b 127) w1 := hp 11 127 (by kernel_rfl) rfl
    have x129 : (Pv.is (.string (strOfNums (t19)))).V (get b 129) w1 := hp 13 129 (by kernel_rfl) rfl
    exact st_bin (v := .bool true) (vx := .string (strOfNums (t15))) (vy := .string (strOfNums (t19))) rfl ((want_is (N := 125) rfl rfl x125).trans rfl) rfl x127 x129 (by first | rfl | (have c_ := c1012; clear hb hp hu; go_simp; first | done | rfl | (simp [c_]; done) | (simp; omega))) rfl
  case s15 =>
    intro b w1 hb hp hu
    have x125 : (Pv.is (.bool true)).V (get b 125) w1 := hp 9 125 (by kernel_rfl) rfl
    have x130 : (Pv.is (.bool true)).V (get b 130) w1 := hp 14 130 (by kernel_rfl) rfl
    exact st_pick (b := true) rfl (want0 rfl _) rfl x125 x130
  case s16 =>
    intro b w1 hb hp hu
    have x131 : (Pv.is (.bool true)).V (get b 131) w1 := hp 15 131 (by kernel_rfl) rfl
    exact st_assign rfl (want0 rfl _) rfl x131
  intro ac9 wo9 hn9 hd_ hb hv hs
  have g9_6 : (Pv.is (.bool true)).V (get ac9 6) wo9 := hv 16 6 rfl
  have hB9 := below_step hB8 hb
  have hd9 := hd_.trans hd8
  clear hv hs hd_ hb hB8 hn8 hd8 g8_10 g8_11 g8_7 g8_8 g8_9 g8_6
  show Code.wp _ _ _ _ _
  refine wp_ret ?_
  repeat (refine then_ret ?_)
  exact back_is rfl hd9 g9_6 ⟨rfl, hB9⟩
theorem wristbandlaw08_PolyRight.calls (k : Nat) (A0 : Option Addr) (c0 : Nat) (l0 : List Int) (A1 : Option Addr) (c1 : Nat) (l1 : List Int) (a2 : Int) (w : World) (hr0 : Kd.C (Kd.int .u8) w A0 l0.length l0) (hc0 : l0.length ≤ c0) (hr1 : Kd.C (Kd.int .u8) w A1 l1.length l1) (hc1 : l1.length ≤ c1) (h : wristbandlaw08_PolyRight.ok k l0 l1 a2) :
    Calls Try.prog 3 #[.slice A0 l0.length c0, .slice A1 l1.length c1, .int .u8 a2] w fun e w' => e = .returned (.bool true) ∧ Below w.heap.size w w' := by
  unfold wristbandlaw08_PolyRight.ok at h
  obtain ⟨H1, h⟩ := h
  obtain ⟨hy, hn⟩ := h
  by_cases c1000 : ((l0).length : Int) > (120 : Int)
  · have h := hy c1000
    exact wristbandlaw08_PolyRight.way1 k A0 c0 l0 A1 c1 l1 a2 w hr0 hc0 hr1 hc1 H1 c1000
  · have h := hn c1000
    obtain ⟨hy, hn⟩ := h
    by_cases c1001 : ((l1).length : Int) > (120 : Int)
    · have h := hy c1001
      exact wristbandlaw08_PolyRight.way2 k A0 c0 l0 A1 c1 l1 a2 w hr0 hc0 hr1 hc1 H1 c1000 c1001
    · have h := hn c1001
      obtain ⟨t1, H2, h⟩ := h
      obtain ⟨t2, H3, h⟩ := h
      obtain ⟨c1002, h⟩ := h
      obtain ⟨t3, H4, h⟩ := h
      obtain ⟨c1003, h⟩ := h
      obtain ⟨t4, H5, h⟩ := h
      obtain ⟨t5, H6, h⟩ := h
      obtain ⟨c1004, h⟩ := h
      obtain ⟨t6, H7, h⟩ := h
      obtain ⟨t7, H8, h⟩ := h
      obtain ⟨c1005, h⟩ := h
      obtain ⟨t8, H9, h⟩ := h
      obtain ⟨t9, H10, h⟩ := h
      obtain ⟨c1006, h⟩ := h
      obtain ⟨t10, H11, h⟩ := h
      obtain ⟨t11, H12, h⟩ := h
      obtain ⟨c1007, h⟩ := h
      obtain ⟨t12, H13, h⟩ := h
      obtain ⟨t13, H14, h⟩ := h
      obtain ⟨c1008, h⟩ := h
      obtain ⟨t14, t15, t16, H15, h⟩ := h
      obtain ⟨t17, H16, h⟩ := h
      obtain ⟨hy, hn⟩ := h
      by_cases c1009 : ((t17).length : Int) = (0 : Int)
      · have h := hy c1009
        obtain ⟨c1010, h⟩ := h
        obtain ⟨c1011, h⟩ := h
        obtain ⟨c1012, h⟩ := h
        exact wristbandlaw08_PolyRight.way3 k A0 c0 l0 A1 c1 l1 a2 w hr0 hc0 hr1 hc1 H1 t1 H2 t2 H3 t3 H4 t4 H5 t5 H6 t6 H7 t7 H8 t8 H9 t9 H10 t10 H11 t11 H12 t12 H13 t13 H14 t14 t15 t16 H15 t17 H16 c1000 c1001 c1002 c1003 c1004 c1005 c1006 c1007 c1008 c1009 c1010 c1011 c1012
      · have h := hn c1009
        obtain ⟨t18, t19, H17, h⟩ := h
        obtain ⟨c1010, h⟩ := h
        obtain ⟨c1011, h⟩ := h
        obtain ⟨c1012, h⟩ := h
        exact wristbandlaw08_PolyRight.way4 k A0 c0 l0 A1 c1 l1 a2 w hr0 hc0 hr1 hc1 H1 t1 H2 t2 H3 t3 H4 t4 H5 t5 H6 t6 H7 t7 H8 t8 H9 t9 H10 t10 H11 t11 H12 t12 H13 t13 H14 t14 t15 t16 H15 t17 H16 t18 t19 H17 c1000 c1001 c1002 c1003 c1004 c1005 c1006 c1007 c1008 c1009 c1010 c1011 c1012

/-- THE ONE PURE STATEMENT of wristbandlaw08_PolyRight. -/
def wristbandlaw08_PolyRight.Pure : Prop := ∀ (l0 : List Int) (l1 : List Int) (a2 : Int), l0.length ≤ maxLen → l0.length * 1 ≤ 140737488351232 → (∀ x ∈ l0, (Lit.int .u8 x).wf = true) → l1.length ≤ maxLen → l1.length * 1 ≤ 140737488351232 → (∀ x ∈ l1, (Lit.int .u8 x).wf = true) → (Lit.int .u8 a2).wf = true → ∃ k, wristbandlaw08_PolyRight.ok k l0 l1 a2
theorem wristbandlaw08_PolyRight.walk (P : wristbandlaw08_PolyRight.Pure) (a0 : Option Addr) (len0 cap0 : Nat) (z0 : List Int) (a1 : Option Addr) (len1 cap1 : Nat) (z1 : List Int) (a2 : Int) (w : World) (w0 : (a0 = none ∧ len0 = 0 ∧ cap0 = 0 ∧ z0 = []) ∨ ∃ x, a0 = some x ∧ len0 ≤ cap0 ∧ cap0 ≤ maxLen ∧ z0.length = cap0 ∧ (∀ i, i < z0.length → w.cell? (x.add i) = some (.int .u8 (z0.getD i 0))) ∧ ∀ n ∈ z0, (Lit.int .u8 n).wf = true) (y0 : len0 * 1 ≤ 140737488351232) (w1 : (a1 = none ∧ len1 = 0 ∧ cap1 = 0 ∧ z1 = []) ∨ ∃ x, a1 = some x ∧ len1 ≤ cap1 ∧ cap1 ≤ maxLen ∧ z1.length = cap1 ∧ (∀ i, i < z1.length → w.cell? (x.add i) = some (.int .u8 (z1.getD i 0))) ∧ ∀ n ∈ z1, (Lit.int .u8 n).wf = true) (y1 : len1 * 1 ≤ 140737488351232) (w2 : (Lit.int .u8 a2).wf = true) :
    Calls Try.prog 3 #[.slice a0 len0 cap0, .slice a1 len1 cap1, .int .u8 a2] w fun e w' => e = .returned (.bool true) ∧ Below w.heap.size w w' := by
  obtain ⟨l0, rfl, hr0, hm0, hw0, hc0⟩ := ReadsInt.ofRowC w0
  obtain ⟨l1, rfl, hr1, hm1, hw1, hc1⟩ := ReadsInt.ofRowC w1
  obtain ⟨k, h⟩ := P l0 l1 a2 hm0 y0 hw0 hm1 y1 hw1 w2
  exact wristbandlaw08_PolyRight.calls k _ _ l0 _ _ l1 a2 w (Kd.C_of_reads (d := (0 : Int)) (h1 := fun _ => rfl) hr0) hc0 (Kd.C_of_reads (d := (0 : Int)) (h1 := fun _ => rfl) hr1) hc1 h

end Go.Proofs.Ytgieppcadnhhaaa.P
