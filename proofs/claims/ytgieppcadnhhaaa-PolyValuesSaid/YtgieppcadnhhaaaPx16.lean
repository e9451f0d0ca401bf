-- Written by a program of this session (its own contracts laid into the walks). Lean checks it.
import Derived.Test.YtgieppcadnhhaaaPx0
import Derived.Test.YtgieppcadnhhaaaPx2
import Derived.Test.YtgieppcadnhhaaaPx3
import Derived.Test.YtgieppcadnhhaaaPx4
import Derived.Test.YtgieppcadnhhaaaPx5
import Derived.Test.YtgieppcadnhhaaaPx6
import Derived.Test.YtgieppcadnhhaaaPx7
import Derived.Test.YtgieppcadnhhaaaPx8
import Derived.Test.YtgieppcadnhhaaaPx9
import Derived.Test.YtgieppcadnhhaaaReg
namespace Go.Proofs.Ytgieppcadnhhaaa.P
open Go.RowKit Go.Proofs.YtgieppcadnhhaaaW.PrintWords Go.Proofs.YtgieppcadnhhaaaW.PrintLast Go.Proofs.YtgieppcadnhhaaaW.PrintMore
attribute [local go_sem] max2_int min2_int max_two min_two max_three min_three max_four min_four   -- for this text's walks alone
set_option linter.unusedVariables false
set_option linter.unusedSimpArgs false

/-! ### wristbandlaw08_PolyValues: function 5 -/
-- IMPORTS Derived.Test.YtgieppcadnhhaaaReg
open Go.Proofs.Ytgieppcadnhhaaa.Reg
def wristbandlaw08_PolyValues.T0 : List Nat := [0]
def wristbandlaw08_PolyValues.D0 : List (Option Tmp) := [some 8]
def wristbandlaw08_PolyValues.T1 : List Nat := [0, 1]
def wristbandlaw08_PolyValues.D1 : List (Option Tmp) := [some 15, some 16]
def wristbandlaw08_PolyValues.T3 : List Nat := [0, 1, 3, 7, 15, 31, 63, 127]
def wristbandlaw08_PolyValues.D3 : List (Option Tmp) := [some 17, some 18, some 19, some 20, some 21, some 22, some 23, some 24]
def wristbandlaw08_PolyValues.T4 : List Nat := [0]
def wristbandlaw08_PolyValues.D4 : List (Option Tmp) := [some 8]
def wristbandlaw08_PolyValues.T5 : List Nat := [0, 0, 3, 0, 0, 31, 63, 127]
def wristbandlaw08_PolyValues.D5 : List (Option Tmp) := [some 25, some 26, some 27, some 28, some 29, some 30, some 9, some 10]
def wristbandlaw08_PolyValues.T6 : List Nat := [0, 0, 3, 7]
def wristbandlaw08_PolyValues.D6 : List (Option Tmp) := [some 31, some 32, some 33, some 11]
def wristbandlaw08_PolyValues.T7 : List Nat := [0, 0, 3, 0, 15, 0, 0, 127, 255, 511, 1023, 1023, 4095, 1023, 1023, 32767, 65535, 131071, 262143, 524287, 524287, 2097151, 524287, 8388607, 524287, 524287, 67108863, 134217727, 268435455]
def wristbandlaw08_PolyValues.D7 : List (Option Tmp) := [some 34, some 35, some 36, some 37, some 38, some 39, some 40, some 41, some 42, some 43, some 44, some 45, some 46, some 47, some 48, some 49, some 50, some 51, some 52, some 53, some 54, some 55, some 56, some 57, some 58, some 59, some 60, some 61, some 62]
def wristbandlaw08_PolyValues.T8 : List Nat := [0]
def wristbandlaw08_PolyValues.D8 : List (Option Tmp) := [some 8]
def wristbandlaw08_PolyValues.T9 : List Nat := [0, 0, 2, 7, 15, 31, 31, 31, 63, 383, 1023]
def wristbandlaw08_PolyValues.D9 : List (Option Tmp) := [some 64, some 65, some 66, some 67, some 63, some 68, some 69, some 70, some 12, some 13, some 14]
def wristbandlaw08_PolyValues.T10 : List Nat := [0, 1, 3, 7, 15, 7, 63, 127, 255, 511, 1023, 2047, 4095, 8191, 16383, 32767, 65535, 131071, 262143, 524287, 262143, 2097151, 262143, 8388607, 16777215, 33554431, 67108863, 134217727]
def wristbandlaw08_PolyValues.D10 : List (Option Tmp) := [some 71, some 72, some 73, some 74, some 75, some 76, some 77, some 78, some 79, some 80, some 81, some 82, some 83, some 84, some 85, some 86, some 87, some 88, some 89, some 90, some 91, some 92, some 93, some 94, some 95, some 96, some 97, some 98]
def wristbandlaw08_PolyValues.T11 : List Nat := [0]
def wristbandlaw08_PolyValues.D11 : List (Option Tmp) := [some 8]
def wristbandlaw08_PolyValues.T12 : List Nat := [0, 1, 3, 0, 11, 0, 59, 0, 0, 379, 1019, 2043, 4091, 8191, 16383]
def wristbandlaw08_PolyValues.D12 : List (Option Tmp) := [some 99, some 100, some 101, some 102, some 103, some 104, some 105, some 106, some 107, some 108, some 109, some 110, some 111, some 112, some 8]
/-- What the law asks, told of the walks' own functions. -/
def wristbandlaw08_PolyValues.ok (k : Nat) (l0 : List Int) (l1 : List Int) (a2 : Int) (a3 : Int) : Prop := wristbandlaw08_awake.ok k ∧ (((((l0).length : Int) > (60 : Int)) → True) ∧ (¬ (((l0).length : Int) > (60 : Int)) → (((((l1).length : Int) > (60 : Int)) → True) ∧ (¬ (((l1).length : Int) > (60 : Int)) → (∃ (t1 : Int), poly_Eval.f k (l0) (a2) = some t1 ∧ (∃ (t2 : Int), poly_Eval.f k (l1) (a2) = some t2 ∧ (∃ (t3 : List Int), poly_Mul.f k (l0) (l1) = some t3 ∧ (∃ (t4 : List Int), poly_Add.f k (l0) (l1) = some t4 ∧ (∃ (t5 : Int), poly_Eval.f k (t4) (a2) = some t5 ∧ (∃ (t6 : Int), gf_Add.f (t1) (t2) = some t6 ∧ ((t5 = t6) ∧ (∃ (t7 : Int), poly_Eval.f k (t3) (a2) = some t7 ∧ (∃ (t8 : Int), gf_Mul.f k (t1) (t2) = some t8 ∧ ((t7 = t8) ∧ (∃ (t9 : List Int), poly_Times.f k (l0) (a3) = some t9 ∧ (∃ (t10 : Int), poly_Eval.f k (t9) (a2) = some t10 ∧ (∃ (t11 : Int), gf_Mul.f k (a3) (t1) = some t11 ∧ ((t10 = t11) ∧ (∃ (t12 : List Int) (t13 : List Int) (t14 : Int), poly_Quo.f k (l0) (([a2, (1 : Int)] : List Int)) = some (t12, t13, t14) ∧ ((t14 = (0 : Int)) ∧ (∃ (t15 : Int), poly_Eval.f k (t13) ((0 : Int)) = some t15 ∧ ((t15 = t1) ∧ (∃ (t16 : Int), poly_Degree.f (l0) = some t16 ∧ (((t16 ≥ (0 : Int)) → (∃ (t17 : Int), poly_Degree.f (l1) = some t17 ∧ (((t17 ≥ (0 : Int)) → (∃ (t18 : Int), poly_Degree.f (t3) = some t18 ∧ ((t18 = wrap64 (t16 + t17)) ∧ (∃ (t19 : List Int), poly_Slope.f k (t3) = some t19 ∧ (∃ (t20 : List Int), poly_Slope.f k (l0) = some t20 ∧ (∃ (t21 : List Int), poly_Mul.f k (t20) (l1) = some t21 ∧ (∃ (t22 : List Int), poly_Slope.f k (l1) = some t22 ∧ (∃ (t23 : List Int), poly_Mul.f k (l0) (t22) = some t23 ∧ (∃ (t24 : List Int), poly_Add.f k (t21) (t23) = some t24 ∧ (((strOfNums (t19)).toList = (strOfNums (t24)).toList) ∧ True)))))))))) ∧ (¬ (t17 ≥ (0 : Int)) → (∃ (t18 : List Int), poly_Slope.f k (t3) = some t18 ∧ (∃ (t19 : List Int), poly_Slope.f k (l0) = some t19 ∧ (∃ (t20 : List Int), poly_Mul.f k (t19) (l1) = some t20 ∧ (∃ (t21 : List Int), poly_Slope.f k (l1) = some t21 ∧ (∃ (t22 : List Int), poly_Mul.f k (l0) (t21) = some t22 ∧ (∃ (t23 : List Int), poly_Add.f k (t20) (t22) = some t23 ∧ (((strOfNums (t18)).toList = (strOfNums (t23)).toList) ∧ True))))))))))) ∧ (¬ (t16 ≥ (0 : Int)) → (∃ (t17 : List Int), poly_Slope.f k (t3) = some t17 ∧ (∃ (t18 : List Int), poly_Slope.f k (l0) = some t18 ∧ (∃ (t19 : List Int), poly_Mul.f k (t18) (l1) = some t19 ∧ (∃ (t20 : List Int), poly_Slope.f k (l1) = some t20 ∧ (∃ (t21 : List Int), poly_Mul.f k (l0) (t20) = some t21 ∧ (∃ (t22 : List Int), poly_Add.f k (t19) (t21) = some t22 ∧ (((strOfNums (t17)).toList = (strOfNums (t22)).toList) ∧ True))))))))))))))))))))))))))))))))
set_option maxRecDepth 100000 in
set_option maxHeartbeats 4000000 in
theorem wristbandlaw08_PolyValues.way1 (k : Nat) (A0 : Option Addr) (c0 : Nat) (l0 : List Int) (A1 : Option Addr) (c1 : Nat) (l1 : List Int) (a2 : Int) (a3 : Int) (w : World) (hr0 : Kd.C (Kd.int .u8) w A0 l0.length l0) (hc0 : l0.length ≤ c0) (hr1 : Kd.C (Kd.int .u8) w A1 l1.length l1) (hc1 : l1.length ≤ c1) (H1 : wristbandlaw08_awake.ok k) (c1000 : ((l0).length : Int) > (60 : Int)) :
    Calls Try.prog 5 #[.slice A0 l0.length c0, .slice A1 l1.length c1, .int .u8 a2, .int .u8 a3] w fun e w' => e = .returned (.bool true) ∧ Below w.heap.size w w' := by
  refine enter Try.func5 rfl (n := 113) rfl ?_
  intro ac0 hn0 hd0 ha
  have hB0 := Below.refl w.heap.size w
  have g0_0 : (Pv.sl (Kd.int .u8) (l0)).V (get ac0 0) w := by rw [ha 0 (by simp)]; exact ⟨A0, c0, rfl, hr0, hc0⟩
  have g0_1 : (Pv.sl (Kd.int .u8) (l1)).V (get ac0 1) w := by rw [ha 1 (by simp)]; exact ⟨A1, c1, rfl, hr1, hc1⟩
  have g0_2 : (Pv.is (.int .u8 (a2))).V (get ac0 2) w := by rw [ha 2 (by simp)]; exact rfl
  have g0_3 : (Pv.is (.int .u8 (a3))).V (get ac0 3) w := by rw [ha 3 (by simp)]; exact rfl
  clear ha
  refine wp_seq ?_
  refine Reg.plain (T := wristbandlaw08_PolyValues.T0) (D := wristbandlaw08_PolyValues.D0) (n := 113) (by kernel_rfl) hn0 (told [Pv.is (.bool false)]) (told_pst _) (owedS owed0 ?s0) ?_
  case s0 =>
    intro b w1 hb hp hu
    exact st_assign rfl (want0 rfl _) rfl rfl
  intro ac1 wo1 hn1 hd_ hb hv hs
  have g1_8 : (Pv.is (.bool false)).V (get ac1 8) wo1 := hv 0 8 rfl
  have g1_0 : (Pv.sl (Kd.int .u8) (l0)).V (get ac1 0) wo1 := Pv.keep _ g0_0 (hs 0 rfl) hb
  have hB1 := below_step hB0 hb
  have hd1 := hd_.trans hd0
  clear hv hs hd_ hb hB0 hn0 hd0 g0_0 g0_1 g0_2 g0_3
  show Code.wp _ _ _ _ _
  refine wp_seq ?_
  refine wp_seq ?_
  refine Reg.plain (T := wristbandlaw08_PolyValues.T1) (D := wristbandlaw08_PolyValues.D1) (n := 113) (by kernel_rfl) hn1 (told [Pv.is (.bool true), Pv.is (.bool false)]) (told_pst _) (owedS (owedS owed0 ?s0) ?s1) ?_
  case s0 =>
    intro b w1 hb hp hu
    refine st_call rfl (want0 rfl _) rfl Try.func9 (by kernel_rfl) rfl #[] (by simp) ?_
    refine (wristbandlaw08_awake.calls k  w1  H1).mono ?_
    rintro e w2 ⟨rfl, hb2⟩
    exact ⟨_, rfl, rfl, hb2⟩
  case s1 =>
    intro b w1 hb hp hu
    have x15 : (Pv.is (.bool true)).V (get b 15) w1 := hp 0 15 (by kernel_rfl) rfl
    exact st_un (v := .bool false) (vx := .bool true) rfl (want0 rfl _) rfl x15 (by first | rfl | (go_simp; first | done | rfl | (simp only [i64_w, i32_w]; done))) rfl
  intro ac2 wo2 hn2 hd_ hb hv hs
  have g2_16 : (Pv.is (.bool false)).V (get ac2 16) wo2 := hv 1 16 rfl
  have g2_8 : (Pv.is (.bool false)).V (get ac2 8) wo2 := Pv.keep _ g1_8 (hs 8 rfl) hb
  have g2_0 : (Pv.sl (Kd.int .u8) (l0)).V (get ac2 0) wo2 := Pv.keep _ g1_0 (hs 0 rfl) hb
  have hB2 := below_step hB1 hb
  have hd2 := hd_.trans hd1
  clear hv hs hd_ hb hB1 hn1 hd1 g1_8 g1_0
  show Code.wp _ _ _ _ _
  refine wp_cond_false (show ac2.eval (Operand.tmp 16) = .bool false from g2_16) ?_
  refine wp_skip ?_
  show Code.wp _ _ _ _ _
  refine wp_seq ?_
  refine wp_seq ?_
  refine Reg.plain (T := wristbandlaw08_PolyValues.T3) (D := wristbandlaw08_PolyValues.D3) (n := 113) (by kernel_rfl) hn2 (told [Pv.sl (Kd.int .u8) (l0), Pv.is (.int .i64 (((l0).length : Int))), Pv.is (.bool true), Pv.is (.bool true), Pv.is (undef), Pv.is (undef), Pv.is (undef), Pv.is (.bool true)]) (told_pst _) (owedS (owedS (owedS (owedS (owedS (owedS (owedS (owedS owed0 ?s0) ?s1) ?s2) ?s3) ?s4) ?s5) ?s6) ?s7) ?_
  case s0 =>
    intro b w1 hb hp hu
    have x0 : (Pv.sl (Kd.int .u8) (l0)).V (get b 0) w1 := Pv.keep _ g2_0 (hu 0 (by kernel_rfl)) hb
    exact st_move rfl (want0 rfl _) rfl x0
  case s1 =>
    intro b w1 hb hp hu
    have x17 : (Pv.sl (Kd.int .u8) (l0)).V (get b 17) w1 := hp 0 17 (by kernel_rfl) rfl
    obtain ⟨A_, c_, e_, _, _⟩ := x17
    exact st_len rfl (want0 rfl _) rfl Try.underlying22 e_ rfl
  case s2 =>
    intro b w1 hb hp hu
    have x18 : (Pv.is (.int .i64 (((l0).length : Int)))).V (get b 18) w1 := hp 1 18 (by kernel_rfl) rfl
    exact st_bin (v := .bool true) (vx := .int .i64 (((l0).length : Int))) (vy := .int .i64 ((60 : Int))) rfl (want0 rfl _) rfl x18 rfl (by first | rfl | (have c_ := c1000; refine Eq.trans (b := Result.ok (.bool decide ((((l0).length : Int)) > ((60 : Int)))) w1) rfl ?_; rw [show decide ((((l0).length : Int)) > ((60 : Int))) = true from decide_eq_true c_]) | (have c_ := c1000; clear hb hp hu; go_simp; first | done | rfl | (simp [c_]; done) | (simp; omega))) rfl
  case s3 =>
    intro b w1 hb hp hu
    have x19 : (Pv.is (.bool true)).V (get b 19) w1 := hp 2 19 (by kernel_rfl) rfl
    exact st_move rfl (want0 rfl _) rfl x19
  case s4 =>
    intro b w1 hb hp hu
    have x20 : (Pv.is (.bool true)).V (get b 20) w1 := hp 3 20 (by kernel_rfl) rfl
    exact st_off rfl ((want_is (N := 20) rfl rfl x20).trans rfl) rfl
  case s5 =>
    intro b w1 hb hp hu
    have x20 : (Pv.is (.bool true)).V (get b 20) w1 := hp 3 20 (by kernel_rfl) rfl
    exact st_off rfl ((want_is (N := 20) rfl rfl x20).trans rfl) rfl
  case s6 =>
    intro b w1 hb hp hu
    have x20 : (Pv.is (.bool true)).V (get b 20) w1 := hp 3 20 (by kernel_rfl) rfl
    exact st_off rfl ((want_is (N := 20) rfl rfl x20).trans rfl) rfl
  case s7 =>
    intro b w1 hb hp hu
    have x20 : (Pv.is (.bool true)).V (get b 20) w1 := hp 3 20 (by kernel_rfl) rfl
    exact st_pick (b := true) rfl (want0 rfl _) rfl x20 rfl
  intro ac3 wo3 hn3 hd_ hb hv hs
  have g3_24 : (Pv.is (.bool true)).V (get ac3 24) wo3 := hv 7 24 rfl
  have g3_8 : (Pv.is (.bool false)).V (get ac3 8) wo3 := Pv.keep _ g2_8 (hs 8 rfl) hb
  have hB3 := below_step hB2 hb
  have hd3 := hd_.trans hd2
  clear hv hs hd_ hb hB2 hn2 hd2 g2_16 g2_8 g2_0
  show Code.wp _ _ _ _ _
  refine wp_cond_true (show ac3.eval (Operand.tmp 24) = .bool true from g3_24) ?_
  refine wp_seq ?_
  refine Reg.plain (T := wristbandlaw08_PolyValues.T4) (D := wristbandlaw08_PolyValues.D4) (n := 113) (by kernel_rfl) hn3 (told [Pv.is (.bool true)]) (told_pst _) (owedS owed0 ?s0) ?_
  case s0 =>
    intro b w1 hb hp hu
    exact st_assign rfl (want0 rfl _) rfl rfl
  intro ac4 wo4 hn4 hd_ hb hv hs
  have g4_8 : (Pv.is (.bool true)).V (get ac4 8) wo4 := hv 0 8 rfl
  have hB4 := below_step hB3 hb
  have hd4 := hd_.trans hd3
  clear hv hs hd_ hb hB3 hn3 hd3 g3_24 g3_8
  show Code.wp _ _ _ _ _
  refine wp_ret ?_
  repeat (refine then_ret ?_)
  exact back_is rfl hd4 g4_8 ⟨rfl, hB4⟩
set_option maxRecDepth 100000 in
set_option maxHeartbeats 4000000 in
theorem wristbandlaw08_PolyValues.way2 (k : Nat) (A0 : Option Addr) (c0 : Nat) (l0 : List Int) (A1 : Option Addr) (c1 : Nat) (l1 : List Int) (a2 : Int) (a3 : Int) (w : World) (hr0 : Kd.C (Kd.int .u8) w A0 l0.length l0) (hc0 : l0.length ≤ c0) (hr1 : Kd.C (Kd.int .u8) w A1 l1.length l1) (hc1 : l1.length ≤ c1) (H1 : wristbandlaw08_awake.ok k) (c1000 : ¬ (((l0).length : Int) > (60 : Int))) (c1001 : ((l1).length : Int) > (60 : Int)) :
    Calls Try.prog 5 #[.slice A0 l0.length c0, .slice A1 l1.length c1, .int .u8 a2, .int .u8 a3] w fun e w' => e = .returned (.bool true) ∧ Below w.heap.size w w' := by
  refine enter Try.func5 rfl (n := 113) rfl ?_
  intro ac0 hn0 hd0 ha
  have hB0 := Below.refl w.heap.size w
  have g0_0 : (Pv.sl (Kd.int .u8) (l0)).V (get ac0 0) w := by rw [ha 0 (by simp)]; exact ⟨A0, c0, rfl, hr0, hc0⟩
  have g0_1 : (Pv.sl (Kd.int .u8) (l1)).V (get ac0 1) w := by rw [ha 1 (by simp)]; exact ⟨A1, c1, rfl, hr1, hc1⟩
  have g0_2 : (Pv.is (.int .u8 (a2))).V (get ac0 2) w := by rw [ha 2 (by simp)]; exact rfl
  have g0_3 : (Pv.is (.int .u8 (a3))).V (get ac0 3) w := by rw [ha 3 (by simp)]; exact rfl
  clear ha
  refine wp_seq ?_
  refine Reg.plain (T := wristbandlaw08_PolyValues.T0) (D := wristbandlaw08_PolyValues.D0) (n := 113) (by kernel_rfl) hn0 (told [Pv.is (.bool false)]) (told_pst _) (owedS owed0 ?s0) ?_
  case s0 =>
    intro b w1 hb hp hu
    exact st_assign rfl (want0 rfl _) rfl rfl
  intro ac1 wo1 hn1 hd_ hb hv hs
  have g1_8 : (Pv.is (.bool false)).V (get ac1 8) wo1 := hv 0 8 rfl
  have g1_0 : (Pv.sl (Kd.int .u8) (l0)).V (get ac1 0) wo1 := Pv.keep _ g0_0 (hs 0 rfl) hb
  have g1_1 : (Pv.sl (Kd.int .u8) (l1)).V (get ac1 1) wo1 := Pv.keep _ g0_1 (hs 1 rfl) hb
  have hB1 := below_step hB0 hb
  have hd1 := hd_.trans hd0
  clear hv hs hd_ hb hB0 hn0 hd0 g0_0 g0_1 g0_2 g0_3
  show Code.wp _ _ _ _ _
  refine wp_seq ?_
  refine wp_seq ?_
  refine Reg.plain (T := wristbandlaw08_PolyValues.T1) (D := wristbandlaw08_PolyValues.D1) (n := 113) (by kernel_rfl) hn1 (told [Pv.is (.bool true), Pv.is (.bool false)]) (told_pst _) (owedS (owedS owed0 ?s0) ?s1) ?_
  case s0 =>
    intro b w1 hb hp hu
    refine st_call rfl (want0 rfl _) rfl Try.func9 (by kernel_rfl) rfl #[] (by simp) ?_
    refine (wristbandlaw08_awake.calls k  w1  H1).mono ?_
    rintro e w2 ⟨rfl, hb2⟩
    exact ⟨_, rfl, rfl, hb2⟩
  case s1 =>
    intro b w1 hb hp hu
    have x15 : (Pv.is (.bool true)).V (get b 15) w1 := hp 0 15 (by kernel_rfl) rfl
    exact st_un (v := .bool false) (vx := .bool true) rfl (want0 rfl _) rfl x15 (by first | rfl | (go_simp; first | done | rfl | (simp only [i64_w, i32_w]; done))) rfl
  intro ac2 wo2 hn2 hd_ hb hv hs
  have g2_16 : (Pv.is (.bool false)).V (get ac2 16) wo2 := hv 1 16 rfl
  have g2_8 : (Pv.is (.bool false)).V (get ac2 8) wo2 := Pv.keep _ g1_8 (hs 8 rfl) hb
  have g2_0 : (Pv.sl (Kd.int .u8) (l0)).V (get ac2 0) wo2 := Pv.keep _ g1_0 (hs 0 rfl) hb
  have g2_1 : (Pv.sl (Kd.int .u8) (l1)).V (get ac2 1) wo2 := Pv.keep _ g1_1 (hs 1 rfl) hb
  have hB2 := below_step hB1 hb
  have hd2 := hd_.trans hd1
  clear hv hs hd_ hb hB1 hn1 hd1 g1_8 g1_0 g1_1
  show Code.wp _ _ _ _ _
  refine wp_cond_false (show ac2.eval (Operand.tmp 16) = .bool false from g2_16) ?_
  refine wp_skip ?_
  show Code.wp _ _ _ _ _
  refine wp_seq ?_
  refine wp_seq ?_
  refine Reg.plain (T := wristbandlaw08_PolyValues.T3) (D := wristbandlaw08_PolyValues.D3) (n := 113) (by kernel_rfl) hn2 (told [Pv.sl (Kd.int .u8) (l0), Pv.is (.int .i64 (((l0).length : Int))), Pv.is (.bool false), Pv.is (.bool false), Pv.sl (Kd.int .u8) (l1), Pv.is (.int .i64 (((l1).length : Int))), Pv.is (.bool true), Pv.is (.bool true)]) (told_pst _) (owedS (owedS (owedS (owedS (owedS (owedS (owedS (owedS owed0 ?s0) ?s1) ?s2) ?s3) ?s4) ?s5) ?s6) ?s7) ?_
  case s0 =>
    intro b w1 hb hp hu
    have x0 : (Pv.sl (Kd.int .u8) (l0)).V (get b 0) w1 := Pv.keep _ g2_0 (hu 0 (by kernel_rfl)) hb
    exact st_move rfl (want0 rfl _) rfl x0
  case s1 =>
    intro b w1 hb hp hu
    have x17 : (Pv.sl (Kd.int .u8) (l0)).V (get b 17) w1 := hp 0 17 (by kernel_rfl) rfl
    obtain ⟨A_, c_, e_, _, _⟩ := x17
    exact st_len rfl (want0 rfl _) rfl Try.underlying22 e_ rfl
  case s2 =>
    intro b w1 hb hp hu
    have x18 : (Pv.is (.int .i64 (((l0).length : Int)))).V (get b 18) w1 := hp 1 18 (by kernel_rfl) rfl
    exact st_bin (v := .bool false) (vx := .int .i64 (((l0).length : Int))) (vy := .int .i64 ((60 : Int))) rfl (want0 rfl _) rfl x18 rfl (by first | rfl | (have c_ := c1000; refine Eq.trans (b := Result.ok (.bool decide ((((l0).length : Int)) > ((60 : Int)))) w1) rfl ?_; rw [show decide ((((l0).length : Int)) > ((60 : Int))) = false from decide_eq_false c_]) | (have c_ := c1000; clear hb hp hu; go_simp; first | done | rfl | (simp [c_]; done) | (simp; omega))) rfl
  case s3 =>
    intro b w1 hb hp hu
    have x19 : (Pv.is (.bool false)).V (get b 19) w1 := hp 2 19 (by kernel_rfl) rfl
    exact st_move rfl (want0 rfl _) rfl x19
  case s4 =>
    intro b w1 hb hp hu
    have x20 : (Pv.is (.bool false)).V (get b 20) w1 := hp 3 20 (by kernel_rfl) rfl
    have x1 : (Pv.sl (Kd.int .u8) (l1)).V (get b 1) w1 := Pv.keep _ g2_1 (hu 1 (by kernel_rfl)) hb
    exact st_move rfl ((want_is (N := 20) rfl rfl x20).trans rfl) rfl x1
  case s5 =>
    intro b w1 hb hp hu
    have x20 : (Pv.is (.bool false)).V (get b 20) w1 := hp 3 20 (by kernel_rfl) rfl
    have x21 : (Pv.sl (Kd.int .u8) (l1)).V (get b 21) w1 := hp 4 21 (by kernel_rfl) rfl
    obtain ⟨A_, c_, e_, _, _⟩ := x21
    exact st_len rfl ((want_is (N := 20) rfl rfl x20).trans rfl) rfl Try.underlying22 e_ rfl
  case s6 =>
    intro b w1 hb hp hu
    have x20 : (Pv.is (.bool false)).V (get b 20) w1 := hp 3 20 (by kernel_rfl) rfl
    have x22 : (Pv.is (.int .i64 (((l1).length : Int)))).V (get b 22) w1 := hp 5 22 (by kernel_rfl) rfl
    exact st_bin (v := .bool true) (vx := .int .i64 (((l1).length : Int))) (vy := .int .i64 ((60 : Int))) rfl ((want_is (N := 20) rfl rfl x20).trans rfl) rfl x22 rfl (by first | rfl | (have c_ := c1001; refine Eq.trans (b := Result.ok (.bool decide ((((l1).length : Int)) > ((60 : Int)))) w1) rfl ?_; rw [show decide ((((l1).length : Int)) > ((60 : Int))) = true from decide_eq_true c_]) | (have c_ := c1001; clear hb hp hu; go_simp; first | done | rfl | (simp [c_]; done) | (simp; omega))) rfl
  case s7 =>
    intro b w1 hb hp hu
    have x20 : (Pv.is (.bool false)).V (get b 20) w1 := hp 3 20 (by kernel_rfl) rfl
    have x23 : (Pv.is (.bool true)).V (get b 23) w1 := hp 6 23 (by kernel_rfl) rfl
    exact st_pick (b := false) rfl (want0 rfl _) rfl x20 x23
  intro ac3 wo3 hn3 hd_ hb hv hs
  have g3_24 : (Pv.is (.bool true)).V (get ac3 24) wo3 := hv 7 24 rfl
  have g3_8 : (Pv.is (.bool false)).V (get ac3 8) wo3 := Pv.keep _ g2_8 (hs 8 rfl) hb
  have hB3 := below_step hB2 hb
  have hd3 := hd_.trans hd2
  clear hv hs hd_ hb hB2 hn2 hd2 g2_16 g2_8 g2_0 g2_1
  show Code.wp _ _ _ _ _
  refine wp_cond_true (show ac3.eval (Operand.tmp 24) = .bool true from g3_24) ?_
  refine wp_seq ?_
  refine Reg.plain (T := wristbandlaw08_PolyValues.T4) (D := wristbandlaw08_PolyValues.D4) (n := 113) (by kernel_rfl) hn3 (told [Pv.is (.bool true)]) (told_pst _) (owedS owed0 ?s0) ?_
  case s0 =>
    intro b w1 hb hp hu
    exact st_assign rfl (want0 rfl _) rfl rfl
  intro ac4 wo4 hn4 hd_ hb hv hs
  have g4_8 : (Pv.is (.bool true)).V (get ac4 8) wo4 := hv 0 8 rfl
  have hB4 := below_step hB3 hb
  have hd4 := hd_.trans hd3
  clear hv hs hd_ hb hB3 hn3 hd3 g3_24 g3_8
  show Code.wp _ _ _ _ _
  refine wp_ret ?_
  repeat (refine then_ret ?_)
  exact back_is rfl hd4 g4_8 ⟨rfl, hB4⟩
set_option maxRecDepth 100000 in
set_option maxHeartbeats 4000000 in
theorem wristbandlaw08_PolyValues.way3 (k : Nat) (A0 : Option Addr) (c0 : Nat) (l0 : List Int) (A1 : Option Addr) (c1 : Nat) (l1 : List Int) (a2 : Int) (a3 : Int) (w : World) (hr0 : Kd.C (Kd.int .u8) w A0 l0.length l0) (hc0 : l0.length ≤ c0) (hr1 : Kd.C (Kd.int .u8) w A1 l1.length l1) (hc1 : l1.length ≤ c1) (H1 : wristbandlaw08_awake.ok k) (t1 : Int) (H2 : poly_Eval.f k (l0) (a2) = some t1) (t2 : Int) (H3 : poly_Eval.f k (l1) (a2) = some t2) (t3 : List Int) (H4 : poly_Mul.f k (l0) (l1) = some t3) (t4 : List Int) (H5 : poly_Add.f k (l0) (l1) = some t4) (t5 : Int) (H6 : poly_Eval.f k (t4) (a2) = some t5) (t6 : Int) (H7 : gf_Add.f (t1) (t2) = some t6) (t7 : Int) (H8 : poly_Eval.f k (t3) (a2) = some t7) (t8 : Int) (H9 : gf_Mul.f k (t1) (t2) = some t8) (t9 : List Int) (H10 : poly_Times.f k (l0) (a3) = some t9) (t10 : Int) (H11 : poly_Eval.f k (t9) (a2) = some t10) (t11 : Int) (H12 : gf_Mul.f k (a3) (t1) = some t11) (t12 : List Int) (t13 : List Int) (t14 : Int) (H13 : poly_Quo.f k (l0) (([a2, (1 : Int)] : List Int)) = some (t12, t13, t14)) (t15 : Int) (H14 : poly_Eval.f k (t13) ((0 : Int)) = some t15) (t16 : Int) (H15 : poly_Degree.f (l0) = some t16) (t17 : Int) (H16 : poly_Degree.f (l1) = some t17) (t18 : Int) (H17 : poly_Degree.f (t3) = some t18) (t19 : List Int) (H18 : poly_Slope.f k (t3) = some t19) (t20 : List Int) (H19 : poly_Slope.f k (l0) = some t20) (t21 : List Int) (H20 : poly_Mul.f k (t20) (l1) = some t21) (t22 : List Int) (H21 : poly_Slope.f k (l1) = some t22) (t23 : List Int) (H22 : poly_Mul.f k (l0) (t22) = some t23) (t24 : List Int) (H23 : poly_Add.f k (t21) (t23) = some t24) (c1000 : ¬ (((l0).length : Int) > (60 : Int))) (c1001 : ¬ (((l1).length : Int) > (60 : Int))) (c1002 : t5 = t6) (c1003 : t7 = t8) (c1004 : t10 = t11) (c1005 : t14 = (0 : Int)) (c1006 : t15 = t1) (c1007 : t16 ≥ (0 : Int)) (c1008 : t17 ≥ (0 : Int)) (c1009 : t18 = wrap64 (t16 + t17)) (c1010 : (strOfNums (t19)).toList = (strOfNums (t24)).toList) :
    Calls Try.prog 5 #[.slice A0 l0.length c0, .slice A1 l1.length c1, .int .u8 a2, .int .u8 a3] w fun e w' => e = .returned (.bool true) ∧ Below w.heap.size w w' := by
  refine enter Try.func5 rfl (n := 113) rfl ?_
  intro ac0 hn0 hd0 ha
  have hB0 := Below.refl w.heap.size w
  have g0_0 : (Pv.sl (Kd.int .u8) (l0)).V (get ac0 0) w := by rw [ha 0 (by simp)]; exact ⟨A0, c0, rfl, hr0, hc0⟩
  have g0_1 : (Pv.sl (Kd.int .u8) (l1)).V (get ac0 1) w := by rw [ha 1 (by simp)]; exact ⟨A1, c1, rfl, hr1, hc1⟩
  have g0_2 : (Pv.is (.int .u8 (a2))).V (get ac0 2) w := by rw [ha 2 (by simp)]; exact rfl
  have g0_3 : (Pv.is (.int .u8 (a3))).V (get ac0 3) w := by rw [ha 3 (by simp)]; exact rfl
  clear ha
  refine wp_seq ?_
  refine Reg.plain (T := wristbandlaw08_PolyValues.T0) (D := wristbandlaw08_PolyValues.D0) (n := 113) (by kernel_rfl) hn0 (told [Pv.is (.bool false)]) (told_pst _) (owedS owed0 ?s0) ?_
  case s0 =>
    intro b w1 hb hp hu
    exact st_assign rfl (want0 rfl _) rfl rfl
  intro ac1 wo1 hn1 hd_ hb hv hs
  have g1_8 : (Pv.is (.bool false)).V (get ac1 8) wo1 := hv 0 8 rfl
  have g1_0 : (Pv.sl (Kd.int .u8) (l0)).V (get ac1 0) wo1 := Pv.keep _ g0_0 (hs 0 rfl) hb
  have g1_1 : (Pv.sl (Kd.int .u8) (l1)).V (get ac1 1) wo1 := Pv.keep _ g0_1 (hs 1 rfl) hb
  have g1_2 : (Pv.is (.int .u8 (a2))).V (get ac1 2) wo1 := Pv.keep _ g0_2 (hs 2 rfl) hb
  have g1_3 : (Pv.is (.int .u8 (a3))).V (get ac1 3) wo1 := Pv.keep _ g0_3 (hs 3 rfl) hb
  have hB1 := below_step hB0 hb
  have hd1 := hd_.trans hd0
  clear hv hs hd_ hb hB0 hn0 hd0 g0_0 g0_1 g0_2 g0_3
  show Code.wp _ _ _ _ _
  refine wp_seq ?_
  refine wp_seq ?_
  refine Reg.plain (T := wristbandlaw08_PolyValues.T1) (D := wristbandlaw08_PolyValues.D1) (n := 113) (by kernel_rfl) hn1 (told [Pv.is (.bool true), Pv.is (.bool false)]) (told_pst _) (owedS (owedS owed0 ?s0) ?s1) ?_
  case s0 =>
    intro b w1 hb hp hu
    refine st_call rfl (want0 rfl _) rfl Try.func9 (by kernel_rfl) rfl #[] (by simp) ?_
    refine (wristbandlaw08_awake.calls k  w1  H1).mono ?_
    rintro e w2 ⟨rfl, hb2⟩
    exact ⟨_, rfl, rfl, hb2⟩
  case s1 =>
    intro b w1 hb hp hu
    have x15 : (Pv.is (.bool true)).V (get b 15) w1 := hp 0 15 (by kernel_rfl) rfl
    exact st_un (v := .bool false) (vx := .bool true) rfl (want0 rfl _) rfl x15 (by first | rfl | (go_simp; first | done | rfl | (simp only [i64_w, i32_w]; done))) rfl
  intro ac2 wo2 hn2 hd_ hb hv hs
  have g2_16 : (Pv.is (.bool false)).V (get ac2 16) wo2 := hv 1 16 rfl
  have g2_8 : (Pv.is (.bool false)).V (get ac2 8) wo2 := Pv.keep _ g1_8 (hs 8 rfl) hb
  have g2_0 : (Pv.sl (Kd.int .u8) (l0)).V (get ac2 0) wo2 := Pv.keep _ g1_0 (hs 0 rfl) hb
  have g2_1 : (Pv.sl (Kd.int .u8) (l1)).V (get ac2 1) wo2 := Pv.keep _ g1_1 (hs 1 rfl) hb
  have g2_2 : (Pv.is (.int .u8 (a2))).V (get ac2 2) wo2 := Pv.keep _ g1_2 (hs 2 rfl) hb
  have g2_3 : (Pv.is (.int .u8 (a3))).V (get ac2 3) wo2 := Pv.keep _ g1_3 (hs 3 rfl) hb
  have hB2 := below_step hB1 hb
  have hd2 := hd_.trans hd1
  clear hv hs hd_ hb hB1 hn1 hd1 g1_8 g1_0 g1_1 g1_2 g1_3
  show Code.wp _ _ _ _ _
  refine wp_cond_false (show ac2.eval (Operand.tmp 16) = .bool false from g2_16) ?_
  refine wp_skip ?_
  show Code.wp _ _ _ _ _
  refine wp_seq ?_
  refine wp_seq ?_
  refine Reg.plain (T := wristbandlaw08_PolyValues.T3) (D := wristbandlaw08_PolyValues.D3) (n := 113) (by kernel_rfl) hn2 (told [Pv.sl (Kd.int .u8) (l0), Pv.is (.int .i64 (((l0).length : Int))), Pv.is (.bool false), Pv.is (.bool false), Pv.sl (Kd.int .u8) (l1), Pv.is (.int .i64 (((l1).length : Int))), Pv.is (.bool false), Pv.is (.bool false)]) (told_pst _) (owedS (owedS (owedS (owedS (owedS (owedS (owedS (owedS owed0 ?s0) ?s1) ?s2) ?s3) ?s4) ?s5) ?s6) ?s7) ?_
  case s0 =>
    intro b w1 hb hp hu
    have x0 : (Pv.sl (Kd.int .u8) (l0)).V (get b 0) w1 := Pv.keep _ g2_0 (hu 0 (by kernel_rfl)) hb
    exact st_move rfl (want0 rfl _) rfl x0
  case s1 =>
    intro b w1 hb hp hu
    have x17 : (Pv.sl (Kd.int .u8) (l0)).V (get b 17) w1 := hp 0 17 (by kernel_rfl) rfl
    obtain ⟨A_, c_, e_, _, _⟩ := x17
    exact st_len rfl (want0 rfl _) rfl Try.underlying22 e_ rfl
  case s2 =>
    intro b w1 hb hp hu
    have x18 : (Pv.is (.int .i64 (((l0).length : Int)))).V (get b 18) w1 := hp 1 18 (by kernel_rfl) rfl
    exact st_bin (v := .bool false) (vx := .int .i64 (((l0).length : Int))) (vy := .int .i64 ((60 : Int))) rfl (want0 rfl _) rfl x18 rfl (by first | rfl | (have c_ := c1000; refine Eq.trans (b := Result.ok (.bool decide ((((l0).length : Int)) > ((60 : Int)))) w1) rfl ?_; rw [show decide ((((l0).length : Int)) > ((60 : Int))) = false from decide_eq_false c_]) | (have c_ := c1000; clear hb hp hu; go_simp; first | done | rfl | (simp [c_]; done) | (simp; omega))) rfl
  case s3 =>
    intro b w1 hb hp hu
    have x19 : (Pv.is (.bool false)).V (get b 19) w1 := hp 2 19 (by kernel_rfl) rfl
    exact st_move rfl (want0 rfl _) rfl x19
  case s4 =>
    intro b w1 hb hp hu
    have x20 : (Pv.is (.bool false)).V (get b 20) w1 := hp 3 20 (by kernel_rfl) rfl
    have x1 : (Pv.sl (Kd.int .u8) (l1)).V (get b 1) w1 := Pv.keep _ g2_1 (hu 1 (by kernel_rfl)) hb
    exact st_move rfl ((want_is (N := 20) rfl rfl x20).trans rfl) rfl x1
  case s5 =>
    intro b w1 hb hp hu
    have x20 : (Pv.is (.bool false)).V (get b 20) w1 := hp 3 20 (by kernel_rfl) rfl
    have x21 : (Pv.sl (Kd.int .u8) (l1)).V (get b 21) w1 := hp 4 21 (by kernel_rfl) rfl
    obtain ⟨A_, c_, e_, _, _⟩ := x21
    exact st_len rfl ((want_is (N := 20) rfl rfl x20).trans rfl) rfl Try.underlying22 e_ rfl
  case s6 =>
    intro b w1 hb hp hu
    have x20 : (Pv.is (.bool false)).V (get b 20) w1 := hp 3 20 (by kernel_rfl) rfl
    have x22 : (Pv.is (.int .i64 (((l1).length : Int)))).V (get b 22) w1 := hp 5 22 (by kernel_rfl) rfl
    exact st_bin (v := .bool false) (vx := .int .i64 (((l1).length : Int))) (vy := .int .i64 ((60 : Int))) rfl ((want_is (N := 20) rfl rfl x20).trans rfl) rfl x22 rfl (by first | rfl | (have c_ := c1001; refine Eq.trans (b := Result.ok (.bool decide ((((l1).length : Int)) > ((60 : Int)))) w1) rfl ?_; rw [show decide ((((l1).length : Int)) > ((60 : Int))) = false from decide_eq_false c_]) | (have c_ := c1001; clear hb hp hu; go_simp; first | done | rfl | (simp [c_]; done) | (simp; omega))) rfl
  case s7 =>
    intro b w1 hb hp hu
    have x20 : (Pv.is (.bool false)).V (get b 20) w1 := hp 3 20 (by kernel_rfl) rfl
    have x23 : (Pv.is (.bool false)).V (get b 23) w1 := hp 6 23 (by kernel_rfl) rfl
    exact st_pick (b := false) rfl (want0 rfl _) rfl x20 x23
  intro ac3 wo3 hn3 hd_ hb hv hs
  have g3_24 : (Pv.is (.bool false)).V (get ac3 24) wo3 := hv 7 24 rfl
  have g3_8 : (Pv.is (.bool false)).V (get ac3 8) wo3 := Pv.keep _ g2_8 (hs 8 rfl) hb
  have g3_0 : (Pv.sl (Kd.int .u8) (l0)).V (get ac3 0) wo3 := Pv.keep _ g2_0 (hs 0 rfl) hb
  have g3_1 : (Pv.sl (Kd.int .u8) (l1)).V (get ac3 1) wo3 := Pv.keep _ g2_1 (hs 1 rfl) hb
  have g3_2 : (Pv.is (.int .u8 (a2))).V (get ac3 2) wo3 := Pv.keep _ g2_2 (hs 2 rfl) hb
  have g3_3 : (Pv.is (.int .u8 (a3))).V (get ac3 3) wo3 := Pv.keep _ g2_3 (hs 3 rfl) hb
  have hB3 := below_step hB2 hb
  have hd3 := hd_.trans hd2
  clear hv hs hd_ hb hB2 hn2 hd2 g2_16 g2_8 g2_0 g2_1 g2_2 g2_3
  show Code.wp _ _ _ _ _
  refine wp_cond_false (show ac3.eval (Operand.tmp 24) = .bool false from g3_24) ?_
  refine wp_skip ?_
  show Code.wp _ _ _ _ _
  refine wp_seq ?_
  refine Reg.plain (T := wristbandlaw08_PolyValues.T5) (D := wristbandlaw08_PolyValues.D5) (n := 113) (by kernel_rfl) hn3 (told [Pv.sl (Kd.int .u8) (l0), Pv.is (.int .u8 (a2)), Pv.is (.int .u8 (t1)), Pv.sl (Kd.int .u8) (l1), Pv.is (.int .u8 (a2)), Pv.is (.int .u8 (t2)), Pv.is (.int .u8 (t1)), Pv.is (.int .u8 (t2))]) (told_pst _) (owedS (owedS (owedS (owedS (owedS (owedS (owedS (owedS owed0 ?s0) ?s1) ?s2) ?s3) ?s4) ?s5) ?s6) ?s7) ?_
  case s0 =>
    intro b w1 hb hp hu
    have x0 : (Pv.sl (Kd.int .u8) (l0)).V (get b 0) w1 := Pv.keep _ g3_0 (hu 0 (by kernel_rfl)) hb
    exact st_move rfl (want0 rfl _) rfl x0
  case s1 =>
    intro b w1 hb hp hu
    have x2 : (Pv.is (.int .u8 (a2))).V (get b 2) w1 := Pv.keep _ g3_2 (hu 2 (by kernel_rfl)) hb
    exact st_move rfl (want0 rfl _) rfl x2
  case s2 =>
    intro b w1 hb hp hu
    have x25 : (Pv.sl (Kd.int .u8) (l0)).V (get b 25) w1 := hp 0 25 (by kernel_rfl) rfl
    obtain ⟨B0, d0, e0_, hC0, hl0⟩ := x25
    have e0 : b.eval (Operand.tmp 25) = .slice B0 (l0).length d0 := e0_
    have x26 : (Pv.is (.int .u8 (a2))).V (get b 26) w1 := hp 1 26 (by kernel_rfl) rfl
    have e1 : b.eval (Operand.tmp 26) = .int .u8 (a2) := x26
    refine st_call rfl (want0 rfl _) rfl Try.func19 (by kernel_rfl) rfl #[.slice B0 (l0).length d0, .int .u8 (a2)] (by simp only [List.map_toArray, List.map_cons, List.map_nil, e0, e1]) ?_
    refine (poly_Eval.calls k B0 d0 _ _ _ w1 hC0 hl0 H2).mono ?_
    rintro e w2 ⟨rfl, hb2⟩
    exact ⟨_, rfl, rfl, hb2⟩
  case s3 =>
    intro b w1 hb hp hu
    have x1 : (Pv.sl (Kd.int .u8) (l1)).V (get b 1) w1 := Pv.keep _ g3_1 (hu 1 (by kernel_rfl)) hb
    exact st_move rfl (want0 rfl _) rfl x1
  case s4 =>
    intro b w1 hb hp hu
    have x2 : (Pv.is (.int .u8 (a2))).V (get b 2) w1 := Pv.keep _ g3_2 (hu 2 (by kernel_rfl)) hb
    exact st_move rfl (want0 rfl _) rfl x2
  case s5 =>
    intro b w1 hb hp hu
    have x28 : (Pv.sl (Kd.int .u8) (l1)).V (get b 28) w1 := hp 3 28 (by kernel_rfl) rfl
    obtain ⟨B0, d0, e0_, hC0, hl0⟩ := x28
    have e0 : b.eval (Operand.tmp 28) = .slice B0 (l1).length d0 := e0_
    have x29 : (Pv.is (.int .u8 (a2))).V (get b 29) w1 := hp 4 29 (by kernel_rfl) rfl
    have e1 : b.eval (Operand.tmp 29) = .int .u8 (a2) := x29
    refine st_call rfl (want0 rfl _) rfl Try.func19 (by kernel_rfl) rfl #[.slice B0 (l1).length d0, .int .u8 (a2)] (by simp only [List.map_toArray, List.map_cons, List.map_nil, e0, e1]) ?_
    refine (poly_Eval.calls k B0 d0 _ _ _ w1 hC0 hl0 H3).mono ?_
    rintro e w2 ⟨rfl, hb2⟩
    exact ⟨_, rfl, rfl, hb2⟩
  case s6 =>
    intro b w1 hb hp hu
    have x27 : (Pv.is (.int .u8 (t1))).V (get b 27) w1 := hp 2 27 (by kernel_rfl) rfl
    exact st_assign rfl (want0 rfl _) rfl x27
  case s7 =>
    intro b w1 hb hp hu
    have x30 : (Pv.is (.int .u8 (t2))).V (get b 30) w1 := hp 5 30 (by kernel_rfl) rfl
    exact st_assign rfl (want0 rfl _) rfl x30
  intro ac4 wo4 hn4 hd_ hb hv hs
  have g4_9 : (Pv.is (.int .u8 (t1))).V (get ac4 9) wo4 := hv 6 9 rfl
  have g4_10 : (Pv.is (.int .u8 (t2))).V (get ac4 10) wo4 := hv 7 10 rfl
  have g4_8 : (Pv.is (.bool false)).V (get ac4 8) wo4 := Pv.keep _ g3_8 (hs 8 rfl) hb
  have g4_0 : (Pv.sl (Kd.int .u8) (l0)).V (get ac4 0) wo4 := Pv.keep _ g3_0 (hs 0 rfl) hb
  have g4_1 : (Pv.sl (Kd.int .u8) (l1)).V (get ac4 1) wo4 := Pv.keep _ g3_1 (hs 1 rfl) hb
  have g4_2 : (Pv.is (.int .u8 (a2))).V (get ac4 2) wo4 := Pv.keep _ g3_2 (hs 2 rfl) hb
  have g4_3 : (Pv.is (.int .u8 (a3))).V (get ac4 3) wo4 := Pv.keep _ g3_3 (hs 3 rfl) hb
  have hB4 := below_step hB3 hb
  have hd4 := hd_.trans hd3
  clear hv hs hd_ hb hB3 hn3 hd3 g3_24 g3_8 g3_0 g3_1 g3_2 g3_3
  show Code.wp _ _ _ _ _
  refine wp_seq ?_
  refine Reg.plain (T := wristbandlaw08_PolyValues.T6) (D := wristbandlaw08_PolyValues.D6) (n := 113) (by kernel_rfl) hn4 (told [Pv.sl (Kd.int .u8) (l0), Pv.sl (Kd.int .u8) (l1), Pv.sl (Kd.int .u8) (t3), Pv.sl (Kd.int .u8) (t3)]) (told_pst _) (owedS (owedS (owedS (owedS owed0 ?s0) ?s1) ?s2) ?s3) ?_
  case s0 =>
    intro b w1 hb hp hu
    have x0 : (Pv.sl (Kd.int .u8) (l0)).V (get b 0) w1 := Pv.keep _ g4_0 (hu 0 (by kernel_rfl)) hb
    exact st_move rfl (want0 rfl _) rfl x0
  case s1 =>
    intro b w1 hb hp hu
    have x1 : (Pv.sl (Kd.int .u8) (l1)).V (get b 1) w1 := Pv.keep _ g4_1 (hu 1 (by kernel_rfl)) hb
    exact st_move rfl (want0 rfl _) rfl x1
  case s2 =>
    intro b w1 hb hp hu
    have x31 : (Pv.sl (Kd.int .u8) (l0)).V (get b 31) w1 := hp 0 31 (by kernel_rfl) rfl
    obtain ⟨B0, d0, e0_, hC0, hl0⟩ := x31
    have e0 : b.eval (Operand.tmp 31) = .slice B0 (l0).length d0 := e0_
    have x32 : (Pv.sl (Kd.int .u8) (l1)).V (get b 32) w1 := hp 1 32 (by kernel_rfl) rfl
    obtain ⟨B1, d1, e1_, hC1, hl1⟩ := x32
    have e1 : b.eval (Operand.tmp 32) = .slice B1 (l1).length d1 := e1_
    refine st_call rfl (want0 rfl _) rfl Try.func15 (by kernel_rfl) rfl #[.slice B0 (l0).length d0, .slice B1 (l1).length d1] (by simp only [List.map_toArray, List.map_cons, List.map_nil, e0, e1]) ?_
    refine (poly_Mul.calls k B0 d0 _ B1 d1 _ _ w1 hC0 hl0 hC1 hl1 H4).mono ?_
    rintro e w2 ⟨v0_, rfl, ho0, hb2⟩
    exact ⟨_, rfl, Pv.of_sl ho0, hb2⟩
  case s3 =>
    intro b w1 hb hp hu
    have x33 : (Pv.sl (Kd.int .u8) (t3)).V (get b 33) w1 := hp 2 33 (by kernel_rfl) rfl
    exact st_assign rfl (want0 rfl _) rfl x33
  intro ac5 wo5 hn5 hd_ hb hv hs
  have g5_11 : (Pv.sl (Kd.int .u8) (t3)).V (get ac5 11) wo5 := hv 3 11 rfl
  have g5_9 : (Pv.is (.int .u8 (t1))).V (get ac5 9) wo5 := Pv.keep _ g4_9 (hs 9 rfl) hb
  have g5_10 : (Pv.is (.int .u8 (t2))).V (get ac5 10) wo5 := Pv.keep _ g4_10 (hs 10 rfl) hb
  have g5_8 : (Pv.is (.bool false)).V (get ac5 8) wo5 := Pv.keep _ g4_8 (hs 8 rfl) hb
  have g5_0 : (Pv.sl (Kd.int .u8) (l0)).V (get ac5 0) wo5 := Pv.keep _ g4_0 (hs 0 rfl) hb
  have g5_1 : (Pv.sl (Kd.int .u8) (l1)).V (get ac5 1) wo5 := Pv.keep _ g4_1 (hs 1 rfl) hb
  have g5_2 : (Pv.is (.int .u8 (a2))).V (get ac5 2) wo5 := Pv.keep _ g4_2 (hs 2 rfl) hb
  have g5_3 : (Pv.is (.int .u8 (a3))).V (get ac5 3) wo5 := Pv.keep _ g4_3 (hs 3 rfl) hb
  have hB5 := below_step hB4 hb
  have hd5 := hd_.trans hd4
  clear hv hs hd_ hb hB4 hn4 hd4 g4_9 g4_10 g4_8 g4_0 g4_1 g4_2 g4_3
  show Code.wp _ _ _ _ _
  refine wp_seq ?_
  refine wp_seq ?_
  refine Reg.plain (T := wristbandlaw08_PolyValues.T7) (D := wristbandlaw08_PolyValues.D7) (n := 113) (by kernel_rfl) hn5 (told [Pv.sl (Kd.int .u8) (l0), Pv.sl (Kd.int .u8) (l1), Pv.sl (Kd.int .u8) (t4), Pv.is (.int .u8 (a2)), Pv.is (.int .u8 (t5)), Pv.is (.int .u8 (t1)), Pv.is (.int .u8 (t2)), Pv.is (.int .u8 (t6)), Pv.is (.bool false), Pv.is (.bool false), Pv.sl (Kd.int .u8) (t3), Pv.is (.int .u8 (a2)), Pv.is (.int .u8 (t7)), Pv.is (.int .u8 (t1)), Pv.is (.int .u8 (t2)), Pv.is (.int .u8 (t8)), Pv.is (.bool false), Pv.is (.bool false), Pv.is (.bool false), Pv.sl (Kd.int .u8) (l0), Pv.is (.int .u8 (a3)), Pv.sl (Kd.int .u8) (t9), Pv.is (.int .u8 (a2)), Pv.is (.int .u8 (t10)), Pv.is (.int .u8 (a3)), Pv.is (.int .u8 (t1)), Pv.is (.int .u8 (t11)), Pv.is (.bool false), Pv.is (.bool false)]) (told_pst _) (owedS (owedS (owedS (owedS (owedS (owedS (owedS (owedS (owedS (owedS (owedS (owedS (owedS (owedS (owedS (owedS (owedS (owedS (owedS (owedS (owedS (owedS (owedS (owedS (owedS (owedS (owedS (owedS (owedS owed0 ?s0) ?s1) ?s2) ?s3) ?s4) ?s5) ?s6) ?s7) ?s8) ?s9) ?s10) ?s11) ?s12) ?s13) ?s14) ?s15) ?s16) ?s17) ?s18) ?s19) ?s20) ?s21) ?s22) ?s23) ?s24) ?s25) ?s26) ?s27) ?s28) ?_
  case s0 =>
    intro b w1 hb hp hu
    have x0 : (Pv.sl (Kd.int .u8) (l0)).V (get b 0) w1 := Pv.keep _ g5_0 (hu 0 (by kernel_rfl)) hb
    exact st_move rfl (want0 rfl _) rfl x0
  case s1 =>
    intro b w1 hb hp hu
    have x1 : (Pv.sl (Kd.int .u8) (l1)).V (get b 1) w1 := Pv.keep _ g5_1 (hu 1 (by kernel_rfl)) hb
    exact st_move rfl (want0 rfl _) rfl x1
  case s2 =>
    intro b w1 hb hp hu
    have x34 : (Pv.sl (Kd.int .u8) (l0)).V (get b 34) w1 := hp 0 34 (by kernel_rfl) rfl
    obtain ⟨B0, d0, e0_, hC0, hl0⟩ := x34
    have e0 : b.eval (Operand.tmp 34) = .slice B0 (l0).length d0 := e0_
    have x35 : (Pv.sl (Kd.int .u8) (l1)).V (get b 35) w1 := hp 1 35 (by kernel_rfl) rfl
    obtain ⟨B1, d1, e1_, hC1, hl1⟩ := x35
    have e1 : b.eval (Operand.tmp 35) = .slice B1 (l1).length d1 := e1_
    refine st_call rfl (want0 rfl _) rfl Try.func13 (by kernel_rfl) rfl #[.slice B0 (l0).length d0, .slice B1 (l1).length d1] (by simp only [List.map_toArray, List.map_cons, List.map_nil, e0, e1]) ?_
    refine (poly_Add.calls k B0 d0 _ B1 d1 _ _ w1 hC0 hl0 hC1 hl1 H5).mono ?_
    rintro e w2 ⟨v0_, rfl, ho0, hb2⟩
    exact ⟨_, rfl, Pv.of_sl ho0, hb2⟩
  case s3 =>
    intro b w1 hb hp hu
    have x2 : (Pv.is (.int .u8 (a2))).V (get b 2) w1 := Pv.keep _ g5_2 (hu 2 (by kernel_rfl)) hb
    exact st_move rfl (want0 rfl _) rfl x2
  case s4 =>
    intro b w1 hb hp hu
    have x36 : (Pv.sl (Kd.int .u8) (t4)).V (get b 36) w1 := hp 2 36 (by kernel_rfl) rfl
    obtain ⟨B0, d0, e0_, hC0, hl0⟩ := x36
    have e0 : b.eval (Operand.tmp 36) = .slice B0 (t4).length d0 := e0_
    have x37 : (Pv.is (.int .u8 (a2))).V (get b 37) w1 := hp 3 37 (by kernel_rfl) rfl
    have e1 : b.eval (Operand.tmp 37) = .int .u8 (a2) := x37
    refine st_call rfl (want0 rfl _) rfl Try.func19 (by kernel_rfl) rfl #[.slice B0 (t4).length d0, .int .u8 (a2)] (by simp only [List.map_toArray, List.map_cons, List.map_nil, e0, e1]) ?_
    refine (poly_Eval.calls k B0 d0 _ _ _ w1 hC0 hl0 H6).mono ?_
    rintro e w2 ⟨rfl, hb2⟩
    exact ⟨_, rfl, rfl, hb2⟩
  case s5 =>
    intro b w1 hb hp hu
    have x9 : (Pv.is (.int .u8 (t1))).V (get b 9) w1 := Pv.keep _ g5_9 (hu 9 (by kernel_rfl)) hb
    exact st_move rfl (want0 rfl _) rfl x9
  case s6 =>
    intro b w1 hb hp hu
    have x10 : (Pv.is (.int .u8 (t2))).V (get b 10) w1 := Pv.keep _ g5_10 (hu 10 (by kernel_rfl)) hb
    exact st_move rfl (want0 rfl _) rfl x10
  case s7 =>
    intro b w1 hb hp hu
    have x39 : (Pv.is (.int .u8 (t1))).V (get b 39) w1 := hp 5 39 (by kernel_rfl) rfl
    have e0 : b.eval (Operand.tmp 39) = .int .u8 (t1) := x39
    have x40 : (Pv.is (.int .u8 (t2))).V (get b 40) w1 := hp 6 40 (by kernel_rfl) rfl
    have e1 : b.eval (Operand.tmp 40) = .int .u8 (t2) := x40
    refine st_call rfl (want0 rfl _) rfl Try.func25 (by kernel_rfl) rfl #[.int .u8 (t1), .int .u8 (t2)] (by simp only [List.map_toArray, List.map_cons, List.map_nil, e0, e1]) ?_
    refine (gf_Add.calls _ _ _ w1  H7).mono ?_
    rintro e w2 ⟨rfl, hb2⟩
    exact ⟨_, rfl, rfl, (below_of_drawn hb2)⟩
  case s8 =>
    intro b w1 hb hp hu
    have x38 : (Pv.is (.int .u8 (t5))).V (get b 38) w1 := hp 4 38 (by kernel_rfl) rfl
    have x41 : (Pv.is (.int .u8 (t6))).V (get b 41) w1 := hp 7 41 (by kernel_rfl) rfl
    exact st_bin (v := .bool false) (vx := .int .u8 (t5)) (vy := .int .u8 (t6)) rfl (want0 rfl _) rfl x38 x41 (by first | rfl | (have c_ := c1002; refine Eq.trans (b := Result.ok (.bool ((t5) != (t6))) w1) rfl ?_; rw [show ((t5) != (t6)) = false from bne_eq_false_iff_eq.mpr c_]) | (have c_ := c1002; clear hb hp hu; go_simp; first | done | rfl | (simp [c_]; done) | (simp; omega))) rfl
  case s9 =>
    intro b w1 hb hp hu
    have x42 : (Pv.is (.bool false)).V (get b 42) w1 := hp 8 42 (by kernel_rfl) rfl
    exact st_move rfl (want0 rfl _) rfl x42
  case s10 =>
    intro b w1 hb hp hu
    have x43 : (Pv.is (.bool false)).V (get b 43) w1 := hp 9 43 (by kernel_rfl) rfl
    have x11 : (Pv.sl (Kd.int .u8) (t3)).V (get b 11) w1 := Pv.keep _ g5_11 (hu 11 (by kernel_rfl)) hb
    exact st_move rfl ((want_is (N := 43) rfl rfl x43).trans rfl) rfl x11
  case s11 =>
    intro b w1 hb hp hu
    have x43 : (Pv.is (.bool false)).V (get b 43) w1 := hp 9 43 (by kernel_rfl) rfl
    have x2 : (Pv.is (.int .u8 (a2))).V (get b 2) w1 := Pv.keep _ g5_2 (hu 2 (by kernel_rfl)) hb
    exact st_move rfl ((want_is (N := 43) rfl rfl x43).trans rfl) rfl x2
  case s12 =>
    intro b w1 hb hp hu
    have x43 : (Pv.is (.bool false)).V (get b 43) w1 := hp 9 43 (by kernel_rfl) rfl
    have x44 : (Pv.sl (Kd.int .u8) (t3)).V (get b 44) w1 := hp 10 44 (by kernel_rfl) rfl
    obtain ⟨B0, d0, e0_, hC0, hl0⟩ := x44
    have e0 : b.eval (Operand.tmp 44) = .slice B0 (t3).length d0 := e0_
    have x45 : (Pv.is (.int .u8 (a2))).V (get b 45) w1 := hp 11 45 (by kernel_rfl) rfl
    have e1 : b.eval (Operand.tmp 45) = .int .u8 (a2) := x45
    refine st_call rfl ((want_is (N := 43) rfl rfl x43).trans rfl) rfl Try.func19 (by kernel_rfl) rfl #[.slice B0 (t3).length d0, .int .u8 (a2)] (by simp only [List.map_toArray, List.map_cons, List.map_nil, e0, e1]) ?_
    refine (poly_Eval.calls k B0 d0 _ _ _ w1 hC0 hl0 H8).mono ?_
    rintro e w2 ⟨rfl, hb2⟩
    exact ⟨_, rfl, rfl, hb2⟩
  case s13 =>
    intro b w1 hb hp hu
    have x43 : (Pv.is (.bool false)).V (get b 43) w1 := hp 9 43 (by kernel_rfl) rfl
    have x9 : (Pv.is (.int .u8 (t1))).V (get b 9) w1 := Pv.keep _ g5_9 (hu 9 (by kernel_rfl)) hb
    exact st_move rfl ((want_is (N := 43) rfl rfl x43).trans rfl) rfl x9
  case s14 =>
    intro b w1 hb hp hu
    have x43 : (Pv.is (.bool false)).V (get b 43) w1 := hp 9 43 (by kernel_rfl) rfl
    have x10 : (Pv.is (.int .u8 (t2))).V (get b 10) w1 := Pv.keep _ g5_10 (hu 10 (by kernel_rfl)) hb
    exact st_move rfl ((want_is (N := 43) rfl rfl x43).trans rfl) rfl x10
  case s15 =>
    intro b w1 hb hp hu
    have x43 : (Pv.is (.bool false)).V (get b 43) w1 := hp 9 43 (by kernel_rfl) rfl
    have x47 : (Pv.is (.int .u8 (t1))).V (get b 47) w1 := hp 13 47 (by kernel_rfl) rfl
    have e0 : b.eval (Operand.tmp 47) = .int .u8 (t1) := x47
    have x48 : (Pv.is (.int .u8 (t2))).V (get b 48) w1 := hp 14 48 (by kernel_rfl) rfl
    have e1 : b.eval (Operand.tmp 48) = .int .u8 (t2) := x48
    refine st_call rfl ((want_is (N := 43) rfl rfl x43).trans rfl) rfl Try.func26 (by kernel_rfl) rfl #[.int .u8 (t1), .int .u8 (t2)] (by simp only [List.map_toArray, List.map_cons, List.map_nil, e0, e1]) ?_
    refine (gf_Mul.calls k _ _ _ w1  H9).mono ?_
    rintro e w2 ⟨rfl, hb2⟩
    exact ⟨_, rfl, rfl, (below_of_drawn hb2)⟩
  case s16 =>
    intro b w1 hb hp hu
    have x43 : (Pv.is (.bool false)).V (get b 43) w1 := hp 9 43 (by kernel_rfl) rfl
    have x46 : (Pv.is (.int .u8 (t7))).V (get b 46) w1 := hp 12 46 (by kernel_rfl) rfl
    have x49 : (Pv.is (.int .u8 (t8))).V (get b 49) w1 := hp 15 49 (by kernel_rfl) rfl
    exact st_bin (v := .bool false) (vx := .int .u8 (t7)) (vy := .int .u8 (t8)) rfl ((want_is (N := 43) rfl rfl x43).trans rfl) rfl x46 x49 (by first | rfl | (have c_ := c1003; refine Eq.trans (b := Result.ok (.bool ((t7) != (t8))) w1) rfl ?_; rw [show ((t7) != (t8)) = false from bne_eq_false_iff_eq.mpr c_]) | (have c_ := c1003; clear hb hp hu; go_simp; first | done | rfl | (simp [c_]; done) | (simp; omega))) rfl
  case s17 =>
    intro b w1 hb hp hu
    have x43 : (Pv.is (.bool false)).V (get b 43) w1 := hp 9 43 (by kernel_rfl) rfl
    have x50 : (Pv.is (.bool false)).V (get b 50) w1 := hp 16 50 (by kernel_rfl) rfl
    exact st_pick (b := false) rfl (want0 rfl _) rfl x43 x50
  case s18 =>
    intro b w1 hb hp hu
    have x51 : (Pv.is (.bool false)).V (get b 51) w1 := hp 17 51 (by kernel_rfl) rfl
    exact st_move rfl (want0 rfl _) rfl x51
  case s19 =>
    intro b w1 hb hp hu
    have x52 : (Pv.is (.bool false)).V (get b 52) w1 := hp 18 52 (by kernel_rfl) rfl
    have x0 : (Pv.sl (Kd.int .u8) (l0)).V (get b 0) w1 := Pv.keep _ g5_0 (hu 0 (by kernel_rfl)) hb
    exact st_move rfl ((want_is (N := 52) rfl rfl x52).trans rfl) rfl x0
  case s20 =>
    intro b w1 hb hp hu
    have x52 : (Pv.is (.bool false)).V (get b 52) w1 := hp 18 52 (by kernel_rfl) rfl
    have x3 : (Pv.is (.int .u8 (a3))).V (get b 3) w1 := Pv.keep _ g5_3 (hu 3 (by kernel_rfl)) hb
    exact st_move rfl ((want_is (N := 52) rfl rfl x52).trans rfl) rfl x3
  case s21 =>
    intro b w1 hb hp hu
    have x52 : (Pv.is (.bool false)).V (get b 52) w1 := hp 18 52 (by kernel_rfl) rfl
    have x53 : (Pv.sl (Kd.int .u8) (l0)).V (get b 53) w1 := hp 19 53 (by kernel_rfl) rfl
    obtain ⟨B0, d0, e0_, hC0, hl0⟩ := x53
    have e0 : b.eval (Operand.tmp 53) = .slice B0 (l0).length d0 := e0_
    have x54 : (Pv.is (.int .u8 (a3))).V (get b 54) w1 := hp 20 54 (by kernel_rfl) rfl
    have e1 : b.eval (Operand.tmp 54) = .int .u8 (a3) := x54
    refine st_call rfl ((want_is (N := 52) rfl rfl x52).trans rfl) rfl Try.func17 (by kernel_rfl) rfl #[.slice B0 (l0).length d0, .int .u8 (a3)] (by simp only [List.map_toArray, List.map_cons, List.map_nil, e0, e1]) ?_
    refine (poly_Times.calls k B0 d0 _ _ _ w1 hC0 hl0 H10).mono ?_
    rintro e w2 ⟨v0_, rfl, ho0, hb2⟩
    exact ⟨_, rfl, Pv.of_sl ho0, hb2⟩
  case s22 =>
    intro b w1 hb hp hu
    have x52 : (Pv.is (.bool false)).V (get b 52) w1 := hp 18 52 (by kernel_rfl) rfl
    have x2 : (Pv.is (.int .u8 (a2))).V (get b 2) w1 := Pv.keep _ g5_2 (hu 2 (by kernel_rfl)) hb
    exact st_move rfl ((want_is (N := 52) rfl rfl x52).trans rfl) rfl x2
  case s23 =>
    intro b w1 hb hp hu
    have x52 : (Pv.is (.bool false)).V (get b 52) w1 := hp 18 52 (by kernel_rfl) rfl
    have x55 : (Pv.sl (Kd.int .u8) (t9)).V (get b 55) w1 := hp 21 55 (by kernel_rfl) rfl
    obtain ⟨B0, d0, e0_, hC0, hl0⟩ := x55
    have e0 : b.eval (Operand.tmp 55) = .slice B0 (t9).length d0 := e0_
    have x56 : (Pv.is (.int .u8 (a2))).V (get b 56) w1 := hp 22 56 (by kernel_rfl) rfl
    have e1 : b.eval (Operand.tmp 56) = .int .u8 (a2) := x56
    refine st_call rfl ((want_is (N := 52) rfl rfl x52).trans rfl) rfl Try.func19 (by kernel_rfl) rfl #[.slice B0 (t9).length d0, .int .u8 (a2)] (by simp only [List.map_toArray, List.map_cons, List.map_nil, e0, e1]) ?_
    refine (poly_Eval.calls k B0 d0 _ _ _ w1 hC0 hl0 H11).mono ?_
    rintro e w2 ⟨rfl, hb2⟩
    exact ⟨_, rfl, rfl, hb2⟩
  case s24 =>
    intro b w1 hb hp hu
    have x52 : (Pv.is (.bool false)).V (get b 52) w1 := hp 18 52 (by kernel_rfl) rfl
    have x3 : (Pv.is (.int .u8 (a3))).V (get b 3) w1 := Pv.keep _ g5_3 (hu 3 (by kernel_rfl)) hb
    exact st_move rfl ((want_is (N := 52) rfl rfl x52).trans rfl) rfl x3
  case s25 =>
    intro b w1 hb hp hu
    have x52 : (Pv.is (.bool false)).V (get b 52) w1 := hp 18 52 (by kernel_rfl) rfl
    have x9 : (Pv.is (.int .u8 (t1))).V (get b 9) w1 := Pv.keep _ g5_9 (hu 9 (by kernel_rfl)) hb
    exact st_move rfl ((want_is (N := 52) rfl rfl x52).trans rfl) rfl x9
  case s26 =>
    intro b w1 hb hp hu
    have x52 : (Pv.is (.bool false)).V (get b 52) w1 := hp 18 52 (by kernel_rfl) rfl
    have x58 : (Pv.is (.int .u8 (a3))).V (get b 58) w1 := hp 24 58 (by kernel_rfl) rfl
    have e0 : b.eval (Operand.tmp 58) = .int .u8 (a3) := x58
    have x59 : (Pv.is (.int .u8 (t1))).V (get b 59) w1 := hp 25 59 (by kernel_rfl) rfl
    have e1 : b.eval (Operand.tmp 59) = .int .u8 (t1) := x59
    refine st_call rfl ((want_is (N := 52) rfl rfl x52).trans rfl) rfl Try.func26 (by kernel_rfl) rfl #[.int .u8 (a3), .int .u8 (t1)] (by simp only [List.map_toArray, List.map_cons, List.map_nil, e0, e1]) ?_
    refine (gf_Mul.calls k _ _ _ w1  H12).mono ?_
    rintro e w2 ⟨rfl, hb2⟩
    exact ⟨_, rfl, rfl, (below_of_drawn hb2)⟩
  case s27 =>
    intro b w1 hb hp hu
    have x52 : (Pv.is (.bool false)).V (get b 52) w1 := hp 18 52 (by kernel_rfl) rfl
    have x57 : (Pv.is (.int .u8 (t10))).V (get b 57) w1 := hp 23 57 (by kernel_rfl) rfl
    have x60 : (Pv.is (.int .u8 (t11))).V (get b 60) w1 := hp 26 60 (by kernel_rfl) rfl
    exact st_bin (v := .bool false) (vx := .int .u8 (t10)) (vy := .int .u8 (t11)) rfl ((want_is (N := 52) rfl rfl x52).trans rfl) rfl x57 x60 (by first | rfl | (have c_ := c1004; refine Eq.trans (b := Result.ok (.bool ((t10) != (t11))) w1) rfl ?_; rw [show ((t10) != (t11)) = false from bne_eq_false_iff_eq.mpr c_]) | (have c_ := c1004; clear hb hp hu; go_simp; first | done | rfl | (simp [c_]; done) | (simp; omega))) rfl
  case s28 =>
    intro b w1 hb hp hu
    have x52 : (Pv.is (.bool false)).V (get b 52) w1 := hp 18 52 (by kernel_rfl) rfl
    have x61 : (Pv.is (.bool false)).V (get b 61) w1 := hp 27 61 (by kernel_rfl) rfl
    exact st_pick (b := false) rfl (want0 rfl _) rfl x52 x61
  intro ac6 wo6 hn6 hd_ hb hv hs
  have g6_62 : (Pv.is (.bool false)).V (get ac6 62) wo6 := hv 28 62 rfl
  have g6_11 : (Pv.sl (Kd.int .u8) (t3)).V (get ac6 11) wo6 := Pv.keep _ g5_11 (hs 11 rfl) hb
  have g6_9 : (Pv.is (.int .u8 (t1))).V (get ac6 9) wo6 := Pv.keep _ g5_9 (hs 9 rfl) hb
  have g6_8 : (Pv.is (.bool false)).V (get ac6 8) wo6 := Pv.keep _ g5_8 (hs 8 rfl) hb
  have g6_0 : (Pv.sl (Kd.int .u8) (l0)).V (get ac6 0) wo6 := Pv.keep _ g5_0 (hs 0 rfl) hb
  have g6_1 : (Pv.sl (Kd.int .u8) (l1)).V (get ac6 1) wo6 := Pv.keep _ g5_1 (hs 1 rfl) hb
  have g6_2 : (Pv.is (.int .u8 (a2))).V (get ac6 2) wo6 := Pv.keep _ g5_2 (hs 2 rfl) hb
  have hB6 := below_step hB5 hb
  have hd6 := hd_.trans hd5
  clear hv hs hd_ hb hB5 hn5 hd5 g5_11 g5_9 g5_10 g5_8 g5_0 g5_1 g5_2 g5_3
  show Code.wp _ _ _ _ _
  refine wp_cond_false (show ac6.eval (Operand.tmp 62) = .bool false from g6_62) ?_
  refine wp_skip ?_
  show Code.wp _ _ _ _ _
  refine wp_seq ?_
  refine Reg.plain (T := wristbandlaw08_PolyValues.T9) (D := wristbandlaw08_PolyValues.D9) (n := 113) (by kernel_rfl) hn6 (told [Pv.sl (Kd.int .u8) (l0), Pv.is (.int .u8 (a2)), Pv.sl (Kd.int .u8) (([a2, (1 : Int)] : List Int)), Pv.tup [Pv.sl (Kd.int .u8) (t12), Pv.sl (Kd.int .u8) (t13), Pv.is (.int .i64 (t14))], Pv.tup [Pv.sl (Kd.int .u8) (t12), Pv.sl (Kd.int .u8) (t13), Pv.is (.int .i64 (t14))], Pv.sl (Kd.int .u8) (t12), Pv.sl (Kd.int .u8) (t13), Pv.is (.int .i64 (t14)), Pv.sl (Kd.int .u8) (t12), Pv.sl (Kd.int .u8) (t13), Pv.is (.int .i64 (t14))]) (told_pst _) (owedS (owedS (owedS (owedS (owedS (owedS (owedS (owedS (owedS (owedS (owedS owed0 ?s0) ?s1) ?s2) ?s3) ?s4) ?s5) ?s6) ?s7) ?s8) ?s9) ?s10) ?_
  case s0 =>
    intro b w1 hb hp hu
    have x0 : (Pv.sl (Kd.int .u8) (l0)).V (get b 0) w1 := Pv.keep _ g6_0 (hu 0 (by kernel_rfl)) hb
    exact st_move rfl (want0 rfl _) rfl x0
  case s1 =>
    intro b w1 hb hp hu
    have x2 : (Pv.is (.int .u8 (a2))).V (get b 2) w1 := Pv.keep _ g6_2 (hu 2 (by kernel_rfl)) hb
    exact st_move rfl (want0 rfl _) rfl x2
  case s2 =>
    intro b w1 hb hp hu
    have x65 : (Pv.is (.int .u8 (a2))).V (get b 65) w1 := hp 1 65 (by kernel_rfl) rfl
    have e0 : b.eval (Operand.tmp 65) = .int .u8 (a2) := x65
    have e1 : b.eval (Operand.const (Value.int IntKind.u8 1)) = .int .u8 ((1 : Int)) := rfl
    exact st_lit (e := 5) (N := 66) (xs := ([a2, (1 : Int)] : List Int)) (inner := [.int .u8 (a2), .int .u8 ((1 : Int))]) (ps := #[(0, .int .u8 (a2)), (1, .int .u8 ((1 : Int)))]) rfl (want0 rfl _) rfl rfl (by simp only [List.map_toArray, List.map_cons, List.map_nil, e0, e1]) (by first | (go_simp; done) | (go_simp; rfl)) (Reps.one (show Kd.M (Kd.int .u8) _ _ _ (a2) [.int .u8 (a2)] from rfl) (Reps.one (show Kd.M (Kd.int .u8) _ _ _ ((1 : Int)) [.int .u8 ((1 : Int))] from rfl) (Reps.none _ _))) (by simp) (fun _ _ h => h)
  case s3 =>
    intro b w1 hb hp hu
    have x64 : (Pv.sl (Kd.int .u8) (l0)).V (get b 64) w1 := hp 0 64 (by kernel_rfl) rfl
    obtain ⟨B0, d0, e0_, hC0, hl0⟩ := x64
    have e0 : b.eval (Operand.tmp 64) = .slice B0 (l0).length d0 := e0_
    have x66 : (Pv.sl (Kd.int .u8) (([a2, (1 : Int)] : List Int))).V (get b 66) w1 := hp 2 66 (by kernel_rfl) rfl
    obtain ⟨B1, d1, e1_, hC1, hl1⟩ := x66
    have e1 : b.eval (Operand.tmp 66) = .slice B1 (([a2, (1 : Int)] : List Int)).length d1 := e1_
    refine st_call rfl (want0 rfl _) rfl Try.func23 (by kernel_rfl) rfl #[.slice B0 (l0).length d0, .slice B1 (([a2, (1 : Int)] : List Int)).length d1] (by simp only [List.map_toArray, List.map_cons, List.map_nil, e0, e1]) ?_
    refine (poly_Quo.calls k B0 d0 _ B1 d1 _ _ _ _ w1 hC0 hl0 hC1 hl1 H13).mono ?_
    rintro e w2 ⟨v0_, v1_, rfl, ho0, ho1, hb2⟩
    exact ⟨_, rfl, ⟨[_, _, _], rfl, Pv.of_sl ho0, Pv.of_sl ho1, rfl, trivial⟩, hb2⟩
  case s4 =>
    intro b w1 hb hp hu
    have x67 : (Pv.tup [Pv.sl (Kd.int .u8) (t12), Pv.sl (Kd.int .u8) (t13), Pv.is (.int .i64 (t14))]).V (get b 67) w1 := hp 3 67 (by kernel_rfl) rfl
    exact st_move rfl (want0 rfl _) rfl x67
  case s5 =>
    intro b w1 hb hp hu
    have x63 : (Pv.tup [Pv.sl (Kd.int .u8) (t12), Pv.sl (Kd.int .u8) (t13), Pv.is (.int .i64 (t14))]).V (get b 63) w1 := hp 4 63 (by kernel_rfl) rfl
    exact st_extract rfl (want0 rfl _) rfl x63 rfl (fun _ h => h)
  case s6 =>
    intro b w1 hb hp hu
    have x63 : (Pv.tup [Pv.sl (Kd.int .u8) (t12), Pv.sl (Kd.int .u8) (t13), Pv.is (.int .i64 (t14))]).V (get b 63) w1 := hp 4 63 (by kernel_rfl) rfl
    exact st_extract rfl (want0 rfl _) rfl x63 rfl (fun _ h => h)
  case s7 =>
    intro b w1 hb hp hu
    have x63 : (Pv.tup [Pv.sl (Kd.int .u8) (t12), Pv.sl (Kd.int .u8) (t13), Pv.is (.int .i64 (t14))]).V (get b 63) w1 := hp 4 63 (by kernel_rfl) rfl
    exact st_extract rfl (want0 rfl _) rfl x63 rfl (fun _ h => h)
  case s8 =>
    intro b w1 hb hp hu
    have x68 : (Pv.sl (Kd.int .u8) (t12)).V (get b 68) w1 := hp 5 68 (by kernel_rfl) rfl
    exact st_assign rfl (want0 rfl _) rfl x68
  case s9 =>
    intro b w1 hb hp hu
    have x69 : (Pv.sl (Kd.int .u8) (t13)).V (get b 69) w1 := hp 6 69 (by kernel_rfl) rfl
    exact st_assign rfl (want0 rfl _) rfl x69
  case s10 =>
    intro b w1 hb hp hu
    have x70 : (Pv.is (.int .i64 (t14))).V (get b 70) w1 := hp 7 70 (by kernel_rfl) rfl
    exact st_assign rfl (want0 rfl _) rfl x70
  intro ac7 wo7 hn7 hd_ hb hv hs
  have g7_13 : (Pv.sl (Kd.int .u8) (t13)).V (get ac7 13) wo7 := hv 9 13 rfl
  have g7_14 : (Pv.is (.int .i64 (t14))).V (get ac7 14) wo7 := hv 10 14 rfl
  have g7_11 : (Pv.sl (Kd.int .u8) (t3)).V (get ac7 11) wo7 := Pv.keep _ g6_11 (hs 11 rfl) hb
  have g7_9 : (Pv.is (.int .u8 (t1))).V (get ac7 9) wo7 := Pv.keep _ g6_9 (hs 9 rfl) hb
  have g7_8 : (Pv.is (.bool false)).V (get ac7 8) wo7 := Pv.keep _ g6_8 (hs 8 rfl) hb
  have g7_0 : (Pv.sl (Kd.int .u8) (l0)).V (get ac7 0) wo7 := Pv.keep _ g6_0 (hs 0 rfl) hb
  have g7_1 : (Pv.sl (Kd.int .u8) (l1)).V (get ac7 1) wo7 := Pv.keep _ g6_1 (hs 1 rfl) hb
  have hB7 := below_step hB6 hb
  have hd7 := hd_.trans hd6
  clear hv hs hd_ hb hB6 hn6 hd6 g6_62 g6_11 g6_9 g6_8 g6_0 g6_1 g6_2
  show Code.wp _ _ _ _ _
  refine wp_seq ?_
  refine wp_seq ?_
  refine Reg.plain (T := wristbandlaw08_PolyValues.T10) (D := wristbandlaw08_PolyValues.D10) (n := 113) (by kernel_rfl) hn7 (told [Pv.is (.int .i64 (t14)), Pv.is (.bool false), Pv.is (.bool false), Pv.sl (Kd.int .u8) (t13), Pv.is (.int .u8 (t15)), Pv.is (.int .u8 (t1)), Pv.is (.bool false), Pv.is (.bool false), Pv.is (.bool false), Pv.sl (Kd.int .u8) (l0), Pv.is (.int .i64 (t16)), Pv.is (.bool true), Pv.is (.bool true), Pv.sl (Kd.int .u8) (l1), Pv.is (.int .i64 (t17)), Pv.is (.bool true), Pv.is (.bool true), Pv.is (.bool true), Pv.sl (Kd.int .u8) (t3), Pv.is (.int .i64 (t18)), Pv.sl (Kd.int .u8) (l0), Pv.is (.int .i64 (t16)), Pv.sl (Kd.int .u8) (l1), Pv.is (.int .i64 (t17)), Pv.is (.int .i64 (wrap64 (t16 + t17))), Pv.is (.bool false), Pv.is (.bool false), Pv.is (.bool false)]) (told_pst _) (owedS (owedS (owedS (owedS (owedS (owedS (owedS (owedS (owedS (owedS (owedS (owedS (owedS (owedS (owedS (owedS (owedS (owedS (owedS (owedS (owedS (owedS (owedS (owedS (owedS (owedS (owedS (owedS owed0 ?s0) ?s1) ?s2) ?s3) ?s4) ?s5) ?s6) ?s7) ?s8) ?s9) ?s10) ?s11) ?s12) ?s13) ?s14) ?s15) ?s16) ?s17) ?s18) ?s19) ?s20) ?s21) ?s22) ?s23) ?s24) ?s25) ?s26) ?s27) ?_
  case s0 =>
    intro b w1 hb hp hu
    have x14 : (Pv.is (.int .i64 (t14))).V (get b 14) w1 := Pv.keep _ g7_14 (hu 14 (by kernel_rfl)) hb
    exact st_move rfl (want0 rfl _) rfl x14
  case s1 =>
    intro b w1 hb hp hu
    have x71 : (Pv.is (.int .i64 (t14))).V (get b 71) w1 := hp 0 71 (by kernel_rfl) rfl
    exact st_bin (v := .bool false) (vx := .int .i64 (t14)) (vy := .int .i64 ((0 : Int))) rfl (want0 rfl _) rfl x71 rfl (by first | rfl | (have c_ := c1005; refine Eq.trans (b := Result.ok (.bool ((t14) != ((0 : Int)))) w1) rfl ?_; rw [show ((t14) != ((0 : Int))) = false from bne_eq_false_iff_eq.mpr c_]) | (have c_ := c1005; clear hb hp hu; go_simp; first | done | rfl | (simp [c_]; done) | (simp; omega))) rfl
  case s2 =>
    intro b w1 hb hp hu
    have x72 : (Pv.is (.bool false)).V (get b 72) w1 := hp 1 72 (by kernel_rfl) rfl
    exact st_move rfl (want0 rfl _) rfl x72
  case s3 =>
    intro b w1 hb hp hu
    have x73 : (Pv.is (.bool false)).V (get b 73) w1 := hp 2 73 (by kernel_rfl) rfl
    have x13 : (Pv.sl (Kd.int .u8) (t13)).V (get b 13) w1 := Pv.keep _ g7_13 (hu 13 (by kernel_rfl)) hb
    exact st_move rfl ((want_is (N := 73) rfl rfl x73).trans rfl) rfl x13
  case s4 =>
    intro b w1 hb hp hu
    have x73 : (Pv.is (.bool false)).V (get b 73) w1 := hp 2 73 (by kernel_rfl) rfl
    have x74 : (Pv.sl (Kd.int .u8) (t13)).V (get b 74) w1 := hp 3 74 (by kernel_rfl) rfl
    obtain ⟨B0, d0, e0_, hC0, hl0⟩ := x74
    have e0 : b.eval (Operand.tmp 74) = .slice B0 (t13).length d0 := e0_
    have e1 : b.eval (Operand.const (Value.int IntKind.u8 0)) = .int .u8 ((0 : Int)) := rfl
    refine st_call rfl ((want_is (N := 73) rfl rfl x73).trans rfl) rfl Try.func19 (by kernel_rfl) rfl #[.slice B0 (t13).length d0, .int .u8 ((0 : Int))] (by simp only [List.map_toArray, List.map_cons, List.map_nil, e0, e1]) ?_
    refine (poly_Eval.calls k B0 d0 _ _ _ w1 hC0 hl0 H14).mono ?_
    rintro e w2 ⟨rfl, hb2⟩
    exact ⟨_, rfl, rfl, hb2⟩
  case s5 =>
    intro b w1 hb hp hu
    have x73 : (Pv.is (.bool false)).V (get b 73) w1 := hp 2 73 (by kernel_rfl) rfl
    have x9 : (Pv.is (.int .u8 (t1))).V (get b 9) w1 := Pv.keep _ g7_9 (hu 9 (by kernel_rfl)) hb
    exact st_move rfl ((want_is (N := 73) rfl rfl x73).trans rfl) rfl x9
  case s6 =>
    intro b w1 hb hp hu
    have x73 : (Pv.is (.bool false)).V (get b 73) w1 := hp 2 73 (by kernel_rfl) rfl
    have x75 : (Pv.is (.int .u8 (t15))).V (get b 75) w1 := hp 4 75 (by kernel_rfl) rfl
    have x76 : (Pv.is (.int .u8 (t1))).V (get b 76) w1 := hp 5 76 (by kernel_rfl) rfl
    exact st_bin (v := .bool false) (vx := .int .u8 (t15)) (vy := .int .u8 (t1)) rfl ((want_is (N := 73) rfl rfl x73).trans rfl) rfl x75 x76 (by first | rfl | (have c_ := c1006; refine Eq.trans (b := Result.ok (.bool ((t15) != (t1))) w1) rfl ?_; rw [show ((t15) != (t1)) = false from bne_eq_false_iff_eq.mpr c_]) | (have c_ := c1006; clear hb hp hu; go_simp; first | done | rfl | (simp [c_]; done) | (simp; omega))) rfl
  case s7 =>
    intro b w1 hb hp hu
    have x73 : (Pv.is (.bool false)).V (get b 73) w1 := hp 2 73 (by kernel_rfl) rfl
    have x77 : (Pv.is (.bool false)).V (get b 77) w1 := hp 6 77 (by kernel_rfl) rfl
    exact st_pick (b := false) rfl (want0 rfl _) rfl x73 x77
  case s8 =>
    intro b w1 hb hp hu
    have x78 : (Pv.is (.bool false)).V (get b 78) w1 := hp 7 78 (by kernel_rfl) rfl
    exact st_move rfl (want0 rfl _) rfl x78
  case s9 =>
    intro b w1 hb hp hu
    have x79 : (Pv.is (.bool false)).V (get b 79) w1 := hp 8 79 (by kernel_rfl) rfl
    have x0 : (Pv.sl (Kd.int .u8) (l0)).V (get b 0) w1 := Pv.keep _ g7_0 (hu 0 (by kernel_rfl)) hb
    exact st_move rfl ((want_is (N := 79) rfl rfl x79).trans rfl) rfl x0
  case s10 =>
    intro b w1 hb hp hu
    have x79 : (Pv.is (.bool false)).V (get b 79) w1 := hp 8 79 (by kernel_rfl) rfl
    have x80 : (Pv.sl (Kd.int .u8) (l0)).V (get b 80) w1 := hp 9 80 (by kernel_rfl) rfl
    obtain ⟨B0, d0, e0_, hC0, hl0⟩ := x80
    have e0 : b.eval (Operand.tmp 80) = .slice B0 (l0).length d0 := e0_
    refine st_call rfl ((want_is (N := 79) rfl rfl x79).trans rfl) rfl Try.func12 (by kernel_rfl) rfl #[.slice B0 (l0).length d0] (by simp only [List.map_toArray, List.map_cons, List.map_nil, e0]) ?_
    refine (poly_Degree.calls B0 d0 _ _ w1 hC0 hl0 H15).mono ?_
    rintro e w2 ⟨rfl, hb2⟩
    exact ⟨_, rfl, rfl, hb2⟩
  case s11 =>
    intro b w1 hb hp hu
    have x79 : (Pv.is (.bool false)).V (get b 79) w1 := hp 8 79 (by kernel_rfl) rfl
    have x81 : (Pv.is (.int .i64 (t16))).V (get b 81) w1 := hp 10 81 (by kernel_rfl) rfl
    exact st_bin (v := .bool true) (vx := .int .i64 (t16)) (vy := .int .i64 ((0 : Int))) rfl ((want_is (N := 79) rfl rfl x79).trans rfl) rfl x81 rfl (by first | rfl | (have c_ := c1007; refine Eq.trans (b := Result.ok (.bool decide ((t16) ≥ ((0 : Int)))) w1) rfl ?_; rw [show decide ((t16) ≥ ((0 : Int))) = true from decide_eq_true c_]) | (have c_ := c1007; clear hb hp hu; go_simp; first | done | rfl | (simp [c_]; done) | (simp; omega))) rfl
  case s12 =>
    intro b w1 hb hp hu
    have x79 : (Pv.is (.bool false)).V (get b 79) w1 := hp 8 79 (by kernel_rfl) rfl
    have x82 : (Pv.is (.bool true)).V (get b 82) w1 := hp 11 82 (by kernel_rfl) rfl
    exact st_move rfl ((want_is (N := 79) rfl rfl x79).trans rfl) rfl x82
  case s13 =>
    intro b w1 hb hp hu
    have x83 : (Pv.is (.bool true)).V (get b 83) w1 := hp 12 83 (by kernel_rfl) rfl
    have x1 : (Pv.sl (Kd.int .u8) (l1)).V (get b 1) w1 := Pv.keep _ g7_1 (hu 1 (by kernel_rfl)) hb
    exact st_move rfl ((want_is (N := 83) rfl rfl x83).trans rfl) rfl x1
  case s14 =>
    intro b w1 hb hp hu
    have x83 : (Pv.is (.bool true)).V (get b 83) w1 := hp 12 83 (by kernel_rfl) rfl
    have x84 : (Pv.sl (Kd.int .u8) (l1)).V (get b 84) w1 := hp 13 84 (by kernel_rfl) rfl
    obtain ⟨B0, d0, e0_, hC0, hl0⟩ := x84
    have e0 : b.eval (Operand.tmp 84) = .slice B0 (l1).length d0 := e0_
    refine st_call rfl ((want_is (N := 83) rfl rfl x83).trans rfl) rfl Try.func12 (by kernel_rfl) rfl #[.slice B0 (l1).length d0] (by simp only [List.map_toArray, List.map_cons, List.map_nil, e0]) ?_
    refine (poly_Degree.calls B0 d0 _ _ w1 hC0 hl0 H16).mono ?_
    rintro e w2 ⟨rfl, hb2⟩
    exact ⟨_, rfl, rfl, hb2⟩
  case s15 =>
    intro b w1 hb hp hu
    have x83 : (Pv.is (.bool true)).V (get b 83) w1 := hp 12 83 (by kernel_rfl) rfl
    have x85 : (Pv.is (.int .i64 (t17))).V (get b 85) w1 := hp 14 85 (by kernel_rfl) rfl
    exact st_bin (v := .bool true) (vx := .int .i64 (t17)) (vy := .int .i64 ((0 : Int))) rfl ((want_is (N := 83) rfl rfl x83).trans rfl) rfl x85 rfl (by first | rfl | (have c_ := c1008; refine Eq.trans (b := Result.ok (.bool decide ((t17) ≥ ((0 : Int)))) w1) rfl ?_; rw [show decide ((t17) ≥ ((0 : Int))) = true from decide_eq_true c_]) | (have c_ := c1008; clear hb hp hu; go_simp; first | done | rfl | (simp [c_]; done) | (simp; omega))) rfl
  case s16 =>
    intro b w1 hb hp hu
    have x79 : (Pv.is (.bool false)).V (get b 79) w1 := hp 8 79 (by kernel_rfl) rfl
    have x83 : (Pv.is (.bool true)).V (get b 83) w1 := hp 12 83 (by kernel_rfl) rfl
    have x86 : (Pv.is (.bool true)).V (get b 86) w1 := hp 15 86 (by kernel_rfl) rfl
    exact st_pick (b := true) rfl ((want_is (N := 79) rfl rfl x79).trans rfl) rfl x83 x86
  case s17 =>
    intro b w1 hb hp hu
    have x79 : (Pv.is (.bool false)).V (get b 79) w1 := hp 8 79 (by kernel_rfl) rfl
    have x87 : (Pv.is (.bool true)).V (get b 87) w1 := hp 16 87 (by kernel_rfl) rfl
    exact st_move rfl ((want_is (N := 79) rfl rfl x79).trans rfl) rfl x87
  case s18 =>
    intro b w1 hb hp hu
    have x88 : (Pv.is (.bool true)).V (get b 88) w1 := hp 17 88 (by kernel_rfl) rfl
    have x11 : (Pv.sl (Kd.int .u8) (t3)).V (get b 11) w1 := Pv.keep _ g7_11 (hu 11 (by kernel_rfl)) hb
    exact st_move rfl ((want_is (N := 88) rfl rfl x88).trans rfl) rfl x11
  case s19 =>
    intro b w1 hb hp hu
    have x88 : (Pv.is (.bool true)).V (get b 88) w1 := hp 17 88 (by kernel_rfl) rfl
    have x89 : (Pv.sl (Kd.int .u8) (t3)).V (get b 89) w1 := hp 18 89 (by kernel_rfl) rfl
    obtain ⟨B0, d0, e0_, hC0, hl0⟩ := x89
    have e0 : b.eval (Operand.tmp 89) = .slice B0 (t3).length d0 := e0_
    refine st_call rfl ((want_is (N := 88) rfl rfl x88).trans rfl) rfl Try.func12 (by kernel_rfl) rfl #[.slice B0 (t3).length d0] (by simp only [List.map_toArray, List.map_cons, List.map_nil, e0]) ?_
    refine (poly_Degree.calls B0 d0 _ _ w1 hC0 hl0 H17).mono ?_
    rintro e w2 ⟨rfl, hb2⟩
    exact ⟨_, rfl, rfl, hb2⟩
  case s20 =>
    intro b w1 hb hp hu
    have x88 : (Pv.is (.bool true)).V (get b 88) w1 := hp 17 88 (by kernel_rfl) rfl
    have x0 : (Pv.sl (Kd.int .u8) (l0)).V (get b 0) w1 := Pv.keep _ g7_0 (hu 0 (by kernel_rfl)) hb
    exact st_move rfl ((want_is (N := 88) rfl rfl x88).trans rfl) rfl x0
  case s21 =>
    intro b w1 hb hp hu
    have x88 : (Pv.is (.bool true)).V (get b 88) w1 := hp 17 88 (by kernel_rfl) rfl
    have x91 : (Pv.sl (Kd.int .u8) (l0)).V (get b 91) w1 := hp 20 91 (by kernel_rfl) rfl
    obtain ⟨B0, d0, e0_, hC0, hl0⟩ := x91
    have e0 : b.eval (Operand.tmp 91) = .slice B0 (l0).length d0 := e0_
    refine st_call rfl ((want_is (N := 88) rfl rfl x88).trans rfl) rfl Try.func12 (by kernel_rfl) rfl #[.slice B0 (l0).length d0] (by simp only [List.map_toArray, List.map_cons, List.map_nil, e0]) ?_
    refine (poly_Degree.calls B0 d0 _ _ w1 hC0 hl0 H15).mono ?_
    rintro e w2 ⟨rfl, hb2⟩
    exact ⟨_, rfl, rfl, hb2⟩
  case s22 =>
    intro b w1 hb hp hu
    have x88 : (Pv.is (.bool true)).V (get b 88) w1 := hp 17 88 (by kernel_rfl) rfl
    have x1 : (Pv.sl (Kd.int .u8) (l1)).V (get b 1) w1 := Pv.keep _ g7_1 (hu 1 (by kernel_rfl)) hb
    exact st_move rfl ((want_is (N := 88) rfl rfl x88).trans rfl) rfl x1
  case s23 =>
    intro b w1 hb hp hu
    have x88 : (Pv.is (.bool true)).V (get b 88) w1 := hp 17 88 (by kernel_rfl) rfl
    have x93 : (Pv.sl (Kd.int .u8) (l1)).V (get b 93) w1 := hp 22 93 (by kernel_rfl) rfl
    obtain ⟨B0, d0, e0_, hC0, hl0⟩ := x93
    have e0 : b.eval (Operand.tmp 93) = .slice B0 (l1).length d0 := e0_
    refine st_call rfl ((want_is (N := 88) rfl rfl x88).trans rfl) rfl Try.func12 (by kernel_rfl) rfl #[.slice B0 (l1).length d0] (by simp only [List.map_toArray, List.map_cons, List.map_nil, e0]) ?_
    refine (poly_Degree.calls B0 d0 _ _ w1 hC0 hl0 H16).mono ?_
    rintro e w2 ⟨rfl, hb2⟩
    exact ⟨_, rfl, rfl, hb2⟩
  case s24 =>
    intro b w1 hb hp hu
    have x88 : (Pv.is (.bool true)).V (get b 88) w1 := hp 17 88 (by kernel_rfl) rfl
    have x92 : (Pv.is (.int .i64 (t16))).V (get b 92) w1 := hp 21 92 (by kernel_rfl) rfl
    have x94 : (Pv.is (.int .i64 (t17))).V (get b 94) w1 := hp 23 94 (by kernel_rfl) rfl
    exact st_bin (v := .int .i64 (wrap64 (t16 + t17))) (vx := .int .i64 (t16)) (vy := .int .i64 (t17)) rfl ((want_is (N := 88) rfl rfl x88).trans rfl) rfl x92 x94 (by first | rfl | (go_simp; first | done | rfl | (simp only [i64_w, i32_w]; done))) rfl
  case s25 =>
    intro b w1 hb hp hu
    have x88 : (Pv.is (.bool true)).V (get b 88) w1 := hp 17 88 (by kernel_rfl) rfl
    have x90 : (Pv.is (.int .i64 (t18))).V (get b 90) w1 := hp 19 90 (by kernel_rfl) rfl
    have x95 : (Pv.is (.int .i64 (wrap64 (t16 + t17)))).V (get b 95) w1 := hp 24 95 (by kernel_rfl) rfl
    exact st_bin (v := .bool false) (vx := .int .i64 (t18)) (vy := .int .i64 (wrap64 (t16 + t17))) rfl ((want_is (N := 88) rfl rfl x88).trans rfl) rfl x90 x95 (by first | rfl | (have c_ := c1009; refine Eq.trans (b := Result.ok (.bool ((t18) != (wrap64 (t16 + t17)))) w1) rfl ?_; rw [show ((t18) != (wrap64 (t16 + t17))) = false from bne_eq_false_iff_eq.mpr c_]) | (have c_ := c1009; clear hb hp hu; go_simp; first | done | rfl | (simp [c_]; done) | (simp; omega))) rfl
  case s26 =>
    intro b w1 hb hp hu
    have x79 : (Pv.is (.bool false)).V (get b 79) w1 := hp 8 79 (by kernel_rfl) rfl
    have x88 : (Pv.is (.bool true)).V (get b 88) w1 := hp 17 88 (by kernel_rfl) rfl
    have x96 : (Pv.is (.bool false)).V (get b 96) w1 := hp 25 96 (by kernel_rfl) rfl
    exact st_pick (b := true) rfl ((want_is (N := 79) rfl rfl x79).trans rfl) rfl x88 x96
  case s27 =>
    intro b w1 hb hp hu
    have x79 : (Pv.is (.bool false)).V (get b 79) w1 := hp 8 79 (by kernel_rfl) rfl
    have x97 : (Pv.is (.bool false)).V (get b 97) w1 := hp 26 97 (by kernel_rfl) rfl
    exact st_pick (b := false) rfl (want0 rfl _) rfl x79 x97
  intro ac8 wo8 hn8 hd_ hb hv hs
  have g8_98 : (Pv.is (.bool false)).V (get ac8 98) wo8 := hv 27 98 rfl
  have g8_11 : (Pv.sl (Kd.int .u8) (t3)).V (get ac8 11) wo8 := Pv.keep _ g7_11 (hs 11 rfl) hb
  have g8_8 : (Pv.is (.bool false)).V (get ac8 8) wo8 := Pv.keep _ g7_8 (hs 8 rfl) hb
  have g8_0 : (Pv.sl (Kd.int .u8) (l0)).V (get ac8 0) wo8 := Pv.keep _ g7_0 (hs 0 rfl) hb
  have g8_1 : (Pv.sl (Kd.int .u8) (l1)).V (get ac8 1) wo8 := Pv.keep _ g7_1 (hs 1 rfl) hb
  have hB8 := below_step hB7 hb
  have hd8 := hd_.trans hd7
  clear hv hs hd_ hb hB7 hn7 hd7 g7_13 g7_14 g7_11 g7_9 g7_8 g7_0 g7_1
  show Code.wp _ _ _ _ _
  refine wp_cond_false (show ac8.eval (Operand.tmp 98) = .bool false from g8_98) ?_
  refine wp_skip ?_
  show Code.wp _ _ _ _ _
  refine wp_seq ?_
  refine Reg.draws (T := wristbandlaw08_PolyValues.T12) (D := wristbandlaw08_PolyValues.D12) (n := 113) rfl (by kernel_rfl) hn8 (told [Pv.sl (Kd.int .u8) (t3), Pv.sl (Kd.int .u8) (t19), Pv.is (.string (strOfNums (t19))), Pv.sl (Kd.int .u8) (l0), Pv.sl (Kd.int .u8) (t20), Pv.sl (Kd.int .u8) (l1), Pv.sl (Kd.int .u8) (t21), Pv.sl (Kd.int .u8) (l0), Pv.sl (Kd.int .u8) (l1), Pv.sl (Kd.int .u8) (t22), Pv.sl (Kd.int .u8) (t23), Pv.sl (Kd.int .u8) (t24), Pv.is (.string (strOfNums (t24))), Pv.is (.bool true), Pv.is (.bool true)]) (told_pst _) (owedS (owedS (owedS (owedS (owedS (owedS (owedS (owedS (owedS (owedS (owedS (owedS (owedS (owedS (owedS owed0 ?s0) ?s1) ?s2) ?s3) ?s4) ?s5) ?s6) ?s7) ?s8) ?s9) ?s10) ?s11) ?s12) ?s13) ?s14) ?_
  case s0 =>
    intro b w1 hb hp hu
    have x11 : (Pv.sl (Kd.int .u8) (t3)).V (get b 11) w1 := Pv.keep _ g8_11 (hu 11 (by kernel_rfl)) hb
    exact st_move rfl (want0 rfl _) rfl x11
  case s1 =>
    intro b w1 hb hp hu
    have x99 : (Pv.sl (Kd.int .u8) (t3)).V (get b 99) w1 := hp 0 99 (by kernel_rfl) rfl
    obtain ⟨B0, d0, e0_, hC0, hl0⟩ := x99
    have e0 : b.eval (Operand.tmp 99) = .slice B0 (t3).length d0 := e0_
    refine st_call rfl (want0 rfl _) rfl Try.func21 (by kernel_rfl) rfl #[.slice B0 (t3).length d0] (by simp only [List.map_toArray, List.map_cons, List.map_nil, e0]) ?_
    refine (poly_Slope.calls k B0 d0 _ _ w1 hC0 hl0 H18).mono ?_
    rintro e w2 ⟨v0_, rfl, ho0, hb2⟩
    exact ⟨_, rfl, Pv.of_sl ho0, hb2⟩
  case s2 =>
    intro b w1 hb hp hu
    have x100 : (Pv.sl (Kd.int .u8) (t19)).V (get b 100) w1 := hp 1 100 (by kernel_rfl) rfl
    exact st_string Try.underlying22 Try.underlying5 Try.underlying9 rfl (want0 rfl _) rfl x100 rfl
  case s3 =>
    intro b w1 hb hp hu
    have x0 : (Pv.sl (Kd.int .u8) (l0)).V (get b 0) w1 := Pv.keep _ g8_0 (hu 0 (by kernel_rfl)) hb
    exact st_move rfl (want0 rfl _) rfl x0
  case s4 =>
    intro b w1 hb hp hu
    have x102 : (Pv.sl (Kd.int .u8) (l0)).V (get b 102) w1 := hp 3 102 (by kernel_rfl) rfl
    obtain ⟨B0, d0, e0_, hC0, hl0⟩ := x102
    have e0 : b.eval (Operand.tmp 102) = .slice B0 (l0).length d0 := e0_
    refine st_call rfl (want0 rfl _) rfl Try.func21 (by kernel_rfl) rfl #[.slice B0 (l0).length d0] (by simp only [List.map_toArray, List.map_cons, List.map_nil, e0]) ?_
    refine (poly_Slope.calls k B0 d0 _ _ w1 hC0 hl0 H19).mono ?_
    rintro e w2 ⟨v0_, rfl, ho0, hb2⟩
    exact ⟨_, rfl, Pv.of_sl ho0, hb2⟩
  case s5 =>
    intro b w1 hb hp hu
    have x1 : (Pv.sl (Kd.int .u8) (l1)).V (get b 1) w1 := Pv.keep _ g8_1 (hu 1 (by kernel_rfl)) hb
    exact st_move rfl (want0 rfl _) rfl x1
  case s6 =>
    intro b w1 hb hp hu
    have x103 : (Pv.sl (Kd.int .u8) (t20)).V (get b 103) w1 := hp 4 103 (by kernel_rfl) rfl
    obtain ⟨B0, d0, e0_, hC0, hl0⟩ := x103
    have e0 : b.eval (Operand.tmp 103) = .slice B0 (t20).length d0 := e0_
    have x104 : (Pv.sl (Kd.int .u8) (l1)).V (get b 104) w1 := hp 5 104 (by kernel_rfl) rfl
    obtain ⟨B1, d1, e1_, hC1, hl1⟩ := x104
    have e1 : b.eval (Operand.tmp 104) = .slice B1 (l1).length d1 := e1_
    refine st_call rfl (want0 rfl _) rfl Try.func15 (by kernel_rfl) rfl #[.slice B0 (t20).length d0, .slice B1 (l1).length d1] (by simp only [List.map_toArray, List.map_cons, List.map_nil, e0, e1]) ?_
    refine (poly_Mul.calls k B0 d0 _ B1 d1 _ _ w1 hC0 hl0 hC1 hl1 H20).mono ?_
    rintro e w2 ⟨v0_, rfl, ho0, hb2⟩
    exact ⟨_, rfl, Pv.of_sl ho0, hb2⟩
  case s7 =>
    intro b w1 hb hp hu
    have x0 : (Pv.sl (Kd.int .u8) (l0)).V (get b 0) w1 := Pv.keep _ g8_0 (hu 0 (by kernel_rfl)) hb
    exact st_move rfl (want0 rfl _) rfl x0
  case s8 =>
    intro b w1 hb hp hu
    have x1 : (Pv.sl (Kd.int .u8) (l1)).V (get b 1) w1 := Pv.keep _ g8_1 (hu 1 (by kernel_rfl)) hb
    exact st_move rfl (want0 rfl _) rfl x1
  case s9 =>
    intro b w1 hb hp hu
    have x107 : (Pv.sl (Kd.int .u8) (l1)).V (get b 107) w1 := hp 8 107 (by kernel_rfl) rfl
    obtain ⟨B0, d0, e0_, hC0, hl0⟩ := x107
    have e0 : b.eval (Operand.tmp 107) = .slice B0 (l1).length d0 := e0_
    refine st_call rfl (want0 rfl _) rfl Try.func21 (by kernel_rfl) rfl #[.slice B0 (l1).length d0] (by simp only [List.map_toArray, List.map_cons, List.map_nil, e0]) ?_
    refine (poly_Slope.calls k B0 d0 _ _ w1 hC0 hl0 H21).mono ?_
    rintro e w2 ⟨v0_, rfl, ho0, hb2⟩
    exact ⟨_, rfl, Pv.of_sl ho0, hb2⟩
  case s10 =>
    intro b w1 hb hp hu
    have x106 : (Pv.sl (Kd.int .u8) (l0)).V (get b 106) w1 := hp 7 106 (by kernel_rfl) rfl
    obtain ⟨B0, d0, e0_, hC0, hl0⟩ := x106
    have e0 : b.eval (Operand.tmp 106) = .slice B0 (l0).length d0 := e0_
    have x108 : (Pv.sl (Kd.int .u8) (t22)).V (get b 108) w1 := hp 9 108 (by kernel_rfl) rfl
    obtain ⟨B1, d1, e1_, hC1, hl1⟩ := x108
    have e1 : b.eval (Operand.tmp 108) = .slice B1 (t22).length d1 := e1_
    refine st_call rfl (want0 rfl _) rfl Try.func15 (by kernel_rfl) rfl #[.slice B0 (l0).length d0, .slice B1 (t22).length d1] (by simp only [List.map_toArray, List.map_cons, List.map_nil, e0, e1]) ?_
    refine (poly_Mul.calls k B0 d0 _ B1 d1 _ _ w1 hC0 hl0 hC1 hl1 H22).mono ?_
    rintro e w2 ⟨v0_, rfl, ho0, hb2⟩
    exact ⟨_, rfl, Pv.of_sl ho0, hb2⟩
  case s11 =>
    intro b w1 hb hp hu
    have x105 : (Pv.sl (Kd.int .u8) (t21)).V (get b 105) w1 := hp 6 105 (by kernel_rfl) rfl
    obtain ⟨B0, d0, e0_, hC0, hl0⟩ := x105
    have e0 : b.eval (Operand.tmp 105) = .slice B0 (t21).length d0 := e0_
    have x109 : (Pv.sl (Kd.int .u8) (t23)).V (get b 109) w1 := hp 10 109 (by kernel_rfl) rfl
    obtain ⟨B1, d1, e1_, hC1, hl1⟩ := x109
    have e1 : b.eval (Operand.tmp 109) = .slice B1 (t23).length d1 := e1_
    refine st_call rfl (want0 rfl _) rfl Try.func13 (by kernel_rfl) rfl #[.slice B0 (t21).length d0, .slice B1 (t23).length d1] (by simp only [List.map_toArray, List.map_cons, List.map_nil, e0, e1]) ?_
    refine (poly_Add.calls k B0 d0 _ B1 d1 _ _ w1 hC0 hl0 hC1 hl1 H23).mono ?_
    rintro e w2 ⟨v0_, rfl, ho0, hb2⟩
    exact ⟨_, rfl, Pv.of_sl ho0, hb2⟩
  case s12 =>
    intro b w1 hb hp hu
    have x110 : (Pv.sl (Kd.int .u8) (t24)).V (get b 110) w1 := hp 11 110 (by kernel_rfl) rfl
    exact st_string Try.underlying22 Try.underlying5 Try.underlying9 rfl (want0 rfl _) rfl x110 rfl
  case s13 =>
    intro b w1 hb hp hu
    have x101 : (Pv.is (.string (strOfNums (t19)))).V (get b 101) w1 := hp 2 101 (by kernel_rfl) rfl
    have x111 : (Pv.is (.string (strOfNums (t24)))).V (get b 111) w1 := hp 12 111 (by kernel_rfl) rfl
    exact st_bin (v := .bool true) (vx := .string (strOfNums (t19))) (vy := .string (strOfNums (t24))) rfl (want0 rfl _) rfl x101 x111 (by first | rfl | (have c_ := c1010; clear hb hp hu; go_simp; first | done | rfl | (simp [c_]; done) | (simp; omega))) rfl
  case s14 =>
    intro b w1 hb hp hu
    have x112 : (Pv.is (.bool true)).V (get b 112) w1 := hp 13 112 (by kernel_rfl) rfl
    exact st_assign rfl (want0 rfl _) rfl x112
  intro ac9 wo9 hn9 hd_ hb hv hs
  have g9_8 : (Pv.is (.bool true)).V (get ac9 8) wo9 := hv 14 8 rfl
  have hB9 := below_step hB8 hb
  have hd9 := hd_.trans hd8
  clear hv hs hd_ hb hB8 hn8 hd8 g8_98 g8_11 g8_8 g8_0 g8_1
  show Code.wp _ _ _ _ _
  refine wp_ret ?_
  repeat (refine then_ret ?_)
  exact back_is rfl hd9 g9_8 ⟨rfl, hB9⟩
set_option maxRecDepth 100000 in
set_option maxHeartbeats 4000000 in
theorem wristbandlaw08_PolyValues.way4 (k : Nat) (A0 : Option Addr) (c0 : Nat) (l0 : List Int) (A1 : Option Addr) (c1 : Nat) (l1 : List Int) (a2 : Int) (a3 : Int) (w : World) (hr0 : Kd.C (Kd.int .u8) w A0 l0.length l0) (hc0 : l0.length ≤ c0) (hr1 : Kd.C (Kd.int .u8) w A1 l1.length l1) (hc1 : l1.length ≤ c1) (H1 : wristbandlaw08_awake.ok k) (t1 : Int) (H2 : poly_Eval.f k (l0) (a2) = some t1) (t2 : Int) (H3 : poly_Eval.f k (l1) (a2) = some t2) (t3 : List Int) (H4 : poly_Mul.f k (l0) (l1) = some t3) (t4 : List Int) (H5 : poly_Add.f k (l0) (l1) = some t4) (t5 : Int) (H6 : poly_Eval.f k (t4) (a2) = some t5) (t6 : Int) (H7 : gf_Add.f (t1) (t2) = some t6) (t7 : Int) (H8 : poly_Eval.f k (t3) (a2) = some t7) (t8 : Int) (H9 : gf_Mul.f k (t1) (t2) = some t8) (t9 : List Int) (H10 : poly_Times.f k (l0) (a3) = some t9) (t10 : Int) (H11 : poly_Eval.f k (t9) (a2) = some t10) (t11 : Int) (H12 : gf_Mul.f k (a3) (t1) = some t11) (t12 : List Int) (t13 : List Int) (t14 : Int) (H13 : poly_Quo.f k (l0) (([a2, (1 : Int)] : List Int)) = some (t12, t13, t14)) (t15 : Int) (H14 : poly_Eval.f k (t13) ((0 : Int)) = some t15) (t16 : Int) (H15 : poly_Degree.f (l0) = some t16) (t17 : Int) (H16 : poly_Degree.f (l1) = some t17) (t18 : List Int) (H17 : poly_Slope.f k (t3) = some t18) (t19 : List Int) (H18 : poly_Slope.f k (l0) = some t19) (t20 : List Int) (H19 : poly_Mul.f k (t19) (l1) = some t20) (t21 : List Int) (H20 : poly_Slope.f k (l1) = some t21) (t22 : List Int) (H21 : poly_Mul.f k (l0) (t21) = some t22) (t23 : List Int) (H22 : poly_Add.f k (t20) (t22) = some t23) (c1000 : ¬ (((l0).length : Int) > (60 : Int))) (c1001 : ¬ (((l1).length : Int) > (60 : Int))) (c1002 : t5 = t6) (c1003 : t7 = t8) (c1004 : t10 = t11) (c1005 : t14 = (0 : Int)) (c1006 : t15 = t1) (c1007 : t16 ≥ (0 : Int)) (c1008 : ¬ (t17 ≥ (0 : Int))) (c1009 : (strOfNums (t18)).toList = (strOfNums (t23)).toList) :
    Calls Try.prog 5 #[.slice A0 l0.length c0, .slice A1 l1.length c1, .int .u8 a2, .int .u8 a3] w fun e w' => e = .returned (.bool true) ∧ Below w.heap.size w w' := by
  refine enter Try.func5 rfl (n := 113) rfl ?_
  intro ac0 hn0 hd0 ha
  have hB0 := Below.refl w.heap.size w
  have g0_0 : (Pv.sl (Kd.int .u8) (l0)).V (get ac0 0) w := by rw [ha 0 (by simp)]; exact ⟨A0, c0, rfl, hr0, hc0⟩
  have g0_1 : (Pv.sl (Kd.int .u8) (l1)).V (get ac0 1) w := by rw [ha 1 (by simp)]; exact ⟨A1, c1, rfl, hr1, hc1⟩
  have g0_2 : (Pv.is (.int .u8 (a2))).V (get ac0 2) w := by rw [ha 2 (by simp)]; exact rfl
  have g0_3 : (Pv.is (.int .u8 (a3))).V (get ac0 3) w := by rw [ha 3 (by simp)]; exact rfl
  clear ha
  refine wp_seq ?_
  refine Reg.plain (T := wristbandlaw08_PolyValues.T0) (D := wristbandlaw08_PolyValues.D0) (n := 113) (by kernel_rfl) hn0 (told [Pv.is (.bool false)]) (told_pst _) (owedS owed0 ?s0) ?_
  case s0 =>
    intro b w1 hb hp hu
    exact st_assign rfl (want0 rfl _) rfl rfl
  intro ac1 wo1 hn1 hd_ hb hv hs
  have g1_8 : (Pv.is (.bool false)).V (get ac1 8) wo1 := hv 0 8 rfl
  have g1_0 : (Pv.sl (Kd.int .u8) (l0)).V (get ac1 0) wo1 := Pv.keep _ g0_0 (hs 0 rfl) hb
  have g1_1 : (Pv.sl (Kd.int .u8) (l1)).V (get ac1 1) wo1 := Pv.keep _ g0_1 (hs 1 rfl) hb
  have g1_2 : (Pv.is (.int .u8 (a2))).V (get ac1 2) wo1 := Pv.keep _ g0_2 (hs 2 rfl) hb
  have g1_3 : (Pv.is (.int .u8 (a3))).V (get ac1 3) wo1 := Pv.keep _ g0_3 (hs 3 rfl) hb
  have hB1 := below_step hB0 hb
  have hd1 := hd_.trans hd0
  clear hv hs hd_ hb hB0 hn0 hd0 g0_0 g0_1 g0_2 g0_3
  show Code.wp _ _ _ _ _
  refine wp_seq ?_
  refine wp_seq ?_
  refine Reg.plain (T := wristbandlaw08_PolyValues.T1) (D := wristbandlaw08_PolyValues.D1) (n := 113) (by kernel_rfl) hn1 (told [Pv.is (.bool true), Pv.is (.bool false)]) (told_pst _) (owedS (owedS owed0 ?s0) ?s1) ?_
  case s0 =>
    intro b w1 hb hp hu
    refine st_call rfl (want0 rfl _) rfl Try.func9 (by kernel_rfl) rfl #[] (by simp) ?_
    refine (wristbandlaw08_awake.calls k  w1  H1).mono ?_
    rintro e w2 ⟨rfl, hb2⟩
    exact ⟨_, rfl, rfl, hb2⟩
  case s1 =>
    intro b w1 hb hp hu
    have x15 : (Pv.is (.bool true)).V (get b 15) w1 := hp 0 15 (by kernel_rfl) rfl
    exact st_un (v := .bool false) (vx := .bool true) rfl (want0 rfl _) rfl x15 (by first | rfl | (go_simp; first | done | rfl | (simp only [i64_w, i32_w]; done))) rfl
  intro ac2 wo2 hn2 hd_ hb hv hs
  have g2_16 : (Pv.is (.bool false)).V (get ac2 16) wo2 := hv 1 16 rfl
  have g2_8 : (Pv.is (.bool false)).V (get ac2 8) wo2 := Pv.keep _ g1_8 (hs 8 rfl) hb
  have g2_0 : (Pv.sl (Kd.int .u8) (l0)).V (get ac2 0) wo2 := Pv.keep _ g1_0 (hs 0 rfl) hb
  have g2_1 : (Pv.sl (Kd.int .u8) (l1)).V (get ac2 1) wo2 := Pv.keep _ g1_1 (hs 1 rfl) hb
  have g2_2 : (Pv.is (.int .u8 (a2))).V (get ac2 2) wo2 := Pv.keep _ g1_2 (hs 2 rfl) hb
  have g2_3 : (Pv.is (.int .u8 (a3))).V (get ac2 3) wo2 := Pv.keep _ g1_3 (hs 3 rfl) hb
  have hB2 := below_step hB1 hb
  have hd2 := hd_.trans hd1
  clear hv hs hd_ hb hB1 hn1 hd1 g1_8 g1_0 g1_1 g1_2 g1_3
  show Code.wp _ _ _ _ _
  refine wp_cond_false (show ac2.eval (Operand.tmp 16) = .bool false from g2_16) ?_
  refine wp_skip ?_
  show Code.wp _ _ _ _ _
  refine wp_seq ?_
  refine wp_seq ?_
  refine Reg.plain (T := wristbandlaw08_PolyValues.T3) (D := wristbandlaw08_PolyValues.D3) (n := 113) (by kernel_rfl) hn2 (told [Pv.sl (Kd.int .u8) (l0), Pv.is (.int .i64 (((l0).length : Int))), Pv.is (.bool false), Pv.is (.bool false), Pv.sl (Kd.int .u8) (l1), Pv.is (.int .i64 (((l1).length : Int))), Pv.is (.bool false), Pv.is (.bool false)]) (told_pst _) (owedS (owedS (owedS (owedS (owedS (owedS (owedS (owedS owed0 ?s0) ?s1) ?s2) ?s3) ?s4) ?s5) ?s6) ?s7) ?_
  case s0 =>
    intro b w1 hb hp hu
    have x0 : (Pv.sl (Kd.int .u8) (l0)).V (get b 0) w1 := Pv.keep _ g2_0 (hu 0 (by kernel_rfl)) hb
    exact st_move rfl (want0 rfl _) rfl x0
  case s1 =>
    intro b w1 hb hp hu
    have x17 : (Pv.sl (Kd.int .u8) (l0)).V (get b 17) w1 := hp 0 17 (by kernel_rfl) rfl
    obtain ⟨A_, c_, e_, _, _⟩ := x17
    exact st_len rfl (want0 rfl _) rfl Try.underlying22 e_ rfl
  case s2 =>
    intro b w1 hb hp hu
    have x18 : (Pv.is (.int .i64 (((l0).length : Int)))).V (get b 18) w1 := hp 1 18 (by kernel_rfl) rfl
    exact st_bin (v := .bool false) (vx := .int .i64 (((l0).length : Int))) (vy := .int .i64 ((60 : Int))) rfl (want0 rfl _) rfl x18 rfl (by first | rfl | (have c_ := c1000; refine Eq.trans (b := Result.ok (.bool decide ((((l0).length : Int)) > ((60 : Int)))) w1) rfl ?_; rw [show decide ((((l0).length : Int)) > ((60 : Int))) = false from decide_eq_false c_]) | (have c_ := c1000; clear hb hp hu; go_simp; first | done | rfl | (simp [c_]; done) | (simp; omega))) rfl
  case s3 =>
    intro b w1 hb hp hu
    have x19 : (Pv.is (.bool false)).V (get b 19) w1 := hp 2 19 (by kernel_rfl) rfl
    exact st_move rfl (want0 rfl _) rfl x19
  case s4 =>
    intro b w1 hb hp hu
    have x20 : (Pv.is (.bool false)).V (get b 20) w1 := hp 3 20 (by kernel_rfl) rfl
    have x1 : (Pv.sl (Kd.int .u8) (l1)).V (get b 1) w1 := Pv.keep _ g2_1 (hu 1 (by kernel_rfl)) hb
    exact st_move rfl ((want_is (N := 20) rfl rfl x20).trans rfl) rfl x1
  case s5 =>
    intro b w1 hb hp hu
    have x20 : (Pv.is (.bool false)).V (get b 20) w1 := hp 3 20 (by kernel_rfl) rfl
    have x21 : (Pv.sl (Kd.int .u8) (l1)).V (get b 21) w1 := hp 4 21 (by kernel_rfl) rfl
    obtain ⟨A_, c_, e_, _, _⟩ := x21
    exact st_len rfl ((want_is (N := 20) rfl rfl x20).trans rfl) rfl Try.underlying22 e_ rfl
  case s6 =>
    intro b w1 hb hp hu
    have x20 : (Pv.is (.bool false)).V (get b 20) w1 := hp 3 20 (by kernel_rfl) rfl
    have x22 : (Pv.is (.int .i64 (((l1).length : Int)))).V (get b 22) w1 := hp 5 22 (by kernel_rfl) rfl
    exact st_bin (v := .bool false) (vx := .int .i64 (((l1).length : Int))) (vy := .int .i64 ((60 : Int))) rfl ((want_is (N := 20) rfl rfl x20).trans rfl) rfl x22 rfl (by first | rfl | (have c_ := c1001; refine Eq.trans (b := Result.ok (.bool decide ((((l1).length : Int)) > ((60 : Int)))) w1) rfl ?_; rw [show decide ((((l1).length : Int)) > ((60 : Int))) = false from decide_eq_false c_]) | (have c_ := c1001; clear hb hp hu; go_simp; first | done | rfl | (simp [c_]; done) | (simp; omega))) rfl
  case s7 =>
    intro b w1 hb hp hu
    have x20 : (Pv.is (.bool false)).V (get b 20) w1 := hp 3 20 (by kernel_rfl) rfl
    have x23 : (Pv.is (.bool false)).V (get b 23) w1 := hp 6 23 (by kernel_rfl) rfl
    exact st_pick (b := false) rfl (want0 rfl _) rfl x20 x23
  intro ac3 wo3 hn3 hd_ hb hv hs
  have g3_24 : (Pv.is (.bool false)).V (get ac3 24) wo3 := hv 7 24 rfl
  have g3_8 : (Pv.is (.bool false)).V (get ac3 8) wo3 := Pv.keep _ g2_8 (hs 8 rfl) hb
  have g3_0 : (Pv.sl (Kd.int .u8) (l0)).V (get ac3 0) wo3 := Pv.keep _ g2_0 (hs 0 rfl) hb
  have g3_1 : (Pv.sl (Kd.int .u8) (l1)).V (get ac3 1) wo3 := Pv.keep _ g2_1 (hs 1 rfl) hb
  have g3_2 : (Pv.is (.int .u8 (a2))).V (get ac3 2) wo3 := Pv.keep _ g2_2 (hs 2 rfl) hb
  have g3_3 : (Pv.is (.int .u8 (a3))).V (get ac3 3) wo3 := Pv.keep _ g2_3 (hs 3 rfl) hb
  have hB3 := below_step hB2 hb
  have hd3 := hd_.trans hd2
  clear hv hs hd_ hb hB2 hn2 hd2 g2_16 g2_8 g2_0 g2_1 g2_2 g2_3
  show Code.wp _ _ _ _ _
  refine wp_cond_false (show ac3.eval (Operand.tmp 24) = .bool false from g3_24) ?_
  refine wp_skip ?_
  show Code.wp _ _ _ _ _
  refine wp_seq ?_
  refine Reg.plain (T := wristbandlaw08_PolyValues.T5) (D := wristbandlaw08_PolyValues.D5) (n := 113) (by kernel_rfl) hn3 (told [Pv.sl (Kd.int .u8) (l0), Pv.is (.int .u8 (a2)), Pv.is (.int .u8 (t1)), Pv.sl (Kd.int .u8) (l1), Pv.is (.int .u8 (a2)), Pv.is (.int .u8 (t2)), Pv.is (.int .u8 (t1)), Pv.is (.int .u8 (t2))]) (told_pst _) (owedS (owedS (owedS (owedS (owedS (owedS (owedS (owedS owed0 ?s0) ?s1) ?s2) ?s3) ?s4) ?s5) ?s6) ?s7) ?_
  case s0 =>
    intro b w1 hb hp hu
    have x0 : (Pv.sl (Kd.int .u8) (l0)).V (get b 0) w1 := Pv.keep _ g3_0 (hu 0 (by kernel_rfl)) hb
    exact st_move rfl (want0 rfl _) rfl x0
  case s1 =>
    intro b w1 hb hp hu
    have x2 : (Pv.is (.int .u8 (a2))).V (get b 2) w1 := Pv.keep _ g3_2 (hu 2 (by kernel_rfl)) hb
    exact st_move rfl (want0 rfl _) rfl x2
  case s2 =>
    intro b w1 hb hp hu
    have x25 : (Pv.sl (Kd.int .u8) (l0)).V (get b 25) w1 := hp 0 25 (by kernel_rfl) rfl
    obtain ⟨B0, d0, e0_, hC0, hl0⟩ := x25
    have e0 : b.eval (Operand.tmp 25) = .slice B0 (l0).length d0 := e0_
    have x26 : (Pv.is (.int .u8 (a2))).V (get b 26) w1 := hp 1 26 (by kernel_rfl) rfl
    have e1 : b.eval (Operand.tmp 26) = .int .u8 (a2) := x26
    refine st_call rfl (want0 rfl _) rfl Try.func19 (by kernel_rfl) rfl #[.slice B0 (l0).length d0, .int .u8 (a2)] (by simp only [List.map_toArray, List.map_cons, List.map_nil, e0, e1]) ?_
    refine (poly_Eval.calls k B0 d0 _ _ _ w1 hC0 hl0 H2).mono ?_
    rintro e w2 ⟨rfl, hb2⟩
    exact ⟨_, rfl, rfl, hb2⟩
  case s3 =>
    intro b w1 hb hp hu
    have x1 : (Pv.sl (Kd.int .u8) (l1)).V (get b 1) w1 := Pv.keep _ g3_1 (hu 1 (by kernel_rfl)) hb
    exact st_move rfl (want0 rfl _) rfl x1
  case s4 =>
    intro b w1 hb hp hu
    have x2 : (Pv.is (.int .u8 (a2))).V (get b 2) w1 := Pv.keep _ g3_2 (hu 2 (by kernel_rfl)) hb
    exact st_move rfl (want0 rfl _) rfl x2
  case s5 =>
    intro b w1 hb hp hu
    have x28 : (Pv.sl (Kd.int .u8) (l1)).V (get b 28) w1 := hp 3 28 (by kernel_rfl) rfl
    obtain ⟨B0, d0, e0_, hC0, hl0⟩ := x28
    have e0 : b.eval (Operand.tmp 28) = .slice B0 (l1).length d0 := e0_
    have x29 : (Pv.is (.int .u8 (a2))).V (get b 29) w1 := hp 4 29 (by kernel_rfl) rfl
    have e1 : b.eval (Operand.tmp 29) = .int .u8 (a2) := x29
    refine st_call rfl (want0 rfl _) rfl Try.func19 (by kernel_rfl) rfl #[.slice B0 (l1).length d0, .int .u8 (a2)] (by simp only [List.map_toArray, List.map_cons, List.map_nil, e0, e1]) ?_
    refine (poly_Eval.calls k B0 d0 _ _ _ w1 hC0 hl0 H3).mono ?_
    rintro e w2 ⟨rfl, hb2⟩
    exact ⟨_, rfl, rfl, hb2⟩
  case s6 =>
    intro b w1 hb hp hu
    have x27 : (Pv.is (.int .u8 (t1))).V (get b 27) w1 := hp 2 27 (by kernel_rfl) rfl
    exact st_assign rfl (want0 rfl _) rfl x27
  case s7 =>
    intro b w1 hb hp hu
    have x30 : (Pv.is (.int .u8 (t2))).V (get b 30) w1 := hp 5 30 (by kernel_rfl) rfl
    exact st_assign rfl (want0 rfl _) rfl x30
  intro ac4 wo4 hn4 hd_ hb hv hs
  have g4_9 : (Pv.is (.int .u8 (t1))).V (get ac4 9) wo4 := hv 6 9 rfl
  have g4_10 : (Pv.is (.int .u8 (t2))).V (get ac4 10) wo4 := hv 7 10 rfl
  have g4_8 : (Pv.is (.bool false)).V (get ac4 8) wo4 := Pv.keep _ g3_8 (hs 8 rfl) hb
  have g4_0 : (Pv.sl (Kd.int .u8) (l0)).V (get ac4 0) wo4 := Pv.keep _ g3_0 (hs 0 rfl) hb
  have g4_1 : (Pv.sl (Kd.int .u8) (l1)).V (get ac4 1) wo4 := Pv.keep _ g3_1 (hs 1 rfl) hb
  have g4_2 : (Pv.is (.int .u8 (a2))).V (get ac4 2) wo4 := Pv.keep _ g3_2 (hs 2 rfl) hb
  have g4_3 : (Pv.is (.int .u8 (a3))).V (get ac4 3) wo4 := Pv.keep _ g3_3 (hs 3 rfl) hb
  have hB4 := below_step hB3 hb
  have hd4 := hd_.trans hd3
  clear hv hs hd_ hb hB3 hn3 hd3 g3_24 g3_8 g3_0 g3_1 g3_2 g3_3
  show Code.wp _ _ _ _ _
  refine wp_seq ?_
  refine Reg.plain (T := wristbandlaw08_PolyValues.T6) (D := wristbandlaw08_PolyValues.D6) (n := 113) (by kernel_rfl) hn4 (told [Pv.sl (Kd.int .u8) (l0), Pv.sl (Kd.int .u8) (l1), Pv.sl (Kd.int .u8) (t3), Pv.sl (Kd.int .u8) (t3)]) (told_pst _) (owedS (owedS (owedS (owedS owed0 ?s0) ?s1) ?s2) ?s3) ?_
  case s0 =>
    intro b w1 hb hp hu
    have x0 : (Pv.sl (Kd.int .u8) (l0)).V (get b 0) w1 := Pv.keep _ g4_0 (hu 0 (by kernel_rfl)) hb
    exact st_move rfl (want0 rfl _) rfl x0
  case s1 =>
    intro b w1 hb hp hu
    have x1 : (Pv.sl (Kd.int .u8) (l1)).V (get b 1) w1 := Pv.keep _ g4_1 (hu 1 (by kernel_rfl)) hb
    exact st_move rfl (want0 rfl _) rfl x1
  case s2 =>
    intro b w1 hb hp hu
    have x31 : (Pv.sl (Kd.int .u8) (l0)).V (get b 31) w1 := hp 0 31 (by kernel_rfl) rfl
    obtain ⟨B0, d0, e0_, hC0, hl0⟩ := x31
    have e0 : b.eval (Operand.tmp 31) = .slice B0 (l0).length d0 := e0_
    have x32 : (Pv.sl (Kd.int .u8) (l1)).V (get b 32) w1 := hp 1 32 (by kernel_rfl) rfl
    obtain ⟨B1, d1, e1_, hC1, hl1⟩ := x32
    have e1 : b.eval (Operand.tmp 32) = .slice B1 (l1).length d1 := e1_
    refine st_call rfl (want0 rfl _) rfl Try.func15 (by kernel_rfl) rfl #[.slice B0 (l0).length d0, .slice B1 (l1).length d1] (by simp only [List.map_toArray, List.map_cons, List.map_nil, e0, e1]) ?_
    refine (poly_Mul.calls k B0 d0 _ B1 d1 _ _ w1 hC0 hl0 hC1 hl1 H4).mono ?_
    rintro e w2 ⟨v0_, rfl, ho0, hb2⟩
    exact ⟨_, rfl, Pv.of_sl ho0, hb2⟩
  case s3 =>
    intro b w1 hb hp hu
    have x33 : (Pv.sl (Kd.int .u8) (t3)).V (get b 33) w1 := hp 2 33 (by kernel_rfl) rfl
    exact st_assign rfl (want0 rfl _) rfl x33
  intro ac5 wo5 hn5 hd_ hb hv hs
  have g5_11 : (Pv.sl (Kd.int .u8) (t3)).V (get ac5 11) wo5 := hv 3 11 rfl
  have g5_9 : (Pv.is (.int .u8 (t1))).V (get ac5 9) wo5 := Pv.keep _ g4_9 (hs 9 rfl) hb
  have g5_10 : (Pv.is (.int .u8 (t2))).V (get ac5 10) wo5 := Pv.keep _ g4_10 (hs 10 rfl) hb
  have g5_8 : (Pv.is (.bool false)).V (get ac5 8) wo5 := Pv.keep _ g4_8 (hs 8 rfl) hb
  have g5_0 : (Pv.sl (Kd.int .u8) (l0)).V (get ac5 0) wo5 := Pv.keep _ g4_0 (hs 0 rfl) hb
  have g5_1 : (Pv.sl (Kd.int .u8) (l1)).V (get ac5 1) wo5 := Pv.keep _ g4_1 (hs 1 rfl) hb
  have g5_2 : (Pv.is (.int .u8 (a2))).V (get ac5 2) wo5 := Pv.keep _ g4_2 (hs 2 rfl) hb
  have g5_3 : (Pv.is (.int .u8 (a3))).V (get ac5 3) wo5 := Pv.keep _ g4_3 (hs 3 rfl) hb
  have hB5 := below_step hB4 hb
  have hd5 := hd_.trans hd4
  clear hv hs hd_ hb hB4 hn4 hd4 g4_9 g4_10 g4_8 g4_0 g4_1 g4_2 g4_3
  show Code.wp _ _ _ _ _
  refine wp_seq ?_
  refine wp_seq ?_
  refine Reg.plain (T := wristbandlaw08_PolyValues.T7) (D := wristbandlaw08_PolyValues.D7) (n := 113) (by kernel_rfl) hn5 (told [Pv.sl (Kd.int .u8) (l0), Pv.sl (Kd.int .u8) (l1), Pv.sl (Kd.int .u8) (t4), Pv.is (.int .u8 (a2)), Pv.is (.int .u8 (t5)), Pv.is (.int .u8 (t1)), Pv.is (.int .u8 (t2)), Pv.is (.int .u8 (t6)), Pv.is (.bool false), Pv.is (.bool false), Pv.sl (Kd.int .u8) (t3), Pv.is (.int .u8 (a2)), Pv.is (.int .u8 (t7)), Pv.is (.int .u8 (t1)), Pv.is (.int .u8 (t2)), Pv.is (.int .u8 (t8)), Pv.is (.bool false), Pv.is (.bool false), Pv.is (.bool false), Pv.sl (Kd.int .u8) (l0), Pv.is (.int .u8 (a3)), Pv.sl (Kd.int .u8) (t9), Pv.is (.int .u8 (a2)), Pv.is (.int .u8 (t10)), Pv.is (.int .u8 (a3)), Pv.is (.int .u8 (t1)), Pv.is (.int .u8 (t11)), Pv.is (.bool false), Pv.is (.bool false)]) (told_pst _) (owedS (owedS (owedS (owedS (owedS (owedS (owedS (owedS (owedS (owedS (owedS (owedS (owedS (owedS (owedS (owedS (owedS (owedS (owedS (owedS (owedS (owedS (owedS (owedS (owedS (owedS (owedS (owedS (owedS owed0 ?s0) ?s1) ?s2) ?s3) ?s4) ?s5) ?s6) ?s7) ?s8) ?s9) ?s10) ?s11) ?s12) ?s13) ?s14) ?s15) ?s16) ?s17) ?s18) ?s19) ?s20) ?s21) ?s22) ?s23) ?s24) ?s25) ?s26) ?s27) ?s28) ?_
  case s0 =>
    intro b w1 hb hp hu
    have x0 : (Pv.sl (Kd.int .u8) (l0)).V (get b 0) w1 := Pv.keep _ g5_0 (hu 0 (by kernel_rfl)) hb
    exact st_move rfl (want0 rfl _) rfl x0
  case s1 =>
    intro b w1 hb hp hu
    have x1 : (Pv.sl (Kd.int .u8) (l1)).V (get b 1) w1 := Pv.keep _ g5_1 (hu 1 (by kernel_rfl)) hb
    exact st_move rfl (want0 rfl _) rfl x1
  case s2 =>
    intro b w1 hb hp hu
    have x34 : (Pv.sl (Kd.int .u8) (l0)).V (get b 34) w1 := hp 0 34 (by kernel_rfl) rfl
    obtain ⟨B0, d0, e0_, hC0, hl0⟩ := x34
    have e0 : b.eval (Operand.tmp 34) = .slice B0 (l0).length d0 := e0_
    have x35 : (Pv.sl (Kd.int .u8) (l1)).V (get b 35) w1 := hp 1 35 (by kernel_rfl) rfl
    obtain ⟨B1, d1, e1_, hC1, hl1⟩ := x35
    have e1 : b.eval (Operand.tmp 35) = .slice B1 (l1).length d1 := e1_
    refine st_call rfl (want0 rfl _) rfl Try.func13 (by kernel_rfl) rfl #[.slice B0 (l0).length d0, .slice B1 (l1).length d1] (by simp only [List.map_toArray, List.map_cons, List.map_nil, e0, e1]) ?_
    refine (poly_Add.calls k B0 d0 _ B1 d1 _ _ w1 hC0 hl0 hC1 hl1 H5).mono ?_
    rintro e w2 ⟨v0_, rfl, ho0, hb2⟩
    exact ⟨_, rfl, Pv.of_sl ho0, hb2⟩
  case s3 =>
    intro b w1 hb hp hu
    have x2 : (Pv.is (.int .u8 (a2))).V (get b 2) w1 := Pv.keep _ g5_2 (hu 2 (by kernel_rfl)) hb
    exact st_move rfl (want0 rfl _) rfl x2
  case s4 =>
    intro b w1 hb hp hu
    have x36 : (Pv.sl (Kd.int .u8) (t4)).V (get b 36) w1 := hp 2 36 (by kernel_rfl) rfl
    obtain ⟨B0, d0, e0_, hC0, hl0⟩ := x36
    have e0 : b.eval (Operand.tmp 36) = .slice B0 (t4).length d0 := e0_
    have x37 : (Pv.is (.int .u8 (a2))).V (get b 37) w1 := hp 3 37 (by kernel_rfl) rfl
    have e1 : b.eval (Operand.tmp 37) = .int .u8 (a2) := x37
    refine st_call rfl (want0 rfl _) rfl Try.func19 (by kernel_rfl) rfl #[.slice B0 (t4).length d0, .int .u8 (a2)] (by simp only [List.map_toArray, List.map_cons, List.map_nil, e0, e1]) ?_
    refine (poly_Eval.calls k B0 d0 _ _ _ w1 hC0 hl0 H6).mono ?_
    rintro e w2 ⟨rfl, hb2⟩
    exact ⟨_, rfl, rfl, hb2⟩
  case s5 =>
    intro b w1 hb hp hu
    have x9 : (Pv.is (.int .u8 (t1))).V (get b 9) w1 := Pv.keep _ g5_9 (hu 9 (by kernel_rfl)) hb
    exact st_move rfl (want0 rfl _) rfl x9
  case s6 =>
    intro b w1 hb hp hu
    have x10 : (Pv.is (.int .u8 (t2))).V (get b 10) w1 := Pv.keep _ g5_10 (hu 10 (by kernel_rfl)) hb
    exact st_move rfl (want0 rfl _) rfl x10
  case s7 =>
    intro b w1 hb hp hu
    have x39 : (Pv.is (.int .u8 (t1))).V (get b 39) w1 := hp 5 39 (by kernel_rfl) rfl
    have e0 : b.eval (Operand.tmp 39) = .int .u8 (t1) := x39
    have x40 : (Pv.is (.int .u8 (t2))).V (get b 40) w1 := hp 6 40 (by kernel_rfl) rfl
    have e1 : b.eval (Operand.tmp 40) = .int .u8 (t2) := x40
    refine st_call rfl (want0 rfl _) rfl Try.func25 (by kernel_rfl) rfl #[.int .u8 (t1), .int .u8 (t2)] (by simp only [List.map_toArray, List.map_cons, List.map_nil, e0, e1]) ?_
    refine (gf_Add.calls _ _ _ w1  H7).mono ?_
    rintro e w2 ⟨rfl, hb2⟩
    exact ⟨_, rfl, rfl, (below_of_drawn hb2)⟩
  case s8 =>
    intro b w1 hb hp hu
    have x38 : (Pv.is (.int .u8 (t5))).V (get b 38) w1 := hp 4 38 (by kernel_rfl) rfl
    have x41 : (Pv.is (.int .u8 (t6))).V (get b 41) w1 := hp 7 41 (by kernel_rfl) rfl
    exact st_bin (v := .bool false) (vx := .int .u8 (t5)) (vy := .int .u8 (t6)) rfl (want0 rfl _) rfl x38 x41 (by first | rfl | (have c_ := c1002; refine Eq.trans (b := Result.ok (.bool ((t5) != (t6))) w1) rfl ?_; rw [show ((t5) != (t6)) = false from bne_eq_false_iff_eq.mpr c_]) | (have c_ := c1002; clear hb hp hu; go_simp; first | done | rfl | (simp [c_]; done) | (simp; omega))) rfl
  case s9 =>
    intro b w1 hb hp hu
    have x42 : (Pv.is (.bool false)).V (get b 42) w1 := hp 8 42 (by kernel_rfl) rfl
    exact st_move rfl (want0 rfl _) rfl x42
  case s10 =>
    intro b w1 hb hp hu
    have x43 : (Pv.is (.bool false)).V (get b 43) w1 := hp 9 43 (by kernel_rfl) rfl
    have x11 : (Pv.sl (Kd.int .u8) (t3)).V (get b 11) w1 := Pv.keep _ g5_11 (hu 11 (by kernel_rfl)) hb
    exact st_move rfl ((want_is (N := 43) rfl rfl x43).trans rfl) rfl x11
  case s11 =>
    intro b w1 hb hp hu
    have x43 : (Pv.is (.bool false)).V (get b 43) w1 := hp 9 43 (by kernel_rfl) rfl
    have x2 : (Pv.is (.int .u8 (a2))).V (get b 2) w1 := Pv.keep _ g5_2 (hu 2 (by kernel_rfl)) hb
    exact st_move rfl ((want_is (N := 43) rfl rfl x43).trans rfl) rfl x2
  case s12 =>
    intro b w1 hb hp hu
    have x43 : (Pv.is (.bool false)).V (get b 43) w1 := hp 9 43 (by kernel_rfl) rfl
    have x44 : (Pv.sl (Kd.int .u8) (t3)).V (get b 44) w1 := hp 10 44 (by kernel_rfl) rfl
    obtain ⟨B0, d0, e0_, hC0, hl0⟩ := x44
    have e0 : b.eval (Operand.tmp 44) = .slice B0 (t3).length d0 := e0_
    have x45 : (Pv.is (.int .u8 (a2))).V (get b 45) w1 := hp 11 45 (by kernel_rfl) rfl
    have e1 : b.eval (Operand.tmp 45) = .int .u8 (a2) := x45
    refine st_call rfl ((want_is (N := 43) rfl rfl x43).trans rfl) rfl Try.func19 (by kernel_rfl) rfl #[.slice B0 (t3).length d0, .int .u8 (a2)] (by simp only [List.map_toArray, List.map_cons, List.map_nil, e0, e1]) ?_
    refine (poly_Eval.calls k B0 d0 _ _ _ w1 hC0 hl0 H8).mono ?_
    rintro e w2 ⟨rfl, hb2⟩
    exact ⟨_, rfl, rfl, hb2⟩
  case s13 =>
    intro b w1 hb hp hu
    have x43 : (Pv.is (.bool false)).V (get b 43) w1 := hp 9 43 (by kernel_rfl) rfl
    have x9 : (Pv.is (.int .u8 (t1))).V (get b 9) w1 := Pv.keep _ g5_9 (hu 9 (by kernel_rfl)) hb
    exact st_move rfl ((want_is (N := 43) rfl rfl x43).trans rfl) rfl x9
  case s14 =>
    intro b w1 hb hp hu
    have x43 : (Pv.is (.bool false)).V (get b 43) w1 := hp 9 43 (by kernel_rfl) rfl
    have x10 : (Pv.is (.int .u8 (t2))).V (get b 10) w1 := Pv.keep _ g5_10 (hu 10 (by kernel_rfl)) hb
    exact st_move rfl ((want_is (N := 43) rfl rfl x43).trans rfl) rfl x10
  case s15 =>
    intro b w1 hb hp hu
    have x43 : (Pv.is (.bool false)).V (get b 43) w1 := hp 9 43 (by kernel_rfl) rfl
    have x47 : (Pv.is (.int .u8 (t1))).V (get b 47) w1 := hp 13 47 (by kernel_rfl) rfl
    have e0 : b.eval (Operand.tmp 47) = .int .u8 (t1) := x47
    have x48 : (Pv.is (.int .u8 (t2))).V (get b 48) w1 := hp 14 48 (by kernel_rfl) rfl
    have e1 : b.eval (Operand.tmp 48) = .int .u8 (t2) := x48
    refine st_call rfl ((want_is (N := 43) rfl rfl x43).trans rfl) rfl Try.func26 (by kernel_rfl) rfl #[.int .u8 (t1), .int .u8 (t2)] (by simp only [List.map_toArray, List.map_cons, List.map_nil, e0, e1]) ?_
    refine (gf_Mul.calls k _ _ _ w1  H9).mono ?_
    rintro e w2 ⟨rfl, hb2⟩
    exact ⟨_, rfl, rfl, (below_of_drawn hb2)⟩
  case s16 =>
    intro b w1 hb hp hu
    have x43 : (Pv.is (.bool false)).V (get b 43) w1 := hp 9 43 (by kernel_rfl) rfl
    have x46 : (Pv.is (.int .u8 (t7))).V (get b 46) w1 := hp 12 46 (by kernel_rfl) rfl
    have x49 : (Pv.is (.int .u8 (t8))).V (get b 49) w1 := hp 15 49 (by kernel_rfl) rfl
    exact st_bin (v := .bool false) (vx := .int .u8 (t7)) (vy := .int .u8 (t8)) rfl ((want_is (N := 43) rfl rfl x43).trans rfl) rfl x46 x49 (by first | rfl | (have c_ := c1003; refine Eq.trans (b := Result.ok (.bool ((t7) != (t8))) w1) rfl ?_; rw [show ((t7) != (t8)) = false from bne_eq_false_iff_eq.mpr c_]) | (have c_ := c1003; clear hb hp hu; go_simp; first | done | rfl | (simp [c_]; done) | (simp; omega))) rfl
  case s17 =>
    intro b w1 hb hp hu
    have x43 : (Pv.is (.bool false)).V (get b 43) w1 := hp 9 43 (by kernel_rfl) rfl
    have x50 : (Pv.is (.bool false)).V (get b 50) w1 := hp 16 50 (by kernel_rfl) rfl
    exact st_pick (b := false) rfl (want0 rfl _) rfl x43 x50
  case s18 =>
    intro b w1 hb hp hu
    have x51 : (Pv.is (.bool false)).V (get b 51) w1 := hp 17 51 (by kernel_rfl) rfl
    exact st_move rfl (want0 rfl _) rfl x51
  case s19 =>
    intro b w1 hb hp hu
    have x52 : (Pv.is (.bool false)).V (get b 52) w1 := hp 18 52 (by kernel_rfl) rfl
    have x0 : (Pv.sl (Kd.int .u8) (l0)).V (get b 0) w1 := Pv.keep _ g5_0 (hu 0 (by kernel_rfl)) hb
    exact st_move rfl ((want_is (N := 52) rfl rfl x52).trans rfl) rfl x0
  case s20 =>
    intro b w1 hb hp hu
    have x52 : (Pv.is (.bool false)).V (get b 52) w1 := hp 18 52 (by kernel_rfl) rfl
    have x3 : (Pv.is (.int .u8 (a3))).V (get b 3) w1 := Pv.keep _ g5_3 (hu 3 (by kernel_rfl)) hb
    exact st_move rfl ((want_is (N := 52) rfl rfl x52).trans rfl) rfl x3
  case s21 =>
    intro b w1 hb hp hu
    have x52 : (Pv.is (.bool false)).V (get b 52) w1 := hp 18 52 (by kernel_rfl) rfl
    have x53 : (Pv.sl (Kd.int .u8) (l0)).V (get b 53) w1 := hp 19 53 (by kernel_rfl) rfl
    obtain ⟨B0, d0, e0_, hC0, hl0⟩ := x53
    have e0 : b.eval (Operand.tmp 53) = .slice B0 (l0).length d0 := e0_
    have x54 : (Pv.is (.int .u8 (a3))).V (get b 54) w1 := hp 20 54 (by kernel_rfl) rfl
    have e1 : b.eval (Operand.tmp 54) = .int .u8 (a3) := x54
    refine st_call rfl ((want_is (N := 52) rfl rfl x52).trans rfl) rfl Try.func17 (by kernel_rfl) rfl #[.slice B0 (l0).length d0, .int .u8 (a3)] (by simp only [List.map_toArray, List.map_cons, List.map_nil, e0, e1]) ?_
    refine (poly_Times.calls k B0 d0 _ _ _ w1 hC0 hl0 H10).mono ?_
    rintro e w2 ⟨v0_, rfl, ho0, hb2⟩
    exact ⟨_, rfl, Pv.of_sl ho0, hb2⟩
  case s22 =>
    intro b w1 hb hp hu
    have x52 : (Pv.is (.bool false)).V (get b 52) w1 := hp 18 52 (by kernel_rfl) rfl
    have x2 : (Pv.is (.int .u8 (a2))).V (get b 2) w1 := Pv.keep _ g5_2 (hu 2 (by kernel_rfl)) hb
    exact st_move rfl ((want_is (N := 52) rfl rfl x52).trans rfl) rfl x2
  case s23 =>
    intro b w1 hb hp hu
    have x52 : (Pv.is (.bool false)).V (get b 52) w1 := hp 18 52 (by kernel_rfl) rfl
    have x55 : (Pv.sl (Kd.int .u8) (t9)).V (get b 55) w1 := hp 21 55 (by kernel_rfl) rfl
    obtain ⟨B0, d0, e0_, hC0, hl0⟩ := x55
    have e0 : b.eval (Operand.tmp 55) = .slice B0 (t9).length d0 := e0_
    have x56 : (Pv.is (.int .u8 (a2))).V (get b 56) w1 := hp 22 56 (by kernel_rfl) rfl
    have e1 : b.eval (Operand.tmp 56) = .int .u8 (a2) := x56
    refine st_call rfl ((want_is (N := 52) rfl rfl x52).trans rfl) rfl Try.func19 (by kernel_rfl) rfl #[.slice B0 (t9).length d0, .int .u8 (a2)] (by simp only [List.map_toArray, List.map_cons, List.map_nil, e0, e1]) ?_
    refine (poly_Eval.calls k B0 d0 _ _ _ w1 hC0 hl0 H11).mono ?_
    rintro e w2 ⟨rfl, hb2⟩
    exact ⟨_, rfl, rfl, hb2⟩
  case s24 =>
    intro b w1 hb hp hu
    have x52 : (Pv.is (.bool false)).V (get b 52) w1 := hp 18 52 (by kernel_rfl) rfl
    have x3 : (Pv.is (.int .u8 (a3))).V (get b 3) w1 := Pv.keep _ g5_3 (hu 3 (by kernel_rfl)) hb
    exact st_move rfl ((want_is (N := 52) rfl rfl x52).trans rfl) rfl x3
  case s25 =>
    intro b w1 hb hp hu
    have x52 : (Pv.is (.bool false)).V (get b 52) w1 := hp 18 52 (by kernel_rfl) rfl
    have x9 : (Pv.is (.int .u8 (t1))).V (get b 9) w1 := Pv.keep _ g5_9 (hu 9 (by kernel_rfl)) hb
    exact st_move rfl ((want_is (N := 52) rfl rfl x52).trans rfl) rfl x9
  case s26 =>
    intro b w1 hb hp hu
    have x52 : (Pv.is (.bool false)).V (get b 52) w1 := hp 18 52 (by kernel_rfl) rfl
    have x58 : (Pv.is (.int .u8 (a3))).V (get b 58) w1 := hp 24 58 (by kernel_rfl) rfl
    have e0 : b.eval (Operand.tmp 58) = .int .u8 (a3) := x58
    have x59 : (Pv.is (.int .u8 (t1))).V (get b 59) w1 := hp 25 59 (by kernel_rfl) rfl
    have e1 : b.eval (Operand.tmp 59) = .int .u8 (t1) := x59
    refine st_call rfl ((want_is (N := 52) rfl rfl x52).trans rfl) rfl Try.func26 (by kernel_rfl) rfl #[.int .u8 (a3), .int .u8 (t1)] (by simp only [List.map_toArray, List.map_cons, List.map_nil, e0, e1]) ?_
    refine (gf_Mul.calls k _ _ _ w1  H12).mono ?_
    rintro e w2 ⟨rfl, hb2⟩
    exact ⟨_, rfl, rfl, (below_of_drawn hb2)⟩
  case s27 =>
    intro b w1 hb hp hu
    have x52 : (Pv.is (.bool false)).V (get b 52) w1 := hp 18 52 (by kernel_rfl) rfl
    have x57 : (Pv.is (.int .u8 (t10))).V (get b 57) w1 := hp 23 57 (by kernel_rfl) rfl
    have x60 : (Pv.is (.int .u8 (t11))).V (get b 60) w1 := hp 26 60 (by kernel_rfl) rfl
    exact st_bin (v := .bool false) (vx := .int .u8 (t10)) (vy := .int .u8 (t11)) rfl ((want_is (N := 52) rfl rfl x52).trans rfl) rfl x57 x60 (by first | rfl | (have c_ := c1004; refine Eq.trans (b := Result.ok (.bool ((t10) != (t11))) w1) rfl ?_; rw [show ((t10) != (t11)) = false from bne_eq_false_iff_eq.mpr c_]) | (have c_ := c1004; clear hb hp hu; go_simp; first | done | rfl | (simp [c_]; done) | (simp; omega))) rfl
  case s28 =>
    intro b w1 hb hp hu
    have x52 : (Pv.is (.bool false)).V (get b 52) w1 := hp 18 52 (by kernel_rfl) rfl
    have x61 : (Pv.is (.bool false)).V (get b 61) w1 := hp 27 61 (by kernel_rfl) rfl
    exact st_pick (b := false) rfl (want0 rfl _) rfl x52 x61
  intro ac6 wo6 hn6 hd_ hb hv hs
  have g6_62 : (Pv.is (.bool false)).V (get ac6 62) wo6 := hv 28 62 rfl
  have g6_11 : (Pv.sl (Kd.int .u8) (t3)).V (get ac6 11) wo6 := Pv.keep _ g5_11 (hs 11 rfl) hb
  have g6_9 : (Pv.is (.int .u8 (t1))).V (get ac6 9) wo6 := Pv.keep _ g5_9 (hs 9 rfl) hb
  have g6_8 : (Pv.is (.bool false)).V (get ac6 8) wo6 := Pv.keep _ g5_8 (hs 8 rfl) hb
  have g6_0 : (Pv.sl (Kd.int .u8) (l0)).V (get ac6 0) wo6 := Pv.keep _ g5_0 (hs 0 rfl) hb
  have g6_1 : (Pv.sl (Kd.int .u8) (l1)).V (get ac6 1) wo6 := Pv.keep _ g5_1 (hs 1 rfl) hb
  have g6_2 : (Pv.is (.int .u8 (a2))).V (get ac6 2) wo6 := Pv.keep _ g5_2 (hs 2 rfl) hb
  have hB6 := below_step hB5 hb
  have hd6 := hd_.trans hd5
  clear hv hs hd_ hb hB5 hn5 hd5 g5_11 g5_9 g5_10 g5_8 g5_0 g5_1 g5_2 g5_3
  show Code.wp _ _ _ _ _
  refine wp_cond_false (show ac6.eval (Operand.tmp 62) = .bool false from g6_62) ?_
  refine wp_skip ?_
  show Code.wp _ _ _ _ _
  refine wp_seq ?_
  refine Reg.plain (T := wristbandlaw08_PolyValues.T9) (D := wristbandlaw08_PolyValues.D9) (n := 113) (by kernel_rfl) hn6 (told [Pv.sl (Kd.int .u8) (l0), Pv.is (.int .u8 (a2)), Pv.sl (Kd.int .u8) (([a2, (1 : Int)] : List Int)), Pv.tup [Pv.sl (Kd.int .u8) (t12), Pv.sl (Kd.int .u8) (t13), Pv.is (.int .i64 (t14))], Pv.tup [Pv.sl (Kd.int .u8) (t12), Pv.sl (Kd.int .u8) (t13), Pv.is (.int .i64 (t14))], Pv.sl (Kd.int .u8) (t12), Pv.sl (Kd.int .u8) (t13), Pv.is (.int .i64 (t14)), Pv.sl (Kd.int .u8) (t12), Pv.sl (Kd.int .u8) (t13), Pv.is (.int .i64 (t14))]) (told_pst _) (owedS (owedS (owedS (owedS (owedS (owedS (owedS (owedS (owedS (owedS (owedS owed0 ?s0) ?s1) ?s2) ?s3) ?s4) ?s5) ?s6) ?s7) ?s8) ?s9) ?s10) ?_
  case s0 =>
    intro b w1 hb hp hu
    have x0 : (Pv.sl (Kd.int .u8) (l0)).V (get b 0) w1 := Pv.keep _ g6_0 (hu 0 (by kernel_rfl)) hb
    exact st_move rfl (want0 rfl _) rfl x0
  case s1 =>
    intro b w1 hb hp hu
    have x2 : (Pv.is (.int .u8 (a2))).V (get b 2) w1 := Pv.keep _ g6_2 (hu 2 (by kernel_rfl)) hb
    exact st_move rfl (want0 rfl _) rfl x2
  case s2 =>
    intro b w1 hb hp hu
    have x65 : (Pv.is (.int .u8 (a2))).V (get b 65) w1 := hp 1 65 (by kernel_rfl) rfl
    have e0 : b.eval (Operand.tmp 65) = .int .u8 (a2) := x65
    have e1 : b.eval (Operand.const (Value.int IntKind.u8 1)) = .int .u8 ((1 : Int)) := rfl
    exact st_lit (e := 5) (N := 66) (xs := ([a2, (1 : Int)] : List Int)) (inner := [.int .u8 (a2), .int .u8 ((1 : Int))]) (ps := #[(0, .int .u8 (a2)), (1, .int .u8 ((1 : Int)))]) rfl (want0 rfl _) rfl rfl (by simp only [List.map_toArray, List.map_cons, List.map_nil, e0, e1]) (by first | (go_simp; done) | (go_simp; rfl)) (Reps.one (show Kd.M (Kd.int .u8) _ _ _ (a2) [.int .u8 (a2)] from rfl) (Reps.one (show Kd.M (Kd.int .u8) _ _ _ ((1 : Int)) [.int .u8 ((1 : Int))] from rfl) (Reps.none _ _))) (by simp) (fun _ _ h => h)
  case s3 =>
    intro b w1 hb hp hu
    have x64 : (Pv.sl (Kd.int .u8) (l0)).V (get b 64) w1 := hp 0 64 (by kernel_rfl) rfl
    obtain ⟨B0, d0, e0_, hC0, hl0⟩ := x64
    have e0 : b.eval (Operand.tmp 64) = .slice B0 (l0).length d0 := e0_
    have x66 : (Pv.sl (Kd.int .u8) (([a2, (1 : Int)] : List Int))).V (get b 66) w1 := hp 2 66 (by kernel_rfl) rfl
    obtain ⟨B1, d1, e1_, hC1, hl1⟩ := x66
    have e1 : b.eval (Operand.tmp 66) = .slice B1 (([a2, (1 : Int)] : List Int)).length d1 := e1_
    refine st_call rfl (want0 rfl _) rfl Try.func23 (by kernel_rfl) rfl #[.slice B0 (l0).length d0, .slice B1 (([a2, (1 : Int)] : List Int)).length d1] (by simp only [List.map_toArray, List.map_cons, List.map_nil, e0, e1]) ?_
    refine (poly_Quo.calls k B0 d0 _ B1 d1 _ _ _ _ w1 hC0 hl0 hC1 hl1 H13).mono ?_
    rintro e w2 ⟨v0_, v1_, rfl, ho0, ho1, hb2⟩
    exact ⟨_, rfl, ⟨[_, _, _], rfl, Pv.of_sl ho0, Pv.of_sl ho1, rfl, trivial⟩, hb2⟩
  case s4 =>
    intro b w1 hb hp hu
    have x67 : (Pv.tup [Pv.sl (Kd.int .u8) (t12), Pv.sl (Kd.int .u8) (t13), Pv.is (.int .i64 (t14))]).V (get b 67) w1 := hp 3 67 (by kernel_rfl) rfl
    exact st_move rfl (want0 rfl _) rfl x67
  case s5 =>
    intro b w1 hb hp hu
    have x63 : (Pv.tup [Pv.sl (Kd.int .u8) (t12), Pv.sl (Kd.int .u8) (t13), Pv.is (.int .i64 (t14))]).V (get b 63) w1 := hp 4 63 (by kernel_rfl) rfl
    exact st_extract rfl (want0 rfl _) rfl x63 rfl (fun _ h => h)
  case s6 =>
    intro b w1 hb hp hu
    have x63 : (Pv.tup [Pv.sl (Kd.int .u8) (t12), Pv.sl (Kd.int .u8) (t13), Pv.is (.int .i64 (t14))]).V (get b 63) w1 := hp 4 63 (by kernel_rfl) rfl
    exact st_extract rfl (want0 rfl _) rfl x63 rfl (fun _ h => h)
  case s7 =>
    intro b w1 hb hp hu
    have x63 : (Pv.tup [Pv.sl (Kd.int .u8) (t12), Pv.sl (Kd.int .u8) (t13), Pv.is (.int .i64 (t14))]).V (get b 63) w1 := hp 4 63 (by kernel_rfl) rfl
    exact st_extract rfl (want0 rfl _) rfl x63 rfl (fun _ h => h)
  case s8 =>
    intro b w1 hb hp hu
    have x68 : (Pv.sl (Kd.int .u8) (t12)).V (get b 68) w1 := hp 5 68 (by kernel_rfl) rfl
    exact st_assign rfl (want0 rfl _) rfl x68
  case s9 =>
    intro b w1 hb hp hu
    have x69 : (Pv.sl (Kd.int .u8) (t13)).V (get b 69) w1 := hp 6 69 (by kernel_rfl) rfl
    exact st_assign rfl (want0 rfl _) rfl x69
  case s10 =>
    intro b w1 hb hp hu
    have x70 : (Pv.is (.int .i64 (t14))).V (get b 70) w1 := hp 7 70 (by kernel_rfl) rfl
    exact st_assign rfl (want0 rfl _) rfl x70
  intro ac7 wo7 hn7 hd_ hb hv hs
  have g7_13 : (Pv.sl (Kd.int .u8) (t13)).V (get ac7 13) wo7 := hv 9 13 rfl
  have g7_14 : (Pv.is (.int .i64 (t14))).V (get ac7 14) wo7 := hv 10 14 rfl
  have g7_11 : (Pv.sl (Kd.int .u8) (t3)).V (get ac7 11) wo7 := Pv.keep _ g6_11 (hs 11 rfl) hb
  have g7_9 : (Pv.is (.int .u8 (t1))).V (get ac7 9) wo7 := Pv.keep _ g6_9 (hs 9 rfl) hb
  have g7_8 : (Pv.is (.bool false)).V (get ac7 8) wo7 := Pv.keep _ g6_8 (hs 8 rfl) hb
  have g7_0 : (Pv.sl (Kd.int .u8) (l0)).V (get ac7 0) wo7 := Pv.keep _ g6_0 (hs 0 rfl) hb
  have g7_1 : (Pv.sl (Kd.int .u8) (l1)).V (get ac7 1) wo7 := Pv.keep _ g6_1 (hs 1 rfl) hb
  have hB7 := below_step hB6 hb
  have hd7 := hd_.trans hd6
  clear hv hs hd_ hb hB6 hn6 hd6 g6_62 g6_11 g6_9 g6_8 g6_0 g6_1 g6_2
  show Code.wp _ _ _ _ _
  refine wp_seq ?_
  refine wp_seq ?_
  refine Reg.plain (T := wristbandlaw08_PolyValues.T10) (D := wristbandlaw08_PolyValues.D10) (n := 113) (by kernel_rfl) hn7 (told [Pv.is (.int .i64 (t14)), Pv.is (.bool false), Pv.is (.bool false), Pv.sl (Kd.int .u8) (t13), Pv.is (.int .u8 (t15)), Pv.is (.int .u8 (t1)), Pv.is (.bool false), Pv.is (.bool false), Pv.is (.bool false), Pv.sl (Kd.int .u8) (l0), Pv.is (.int .i64 (t16)), Pv.is (.bool true), Pv.is (.bool true), Pv.sl (Kd.int .u8) (l1), Pv.is (.int .i64 (t17)), Pv.is (.bool false), Pv.is (.bool false), Pv.is (.bool false), Pv.is (undef), Pv.is (undef), Pv.is (undef), Pv.is (undef), Pv.is (undef), Pv.is (undef), Pv.is (undef), Pv.is (undef), Pv.is (.bool false), Pv.is (.bool false)]) (told_pst _) (owedS (owedS (owedS (owedS (owedS (owedS (owedS (owedS (owedS (owedS (owedS (owedS (owedS (owedS (owedS (owedS (owedS (owedS (owedS (owedS (owedS (owedS (owedS (owedS (owedS (owedS (owedS (owedS owed0 ?s0) ?s1) ?s2) ?s3) ?s4) ?s5) ?s6) ?s7) ?s8) ?s9) ?s10) ?s11) ?s12) ?s13) ?s14) ?s15) ?s16) ?s17) ?s18) ?s19) ?s20) ?s21) ?s22) ?s23) ?s24) ?s25) ?s26) ?s27) ?_
  case s0 =>
    intro b w1 hb hp hu
    have x14 : (Pv.is (.int .i64 (t14))).V (get b 14) w1 := Pv.keep _ g7_14 (hu 14 (by kernel_rfl)) hb
    exact st_move rfl (want0 rfl _) rfl x14
  case s1 =>
    intro b w1 hb hp hu
    have x71 : (Pv.is (.int .i64 (t14))).V (get b 71) w1 := hp 0 71 (by kernel_rfl) rfl
    exact st_bin (v := .bool false) (vx := .int .i64 (t14)) (vy := .int .i64 ((0 : Int))) rfl (want0 rfl _) rfl x71 rfl (by first | rfl | (have c_ := c1005; refine Eq.trans (b := Result.ok (.bool ((t14) != ((0 : Int)))) w1) rfl ?_; rw [show ((t14) != ((0 : Int))) = false from bne_eq_false_iff_eq.mpr c_]) | (have c_ := c1005; clear hb hp hu; go_simp; first | done | rfl | (simp [c_]; done) | (simp; omega))) rfl
  case s2 =>
    intro b w1 hb hp hu
    have x72 : (Pv.is (.bool false)).V (get b 72) w1 := hp 1 72 (by kernel_rfl) rfl
    exact st_move rfl (want0 rfl _) rfl x72
  case s3 =>
    intro b w1 hb hp hu
    have x73 : (Pv.is (.bool false)).V (get b 73) w1 := hp 2 73 (by kernel_rfl) rfl
    have x13 : (Pv.sl (Kd.int .u8) (t13)).V (get b 13) w1 := Pv.keep _ g7_13 (hu 13 (by kernel_rfl)) hb
    exact st_move rfl ((want_is (N := 73) rfl rfl x73).trans rfl) rfl x13
  case s4 =>
    intro b w1 hb hp hu
    have x73 : (Pv.is (.bool false)).V (get b 73) w1 := hp 2 73 (by kernel_rfl) rfl
    have x74 : (Pv.sl (Kd.int .u8) (t13)).V (get b 74) w1 := hp 3 74 (by kernel_rfl) rfl
    obtain ⟨B0, d0, e0_, hC0, hl0⟩ := x74
    have e0 : b.eval (Operand.tmp 74) = .slice B0 (t13).length d0 := e0_
    have e1 : b.eval (Operand.const (Value.int IntKind.u8 0)) = .int .u8 ((0 : Int)) := rfl
    refine st_call rfl ((want_is (N := 73) rfl rfl x73).trans rfl) rfl Try.func19 (by kernel_rfl) rfl #[.slice B0 (t13).length d0, .int .u8 ((0 : Int))] (by simp only [List.map_toArray, List.map_cons, List.map_nil, e0, e1]) ?_
    refine (poly_Eval.calls k B0 d0 _ _ _ w1 hC0 hl0 H14).mono ?_
    rintro e w2 ⟨rfl, hb2⟩
    exact ⟨_, rfl, rfl, hb2⟩
  case s5 =>
    intro b w1 hb hp hu
    have x73 : (Pv.is (.bool false)).V (get b 73) w1 := hp 2 73 (by kernel_rfl) rfl
    have x9 : (Pv.is (.int .u8 (t1))).V (get b 9) w1 := Pv.keep _ g7_9 (hu 9 (by kernel_rfl)) hb
    exact st_move rfl ((want_is (N := 73) rfl rfl x73).trans rfl) rfl x9
  case s6 =>
    intro b w1 hb hp hu
    have x73 : (Pv.is (.bool false)).V (get b 73) w1 := hp 2 73 (by kernel_rfl) rfl
    have x75 : (Pv.is (.int .u8 (t15))).V (get b 75) w1 := hp 4 75 (by kernel_rfl) rfl
    have x76 : (Pv.is (.int .u8 (t1))).V (get b 76) w1 := hp 5 76 (by kernel_rfl) rfl
    exact st_bin (v := .bool false) (vx := .int .u8 (t15)) (vy := .int .u8 (t1)) rfl ((want_is (N := 73) rfl rfl x73).trans rfl) rfl x75 x76 (by first | rfl | (have c_ := c1006; refine Eq.trans (b := Result.ok (.bool ((t15) != (t1))) w1) rfl ?_; rw [show ((t15) != (t1)) = false from bne_eq_false_iff_eq.mpr c_]) | (have c_ := c1006; clear hb hp hu; go_simp; first | done | rfl | (simp [c_]; done) | (simp; omega))) rfl
  case s7 =>
    intro b w1 hb hp hu
    have x73 : (Pv.is (.bool false)).V (get b 73) w1 := hp 2 73 (by kernel_rfl) rfl
    have x77 : (Pv.is (.bool false)).V (get b 77) w1 := hp 6 77 (by kernel_rfl) rfl
    exact st_pick (b := false) rfl (want0 rfl _) rfl x73 x77
  case s8 =>
    intro b w1 hb hp hu
    have x78 : (Pv.is (.bool false)).V (get b 78) w1 := hp 7 78 (by kernel_rfl) rfl
    exact st_move rfl (want0 rfl _) rfl x78
  case s9 =>
    intro b w1 hb hp hu
    have x79 : (Pv.is (.bool false)).V (get b 79) w1 := hp 8 79 (by kernel_rfl) rfl
    have x0 : (Pv.sl (Kd.int .u8) (l0)).V (get b 0) w1 := Pv.keep _ g7_0 (hu 0 (by kernel_rfl)) hb
    exact st_move rfl ((want_is (N := 79) rfl rfl x79).trans rfl) rfl x0
  case s10 =>
    intro b w1 hb hp hu
    have x79 : (Pv.is (.bool false)).V (get b 79) w1 := hp 8 79 (by kernel_rfl) rfl
    have x80 : (Pv.sl (Kd.int .u8) (l0)).V (get b 80) w1 := hp 9 80 (by kernel_rfl) rfl
    obtain ⟨B0, d0, e0_, hC0, hl0⟩ := x80
    have e0 : b.eval (Operand.tmp 80) = .slice B0 (l0).length d0 := e0_
    refine st_call rfl ((want_is (N := 79) rfl rfl x79).trans rfl) rfl Try.func12 (by kernel_rfl) rfl #[.slice B0 (l0).length d0] (by simp only [List.map_toArray, List.map_cons, List.map_nil, e0]) ?_
    refine (poly_Degree.calls B0 d0 _ _ w1 hC0 hl0 H15).mono ?_
    rintro e w2 ⟨rfl, hb2⟩
    exact ⟨_, rfl, rfl, hb2⟩
  case s11 =>
    intro b w1 hb hp hu
    have x79 : (Pv.is (.bool false)).V (get b 79) w1 := hp 8 79 (by kernel_rfl) rfl
    have x81 : (Pv.is (.int .i64 (t16))).V (get b 81) w1 := hp 10 81 (by kernel_rfl) rfl
    exact st_bin (v := .bool true) (vx := .int .i64 (t16)) (vy := .int .i64 ((0 : Int))) rfl ((want_is (N := 79) rfl rfl x79).trans rfl) rfl x81 rfl (by first | rfl | (have c_ := c1007; refine Eq.trans (b := Result.ok (.bool decide ((t16) ≥ ((0 : Int)))) w1) rfl ?_; rw [show decide ((t16) ≥ ((0 : Int))) = true from decide_eq_true c_]) | (have c_ := c1007; clear hb hp hu; go_simp; first | done | rfl | (simp [c_]; done) | (simp; omega))) rfl
  case s12 =>
    intro b w1 hb hp hu
    have x79 : (Pv.is (.bool false)).V (get b 79) w1 := hp 8 79 (by kernel_rfl) rfl
    have x82 : (Pv.is (.bool true)).V (get b 82) w1 := hp 11 82 (by kernel_rfl) rfl
    exact st_move rfl ((want_is (N := 79) rfl rfl x79).trans rfl) rfl x82
  case s13 =>
    intro b w1 hb hp hu
    have x83 : (Pv.is (.bool true)).V (get b 83) w1 := hp 12 83 (by kernel_rfl) rfl
    have x1 : (Pv.sl (Kd.int .u8) (l1)).V (get b 1) w1 := Pv.keep _ g7_1 (hu 1 (by kernel_rfl)) hb
    exact st_move rfl ((want_is (N := 83) rfl rfl x83).trans rfl) rfl x1
  case s14 =>
    intro b w1 hb hp hu
    have x83 : (Pv.is (.bool true)).V (get b 83) w1 := hp 12 83 (by kernel_rfl) rfl
    have x84 : (Pv.sl (Kd.int .u8) (l1)).V (get b 84) w1 := hp 13 84 (by kernel_rfl) rfl
    obtain ⟨B0, d0, e0_, hC0, hl0⟩ := x84
    have e0 : b.eval (Operand.tmp 84) = .slice B0 (l1).length d0 := e0_
    refine st_call rfl ((want_is (N := 83) rfl rfl x83).trans rfl) rfl Try.func12 (by kernel_rfl) rfl #[.slice B0 (l1).length d0] (by simp only [List.map_toArray, List.map_cons, List.map_nil, e0]) ?_
    refine (poly_Degree.calls B0 d0 _ _ w1 hC0 hl0 H16).mono ?_
    rintro e w2 ⟨rfl, hb2⟩
    exact ⟨_, rfl, rfl, hb2⟩
  case s15 =>
    intro b w1 hb hp hu
    have x83 : (Pv.is (.bool true)).V (get b 83) w1 := hp 12 83 (by kernel_rfl) rfl
    have x85 : (Pv.is (.int .i64 (t17))).V (get b 85) w1 := hp 14 85 (by kernel_rfl) rfl
    exact st_bin (v := .bool false) (vx := .int .i64 (t17)) (vy := .int .i64 ((0 : Int))) rfl ((want_is (N := 83) rfl rfl x83).trans rfl) rfl x85 rfl (by first | rfl | (have c_ := c1008; refine Eq.trans (b := Result.ok (.bool decide ((t17) ≥ ((0 : Int)))) w1) rfl ?_; rw [show decide ((t17) ≥ ((0 : Int))) = false from decide_eq_false c_]) | (have c_ := c1008; clear hb hp hu; go_simp; first | done | rfl | (simp [c_]; done) | (simp; omega))) rfl
  case s16 =>
    intro b w1 hb hp hu
    have x79 : (Pv.is (.bool false)).V (get b 79) w1 := hp 8 79 (by kernel_rfl) rfl
    have x83 : (Pv.is (.bool true)).V (get b 83) w1 := hp 12 83 (by kernel_rfl) rfl
    have x86 : (Pv.is (.bool false)).V (get b 86) w1 := hp 15 86 (by kernel_rfl) rfl
    exact st_pick (b := true) rfl ((want_is (N := 79) rfl rfl x79).trans rfl) rfl x83 x86
  case s17 =>
    intro b w1 hb hp hu
    have x79 : (Pv.is (.bool false)).V (get b 79) w1 := hp 8 79 (by kernel_rfl) rfl
    have x87 : (Pv.is (.bool false)).V (get b 87) w1 := hp 16 87 (by kernel_rfl) rfl
    exact st_move rfl ((want_is (N := 79) rfl rfl x79).trans rfl) rfl x87
  case s18 =>
    intro b w1 hb hp hu
    have x88 : (Pv.is (.bool false)).V (get b 88) w1 := hp 17 88 (by kernel_rfl) rfl
    exact st_off rfl ((want_is (N := 88) rfl rfl x88).trans rfl) rfl
  case s19 =>
    intro b w1 hb hp hu
    have x88 : (Pv.is (.bool false)).V (get b 88) w1 := hp 17 88 (by kernel_rfl) rfl
    exact st_off rfl ((want_is (N := 88) rfl rfl x88).trans rfl) rfl
  case s20 =>
    intro b w1 hb hp hu
    have x88 : (Pv.is (.bool false)).V (get b 88) w1 := hp 17 88 (by kernel_rfl) rfl
    exact st_off rfl ((want_is (N := 88) rfl rfl x88).trans rfl) rfl
  case s21 =>
    intro b w1 hb hp hu
    have x88 : (Pv.is (.bool false)).V (get b 88) w1 := hp 17 88 (by kernel_rfl) rfl
    exact st_off rfl ((want_is (N := 88) rfl rfl x88).trans rfl) rfl
  case s22 =>
    intro b w1 hb hp hu
    have x88 : (Pv.is (.bool false)).V (get b 88) w1 := hp 17 88 (by kernel_rfl) rfl
    exact st_off rfl ((want_is (N := 88) rfl rfl x88).trans rfl) rfl
  case s23 =>
    intro b w1 hb hp hu
    have x88 : (Pv.is (.bool false)).V (get b 88) w1 := hp 17 88 (by kernel_rfl) rfl
    exact st_off rfl ((want_is (N := 88) rfl rfl x88).trans rfl) rfl
  case s24 =>
    intro b w1 hb hp hu
    have x88 : (Pv.is (.bool false)).V (get b 88) w1 := hp 17 88 (by kernel_rfl) rfl
    exact st_off rfl ((want_is (N := 88) rfl rfl x88).trans rfl) rfl
  case s25 =>
    intro b w1 hb hp hu
    have x88 : (Pv.is (.bool false)).V (get b 88) w1 := hp 17 88 (by kernel_rfl) rfl
    exact st_off rfl ((want_is (N := 88) rfl rfl x88).trans rfl) rfl
  case s26 =>
    intro b w1 hb hp hu
    have x79 : (Pv.is (.bool false)).V (get b 79) w1 := hp 8 79 (by kernel_rfl) rfl
    have x88 : (Pv.is (.bool false)).V (get b 88) w1 := hp 17 88 (by kernel_rfl) rfl
    exact st_pick (b := false) rfl ((want_is (N := 79) rfl rfl x79).trans rfl) rfl x88 rfl
  case s27 =>
    intro b w1 hb hp hu
    have x79 : (Pv.is (.bool false)).V (get b 79) w1 := hp 8 79 (by kernel_rfl) rfl
    have x97 : (Pv.is (.bool false)).V (get b 97) w1 := hp 26 97 (by kernel_rfl) rfl
    exact st_pick (b := false) rfl (want0 rfl _) rfl x79 x97
  intro ac8 wo8 hn8 hd_ hb hv hs
  have g8_98 : (Pv.is (.bool false)).V (get ac8 98) wo8 := hv 27 98 rfl
  have g8_11 : (Pv.sl (Kd.int .u8) (t3)).V (get ac8 11) wo8 := Pv.keep _ g7_11 (hs 11 rfl) hb
  have g8_8 : (Pv.is (.bool false)).V (get ac8 8) wo8 := Pv.keep _ g7_8 (hs 8 rfl) hb
  have g8_0 : (Pv.sl (Kd.int .u8) (l0)).V (get ac8 0) wo8 := Pv.keep _ g7_0 (hs 0 rfl) hb
  have g8_1 : (Pv.sl (Kd.int .u8) (l1)).V (get ac8 1) wo8 := Pv.keep _ g7_1 (hs 1 rfl) hb
  have hB8 := below_step hB7 hb
  have hd8 := hd_.trans hd7
  clear hv hs hd_ hb hB7 hn7 hd7 g7_13 g7_14 g7_11 g7_9 g7_8 g7_0 g7_1
  show Code.wp _ _ _ _ _
  refine wp_cond_false (show ac8.eval (Operand.tmp 98) = .bool false from g8_98) ?_
  refine wp_skip ?_
  show Code.wp _ _ _ _ _
  refine wp_seq ?_
  refine Reg.draws (T := wristbandlaw08_PolyValues.T12) (D := wristbandlaw08_PolyValues.D12) (n := 113) rfl (by kernel_rfl) hn8 (told [Pv.sl (Kd.int .u8) (t3), Pv.sl (Kd.int .u8) (t18), Pv.is (.string (strOfNums (t18))), Pv.sl (Kd.int .u8) (l0), Pv.sl (Kd.int .u8) (t19), Pv.sl (Kd.int .u8) (l1), Pv.sl (Kd.int .u8) (t20), Pv.sl (Kd.int .u8) (l0), Pv.sl (Kd.int .u8) (l1), Pv.sl (Kd.int .u8) (t21), Pv.sl (Kd.int .u8) (t22), Pv.sl (Kd.int .u8) (t23), Pv.is (.string (strOfNums (t23))), Pv.is (.bool true), Pv.is (.bool true)]) (told_pst _) (owedS (owedS (owedS (owedS (owedS (owedS (owedS (owedS (owedS (owedS (owedS (owedS (owedS (owedS (owedS owed0 ?s0) ?s1) ?s2) ?s3) ?s4) ?s5) ?s6) ?s7) ?s8) ?s9) ?s10) ?s11) ?s12) ?s13) ?s14) ?_
  case s0 =>
    intro b w1 hb hp hu
    have x11 : (Pv.sl (Kd.int .u8) (t3)).V (get b 11) w1 := Pv.keep _ g8_11 (hu 11 (by kernel_rfl)) hb
    exact st_move rfl (want0 rfl _) rfl x11
  case s1 =>
    intro b w1 hb hp hu
    have x99 : (Pv.sl (Kd.int .u8) (t3)).V (get b 99) w1 := hp 0 99 (by kernel_rfl) rfl
    obtain ⟨B0, d0, e0_, hC0, hl0⟩ := x99
    have e0 : b.eval (Operand.tmp 99) = .slice B0 (t3).length d0 := e0_
    refine st_call rfl (want0 rfl _) rfl Try.func21 (by kernel_rfl) rfl #[.slice B0 (t3).length d0] (by simp only [List.map_toArray, List.map_cons, List.map_nil, e0]) ?_
    refine (poly_Slope.calls k B0 d0 _ _ w1 hC0 hl0 H17).mono ?_
    rintro e w2 ⟨v0_, rfl, ho0, hb2⟩
    exact ⟨_, rfl, Pv.of_sl ho0, hb2⟩
  case s2 =>
    intro b w1 hb hp hu
    have x100 : (Pv.sl (Kd.int .u8) (t18)).V (get b 100) w1 := hp 1 100 (by kernel_rfl) rfl
    exact st_string Try.underlying22 Try.underlying5 Try.underlying9 rfl (want0 rfl _) rfl x100 rfl
  case s3 =>
    intro b w1 hb hp hu
    have x0 : (Pv.sl (Kd.int .u8) (l0)).V (get b 0) w1 := Pv.keep _ g8_0 (hu 0 (by kernel_rfl)) hb
    exact st_move rfl (want0 rfl _) rfl x0
  case s4 =>
    intro b w1 hb hp hu
    have x102 : (Pv.sl (Kd.int .u8) (l0)).V (get b 102) w1 := hp 3 102 (by kernel_rfl) rfl
    obtain ⟨B0, d0, e0_, hC0, hl0⟩ := x102
    have e0 : b.eval (Operand.tmp 102) = .slice B0 (l0).length d0 := e0_
    refine st_call rfl (want0 rfl _) rfl Try.func21 (by kernel_rfl) rfl #[.slice B0 (l0).length d0] (by simp only [List.map_toArray, List.map_cons, List.map_nil, e0]) ?_
    refine (poly_Slope.calls k B0 d0 _ _ w1 hC0 hl0 H18).mono ?_
    rintro e w2 ⟨v0_, rfl, ho0, hb2⟩
    exact ⟨_, rfl, Pv.of_sl ho0, hb2⟩
  case s5 =>
    intro b w1 hb hp hu
    have x1 : (Pv.sl (Kd.int .u8) (l1)).V (get b 1) w1 := Pv.keep _ g8_1 (hu 1 (by kernel_rfl)) hb
    exact st_move rfl (want0 rfl _) rfl x1
  case s6 =>
    intro b w1 hb hp hu
    have x103 : (Pv.sl (Kd.int .u8) (t19)).V (get b 103) w1 := hp 4 103 (by kernel_rfl) rfl
    obtain ⟨B0, d0, e0_, hC0, hl0⟩ := x103
    have e0 : b.eval (Operand.tmp 103) = .slice B0 (t19).length d0 := e0_
    have x104 : (Pv.sl (Kd.int .u8) (l1)).V (get b 104) w1 := hp 5 104 (by kernel_rfl) rfl
    obtain ⟨B1, d1, e1_, hC1, hl1⟩ := x104
    have e1 : b.eval (Operand.tmp 104) = .slice B1 (l1).length d1 := e1_
    refine st_call rfl (want0 rfl _) rfl Try.func15 (by kernel_rfl) rfl #[.slice B0 (t19).length d0, .slice B1 (l1).length d1] (by simp only [List.map_toArray, List.map_cons, List.map_nil, e0, e1]) ?_
    refine (poly_Mul.calls k B0 d0 _ B1 d1 _ _ w1 hC0 hl0 hC1 hl1 H19).mono ?_
    rintro e w2 ⟨v0_, rfl, ho0, hb2⟩
    exact ⟨_, rfl, Pv.of_sl ho0, hb2⟩
  case s7 =>
    intro b w1 hb hp hu
    have x0 : (Pv.sl (Kd.int .u8) (l0)).V (get b 0) w1 := Pv.keep _ g8_0 (hu 0 (by kernel_rfl)) hb
    exact st_move rfl (want0 rfl _) rfl x0
  case s8 =>
    intro b w1 hb hp hu
    have x1 : (Pv.sl (Kd.int .u8) (l1)).V (get b 1) w1 := Pv.keep _ g8_1 (hu 1 (by kernel_rfl)) hb
    exact st_move rfl (want0 rfl _) rfl x1
  case s9 =>
    intro b w1 hb hp hu
    have x107 : (Pv.sl (Kd.int .u8) (l1)).V (get b 107) w1 := hp 8 107 (by kernel_rfl) rfl
    obtain ⟨B0, d0, e0_, hC0, hl0⟩ := x107
    have e0 : b.eval (Operand.tmp 107) = .slice B0 (l1).length d0 := e0_
    refine st_call rfl (want0 rfl _) rfl Try.func21 (by kernel_rfl) rfl #[.slice B0 (l1).length d0] (by simp only [List.map_toArray, List.map_cons, List.map_nil, e0]) ?_
    refine (poly_Slope.calls k B0 d0 _ _ w1 hC0 hl0 H20).mono ?_
    rintro e w2 ⟨v0_, rfl, ho0, hb2⟩
    exact ⟨_, rfl, Pv.of_sl ho0, hb2⟩
  case s10 =>
    intro b w1 hb hp hu
    have x106 : (Pv.sl (Kd.int .u8) (l0)).V (get b 106) w1 := hp 7 106 (by kernel_rfl) rfl
    obtain ⟨B0, d0, e0_, hC0, hl0⟩ := x106
    have e0 : b.eval (Operand.tmp 106) = .slice B0 (l0).length d0 := e0_
    have x108 : (Pv.sl (Kd.int .u8) (t21)).V (get b 108) w1 := hp 9 108 (by kernel_rfl) rfl
    obtain ⟨B1, d1, e1_, hC1, hl1⟩ := x108
    have e1 : b.eval (Operand.tmp 108) = .slice B1 (t21).length d1 := e1_
    refine st_call rfl (want0 rfl _) rfl Try.func15 (by kernel_rfl) rfl #[.slice B0 (l0).length d0, .slice B1 (t21).length d1] (by simp only [List.map_toArray, List.map_cons, List.map_nil, e0, e1]) ?_
    refine (poly_Mul.calls k B0 d0 _ B1 d1 _ _ w1 hC0 hl0 hC1 hl1 H21).mono ?_
    rintro e w2 ⟨v0_, rfl, ho0, hb2⟩
    exact ⟨_, rfl, Pv.of_sl ho0, hb2⟩
  case s11 =>
    intro b w1 hb hp hu
    have x105 : (Pv.sl (Kd.int .u8) (t20)).V (get b 105) w1 := hp 6 105 (by kernel_rfl) rfl
    obtain ⟨B0, d0, e0_, hC0, hl0⟩ := x105
    have e0 : b.eval (Operand.tmp 105) = .slice B0 (t20).length d0 := e0_
    have x109 : (Pv.sl (Kd.int .u8) (t22)).V (get b 109) w1 := hp 10 109 (by kernel_rfl) rfl
    obtain ⟨B1, d1, e1_, hC1, hl1⟩ := x109
    have e1 : b.eval (Operand.tmp 109) = .slice B1 (t22).length d1 := e1_
    refine st_call rfl (want0 rfl _) rfl Try.func13 (by kernel_rfl) rfl #[.slice B0 (t20).length d0, .slice B1 (t22).length d1] (by simp only [List.map_toArray, List.map_cons, List.map_nil, e0, e1]) ?_
    refine (poly_Add.calls k B0 d0 _ B1 d1 _ _ w1 hC0 hl0 hC1 hl1 H22).mono ?_
    rintro e w2 ⟨v0_, rfl, ho0, hb2⟩
    exact ⟨_, rfl, Pv.of_sl ho0, hb2⟩
  case s12 =>
    intro b w1 hb hp hu
    have x110 : (Pv.sl (Kd.int .u8) (t23)).V (get b 110) w1 := hp 11 110 (by kernel_rfl) rfl
    exact st_string Try.underlying22 Try.underlying5 Try.underlying9 rfl (want0 rfl _) rfl x110 rfl
  case s13 =>
    intro b w1 hb hp hu
    have x101 : (Pv.is (.string (strOfNums (t18)))).V (get b 101) w1 := hp 2 101 (by kernel_rfl) rfl
    have x111 : (Pv.is (.string (strOfNums (t23)))).V (get b 111) w1 := hp 12 111 (by kernel_rfl) rfl
    exact st_bin (v := .bool true) (vx := .string (strOfNums (t18))) (vy := .string (strOfNums (t23))) rfl (want0 rfl _) rfl x101 x111 (by first | rfl | (have c_ := c1009; clear hb hp hu; go_simp; first | done | rfl | (simp [c_]; done) | (simp; omega))) rfl
  case s14 =>
    intro b w1 hb hp hu
    have x112 : (Pv.is (.bool true)).V (get b 112) w1 := hp 13 112 (by kernel_rfl) rfl
    exact st_assign rfl (want0 rfl _) rfl x112
  intro ac9 wo9 hn9 hd_ hb hv hs
  have g9_8 : (Pv.is (.bool true)).V (get ac9 8) wo9 := hv 14 8 rfl
  have hB9 := below_step hB8 hb
  have hd9 := hd_.trans hd8
  clear hv hs hd_ hb hB8 hn8 hd8 g8_98 g8_11 g8_8 g8_0 g8_1
  show Code.wp _ _ _ _ _
  refine wp_ret ?_
  repeat (refine then_ret ?_)
  exact back_is rfl hd9 g9_8 ⟨rfl, hB9⟩
set_option maxRecDepth 100000 in
set_option maxHeartbeats 4000000 in
theorem wristbandlaw08_PolyValues.way5 (k : Nat) (A0 : Option Addr) (c0 : Nat) (l0 : List Int) (A1 : Option Addr) (c1 : Nat) (l1 : List Int) (a2 : Int) (a3 : Int) (w : World) (hr0 : Kd.C (Kd.int .u8) w A0 l0.length l0) (hc0 : l0.length ≤ c0) (hr1 : Kd.C (Kd.int .u8) w A1 l1.length l1) (hc1 : l1.length ≤ c1) (H1 : wristbandlaw08_awake.ok k) (t1 : Int) (H2 : poly_Eval.f k (l0) (a2) = some t1) (t2 : Int) (H3 : poly_Eval.f k (l1) (a2) = some t2) (t3 : List Int) (H4 : poly_Mul.f k (l0) (l1) = some t3) (t4 : List Int) (H5 : poly_Add.f k (l0) (l1) = some t4) (t5 : Int) (H6 : poly_Eval.f k (t4) (a2) = some t5) (t6 : Int) (H7 : gf_Add.f (t1) (t2) = some t6) (t7 : Int) (H8 : poly_Eval.f k (t3) (a2) = some t7) (t8 : Int) (H9 : gf_Mul.f k (t1) (t2) = some t8) (t9 : List Int) (H10 : poly_Times.f k (l0) (a3) = some t9) (t10 : Int) (H11 : poly_Eval.f k (t9) (a2) = some t10) (t11 : Int) (H12 : gf_Mul.f k (a3) (t1) = some t11) (t12 : List Int) (t13 : List Int) (t14 : Int) (H13 : poly_Quo.f k (l0) (([a2, (1 : Int)] : List Int)) = some (t12, t13, t14)) (t15 : Int) (H14 : poly_Eval.f k (t13) ((0 : Int)) = some t15) (t16 : Int) (H15 : poly_Degree.f (l0) = some t16) (t17 : List Int) (H16 : poly_Slope.f k (t3) = some t17) (t18 : List Int) (H17 : poly_Slope.f k (l0) = some t18) (t19 : List Int) (H18 : poly_Mul.f k (t18) (l1) = some t19) (t20 : List Int) (H19 : poly_Slope.f k (l1) = some t20) (t21 : List Int) (H20 : poly_Mul.f k (l0) (t20) = some t21) (t22 : List Int) (H21 : poly_Add.f k (t19) (t21) = some t22) (c1000 : ¬ (((l0).length : Int) > (60 : Int))) (c1001 : ¬ (((l1).length : Int) > (60 : Int))) (c1002 : t5 = t6) (c1003 : t7 = t8) (c1004 : t10 = t11) (c1005 : t14 = (0 : Int)) (c1006 : t15 = t1) (c1007 : ¬ (t16 ≥ (0 : Int))) (c1008 : (strOfNums (t17)).toList = (strOfNums (t22)).toList) :
    Calls Try.prog 5 #[.slice A0 l0.length c0, .slice A1 l1.length c1, .int .u8 a2, .int .u8 a3] w fun e w' => e = .returned (.bool true) ∧ Below w.heap.size w w' := by
  refine enter Try.func5 rfl (n := 113) rfl ?_
  intro ac0 hn0 hd0 ha
  have hB0 := Below.refl w.heap.size w
  have g0_0 : (Pv.sl (Kd.int .u8) (l0)).V (get ac0 0) w := by rw [ha 0 (by simp)]; exact ⟨A0, c0, rfl, hr0, hc0⟩
  have g0_1 : (Pv.sl (Kd.int .u8) (l1)).V (get ac0 1) w := by rw [ha 1 (by simp)]; exact ⟨A1, c1, rfl, hr1, hc1⟩
  have g0_2 : (Pv.is (.int .u8 (a2))).V (get ac0 2) w := by rw [ha 2 (by simp)]; exact rfl
  have g0_3 : (Pv.is (.int .u8 (a3))).V (get ac0 3) w := by rw [ha 3 (by simp)]; exact rfl
  clear ha
  refine wp_seq ?_
  refine Reg.plain (T := wristbandlaw08_PolyValues.T0) (D := wristbandlaw08_PolyValues.D0) (n := 113) (by kernel_rfl) hn0 (told [Pv.is (.bool false)]) (told_pst _) (owedS owed0 ?s0) ?_
  case s0 =>
    intro b w1 hb hp hu
    exact st_assign rfl (want0 rfl _) rfl rfl
  intro ac1 wo1 hn1 hd_ hb hv hs
  have g1_8 : (Pv.is (.bool false)).V (get ac1 8) wo1 := hv 0 8 rfl
  have g1_0 : (Pv.sl (Kd.int .u8) (l0)).V (get ac1 0) wo1 := Pv.keep _ g0_0 (hs 0 rfl) hb
  have g1_1 : (Pv.sl (Kd.int .u8) (l1)).V (get ac1 1) wo1 := Pv.keep _ g0_1 (hs 1 rfl) hb
  have g1_2 : (Pv.is (.int .u8 (a2))).V (get ac1 2) wo1 := Pv.keep _ g0_2 (hs 2 rfl) hb
  have g1_3 : (Pv.is (.int .u8 (a3))).V (get ac1 3) wo1 := Pv.keep _ g0_3 (hs 3 rfl) hb
  have hB1 := below_step hB0 hb
  have hd1 := hd_.trans hd0
  clear hv hs hd_ hb hB0 hn0 hd0 g0_0 g0_1 g0_2 g0_3
  show Code.wp _ _ _ _ _
  refine wp_seq ?_
  refine wp_seq ?_
  refine Reg.plain (T := wristbandlaw08_PolyValues.T1) (D := wristbandlaw08_PolyValues.D1) (n := 113) (by kernel_rfl) hn1 (told [Pv.is (.bool true), Pv.is (.bool false)]) (told_pst _) (owedS (owedS owed0 ?s0) ?s1) ?_
  case s0 =>
    intro b w1 hb hp hu
    refine st_call rfl (want0 rfl _) rfl Try.func9 (by kernel_rfl) rfl #[] (by simp) ?_
    refine (wristbandlaw08_awake.calls k  w1  H1).mono ?_
    rintro e w2 ⟨rfl, hb2⟩
    exact ⟨_, rfl, rfl, hb2⟩
  case s1 =>
    intro b w1 hb hp hu
    have x15 : (Pv.is (.bool true)).V (get b 15) w1 := hp 0 15 (by kernel_rfl) rfl
    exact st_un (v := .bool false) (vx := .bool true) rfl (want0 rfl _) rfl x15 (by first | rfl | (go_simp; first | done | rfl | (simp only [i64_w, i32_w]; done))) rfl
  intro ac2 wo2 hn2 hd_ hb hv hs
  have g2_16 : (Pv.is (.bool false)).V (get ac2 16) wo2 := hv 1 16 rfl
  have g2_8 : (Pv.is (.bool false)).V (get ac2 8) wo2 := Pv.keep _ g1_8 (hs 8 rfl) hb
  have g2_0 : (Pv.sl (Kd.int .u8) (l0)).V (get ac2 0) wo2 := Pv.keep _ g1_0 (hs 0 rfl) hb
  have g2_1 : (Pv.sl (Kd.int .u8) (l1)).V (get ac2 1) wo2 := Pv.keep _ g1_1 (hs 1 rfl) hb
  have g2_2 : (Pv.is (.int .u8 (a2))).V (get ac2 2) wo2 := Pv.keep _ g1_2 (hs 2 rfl) hb
  have g2_3 : (Pv.is (.int .u8 (a3))).V (get ac2 3) wo2 := Pv.keep _ g1_3 (hs 3 rfl) hb
  have hB2 := below_step hB1 hb
  have hd2 := hd_.trans hd1
  clear hv hs hd_ hb hB1 hn1 hd1 g1_8 g1_0 g1_1 g1_2 g1_3
  show Code.wp _ _ _ _ _
  refine wp_cond_false (show ac2.eval (Operand.tmp 16) = .bool false from g2_16) ?_
  refine wp_skip ?_
  show Code.wp _ _ _ _ _
  refine wp_seq ?_
  refine wp_seq ?_
  refine Reg.plain (T := wristbandlaw08_PolyValues.T3) (D := wristbandlaw08_PolyValues.D3) (n := 113) (by kernel_rfl) hn2 (told [Pv.sl (Kd.int .u8) (l0), Pv.is (.int .i64 (((l0).length : Int))), Pv.is (.bool false), Pv.is (.bool false), Pv.sl (Kd.int .u8) (l1), Pv.is (.int .i64 (((l1).length : Int))), Pv.is (.bool false), Pv.is (.bool false)]) (told_pst _) (owedS (owedS (owedS (owedS (owedS (owedS (owedS (owedS owed0 ?s0) ?s1) ?s2) ?s3) ?s4) ?s5) ?s6) ?s7) ?_
  case s0 =>
    intro b w1 hb hp hu
    have x0 : (Pv.sl (Kd.int .u8) (l0)).V (get b 0) w1 := Pv.keep _ g2_0 (hu 0 (by kernel_rfl)) hb
    exact st_move rfl (want0 rfl _) rfl x0
  case s1 =>
    intro b w1 hb hp hu
    have x17 : (Pv.sl (Kd.int .u8) (l0)).V (get b 17) w1 := hp 0 17 (by kernel_rfl) rfl
    obtain ⟨A_, c_, e_, _, _⟩ := x17
    exact st_len rfl (want0 rfl _) rfl Try.underlying22 e_ rfl
  case s2 =>
    intro b w1 hb hp hu
    have x18 : (Pv.is (.int .i64 (((l0).length : Int)))).V (get b 18) w1 := hp 1 18 (by kernel_rfl) rfl
    exact st_bin (v := .bool false) (vx := .int .i64 (((l0).length : Int))) (vy := .int .i64 ((60 : Int))) rfl (want0 rfl _) rfl x18 rfl (by first | rfl | (have c_ := c1000; refine Eq.trans (b := Result.ok (.bool decide ((((l0).length : Int)) > ((60 : Int)))) w1) rfl ?_; rw [show decide ((((l0).length : Int)) > ((60 : Int))) = false from decide_eq_false c_]) | (have c_ := c1000; clear hb hp hu; go_simp; first | done | rfl | (simp [c_]; done) | (simp; omega))) rfl
  case s3 =>
    intro b w1 hb hp hu
    have x19 : (Pv.is (.bool false)).V (get b 19) w1 := hp 2 19 (by kernel_rfl) rfl
    exact st_move rfl (want0 rfl _) rfl x19
  case s4 =>
    intro b w1 hb hp hu
    have x20 : (Pv.is (.bool false)).V (get b 20) w1 := hp 3 20 (by kernel_rfl) rfl
    have x1 : (Pv.sl (Kd.int .u8) (l1)).V (get b 1) w1 := Pv.keep _ g2_1 (hu 1 (by kernel_rfl)) hb
    exact st_move rfl ((want_is (N := 20) rfl rfl x20).trans rfl) rfl x1
  case s5 =>
    intro b w1 hb hp hu
    have x20 : (Pv.is (.bool false)).V (get b 20) w1 := hp 3 20 (by kernel_rfl) rfl
    have x21 : (Pv.sl (Kd.int .u8) (l1)).V (get b 21) w1 := hp 4 21 (by kernel_rfl) rfl
    obtain ⟨A_, c_, e_, _, _⟩ := x21
    exact st_len rfl ((want_is (N := 20) rfl rfl x20).trans rfl) rfl Try.underlying22 e_ rfl
  case s6 =>
    intro b w1 hb hp hu
    have x20 : (Pv.is (.bool false)).V (get b 20) w1 := hp 3 20 (by kernel_rfl) rfl
    have x22 : (Pv.is (.int .i64 (((l1).length : Int)))).V (get b 22) w1 := hp 5 22 (by kernel_rfl) rfl
    exact st_bin (v := .bool false) (vx := .int .i64 (((l1).length : Int))) (vy := .int .i64 ((60 : Int))) rfl ((want_is (N := 20) rfl rfl x20).trans rfl) rfl x22 rfl (by first | rfl | (have c_ := c1001; refine Eq.trans (b := Result.ok (.bool decide ((((l1).length : Int)) > ((60 : Int)))) w1) rfl ?_; rw [show decide ((((l1).length : Int)) > ((60 : Int))) = false from decide_eq_false c_]) | (have c_ := c1001; clear hb hp hu; go_simp; first | done | rfl | (simp [c_]; done) | (simp; omega))) rfl
  case s7 =>
    intro b w1 hb hp hu
    have x20 : (Pv.is (.bool false)).V (get b 20) w1 := hp 3 20 (by kernel_rfl) rfl
    have x23 : (Pv.is (.bool false)).V (get b 23) w1 := hp 6 23 (by kernel_rfl) rfl
    exact st_pick (b := false) rfl (want0 rfl _) rfl x20 x23
  intro ac3 wo3 hn3 hd_ hb hv hs
  have g3_24 : (Pv.is (.bool false)).V (get ac3 24) wo3 := hv 7 24 rfl
  have g3_8 : (Pv.is (.bool false)).V (get ac3 8) wo3 := Pv.keep _ g2_8 (hs 8 rfl) hb
  have g3_0 : (Pv.sl (Kd.int .u8) (l0)).V (get ac3 0) wo3 := Pv.keep _ g2_0 (hs 0 rfl) hb
  have g3_1 : (Pv.sl (Kd.int .u8) (l1)).V (get ac3 1) wo3 := Pv.keep _ g2_1 (hs 1 rfl) hb
  have g3_2 : (Pv.is (.int .u8 (a2))).V (get ac3 2) wo3 := Pv.keep _ g2_2 (hs 2 rfl) hb
  have g3_3 : (Pv.is (.int .u8 (a3))).V (get ac3 3) wo3 := Pv.keep _ g2_3 (hs 3 rfl) hb
  have hB3 := below_step hB2 hb
  have hd3 := hd_.trans hd2
  clear hv hs hd_ hb hB2 hn2 hd2 g2_16 g2_8 g2_0 g2_1 g2_2 g2_3
  show Code.wp _ _ _ _ _
  refine wp_cond_false (show ac3.eval (Operand.tmp 24) = .bool false from g3_24) ?_
  refine wp_skip ?_
  show Code.wp _ _ _ _ _
  refine wp_seq ?_
  refine Reg.plain (T := wristbandlaw08_PolyValues.T5) (D := wristbandlaw08_PolyValues.D5) (n := 113) (by kernel_rfl) hn3 (told [Pv.sl (Kd.int .u8) (l0), Pv.is (.int .u8 (a2)), Pv.is (.int .u8 (t1)), Pv.sl (Kd.int .u8) (l1), Pv.is (.int .u8 (a2)), Pv.is (.int .u8 (t2)), Pv.is (.int .u8 (t1)), Pv.is (.int .u8 (t2))]) (told_pst _) (owedS (owedS (owedS (owedS (owedS (owedS (owedS (owedS owed0 ?s0) ?s1) ?s2) ?s3) ?s4) ?s5) ?s6) ?s7) ?_
  case s0 =>
    intro b w1 hb hp hu
    have x0 : (Pv.sl (Kd.int .u8) (l0)).V (get b 0) w1 := Pv.keep _ g3_0 (hu 0 (by kernel_rfl)) hb
    exact st_move rfl (want0 rfl _) rfl x0
  case s1 =>
    intro b w1 hb hp hu
    have x2 : (Pv.is (.int .u8 (a2))).V (get b 2) w1 := Pv.keep _ g3_2 (hu 2 (by kernel_rfl)) hb
    exact st_move rfl (want0 rfl _) rfl x2
  case s2 =>
    intro b w1 hb hp hu
    have x25 : (Pv.sl (Kd.int .u8) (l0)).V (get b 25) w1 := hp 0 25 (by kernel_rfl) rfl
    obtain ⟨B0, d0, e0_, hC0, hl0⟩ := x25
    have e0 : b.eval (Operand.tmp 25) = .slice B0 (l0).length d0 := e0_
    have x26 : (Pv.is (.int .u8 (a2))).V (get b 26) w1 := hp 1 26 (by kernel_rfl) rfl
    have e1 : b.eval (Operand.tmp 26) = .int .u8 (a2) := x26
    refine st_call rfl (want0 rfl _) rfl Try.func19 (by kernel_rfl) rfl #[.slice B0 (l0).length d0, .int .u8 (a2)] (by simp only [List.map_toArray, List.map_cons, List.map_nil, e0, e1]) ?_
    refine (poly_Eval.calls k B0 d0 _ _ _ w1 hC0 hl0 H2).mono ?_
    rintro e w2 ⟨rfl, hb2⟩
    exact ⟨_, rfl, rfl, hb2⟩
  case s3 =>
    intro b w1 hb hp hu
    have x1 : (Pv.sl (Kd.int .u8) (l1)).V (get b 1) w1 := Pv.keep _ g3_1 (hu 1 (by kernel_rfl)) hb
    exact st_move rfl (want0 rfl _) rfl x1
  case s4 =>
    intro b w1 hb hp hu
    have x2 : (Pv.is (.int .u8 (a2))).V (get b 2) w1 := Pv.keep _ g3_2 (hu 2 (by kernel_rfl)) hb
    exact st_move rfl (want0 rfl _) rfl x2
  case s5 =>
    intro b w1 hb hp hu
    have x28 : (Pv.sl (Kd.int .u8) (l1)).V (get b 28) w1 := hp 3 28 (by kernel_rfl) rfl
    obtain ⟨B0, d0, e0_, hC0, hl0⟩ := x28
    have e0 : b.eval (Operand.tmp 28) = .slice B0 (l1).length d0 := e0_
    have x29 : (Pv.is (.int .u8 (a2))).V (get b 29) w1 := hp 4 29 (by kernel_rfl) rfl
    have e1 : b.eval (Operand.tmp 29) = .int .u8 (a2) := x29
    refine st_call rfl (want0 rfl _) rfl Try.func19 (by kernel_rfl) rfl #[.slice B0 (l1).length d0, .int .u8 (a2)] (by simp only [List.map_toArray, List.map_cons, List.map_nil, e0, e1]) ?_
    refine (poly_Eval.calls k B0 d0 _ _ _ w1 hC0 hl0 H3).mono ?_
    rintro e w2 ⟨rfl, hb2⟩
    exact ⟨_, rfl, rfl, hb2⟩
  case s6 =>
    intro b w1 hb hp hu
    have x27 : (Pv.is (.int .u8 (t1))).V (get b 27) w1 := hp 2 27 (by kernel_rfl) rfl
    exact st_assign rfl (want0 rfl _) rfl x27
  case s7 =>
    intro b w1 hb hp hu
    have x30 : (Pv.is (.int .u8 (t2))).V (get b 30) w1 := hp 5 30 (by kernel_rfl) rfl
    exact st_assign rfl (want0 rfl _) rfl x30
  intro ac4 wo4 hn4 hd_ hb hv hs
  have g4_9 : (Pv.is (.int .u8 (t1))).V (get ac4 9) wo4 := hv 6 9 rfl
  have g4_10 : (Pv.is (.int .u8 (t2))).V (get ac4 10) wo4 := hv 7 10 rfl
  have g4_8 : (Pv.is (.bool false)).V (get ac4 8) wo4 := Pv.keep _ g3_8 (hs 8 rfl) hb
  have g4_0 : (Pv.sl (Kd.int .u8) (l0)).V (get ac4 0) wo4 := Pv.keep _ g3_0 (hs 0 rfl) hb
  have g4_1 : (Pv.sl (Kd.int .u8) (l1)).V (get ac4 1) wo4 := Pv.keep _ g3_1 (hs 1 rfl) hb
  have g4_2 : (Pv.is (.int .u8 (a2))).V (get ac4 2) wo4 := Pv.keep _ g3_2 (hs 2 rfl) hb
  have g4_3 : (Pv.is (.int .u8 (a3))).V (get ac4 3) wo4 := Pv.keep _ g3_3 (hs 3 rfl) hb
  have hB4 := below_step hB3 hb
  have hd4 := hd_.trans hd3
  clear hv hs hd_ hb hB3 hn3 hd3 g3_24 g3_8 g3_0 g3_1 g3_2 g3_3
  show Code.wp _ _ _ _ _
  refine wp_seq ?_
  refine Reg.plain (T := wristbandlaw08_PolyValues.T6) (D := wristbandlaw08_PolyValues.D6) (n := 113) (by kernel_rfl) hn4 (told [Pv.sl (Kd.int .u8) (l0), Pv.sl (Kd.int .u8) (l1), Pv.sl (Kd.int .u8) (t3), Pv.sl (Kd.int .u8) (t3)]) (told_pst _) (owedS (owedS (owedS (owedS owed0 ?s0) ?s1) ?s2) ?s3) ?_
  case s0 =>
    intro b w1 hb hp hu
    have x0 : (Pv.sl (Kd.int .u8) (l0)).V (get b 0) w1 := Pv.keep _ g4_0 (hu 0 (by kernel_rfl)) hb
    exact st_move rfl (want0 rfl _) rfl x0
  case s1 =>
    intro b w1 hb hp hu
    have x1 : (Pv.sl (Kd.int .u8) (l1)).V (get b 1) w1 := Pv.keep _ g4_1 (hu 1 (by kernel_rfl)) hb
    exact st_move rfl (want0 rfl _) rfl x1
  case s2 =>
    intro b w1 hb hp hu
    have x31 : (Pv.sl (Kd.int .u8) (l0)).V (get b 31) w1 := hp 0 31 (by kernel_rfl) rfl
    obtain ⟨B0, d0, e0_, hC0, hl0⟩ := x31
    have e0 : b.eval (Operand.tmp 31) = .slice B0 (l0).length d0 := e0_
    have x32 : (Pv.sl (Kd.int .u8) (l1)).V (get b 32) w1 := hp 1 32 (by kernel_rfl) rfl
    obtain ⟨B1, d1, e1_, hC1, hl1⟩ := x32
    have e1 : b.eval (Operand.tmp 32) = .slice B1 (l1).length d1 := e1_
    refine st_call rfl (want0 rfl _) rfl Try.func15 (by kernel_rfl) rfl #[.slice B0 (l0).length d0, .slice B1 (l1).length d1] (by simp only [List.map_toArray, List.map_cons, List.map_nil, e0, e1]) ?_
    refine (poly_Mul.calls k B0 d0 _ B1 d1 _ _ w1 hC0 hl0 hC1 hl1 H4).mono ?_
    rintro e w2 ⟨v0_, rfl, ho0, hb2⟩
    exact ⟨_, rfl, Pv.of_sl ho0, hb2⟩
  case s3 =>
    intro b w1 hb hp hu
    have x33 : (Pv.sl (Kd.int .u8) (t3)).V (get b 33) w1 := hp 2 33 (by kernel_rfl) rfl
    exact st_assign rfl (want0 rfl _) rfl x33
  intro ac5 wo5 hn5 hd_ hb hv hs
  have g5_11 : (Pv.sl (Kd.int .u8) (t3)).V (get ac5 11) wo5 := hv 3 11 rfl
  have g5_9 : (Pv.is (.int .u8 (t1))).V (get ac5 9) wo5 := Pv.keep _ g4_9 (hs 9 rfl) hb
  have g5_10 : (Pv.is (.int .u8 (t2))).V (get ac5 10) wo5 := Pv.keep _ g4_10 (hs 10 rfl) hb
  have g5_8 : (Pv.is (.bool false)).V (get ac5 8) wo5 := Pv.keep _ g4_8 (hs 8 rfl) hb
  have g5_0 : (Pv.sl (Kd.int .u8) (l0)).V (get ac5 0) wo5 := Pv.keep _ g4_0 (hs 0 rfl) hb
  have g5_1 : (Pv.sl (Kd.int .u8) (l1)).V (get ac5 1) wo5 := Pv.keep _ g4_1 (hs 1 rfl) hb
  have g5_2 : (Pv.is (.int .u8 (a2))).V (get ac5 2) wo5 := Pv.keep _ g4_2 (hs 2 rfl) hb
  have g5_3 : (Pv.is (.int .u8 (a3))).V (get ac5 3) wo5 := Pv.keep _ g4_3 (hs 3 rfl) hb
  have hB5 := below_step hB4 hb
  have hd5 := hd_.trans hd4
  clear hv hs hd_ hb hB4 hn4 hd4 g4_9 g4_10 g4_8 g4_0 g4_1 g4_2 g4_3
  show Code.wp _ _ _ _ _
  refine wp_seq ?_
  refine wp_seq ?_
  refine Reg.plain (T := wristbandlaw08_PolyValues.T7) (D := wristbandlaw08_PolyValues.D7) (n := 113) (by kernel_rfl) hn5 (told [Pv.sl (Kd.int .u8) (l0), Pv.sl (Kd.int .u8) (l1), Pv.sl (Kd.int .u8) (t4), Pv.is (.int .u8 (a2)), Pv.is (.int .u8 (t5)), Pv.is (.int .u8 (t1)), Pv.is (.int .u8 (t2)), Pv.is (.int .u8 (t6)), Pv.is (.bool false), Pv.is (.bool false), Pv.sl (Kd.int .u8) (t3), Pv.is (.int .u8 (a2)), Pv.is (.int .u8 (t7)), Pv.is (.int .u8 (t1)), Pv.is (.int .u8 (t2)), Pv.is (.int .u8 (t8)), Pv.is (.bool false), Pv.is (.bool false), Pv.is (.bool false), Pv.sl (Kd.int .u8) (l0), Pv.is (.int .u8 (a3)), Pv.sl (Kd.int .u8) (t9), Pv.is (.int .u8 (a2)), Pv.is (.int .u8 (t10)), Pv.is (.int .u8 (a3)), Pv.is (.int .u8 (t1)), Pv.is (.int .u8 (t11)), Pv.is (.bool false), Pv.is (.bool false)]) (told_pst _) (owedS (owedS (owedS (owedS (owedS (owedS (owedS (owedS (owedS (owedS (owedS (owedS (owedS (owedS (owedS (owedS (owedS (owedS (owedS (owedS (owedS (owedS (owedS (owedS (owedS (owedS (owedS (owedS (owedS owed0 ?s0) ?s1) ?s2) ?s3) ?s4) ?s5) ?s6) ?s7) ?s8) ?s9) ?s10) ?s11) ?s12) ?s13) ?s14) ?s15) ?s16) ?s17) ?s18) ?s19) ?s20) ?s21) ?s22) ?s23) ?s24) ?s25) ?s26) ?s27) ?s28) ?_
  case s0 =>
    intro b w1 hb hp hu
    have x0 : (Pv.sl (Kd.int .u8) (l0)).V (get b 0) w1 := Pv.keep _ g5_0 (hu 0 (by kernel_rfl)) hb
    exact st_move rfl (want0 rfl _) rfl x0
  case s1 =>
    intro b w1 hb hp hu
    have x1 : (Pv.sl (Kd.int .u8) (l1)).V (get b 1) w1 := Pv.keep _ g5_1 (hu 1 (by kernel_rfl)) hb
    exact st_move rfl (want0 rfl _) rfl x1
  case s2 =>
    intro b w1 hb hp hu
    have x34 : (Pv.sl (Kd.int .u8) (l0)).V (get b 34) w1 := hp 0 34 (by kernel_rfl) rfl
    obtain ⟨B0, d0, e0_, hC0, hl0⟩ := x34
    have e0 : b.eval (Operand.tmp 34) = .slice B0 (l0).length d0 := e0_
    have x35 : (Pv.sl (Kd.int .u8) (l1)).V (get b 35) w1 := hp 1 35 (by kernel_rfl) rfl
    obtain ⟨B1, d1, e1_, hC1, hl1⟩ := x35
    have e1 : b.eval (Operand.tmp 35) = .slice B1 (l1).length d1 := e1_
    refine st_call rfl (want0 rfl _) rfl Try.func13 (by kernel_rfl) rfl #[.slice B0 (l0).length d0, .slice B1 (l1).length d1] (by simp only [List.map_toArray, List.map_cons, List.map_nil, e0, e1]) ?_
    refine (poly_Add.calls k B0 d0 _ B1 d1 _ _ w1 hC0 hl0 hC1 hl1 H5).mono ?_
    rintro e w2 ⟨v0_, rfl, ho0, hb2⟩
    exact ⟨_, rfl, Pv.of_sl ho0, hb2⟩
  case s3 =>
    intro b w1 hb hp hu
    have x2 : (Pv.is (.int .u8 (a2))).V (get b 2) w1 := Pv.keep _ g5_2 (hu 2 (by kernel_rfl)) hb
    exact st_move rfl (want0 rfl _) rfl x2
  case s4 =>
    intro b w1 hb hp hu
    have x36 : (Pv.sl (Kd.int .u8) (t4)).V (get b 36) w1 := hp 2 36 (by kernel_rfl) rfl
    obtain ⟨B0, d0, e0_, hC0, hl0⟩ := x36
    have e0 : b.eval (Operand.tmp 36) = .slice B0 (t4).length d0 := e0_
    have x37 : (Pv.is (.int .u8 (a2))).V (get b 37) w1 := hp 3 37 (by kernel_rfl) rfl
    have e1 : b.eval (Operand.tmp 37) = .int .u8 (a2) := x37
    refine st_call rfl (want0 rfl _) rfl Try.func19 (by kernel_rfl) rfl #[.slice B0 (t4).length d0, .int .u8 (a2)] (by simp only [List.map_toArray, List.map_cons, List.map_nil, e0, e1]) ?_
    refine (poly_Eval.calls k B0 d0 _ _ _ w1 hC0 hl0 H6).mono ?_
    rintro e w2 ⟨rfl, hb2⟩
    exact ⟨_, rfl, rfl, hb2⟩
  case s5 =>
    intro b w1 hb hp hu
    have x9 : (Pv.is (.int .u8 (t1))).V (get b 9) w1 := Pv.keep _ g5_9 (hu 9 (by kernel_rfl)) hb
    exact st_move rfl (want0 rfl _) rfl x9
  case s6 =>
    intro b w1 hb hp hu
    have x10 : (Pv.is (.int .u8 (t2))).V (get b 10) w1 := Pv.keep _ g5_10 (hu 10 (by kernel_rfl)) hb
    exact st_move rfl (want0 rfl _) rfl x10
  case s7 =>
    intro b w1 hb hp hu
    have x39 : (Pv.is (.int .u8 (t1))).V (get b 39) w1 := hp 5 39 (by kernel_rfl) rfl
    have e0 : b.eval (Operand.tmp 39) = .int .u8 (t1) := x39
    have x40 : (Pv.is (.int .u8 (t2))).V (get b 40) w1 := hp 6 40 (by kernel_rfl) rfl
    have e1 : b.eval (Operand.tmp 40) = .int .u8 (t2) := x40
    refine st_call rfl (want0 rfl _) rfl Try.func25 (by kernel_rfl) rfl #[.int .u8 (t1), .int .u8 (t2)] (by simp only [List.map_toArray, List.map_cons, List.map_nil, e0, e1]) ?_
    refine (gf_Add.calls _ _ _ w1  H7).mono ?_
    rintro e w2 ⟨rfl, hb2⟩
    exact ⟨_, rfl, rfl, (below_of_drawn hb2)⟩
  case s8 =>
    intro b w1 hb hp hu
    have x38 : (Pv.is (.int .u8 (t5))).V (get b 38) w1 := hp 4 38 (by kernel_rfl) rfl
    have x41 : (Pv.is (.int .u8 (t6))).V (get b 41) w1 := hp 7 41 (by kernel_rfl) rfl
    exact st_bin (v := .bool false) (vx := .int .u8 (t5)) (vy := .int .u8 (t6)) rfl (want0 rfl _) rfl x38 x41 (by first | rfl | (have c_ := c1002; refine Eq.trans (b := Result.ok (.bool ((t5) != (t6))) w1) rfl ?_; rw [show ((t5) != (t6)) = false from bne_eq_false_iff_eq.mpr c_]) | (have c_ := c1002; clear hb hp hu; go_simp; first | done | rfl | (simp [c_]; done) | (simp; omega))) rfl
  case s9 =>
    intro b w1 hb hp hu
    have x42 : (Pv.is (.bool false)).V (get b 42) w1 := hp 8 42 (by kernel_rfl) rfl
    exact st_move rfl (want0 rfl _) rfl x42
  case s10 =>
    intro b w1 hb hp hu
    have x43 : (Pv.is (.bool false)).V (get b 43) w1 := hp 9 43 (by kernel_rfl) rfl
    have x11 : (Pv.sl (Kd.int .u8) (t3)).V (get b 11) w1 := Pv.keep _ g5_11 (hu 11 (by kernel_rfl)) hb
    exact st_move rfl ((want_is (N := 43) rfl rfl x43).trans rfl) rfl x11
  case s11 =>
    intro b w1 hb hp hu
    have x43 : (Pv.is (.bool false)).V (get b 43) w1 := hp 9 43 (by kernel_rfl) rfl
    have x2 : (Pv.is (.int .u8 (a2))).V (get b 2) w1 := Pv.keep _ g5_2 (hu 2 (by kernel_rfl)) hb
    exact st_move rfl ((want_is (N := 43) rfl rfl x43).trans rfl) rfl x2
  case s12 =>
    intro b w1 hb hp hu
    have x43 : (Pv.is (.bool false)).V (get b 43) w1 := hp 9 43 (by kernel_rfl) rfl
    have x44 : (Pv.sl (Kd.int .u8) (t3)).V (get b 44) w1 := hp 10 44 (by kernel_rfl) rfl
    obtain ⟨B0, d0, e0_, hC0, hl0⟩ := x44
    have e0 : b.eval (Operand.tmp 44) = .slice B0 (t3).length d0 := e0_
    have x45 : (Pv.is (.int .u8 (a2))).V (get b 45) w1 := hp 11 45 (by kernel_rfl) rfl
    have e1 : b.eval (Operand.tmp 45) = .int .u8 (a2) := x45
    refine st_call rfl ((want_is (N := 43) rfl rfl x43).trans rfl) rfl Try.func19 (by kernel_rfl) rfl #[.slice B0 (t3).length d0, .int .u8 (a2)] (by simp only [List.map_toArray, List.map_cons, List.map_nil, e0, e1]) ?_
    refine (poly_Eval.calls k B0 d0 _ _ _ w1 hC0 hl0 H8).mono ?_
    rintro e w2 ⟨rfl, hb2⟩
    exact ⟨_, rfl, rfl, hb2⟩
  case s13 =>
    intro b w1 hb hp hu
    have x43 : (Pv.is (.bool false)).V (get b 43) w1 := hp 9 43 (by kernel_rfl) rfl
    have x9 : (Pv.is (.int .u8 (t1))).V (get b 9) w1 := Pv.keep _ g5_9 (hu 9 (by kernel_rfl)) hb
    exact st_move rfl ((want_is (N := 43) rfl rfl x43).trans rfl) rfl x9
  case s14 =>
    intro b w1 hb hp hu
    have x43 : (Pv.is (.bool false)).V (get b 43) w1 := hp 9 43 (by kernel_rfl) rfl
    have x10 : (Pv.is (.int .u8 (t2))).V (get b 10) w1 := Pv.keep _ g5_10 (hu 10 (by kernel_rfl)) hb
    exact st_move rfl ((want_is (N := 43) rfl rfl x43).trans rfl) rfl x10
  case s15 =>
    intro b w1 hb hp hu
    have x43 : (Pv.is (.bool false)).V (get b 43) w1 := hp 9 43 (by kernel_rfl) rfl
    have x47 : (Pv.is (.int .u8 (t1))).V (get b 47) w1 := hp 13 47 (by kernel_rfl) rfl
    have e0 : b.eval (Operand.tmp 47) = .int .u8 (t1) := x47
    have x48 : (Pv.is (.int .u8 (t2))).V (get b 48) w1 := hp 14 48 (by kernel_rfl) rfl
    have e1 : b.eval (Operand.tmp 48) = .int .u8 (t2) := x48
    refine st_call rfl ((want_is (N := 43) rfl rfl x43).trans rfl) rfl Try.func26 (by kernel_rfl) rfl #[.int .u8 (t1), .int .u8 (t2)] (by simp only [List.map_toArray, List.map_cons, List.map_nil, e0, e1]) ?_
    refine (gf_Mul.calls k _ _ _ w1  H9).mono ?_
    rintro e w2 ⟨rfl, hb2⟩
    exact ⟨_, rfl, rfl, (below_of_drawn hb2)⟩
  case s16 =>
    intro b w1 hb hp hu
    have x43 : (Pv.is (.bool false)).V (get b 43) w1 := hp 9 43 (by kernel_rfl) rfl
    have x46 : (Pv.is (.int .u8 (t7))).V (get b 46) w1 := hp 12 46 (by kernel_rfl) rfl
    have x49 : (Pv.is (.int .u8 (t8))).V (get b 49) w1 := hp 15 49 (by kernel_rfl) rfl
    exact st_bin (v := .bool false) (vx := .int .u8 (t7)) (vy := .int .u8 (t8)) rfl ((want_is (N := 43) rfl rfl x43).trans rfl) rfl x46 x49 (by first | rfl | (have c_ := c1003; refine Eq.trans (b := Result.ok (.bool ((t7) != (t8))) w1) rfl ?_; rw [show ((t7) != (t8)) = false from bne_eq_false_iff_eq.mpr c_]) | (have c_ := c1003; clear hb hp hu; go_simp; first | done | rfl | (simp [c_]; done) | (simp; omega))) rfl
  case s17 =>
    intro b w1 hb hp hu
    have x43 : (Pv.is (.bool false)).V (get b 43) w1 := hp 9 43 (by kernel_rfl) rfl
    have x50 : (Pv.is (.bool false)).V (get b 50) w1 := hp 16 50 (by kernel_rfl) rfl
    exact st_pick (b := false) rfl (want0 rfl _) rfl x43 x50
  case s18 =>
    intro b w1 hb hp hu
    have x51 : (Pv.is (.bool false)).V (get b 51) w1 := hp 17 51 (by kernel_rfl) rfl
    exact st_move rfl (want0 rfl _) rfl x51
  case s19 =>
    intro b w1 hb hp hu
    have x52 : (Pv.is (.bool false)).V (get b 52) w1 := hp 18 52 (by kernel_rfl) rfl
    have x0 : (Pv.sl (Kd.int .u8) (l0)).V (get b 0) w1 := Pv.keep _ g5_0 (hu 0 (by kernel_rfl)) hb
    exact st_move rfl ((want_is (N := 52) rfl rfl x52).trans rfl) rfl x0
  case s20 =>
    intro b w1 hb hp hu
    have x52 : (Pv.is (.bool false)).V (get b 52) w1 := hp 18 52 (by kernel_rfl) rfl
    have x3 : (Pv.is (.int .u8 (a3))).V (get b 3) w1 := Pv.keep _ g5_3 (hu 3 (by kernel_rfl)) hb
    exact st_move rfl ((want_is (N := 52) rfl rfl x52).trans rfl) rfl x3
  case s21 =>
    intro b w1 hb hp hu
    have x52 : (Pv.is (.bool false)).V (get b 52) w1 := hp 18 52 (by kernel_rfl) rfl
    have x53 : (Pv.sl (Kd.int .u8) (l0)).V (get b 53) w1 := hp 19 53 (by kernel_rfl) rfl
    obtain ⟨B0, d0, e0_, hC0, hl0⟩ := x53
    have e0 : b.eval (Operand.tmp 53) = .slice B0 (l0).length d0 := e0_
    have x54 : (Pv.is (.int .u8 (a3))).V (get b 54) w1 := hp 20 54 (by kernel_rfl) rfl
    have e1 : b.eval (Operand.tmp 54) = .int .u8 (a3) := x54
    refine st_call rfl ((want_is (N := 52) rfl rfl x52).trans rfl) rfl Try.func17 (by kernel_rfl) rfl #[.slice B0 (l0).length d0, .int .u8 (a3)] (by simp only [List.map_toArray, List.map_cons, List.map_nil, e0, e1]) ?_
    refine (poly_Times.calls k B0 d0 _ _ _ w1 hC0 hl0 H10).mono ?_
    rintro e w2 ⟨v0_, rfl, ho0, hb2⟩
    exact ⟨_, rfl, Pv.of_sl ho0, hb2⟩
  case s22 =>
    intro b w1 hb hp hu
    have x52 : (Pv.is (.bool false)).V (get b 52) w1 := hp 18 52 (by kernel_rfl) rfl
    have x2 : (Pv.is (.int .u8 (a2))).V (get b 2) w1 := Pv.keep _ g5_2 (hu 2 (by kernel_rfl)) hb
    exact st_move rfl ((want_is (N := 52) rfl rfl x52).trans rfl) rfl x2
  case s23 =>
    intro b w1 hb hp hu
    have x52 : (Pv.is (.bool false)).V (get b 52) w1 := hp 18 52 (by kernel_rfl) rfl
    have x55 : (Pv.sl (Kd.int .u8) (t9)).V (get b 55) w1 := hp 21 55 (by kernel_rfl) rfl
    obtain ⟨B0, d0, e0_, hC0, hl0⟩ := x55
    have e0 : b.eval (Operand.tmp 55) = .slice B0 (t9).length d0 := e0_
    have x56 : (Pv.is (.int .u8 (a2))).V (get b 56) w1 := hp 22 56 (by kernel_rfl) rfl
    have e1 : b.eval (Operand.tmp 56) = .int .u8 (a2) := x56
    refine st_call rfl ((want_is (N := 52) rfl rfl x52).trans rfl) rfl Try.func19 (by kernel_rfl) rfl #[.slice B0 (t9).length d0, .int .u8 (a2)] (by simp only [List.map_toArray, List.map_cons, List.map_nil, e0, e1]) ?_
    refine (poly_Eval.calls k B0 d0 _ _ _ w1 hC0 hl0 H11).mono ?_
    rintro e w2 ⟨rfl, hb2⟩
    exact ⟨_, rfl, rfl, hb2⟩
  case s24 =>
    intro b w1 hb hp hu
    have x52 : (Pv.is (.bool false)).V (get b 52) w1 := hp 18 52 (by kernel_rfl) rfl
    have x3 : (Pv.is (.int .u8 (a3))).V (get b 3) w1 := Pv.keep _ g5_3 (hu 3 (by kernel_rfl)) hb
    exact st_move rfl ((want_is (N := 52) rfl rfl x52).trans rfl) rfl x3
  case s25 =>
    intro b w1 hb hp hu
    have x52 : (Pv.is (.bool false)).V (get b 52) w1 := hp 18 52 (by kernel_rfl) rfl
    have x9 : (Pv.is (.int .u8 (t1))).V (get b 9) w1 := Pv.keep _ g5_9 (hu 9 (by kernel_rfl)) hb
    exact st_move rfl ((want_is (N := 52) rfl rfl x52).trans rfl) rfl x9
  case s26 =>
    intro b w1 hb hp hu
    have x52 : (Pv.is (.bool false)).V (get b 52) w1 := hp 18 52 (by kernel_rfl) rfl
    have x58 : (Pv.is (.int .u8 (a3))).V (get b 58) w1 := hp 24 58 (by kernel_rfl) rfl
    have e0 : b.eval (Operand.tmp 58) = .int .u8 (a3) := x58
    have x59 : (Pv.is (.int .u8 (t1))).V (get b 59) w1 := hp 25 59 (by kernel_rfl) rfl
    have e1 : b.eval (Operand.tmp 59) = .int .u8 (t1) := x59
    refine st_call rfl ((want_is (N := 52) rfl rfl x52).trans rfl) rfl Try.func26 (by kernel_rfl) rfl #[.int .u8 (a3), .int .u8 (t1)] (by simp only [List.map_toArray, List.map_cons, List.map_nil, e0, e1]) ?_
    refine (gf_Mul.calls k _ _ _ w1  H12).mono ?_
    rintro e w2 ⟨rfl, hb2⟩
    exact ⟨_, rfl, rfl, (below_of_drawn hb2)⟩
  case s27 =>
    intro b w1 hb hp hu
    have x52 : (Pv.is (.bool false)).V (get b 52) w1 := hp 18 52 (by kernel_rfl) rfl
    have x57 : (Pv.is (.int .u8 (t10))).V (get b 57) w1 := hp 23 57 (by kernel_rfl) rfl
    have x60 : (Pv.is (.int .u8 (t11))).V (get b 60) w1 := hp 26 60 (by kernel_rfl) rfl
    exact st_bin (v := .bool false) (vx := .int .u8 (t10)) (vy := .int .u8 (t11)) rfl ((want_is (N := 52) rfl rfl x52).trans rfl) rfl x57 x60 (by first | rfl | (have c_ := c1004; refine Eq.trans (b := Result.ok (.bool ((t10) != (t11))) w1) rfl ?_; rw [show ((t10) != (t11)) = false from bne_eq_false_iff_eq.mpr c_]) | (have c_ := c1004; clear hb hp hu; go_simp; first | done | rfl | (simp [c_]; done) | (simp; omega))) rfl
  case s28 =>
    intro b w1 hb hp hu
    have x52 : (Pv.is (.bool false)).V (get b 52) w1 := hp 18 52 (by kernel_rfl) rfl
    have x61 : (Pv.is (.bool false)).V (get b 61) w1 := hp 27 61 (by kernel_rfl) rfl
    exact st_pick (b := false) rfl (want0 rfl _) rfl x52 x61
  intro ac6 wo6 hn6 hd_ hb hv hs
  have g6_62 : (Pv.is (.bool false)).V (get ac6 62) wo6 := hv 28 62 rfl
  have g6_11 : (Pv.sl (Kd.int .u8) (t3)).V (get ac6 11) wo6 := Pv.keep _ g5_11 (hs 11 rfl) hb
  have g6_9 : (Pv.is (.int .u8 (t1))).V (get ac6 9) wo6 := Pv.keep _ g5_9 (hs 9 rfl) hb
  have g6_8 : (Pv.is (.bool false)).V (get ac6 8) wo6 := Pv.keep _ g5_8 (hs 8 rfl) hb
  have g6_0 : (Pv.sl (Kd.int .u8) (l0)).V (get ac6 0) wo6 := Pv.keep _ g5_0 (hs 0 rfl) hb
  have g6_1 : (Pv.sl (Kd.int .u8) (l1)).V (get ac6 1) wo6 := Pv.keep _ g5_1 (hs 1 rfl) hb
  have g6_2 : (Pv.is (.int .u8 (a2))).V (get ac6 2) wo6 := Pv.keep _ g5_2 (hs 2 rfl) hb
  have hB6 := below_step hB5 hb
  have hd6 := hd_.trans hd5
  clear hv hs hd_ hb hB5 hn5 hd5 g5_11 g5_9 g5_10 g5_8 g5_0 g5_1 g5_2 g5_3
  show Code.wp _ _ _ _ _
  refine wp_cond_false (show ac6.eval (Operand.tmp 62) = .bool false from g6_62) ?_
  refine wp_skip ?_
  show Code.wp _ _ _ _ _
  refine wp_seq ?_
  refine Reg.plain (T := wristbandlaw08_PolyValues.T9) (D := wristbandlaw08_PolyValues.D9) (n := 113) (by kernel_rfl) hn6 (told [Pv.sl (Kd.int .u8) (l0), Pv.is (.int .u8 (a2)), Pv.sl (Kd.int .u8) (([a2, (1 : Int)] : List Int)), Pv.tup [Pv.sl (Kd.int .u8) (t12), Pv.sl (Kd.int .u8) (t13), Pv.is (.int .i64 (t14))], Pv.tup [Pv.sl (Kd.int .u8) (t12), Pv.sl (Kd.int .u8) (t13), Pv.is (.int .i64 (t14))], Pv.sl (Kd.int .u8) (t12), Pv.sl (Kd.int .u8) (t13), Pv.is (.int .i64 (t14)), Pv.sl (Kd.int .u8) (t12), Pv.sl (Kd.int .u8) (t13), Pv.is (.int .i64 (t14))]) (told_pst _) (owedS (owedS (owedS (owedS (owedS (owedS (owedS (owedS (owedS (owedS (owedS owed0 ?s0) ?s1) ?s2) ?s3) ?s4) ?s5) ?s6) ?s7) ?s8) ?s9) ?s10) ?_
  case s0 =>
    intro b w1 hb hp hu
    have x0 : (Pv.sl (Kd.int .u8) (l0)).V (get b 0) w1 := Pv.keep _ g6_0 (hu 0 (by kernel_rfl)) hb
    exact st_move rfl (want0 rfl _) rfl x0
  case s1 =>
    intro b w1 hb hp hu
    have x2 : (Pv.is (.int .u8 (a2))).V (get b 2) w1 := Pv.keep _ g6_2 (hu 2 (by kernel_rfl)) hb
    exact st_move rfl (want0 rfl _) rfl x2
  case s2 =>
    intro b w1 hb hp hu
    have x65 : (Pv.is (.int .u8 (a2))).V (get b 65) w1 := hp 1 65 (by kernel_rfl) rfl
    have e0 : b.eval (Operand.tmp 65) = .int .u8 (a2) := x65
    have e1 : b.eval (Operand.const (Value.int IntKind.u8 1)) = .int .u8 ((1 : Int)) := rfl
    exact st_lit (e := 5) (N := 66) (xs := ([a2, (1 : Int)] : List Int)) (inner := [.int .u8 (a2), .int .u8 ((1 : Int))]) (ps := #[(0, .int .u8 (a2)), (1, .int .u8 ((1 : Int)))]) rfl (want0 rfl _) rfl rfl (by simp only [List.map_toArray, List.map_cons, List.map_nil, e0, e1]) (by first | (go_simp; done) | (go_simp; rfl)) (Reps.one (show Kd.M (Kd.int .u8) _ _ _ (a2) [.int .u8 (a2)] from rfl) (Reps.one (show Kd.M (Kd.int .u8) _ _ _ ((1 : Int)) [.int .u8 ((1 : Int))] from rfl) (Reps.none _ _))) (by simp) (fun _ _ h => h)
  case s3 =>
    intro b w1 hb hp hu
    have x64 : (Pv.sl (Kd.int .u8) (l0)).V (get b 64) w1 := hp 0 64 (by kernel_rfl) rfl
    obtain ⟨B0, d0, e0_, hC0, hl0⟩ := x64
    have e0 : b.eval (Operand.tmp 64) = .slice B0 (l0).length d0 := e0_
    have x66 : (Pv.sl (Kd.int .u8) (([a2, (1 : Int)] : List Int))).V (get b 66) w1 := hp 2 66 (by kernel_rfl) rfl
    obtain ⟨B1, d1, e1_, hC1, hl1⟩ := x66
    have e1 : b.eval (Operand.tmp 66) = .slice B1 (([a2, (1 : Int)] : List Int)).length d1 := e1_
    refine st_call rfl (want0 rfl _) rfl Try.func23 (by kernel_rfl) rfl #[.slice B0 (l0).length d0, .slice B1 (([a2, (1 : Int)] : List Int)).length d1] (by simp only [List.map_toArray, List.map_cons, List.map_nil, e0, e1]) ?_
    refine (poly_Quo.calls k B0 d0 _ B1 d1 _ _ _ _ w1 hC0 hl0 hC1 hl1 H13).mono ?_
    rintro e w2 ⟨v0_, v1_, rfl, ho0, ho1, hb2⟩
    exact ⟨_, rfl, ⟨[_, _, _], rfl, Pv.of_sl ho0, Pv.of_sl ho1, rfl, trivial⟩, hb2⟩
  case s4 =>
    intro b w1 hb hp hu
    have x67 : (Pv.tup [Pv.sl (Kd.int .u8) (t12), Pv.sl (Kd.int .u8) (t13), Pv.is (.int .i64 (t14))]).V (get b 67) w1 := hp 3 67 (by kernel_rfl) rfl
    exact st_move rfl (want0 rfl _) rfl x67
  case s5 =>
    intro b w1 hb hp hu
    have x63 : (Pv.tup [Pv.sl (Kd.int .u8) (t12), Pv.sl (Kd.int .u8) (t13), Pv.is (.int .i64 (t14))]).V (get b 63) w1 := hp 4 63 (by kernel_rfl) rfl
    exact st_extract rfl (want0 rfl _) rfl x63 rfl (fun _ h => h)
  case s6 =>
    intro b w1 hb hp hu
    have x63 : (Pv.tup [Pv.sl (Kd.int .u8) (t12), Pv.sl (Kd.int .u8) (t13), Pv.is (.int .i64 (t14))]).V (get b 63) w1 := hp 4 63 (by kernel_rfl) rfl
    exact st_extract rfl (want0 rfl _) rfl x63 rfl (fun _ h => h)
  case s7 =>
    intro b w1 hb hp hu
    have x63 : (Pv.tup [Pv.sl (Kd.int .u8) (t12), Pv.sl (Kd.int .u8) (t13), Pv.is (.int .i64 (t14))]).V (get b 63) w1 := hp 4 63 (by kernel_rfl) rfl
    exact st_extract rfl (want0 rfl _) rfl x63 rfl (fun _ h => h)
  case s8 =>
    intro b w1 hb hp hu
    have x68 : (Pv.sl (Kd.int .u8) (t12)).V (get b 68) w1 := hp 5 68 (by kernel_rfl) rfl
    exact st_assign rfl (want0 rfl _) rfl x68
  case s9 =>
    intro b w1 hb hp hu
    have x69 : (Pv.sl (Kd.int .u8) (t13)).V (get b 69) w1 := hp 6 69 (by kernel_rfl) rfl
    exact st_assign rfl (want0 rfl _) rfl x69
  case s10 =>
    intro b w1 hb hp hu
    have x70 : (Pv.is (.int .i64 (t14))).V (get b 70) w1 := hp 7 70 (by kernel_rfl) rfl
    exact st_assign rfl (want0 rfl _) rfl x70
  intro ac7 wo7 hn7 hd_ hb hv hs
  have g7_13 : (Pv.sl (Kd.int .u8) (t13)).V (get ac7 13) wo7 := hv 9 13 rfl
  have g7_14 : (Pv.is (.int .i64 (t14))).V (get ac7 14) wo7 := hv 10 14 rfl
  have g7_11 : (Pv.sl (Kd.int .u8) (t3)).V (get ac7 11) wo7 := Pv.keep _ g6_11 (hs 11 rfl) hb
  have g7_9 : (Pv.is (.int .u8 (t1))).V (get ac7 9) wo7 := Pv.keep _ g6_9 (hs 9 rfl) hb
  have g7_8 : (Pv.is (.bool false)).V (get ac7 8) wo7 := Pv.keep _ g6_8 (hs 8 rfl) hb
  have g7_0 : (Pv.sl (Kd.int .u8) (l0)).V (get ac7 0) wo7 := Pv.keep _ g6_0 (hs 0 rfl) hb
  have g7_1 : (Pv.sl (Kd.int .u8) (l1)).V (get ac7 1) wo7 := Pv.keep _ g6_1 (hs 1 rfl) hb
  have hB7 := below_step hB6 hb
  have hd7 := hd_.trans hd6
  clear hv hs hd_ hb hB6 hn6 hd6 g6_62 g6_11 g6_9 g6_8 g6_0 g6_1 g6_2
  show Code.wp _ _ _ _ _
  refine wp_seq ?_
  refine wp_seq ?_
  refine Reg.plain (T := wristbandlaw08_PolyValues.T10) (D := wristbandlaw08_PolyValues.D10) (n := 113) (by kernel_rfl) hn7 (told [Pv.is (.int .i64 (t14)), Pv.is (.bool false), Pv.is (.bool false), Pv.sl (Kd.int .u8) (t13), Pv.is (.int .u8 (t15)), Pv.is (.int .u8 (t1)), Pv.is (.bool false), Pv.is (.bool false), Pv.is (.bool false), Pv.sl (Kd.int .u8) (l0), Pv.is (.int .i64 (t16)), Pv.is (.bool false), Pv.is (.bool false), Pv.is (undef), Pv.is (undef), Pv.is (undef), Pv.is (.bool false), Pv.is (.bool false), Pv.is (undef), Pv.is (undef), Pv.is (undef), Pv.is (undef), Pv.is (undef), Pv.is (undef), Pv.is (undef), Pv.is (undef), Pv.is (.bool false), Pv.is (.bool false)]) (told_pst _) (owedS (owedS (owedS (owedS (owedS (owedS (owedS (owedS (owedS (owedS (owedS (owedS (owedS (owedS (owedS (owedS (owedS (owedS (owedS (owedS (owedS (owedS (owedS (owedS (owedS (owedS (owedS (owedS owed0 ?s0) ?s1) ?s2) ?s3) ?s4) ?s5) ?s6) ?s7) ?s8) ?s9) ?s10) ?s11) ?s12) ?s13) ?s14) ?s15) ?s16) ?s17) ?s18) ?s19) ?s20) ?s21) ?s22) ?s23) ?s24) ?s25) ?s26) ?s27) ?_
  case s0 =>
    intro b w1 hb hp hu
    have x14 : (Pv.is (.int .i64 (t14))).V (get b 14) w1 := Pv.keep _ g7_14 (hu 14 (by kernel_rfl)) hb
    exact st_move rfl (want0 rfl _) rfl x14
  case s1 =>
    intro b w1 hb hp hu
    have x71 : (Pv.is (.int .i64 (t14))).V (get b 71) w1 := hp 0 71 (by kernel_rfl) rfl
    exact st_bin (v := .bool false) (vx := .int .i64 (t14)) (vy := .int .i64 ((0 : Int))) rfl (want0 rfl _) rfl x71 rfl (by first | rfl | (have c_ := c1005; refine Eq.trans (b := Result.ok (.bool ((t14) != ((0 : Int)))) w1) rfl ?_; rw [show ((t14) != ((0 : Int))) = false from bne_eq_false_iff_eq.mpr c_]) | (have c_ := c1005; clear hb hp hu; go_simp; first | done | rfl | (simp [c_]; done) | (simp; omega))) rfl
  case s2 =>
    intro b w1 hb hp hu
    have x72 : (Pv.is (.bool false)).V (get b 72) w1 := hp 1 72 (by kernel_rfl) rfl
    exact st_move rfl (want0 rfl _) rfl x72
  case s3 =>
    intro b w1 hb hp hu
    have x73 : (Pv.is (.bool false)).V (get b 73) w1 := hp 2 73 (by kernel_rfl) rfl
    have x13 : (Pv.sl (Kd.int .u8) (t13)).V (get b 13) w1 := Pv.keep _ g7_13 (hu 13 (by kernel_rfl)) hb
    exact st_move rfl ((want_is (N := 73) rfl rfl x73).trans rfl) rfl x13
  case s4 =>
    intro b w1 hb hp hu
    have x73 : (Pv.is (.bool false)).V (get b 73) w1 := hp 2 73 (by kernel_rfl) rfl
    have x74 : (Pv.sl (Kd.int .u8) (t13)).V (get b 74) w1 := hp 3 74 (by kernel_rfl) rfl
    obtain ⟨B0, d0, e0_, hC0, hl0⟩ := x74
    have e0 : b.eval (Operand.tmp 74) = .slice B0 (t13).length d0 := e0_
    have e1 : b.eval (Operand.const (Value.int IntKind.u8 0)) = .int .u8 ((0 : Int)) := rfl
    refine st_call rfl ((want_is (N := 73) rfl rfl x73).trans rfl) rfl Try.func19 (by kernel_rfl) rfl #[.slice B0 (t13).length d0, .int .u8 ((0 : Int))] (by simp only [List.map_toArray, List.map_cons, List.map_nil, e0, e1]) ?_
    refine (poly_Eval.calls k B0 d0 _ _ _ w1 hC0 hl0 H14).mono ?_
    rintro e w2 ⟨rfl, hb2⟩
    exact ⟨_, rfl, rfl, hb2⟩
  case s5 =>
    intro b w1 hb hp hu
    have x73 : (Pv.is (.bool false)).V (get b 73) w1 := hp 2 73 (by kernel_rfl) rfl
    have x9 : (Pv.is (.int .u8 (t1))).V (get b 9) w1 := Pv.keep _ g7_9 (hu 9 (by kernel_rfl)) hb
    exact st_move rfl ((want_is (N := 73) rfl rfl x73).trans rfl) rfl x9
  case s6 =>
    intro b w1 hb hp hu
    have x73 : (Pv.is (.bool false)).V (get b 73) w1 := hp 2 73 (by kernel_rfl) rfl
    have x75 : (Pv.is (.int .u8 (t15))).V (get b 75) w1 := hp 4 75 (by kernel_rfl) rfl
    have x76 : (Pv.is (.int .u8 (t1))).V (get b 76) w1 := hp 5 76 (by kernel_rfl) rfl
    exact st_bin (v := .bool false) (vx := .int .u8 (t15)) (vy := .int .u8 (t1)) rfl ((want_is (N := 73) rfl rfl x73).trans rfl) rfl x75 x76 (by first | rfl | (have c_ := c1006; refine Eq.trans (b := Result.ok (.bool ((t15) != (t1))) w1) rfl ?_; rw [show ((t15) != (t1)) = false from bne_eq_false_iff_eq.mpr c_]) | (have c_ := c1006; clear hb hp hu; go_simp; first | done | rfl | (simp [c_]; done) | (simp; omega))) rfl
  case s7 =>
    intro b w1 hb hp hu
    have x73 : (Pv.is (.bool false)).V (get b 73) w1 := hp 2 73 (by kernel_rfl) rfl
    have x77 : (Pv.is (.bool false)).V (get b 77) w1 := hp 6 77 (by kernel_rfl) rfl
    exact st_pick (b := false) rfl (want0 rfl _) rfl x73 x77
  case s8 =>
    intro b w1 hb hp hu
    have x78 : (Pv.is (.bool false)).V (get b 78) w1 := hp 7 78 (by kernel_rfl) rfl
    exact st_move rfl (want0 rfl _) rfl x78
  case s9 =>
    intro b w1 hb hp hu
    have x79 : (Pv.is (.bool false)).V (get b 79) w1 := hp 8 79 (by kernel_rfl) rfl
    have x0 : (Pv.sl (Kd.int .u8) (l0)).V (get b 0) w1 := Pv.keep _ g7_0 (hu 0 (by kernel_rfl)) hb
    exact st_move rfl ((want_is (N := 79) rfl rfl x79).trans rfl) rfl x0
  case s10 =>
    intro b w1 hb hp hu
    have x79 : (Pv.is (.bool false)).V (get b 79) w1 := hp 8 79 (by kernel_rfl) rfl
    have x80 : (Pv.sl (Kd.int .u8) (l0)).V (get b 80) w1 := hp 9 80 (by kernel_rfl) rfl
    obtain ⟨B0, d0, e0_, hC0, hl0⟩ := x80
    have e0 : b.eval (Operand.tmp 80) = .slice B0 (l0).length d0 := e0_
    refine st_call rfl ((want_is (N := 79) rfl rfl x79).trans rfl) rfl Try.func12 (by kernel_rfl) rfl #[.slice B0 (l0).length d0] (by simp only [List.map_toArray, List.map_cons, List.map_nil, e0]) ?_
    refine (poly_Degree.calls B0 d0 _ _ w1 hC0 hl0 H15).mono ?_
    rintro e w2 ⟨rfl, hb2⟩
    exact ⟨_, rfl, rfl, hb2⟩
  case s11 =>
    intro b w1 hb hp hu
    have x79 : (Pv.is (.bool false)).V (get b 79) w1 := hp 8 79 (by kernel_rfl) rfl
    have x81 : (Pv.is (.int .i64 (t16))).V (get b 81) w1 := hp 10 81 (by kernel_rfl) rfl
    exact st_bin (v := .bool false) (vx := .int .i64 (t16)) (vy := .int .i64 ((0 : Int))) rfl ((want_is (N := 79) rfl rfl x79).trans rfl) rfl x81 rfl (by first | rfl | (have c_ := c1007; refine Eq.trans (b := Result.ok (.bool decide ((t16) ≥ ((0 : Int)))) w1) rfl ?_; rw [show decide ((t16) ≥ ((0 : Int))) = false from decide_eq_false c_]) | (have c_ := c1007; clear hb hp hu; go_simp; first | done | rfl | (simp [c_]; done) | (simp; omega))) rfl
  case s12 =>
    intro b w1 hb hp hu
    have x79 : (Pv.is (.bool false)).V (get b 79) w1 := hp 8 79 (by kernel_rfl) rfl
    have x82 : (Pv.is (.bool false)).V (get b 82) w1 := hp 11 82 (by kernel_rfl) rfl
    exact st_move rfl ((want_is (N := 79) rfl rfl x79).trans rfl) rfl x82
  case s13 =>
    intro b w1 hb hp hu
    have x83 : (Pv.is (.bool false)).V (get b 83) w1 := hp 12 83 (by kernel_rfl) rfl
    exact st_off rfl ((want_is (N := 83) rfl rfl x83).trans rfl) rfl
  case s14 =>
    intro b w1 hb hp hu
    have x83 : (Pv.is (.bool false)).V (get b 83) w1 := hp 12 83 (by kernel_rfl) rfl
    exact st_off rfl ((want_is (N := 83) rfl rfl x83).trans rfl) rfl
  case s15 =>
    intro b w1 hb hp hu
    have x83 : (Pv.is (.bool false)).V (get b 83) w1 := hp 12 83 (by kernel_rfl) rfl
    exact st_off rfl ((want_is (N := 83) rfl rfl x83).trans rfl) rfl
  case s16 =>
    intro b w1 hb hp hu
    have x79 : (Pv.is (.bool false)).V (get b 79) w1 := hp 8 79 (by kernel_rfl) rfl
    have x83 : (Pv.is (.bool false)).V (get b 83) w1 := hp 12 83 (by kernel_rfl) rfl
    exact st_pick (b := false) rfl ((want_is (N := 79) rfl rfl x79).trans rfl) rfl x83 rfl
  case s17 =>
    intro b w1 hb hp hu
    have x79 : (Pv.is (.bool false)).V (get b 79) w1 := hp 8 79 (by kernel_rfl) rfl
    have x87 : (Pv.is (.bool false)).V (get b 87) w1 := hp 16 87 (by kernel_rfl) rfl
    exact st_move rfl ((want_is (N := 79) rfl rfl x79).trans rfl) rfl x87
  case s18 =>
    intro b w1 hb hp hu
    have x88 : (Pv.is (.bool false)).V (get b 88) w1 := hp 17 88 (by kernel_rfl) rfl
    exact st_off rfl ((want_is (N := 88) rfl rfl x88).trans rfl) rfl
  case s19 =>
    intro b w1 hb hp hu
    have x88 : (Pv.is (.bool false)).V (get b 88) w1 := hp 17 88 (by kernel_rfl) rfl
    exact st_off rfl ((want_is (N := 88) rfl rfl x88).trans rfl) rfl
  case s20 =>
    intro b w1 hb hp hu
    have x88 : (Pv.is (.bool false)).V (get b 88) w1 := hp 17 88 (by kernel_rfl) rfl
    exact st_off rfl ((want_is (N := 88) rfl rfl x88).trans rfl) rfl
  case s21 =>
    intro b w1 hb hp hu
    have x88 : (Pv.is (.bool false)).V (get b 88) w1 := hp 17 88 (by kernel_rfl) rfl
    exact st_off rfl ((want_is (N := 88) rfl rfl x88).trans rfl) rfl
  case s22 =>
    intro b w1 hb hp hu
    have x88 : (Pv.is (.bool false)).V (get b 88) w1 := hp 17 88 (by kernel_rfl) rfl
    exact st_off rfl ((want_is (N := 88) rfl rfl x88).trans rfl) rfl
  case s23 =>
    intro b w1 hb hp hu
    have x88 : (Pv.is (.bool false)).V (get b 88) w1 := hp 17 88 (by kernel_rfl) rfl
    exact st_off rfl ((want_is (N := 88) rfl rfl x88).trans rfl) rfl
  case s24 =>
    intro b w1 hb hp hu
    have x88 : (Pv.is (.bool false)).V (get b 88) w1 := hp 17 88 (by kernel_rfl) rfl
    exact st_off rfl ((want_is (N := 88) rfl rfl x88).trans rfl) rfl
  case s25 =>
    intro b w1 hb hp hu
    have x88 : (Pv.is (.bool false)).V (get b 88) w1 := hp 17 88 (by kernel_rfl) rfl
    exact st_off rfl ((want_is (N := 88) rfl rfl x88).trans rfl) rfl
  case s26 =>
    intro b w1 hb hp hu
    have x79 : (Pv.is (.bool false)).V (get b 79) w1 := hp 8 79 (by kernel_rfl) rfl
    have x88 : (Pv.is (.bool false)).V (get b 88) w1 := hp 17 88 (by kernel_rfl) rfl
    exact st_pick (b := false) rfl ((want_is (N := 79) rfl rfl x79).trans rfl) rfl x88 rfl
  case s27 =>
    intro b w1 hb hp hu
    have x79 : (Pv.is (.bool false)).V (get b 79) w1 := hp 8 79 (by kernel_rfl) rfl
    have x97 : (Pv.is (.bool false)).V (get b 97) w1 := hp 26 97 (by kernel_rfl) rfl
    exact st_pick (b := false) rfl (want0 rfl _) rfl x79 x97
  intro ac8 wo8 hn8 hd_ hb hv hs
  have g8_98 : (Pv.is (.bool false)).V (get ac8 98) wo8 := hv 27 98 rfl
  have g8_11 : (Pv.sl (Kd.int .u8) (t3)).V (get ac8 11) wo8 := Pv.keep _ g7_11 (hs 11 rfl) hb
  have g8_8 : (Pv.is (.bool false)).V (get ac8 8) wo8 := Pv.keep _ g7_8 (hs 8 rfl) hb
  have g8_0 : (Pv.sl (Kd.int .u8) (l0)).V (get ac8 0) wo8 := Pv.keep _ g7_0 (hs 0 rfl) hb
  have g8_1 : (Pv.sl (Kd.int .u8) (l1)).V (get ac8 1) wo8 := Pv.keep _ g7_1 (hs 1 rfl) hb
  have hB8 := below_step hB7 hb
  have hd8 := hd_.trans hd7
  clear hv hs hd_ hb hB7 hn7 hd7 g7_13 g7_14 g7_11 g7_9 g7_8 g7_0 g7_1
  show Code.wp _ _ _ _ _
  refine wp_cond_false (show ac8.eval (Operand.tmp 98) = .bool false from g8_98) ?_
  refine wp_skip ?_
  show Code.wp _ _ _ _ _
  refine wp_seq ?_
  refine Reg.draws (T := wristbandlaw08_PolyValues.T12) (D := wristbandlaw08_PolyValues.D12) (n := 113) rfl (by kernel_rfl) hn8 (told [Pv.sl (Kd.int .u8) (t3), Pv.sl (Kd.int .u8) (t17), Pv.is (.string (strOfNums (t17))), Pv.sl (Kd.int .u8) (l0), Pv.sl (Kd.int .u8) (t18), Pv.sl (Kd.int .u8) (l1), Pv.sl (Kd.int .u8) (t19), Pv.sl (Kd.int .u8) (l0), Pv.sl (Kd.int .u8) (l1), Pv.sl (Kd.int .u8) (t20), Pv.sl (Kd.int .u8) (t21), Pv.sl (Kd.int .u8) (t22), Pv.is (.string (strOfNums (t22))), Pv.is (.bool true), Pv.is (.bool true)]) (told_pst _) (owedS (owedS (owedS (owedS (owedS (owedS (owedS (owedS (owedS (owedS (owedS (owedS (owedS (owedS (owedS owed0 ?s0) ?s1) ?s2) ?s3) ?s4) ?s5) ?s6) ?s7) ?s8) ?s9) ?s10) ?s11) ?s12) ?s13) ?s14) ?_
  case s0 =>
    intro b w1 hb hp hu
    have x11 : (Pv.sl (Kd.int .u8) (t3)).V (get b 11) w1 := Pv.keep _ g8_11 (hu 11 (by kernel_rfl)) hb
    exact st_move rfl (want0 rfl _) rfl x11
  case s1 =>
    intro b w1 hb hp hu
    have x99 : (Pv.sl (Kd.int .u8) (t3)).V (get b 99) w1 := hp 0 99 (by kernel_rfl) rfl
    obtain ⟨B0, d0, e0_, hC0, hl0⟩ := x99
    have e0 : b.eval (Operand.tmp 99) = .slice B0 (t3).length d0 := e0_
    refine st_call rfl (want0 rfl _) rfl Try.func21 (by kernel_rfl) rfl #[.slice B0 (t3).length d0] (by simp only [List.map_toArray, List.map_cons, List.map_nil, e0]) ?_
    refine (poly_Slope.calls k B0 d0 _ _ w1 hC0 hl0 H16).mono ?_
    rintro e w2 ⟨v0_, rfl, ho0, hb2⟩
    exact ⟨_, rfl, Pv.of_sl ho0, hb2⟩
  case s2 =>
    intro b w1 hb hp hu
    have x100 : (Pv.sl (Kd.int .u8) (t17)).V (get b 100) w1 := hp 1 100 (by kernel_rfl) rfl
    exact st_string Try.underlying22 Try.underlying5 Try.underlying9 rfl (want0 rfl _) rfl x100 rfl
  case s3 =>
    intro b w1 hb hp hu
    have x0 : (Pv.sl (Kd.int .u8) (l0)).V (get b 0) w1 := Pv.keep _ g8_0 (hu 0 (by kernel_rfl)) hb
    exact st_move rfl (want0 rfl _) rfl x0
  case s4 =>
    intro b w1 hb hp hu
    have x102 : (Pv.sl (Kd.int .u8) (l0)).V (get b 102) w1 := hp 3 102 (by kernel_rfl) rfl
    obtain ⟨B0, d0, e0_, hC0, hl0⟩ := x102
    have e0 : b.eval (Operand.tmp 102) = .slice B0 (l0).length d0 := e0_
    refine st_call rfl (want0 rfl _) rfl Try.func21 (by kernel_rfl) rfl #[.slice B0 (l0).length d0] (by simp only [List.map_toArray, List.map_cons, List.map_nil, e0]) ?_
    refine (poly_Slope.calls k B0 d0 _ _ w1 hC0 hl0 H17).mono ?_
    rintro e w2 ⟨v0_, rfl, ho0, hb2⟩
    exact ⟨_, rfl, Pv.of_sl ho0, hb2⟩
  case s5 =>
    intro b w1 hb hp hu
    have x1 : (Pv.sl (Kd.int .u8) (l1)).V (get b 1) w1 := Pv.keep _ g8_1 (hu 1 (by kernel_rfl)) hb
    exact st_move rfl (want0 rfl _) rfl x1
  case s6 =>
    intro b w1 hb hp hu
    have x103 : (Pv.sl (Kd.int .u8) (t18)).V (get b 103) w1 := hp 4 103 (by kernel_rfl) rfl
    obtain ⟨B0, d0, e0_, hC0, hl0⟩ := x103
    have e0 : b.eval (Operand.tmp 103) = .slice B0 (t18).length d0 := e0_
    have x104 : (Pv.sl (Kd.int .u8) (l1)).V (get b 104) w1 := hp 5 104 (by kernel_rfl) rfl
    obtain ⟨B1, d1, e1_, hC1, hl1⟩ := x104
    have e1 : b.eval (Operand.tmp 104) = .slice B1 (l1).length d1 := e1_
    refine st_call rfl (want0 rfl _) rfl Try.func15 (by kernel_rfl) rfl #[.slice B0 (t18).length d0, .slice B1 (l1).length d1] (by simp only [List.map_toArray, List.map_cons, List.map_nil, e0, e1]) ?_
    refine (poly_Mul.calls k B0 d0 _ B1 d1 _ _ w1 hC0 hl0 hC1 hl1 H18).mono ?_
    rintro e w2 ⟨v0_, rfl, ho0, hb2⟩
    exact ⟨_, rfl, Pv.of_sl ho0, hb2⟩
  case s7 =>
    intro b w1 hb hp hu
    have x0 : (Pv.sl (Kd.int .u8) (l0)).V (get b 0) w1 := Pv.keep _ g8_0 (hu 0 (by kernel_rfl)) hb
    exact st_move rfl (want0 rfl _) rfl x0
  case s8 =>
    intro b w1 hb hp hu
    have x1 : (Pv.sl (Kd.int .u8) (l1)).V (get b 1) w1 := Pv.keep _ g8_1 (hu 1 (by kernel_rfl)) hb
    exact st_move rfl (want0 rfl _) rfl x1
  case s9 =>
    intro b w1 hb hp hu
    have x107 : (Pv.sl (Kd.int .u8) (l1)).V (get b 107) w1 := hp 8 107 (by kernel_rfl) rfl
    obtain ⟨B0, d0, e0_, hC0, hl0⟩ := x107
    have e0 : b.eval (Operand.tmp 107) = .slice B0 (l1).length d0 := e0_
    refine st_call rfl (want0 rfl _) rfl Try.func21 (by kernel_rfl) rfl #[.slice B0 (l1).length d0] (by simp only [List.map_toArray, List.map_cons, List.map_nil, e0]) ?_
    refine (poly_Slope.calls k B0 d0 _ _ w1 hC0 hl0 H19).mono ?_
    rintro e w2 ⟨v0_, rfl, ho0, hb2⟩
    exact ⟨_, rfl, Pv.of_sl ho0, hb2⟩
  case s10 =>
    intro b w1 hb hp hu
    have x106 : (Pv.sl (Kd.int .u8) (l0)).V (get b 106) w1 := hp 7 106 (by kernel_rfl) rfl
    obtain ⟨B0, d0, e0_, hC0, hl0⟩ := x106
    have e0 : b.eval (Operand.tmp 106) = .slice B0 (l0).length d0 := e0_
    have x108 : (Pv.sl (Kd.int .u8) (t20)).V (get b 108) w1 := hp 9 108 (by kernel_rfl) rfl
    obtain ⟨B1, d1, e1_, hC1, hl1⟩ := x108
    have e1 : b.eval (Operand.tmp 108) = .slice B1 (t20).length d1 := e1_
    refine st_call rfl (want0 rfl _) rfl Try.func15 (by kernel_rfl) rfl #[.slice B0 (l0).length d0, .slice B1 (t20).length d1] (by simp only [List.map_toArray, List.map_cons, List.map_nil, e0, e1]) ?_
    refine (poly_Mul.calls k B0 d0 _ B1 d1 _ _ w1 hC0 hl0 hC1 hl1 H20).mono ?_
    rintro e w2 ⟨v0_, rfl, ho0, hb2⟩
    exact ⟨_, rfl, Pv.of_sl ho0, hb2⟩
  case s11 =>
    intro b w1 hb hp hu
    have x105 : (Pv.sl (Kd.int .u8) (t19)).V (get b 105) w1 := hp 6 105 (by kernel_rfl) rfl
    obtain ⟨B0, d0, e0_, hC0, hl0⟩ := x105
    have e0 : b.eval (Operand.tmp 105) = .slice B0 (t19).length d0 := e0_
    have x109 : (Pv.sl (Kd.int .u8) (t21)).V (get b 109) w1 := hp 10 109 (by kernel_rfl) rfl
    obtain ⟨B1, d1, e1_, hC1, hl1⟩ := x109
    have e1 : b.eval (Operand.tmp 109) = .slice B1 (t21).length d1 := e1_
    refine st_call rfl (want0 rfl _) rfl Try.func13 (by kernel_rfl) rfl #[.slice B0 (t19).length d0, .slice B1 (t21).length d1] (by simp only [List.map_toArray, List.map_cons, List.map_nil, e0, e1]) ?_
    refine (poly_Add.calls k B0 d0 _ B1 d1 _ _ w1 hC0 hl0 hC1 hl1 H21).mono ?_
    rintro e w2 ⟨v0_, rfl, ho0, hb2⟩
    exact ⟨_, rfl, Pv.of_sl ho0, hb2⟩
  case s12 =>
    intro b w1 hb hp hu
    have x110 : (Pv.sl (Kd.int .u8) (t22)).V (get b 110) w1 := hp 11 110 (by kernel_rfl) rfl
    exact st_string Try.underlying22 Try.underlying5 Try.underlying9 rfl (want0 rfl _) rfl x110 rfl
  case s13 =>
    intro b w1 hb hp hu
    have x101 : (Pv.is (.string (strOfNums (t17)))).V (get b 101) w1 := hp 2 101 (by kernel_rfl) rfl
    have x111 : (Pv.is (.string (strOfNums (t22)))).V (get b 111) w1 := hp 12 111 (by kernel_rfl) rfl
    exact st_bin (v := .bool true) (vx := .string (strOfNums (t17))) (vy := .string (strOfNums (t22))) rfl (want0 rfl _) rfl x101 x111 (by first | rfl | (have c_ := c1008; clear hb hp hu; go_simp; first | done | rfl | (simp [c_]; done) | (simp; omega))) rfl
  case s14 =>
    intro b w1 hb hp hu
    have x112 : (Pv.is (.bool true)).V (get b 112) w1 := hp 13 112 (by kernel_rfl) rfl
    exact st_assign rfl (want0 rfl _) rfl x112
  intro ac9 wo9 hn9 hd_ hb hv hs
  have g9_8 : (Pv.is (.bool true)).V (get ac9 8) wo9 := hv 14 8 rfl
  have hB9 := below_step hB8 hb
  have hd9 := hd_.trans hd8
  clear hv hs hd_ hb hB8 hn8 hd8 g8_98 g8_11 g8_8 g8_0 g8_1
  show Code.wp _ _ _ _ _
  refine wp_ret ?_
  repeat (refine then_ret ?_)
  exact back_is rfl hd9 g9_8 ⟨rfl, hB9⟩
theorem wristbandlaw08_PolyValues.calls (k : Nat) (A0 : Option Addr) (c0 : Nat) (l0 : List Int) (A1 : Option Addr) (c1 : Nat) (l1 : List Int) (a2 : Int) (a3 : Int) (w : World) (hr0 : Kd.C (Kd.int .u8) w A0 l0.length l0) (hc0 : l0.length ≤ c0) (hr1 : Kd.C (Kd.int .u8) w A1 l1.length l1) (hc1 : l1.length ≤ c1) (h : wristbandlaw08_PolyValues.ok k l0 l1 a2 a3) :
    Calls Try.prog 5 #[.slice A0 l0.length c0, .slice A1 l1.length c1, .int .u8 a2, .int .u8 a3] w fun e w' => e = .returned (.bool true) ∧ Below w.heap.size w w' := by
  unfold wristbandlaw08_PolyValues.ok at h
  obtain ⟨H1, h⟩ := h
  obtain ⟨hy, hn⟩ := h
  by_cases c1000 : ((l0).length : Int) > (60 : Int)
  · have h := hy c1000
    exact wristbandlaw08_PolyValues.way1 k A0 c0 l0 A1 c1 l1 a2 a3 w hr0 hc0 hr1 hc1 H1 c1000
  · have h := hn c1000
    obtain ⟨hy, hn⟩ := h
    by_cases c1001 : ((l1).length : Int) > (60 : Int)
    · have h := hy c1001
      exact wristbandlaw08_PolyValues.way2 k A0 c0 l0 A1 c1 l1 a2 a3 w hr0 hc0 hr1 hc1 H1 c1000 c1001
    · have h := hn c1001
      obtain ⟨t1, H2, h⟩ := h
      obtain ⟨t2, H3, h⟩ := h
      obtain ⟨t3, H4, h⟩ := h
      obtain ⟨t4, H5, h⟩ := h
      obtain ⟨t5, H6, h⟩ := h
      obtain ⟨t6, H7, h⟩ := h
      obtain ⟨c1002, h⟩ := h
      obtain ⟨t7, H8, h⟩ := h
      obtain ⟨t8, H9, h⟩ := h
      obtain ⟨c1003, h⟩ := h
      obtain ⟨t9, H10, h⟩ := h
      obtain ⟨t10, H11, h⟩ := h
      obtain ⟨t11, H12, h⟩ := h
      obtain ⟨c1004, h⟩ := h
      obtain ⟨t12, t13, t14, H13, h⟩ := h
      obtain ⟨c1005, h⟩ := h
      obtain ⟨t15, H14, h⟩ := h
      obtain ⟨c1006, h⟩ := h
      obtain ⟨t16, H15, h⟩ := h
      obtain ⟨hy, hn⟩ := h
      by_cases c1007 : t16 ≥ (0 : Int)
      · have h := hy c1007
        obtain ⟨t17, H16, h⟩ := h
        obtain ⟨hy, hn⟩ := h
        by_cases c1008 : t17 ≥ (0 : Int)
        · have h := hy c1008
          obtain ⟨t18, H17, h⟩ := h
          obtain ⟨c1009, h⟩ := h
          obtain ⟨t19, H18, h⟩ := h
          obtain ⟨t20, H19, h⟩ := h
          obtain ⟨t21, H20, h⟩ := h
          obtain ⟨t22, H21, h⟩ := h
          obtain ⟨t23, H22, h⟩ := h
          obtain ⟨t24, H23, h⟩ := h
          obtain ⟨c1010, h⟩ := h
          exact wristbandlaw08_PolyValues.way3 k A0 c0 l0 A1 c1 l1 a2 a3 w hr0 hc0 hr1 hc1 H1 t1 H2 t2 H3 t3 H4 t4 H5 t5 H6 t6 H7 t7 H8 t8 H9 t9 H10 t10 H11 t11 H12 t12 t13 t14 H13 t15 H14 t16 H15 t17 H16 t18 H17 t19 H18 t20 H19 t21 H20 t22 H21 t23 H22 t24 H23 c1000 c1001 c1002 c1003 c1004 c1005 c1006 c1007 c1008 c1009 c1010
        · have h := hn c1008
          obtain ⟨t18, H17, h⟩ := h
          obtain ⟨t19, H18, h⟩ := h
          obtain ⟨t20, H19, h⟩ := h
          obtain ⟨t21, H20, h⟩ := h
          obtain ⟨t22, H21, h⟩ := h
          obtain ⟨t23, H22, h⟩ := h
          obtain ⟨c1009, h⟩ := h
          exact wristbandlaw08_PolyValues.way4 k A0 c0 l0 A1 c1 l1 a2 a3 w hr0 hc0 hr1 hc1 H1 t1 H2 t2 H3 t3 H4 t4 H5 t5 H6 t6 H7 t7 H8 t8 H9 t9 H10 t10 H11 t11 H12 t12 t13 t14 H13 t15 H14 t16 H15 t17 H16 t18 H17 t19 H18 t20 H19 t21 H20 t22 H21 t23 H22 c1000 c1001 c1002 c1003 c1004 c1005 c1006 c1007 c1008 c1009
      · have h := hn c1007
        obtain ⟨t17, H16, h⟩ := h
        obtain ⟨t18, H17, h⟩ := h
        obtain ⟨t19, H18, h⟩ := h
        obtain ⟨t20, H19, h⟩ := h
        obtain ⟨t21, H20, h⟩ := h
        obtain ⟨t22, H21, h⟩ := h
        obtain ⟨c1008, h⟩ := h
        exact wristbandlaw08_PolyValues.way5 k A0 c0 l0 A1 c1 l1 a2 a3 w hr0 hc0 hr1 hc1 H1 t1 H2 t2 H3 t3 H4 t4 H5 t5 H6 t6 H7 t7 H8 t8 H9 t9 H10 t10 H11 t11 H12 t12 t13 t14 H13 t15 H14 t16 H15 t17 H16 t18 H17 t19 H18 t20 H19 t21 H20 t22 H21 c1000 c1001 c1002 c1003 c1004 c1005 c1006 c1007 c1008

/-- THE ONE PURE STATEMENT of wristbandlaw08_PolyValues. -/
def wristbandlaw08_PolyValues.Pure : Prop := ∀ (l0 : List Int) (l1 : List Int) (a2 : Int) (a3 : Int), l0.length ≤ maxLen → l0.length * 1 ≤ 140737488351232 → (∀ x ∈ l0, (Lit.int .u8 x).wf = true) → l1.length ≤ maxLen → l1.length * 1 ≤ 140737488351232 → (∀ x ∈ l1, (Lit.int .u8 x).wf = true) → (Lit.int .u8 a2).wf = true → (Lit.int .u8 a3).wf = true → ∃ k, wristbandlaw08_PolyValues.ok k l0 l1 a2 a3
theorem wristbandlaw08_PolyValues.walk (P : wristbandlaw08_PolyValues.Pure) (a0 : Option Addr) (len0 cap0 : Nat) (z0 : List Int) (a1 : Option Addr) (len1 cap1 : Nat) (z1 : List Int) (a2 : Int) (a3 : Int) (w : World) (w0 : (a0 = none ∧ len0 = 0 ∧ cap0 = 0 ∧ z0 = []) ∨ ∃ x, a0 = some x ∧ len0 ≤ cap0 ∧ cap0 ≤ maxLen ∧ z0.length = cap0 ∧ (∀ i, i < z0.length → w.cell? (x.add i) = some (.int .u8 (z0.getD i 0))) ∧ ∀ n ∈ z0, (Lit.int .u8 n).wf = true) (y0 : len0 * 1 ≤ 140737488351232) (w1 : (a1 = none ∧ len1 = 0 ∧ cap1 = 0 ∧ z1 = []) ∨ ∃ x, a1 = some x ∧ len1 ≤ cap1 ∧ cap1 ≤ maxLen ∧ z1.length = cap1 ∧ (∀ i, i < z1.length → w.cell? (x.add i) = some (.int .u8 (z1.getD i 0))) ∧ ∀ n ∈ z1, (Lit.int .u8 n).wf = true) (y1 : len1 * 1 ≤ 140737488351232) (w2 : (Lit.int .u8 a2).wf = true) (w3 : (Lit.int .u8 a3).wf = true) :
    Calls Try.prog 5 #[.slice a0 len0 cap0, .slice a1 len1 cap1, .int .u8 a2, .int .u8 a3] w fun e w' => e = .returned (.bool true) ∧ Below w.heap.size w w' := by
  obtain ⟨l0, rfl, hr0, hm0, hw0, hc0⟩ := ReadsInt.ofRowC w0
  obtain ⟨l1, rfl, hr1, hm1, hw1, hc1⟩ := ReadsInt.ofRowC w1
  obtain ⟨k, h⟩ := P l0 l1 a2 a3 hm0 y0 hw0 hm1 y1 hw1 w2 w3
  exact wristbandlaw08_PolyValues.calls k _ _ l0 _ _ l1 a2 a3 w (Kd.C_of_reads (d := (0 : Int)) (h1 := fun _ => rfl) hr0) hc0 (Kd.C_of_reads (d := (0 : Int)) (h1 := fun _ => rfl) hr1) hc1 h

end Go.Proofs.Ytgieppcadnhhaaa.P
