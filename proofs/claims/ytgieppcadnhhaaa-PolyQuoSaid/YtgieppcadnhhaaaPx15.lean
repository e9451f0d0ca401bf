-- Written by a program of this session (its own contracts laid into the walks). Lean checks it.
import Derived.Test.YtgieppcadnhhaaaPx0
import Derived.Test.YtgieppcadnhhaaaPx2
import Derived.Test.YtgieppcadnhhaaaPx3
import Derived.Test.YtgieppcadnhhaaaPx4
import Derived.Test.YtgieppcadnhhaaaPx8
import Derived.Test.YtgieppcadnhhaaaPx9
import Derived.Test.YtgieppcadnhhaaaReg
namespace Go.Proofs.Ytgieppcadnhhaaa.P
open Go.RowKit Go.Proofs.YtgieppcadnhhaaaW.PrintWords Go.Proofs.YtgieppcadnhhaaaW.PrintLast Go.Proofs.YtgieppcadnhhaaaW.PrintMore
attribute [local go_sem] max2_int min2_int max_two min_two max_three min_three max_four min_four   -- for this text's walks alone
set_option linter.unusedVariables false
set_option linter.unusedSimpArgs false

/-! ### wristbandlaw08_PolyQuo: function 4 -/
-- IMPORTS Derived.Test.YtgieppcadnhhaaaReg
open Go.Proofs.Ytgieppcadnhhaaa.Reg
def wristbandlaw08_PolyQuo.T0 : List Nat := [0]
def wristbandlaw08_PolyQuo.D0 : List (Option Tmp) := [some 4]
def wristbandlaw08_PolyQuo.T1 : List Nat := [0, 1]
def wristbandlaw08_PolyQuo.D1 : List (Option Tmp) := [some 11, some 12]
def wristbandlaw08_PolyQuo.T3 : List Nat := [0, 1, 3, 7, 15, 31, 63, 127]
def wristbandlaw08_PolyQuo.D3 : List (Option Tmp) := [some 13, some 14, some 15, some 16, some 17, some 18, some 19, some 20]
def wristbandlaw08_PolyQuo.T4 : List Nat := [0]
def wristbandlaw08_PolyQuo.D4 : List (Option Tmp) := [some 4]
def wristbandlaw08_PolyQuo.T5 : List Nat := [0, 0, 3, 7, 15, 15, 15, 31, 191, 511]
def wristbandlaw08_PolyQuo.D5 : List (Option Tmp) := [some 22, some 23, some 24, some 21, some 25, some 26, some 27, some 5, some 6, some 7]
def wristbandlaw08_PolyQuo.T6 : List Nat := [0, 1]
def wristbandlaw08_PolyQuo.D6 : List (Option Tmp) := [some 28, some 29]
def wristbandlaw08_PolyQuo.T7 : List Nat := [0, 1, 3, 7]
def wristbandlaw08_PolyQuo.D7 : List (Option Tmp) := [some 30, some 31, some 32, some 4]
def wristbandlaw08_PolyQuo.T8 : List Nat := [0, 0, 3, 0, 15, 31, 63, 63, 63, 127, 767, 2047]
def wristbandlaw08_PolyQuo.D8 : List (Option Tmp) := [some 34, some 35, some 36, some 37, some 38, some 33, some 39, some 40, some 41, some 8, some 9, some 10]
def wristbandlaw08_PolyQuo.T9 : List Nat := [0, 1, 0, 7, 15, 31, 63, 63, 255, 63, 1023, 2047, 63, 6143, 14335, 32767, 65535, 131071, 262143, 524287, 1048575, 2097151, 4194303, 8388607, 16777215, 33554431, 67108863, 134217727, 268435455, 134217727, 671088639, 1744830463, 4294967295, 8589934591, 17179869183]
def wristbandlaw08_PolyQuo.D9 : List (Option Tmp) := [some 42, some 43, some 44, some 45, some 46, some 47, some 48, some 49, some 50, some 51, some 52, some 53, some 54, some 55, some 56, some 57, some 58, some 59, some 60, some 61, some 62, some 63, some 64, some 65, some 66, some 67, some 68, some 69, some 70, some 71, some 72, some 73, some 74, some 75, some 4]
/-- What the law asks, told of the walks' own functions. -/
def wristbandlaw08_PolyQuo.ok (k : Nat) (l0 : List Int) (l1 : List Int) : Prop := wristbandlaw08_awake.ok k ∧ (((((l0).length : Int) > (120 : Int)) → True) ∧ (¬ (((l0).length : Int) > (120 : Int)) → (((((l1).length : Int) > (120 : Int)) → True) ∧ (¬ (((l1).length : Int) > (120 : Int)) → (∃ (t1 : List Int) (t2 : List Int) (t3 : Int), poly_Quo.f k (l0) (l1) = some (t1, t2, t3) ∧ (((t3 = (0 : Int)) → (∃ (t4 : List Int), poly_Mul.f k (l0) (l1) = some t4 ∧ (∃ (t5 : List Int) (t6 : List Int) (t7 : Int), poly_Quo.f k (t4) (l1) = some (t5, t6, t7) ∧ (∃ (t8 : Int), poly_Degree.f (t2) = some t8 ∧ (∃ (t9 : Int), poly_Degree.f (l1) = some t9 ∧ ((t8 < t9) ∧ (∃ (t10 : List Int), poly_Mul.f k (t1) (l1) = some t10 ∧ (∃ (t11 : List Int), poly_Add.f k (t10) (t2) = some t11 ∧ (∃ (t12 : List Int), poly_Plain.f (l0) = some t12 ∧ (((strOfNums (t11)).toList = (strOfNums (t12)).toList) ∧ ((t7 = (0 : Int)) ∧ ((((t6).length : Int) = (0 : Int)) ∧ (((strOfNums (t5)).toList = (strOfNums (t12)).toList) ∧ True))))))))))))) ∧ (¬ (t3 = (0 : Int)) → (∃ (t4 : Int), poly_Degree.f (l1) = some t4 ∧ ((t4 < (0 : Int)) ∧ True)))))))))
set_option maxRecDepth 100000 in
set_option maxHeartbeats 4000000 in
theorem wristbandlaw08_PolyQuo.way1 (k : Nat) (A0 : Option Addr) (c0 : Nat) (l0 : List Int) (A1 : Option Addr) (c1 : Nat) (l1 : List Int) (w : World) (hr0 : Kd.C (Kd.int .u8) w A0 l0.length l0) (hc0 : l0.length ≤ c0) (hr1 : Kd.C (Kd.int .u8) w A1 l1.length l1) (hc1 : l1.length ≤ c1) (H1 : wristbandlaw08_awake.ok k) (c1000 : ((l0).length : Int) > (120 : Int)) :
    Calls Try.prog 4 #[.slice A0 l0.length c0, .slice A1 l1.length c1] w fun e w' => e = .returned (.bool true) ∧ Below w.heap.size w w' := by
  refine enter Try.func4 rfl (n := 76) rfl ?_
  intro ac0 hn0 hd0 ha
  have hB0 := Below.refl w.heap.size w
  have g0_0 : (Pv.sl (Kd.int .u8) (l0)).V (get ac0 0) w := by rw [ha 0 (by simp)]; exact ⟨A0, c0, rfl, hr0, hc0⟩
  have g0_1 : (Pv.sl (Kd.int .u8) (l1)).V (get ac0 1) w := by rw [ha 1 (by simp)]; exact ⟨A1, c1, rfl, hr1, hc1⟩
  clear ha
  refine wp_seq ?_
  refine Reg.plain (T := wristbandlaw08_PolyQuo.T0) (D := wristbandlaw08_PolyQuo.D0) (n := 76) (by kernel_rfl) hn0 (told [Pv.is (.bool false)]) (told_pst _) (owedS owed0 ?s0) ?_
  case s0 =>
    intro b w1 hb hp hu
    exact st_assign rfl (want0 rfl _) rfl rfl
  intro ac1 wo1 hn1 hd_ hb hv hs
  have g1_4 : (Pv.is (.bool false)).V (get ac1 4) wo1 := hv 0 4 rfl
  have g1_0 : (Pv.sl (Kd.int .u8) (l0)).V (get ac1 0) wo1 := Pv.keep _ g0_0 (hs 0 rfl) hb
  have hB1 := below_step hB0 hb
  have hd1 := hd_.trans hd0
  clear hv hs hd_ hb hB0 hn0 hd0 g0_0 g0_1
  show Code.wp _ _ _ _ _
  refine wp_seq ?_
  refine wp_seq ?_
  refine Reg.plain (T := wristbandlaw08_PolyQuo.T1) (D := wristbandlaw08_PolyQuo.D1) (n := 76) (by kernel_rfl) hn1 (told [Pv.is (.bool true), Pv.is (.bool false)]) (told_pst _) (owedS (owedS owed0 ?s0) ?s1) ?_
  case s0 =>
    intro b w1 hb hp hu
    refine st_call rfl (want0 rfl _) rfl Try.func9 (by kernel_rfl) rfl #[] (by simp) ?_
    refine (wristbandlaw08_awake.calls k  w1  H1).mono ?_
    rintro e w2 ⟨rfl, hb2⟩
    exact ⟨_, rfl, rfl, hb2⟩
  case s1 =>
    intro b w1 hb hp hu
    have x11 : (Pv.is (.bool true)).V (get b 11) w1 := hp 0 11 (by kernel_rfl) rfl
    exact st_un (v := .bool false) (vx := .bool true) rfl (want0 rfl _) rfl x11 (by first | rfl | (go_simp; first | done | rfl | (simp only [i64_w, i32_w]; done))) rfl
  intro ac2 wo2 hn2 hd_ hb hv hs
  have g2_12 : (Pv.is (.bool false)).V (get ac2 12) wo2 := hv 1 12 rfl
  have g2_4 : (Pv.is (.bool false)).V (get ac2 4) wo2 := Pv.keep _ g1_4 (hs 4 rfl) hb
  have g2_0 : (Pv.sl (Kd.int .u8) (l0)).V (get ac2 0) wo2 := Pv.keep _ g1_0 (hs 0 rfl) hb
  have hB2 := below_step hB1 hb
  have hd2 := hd_.trans hd1
  clear hv hs hd_ hb hB1 hn1 hd1 g1_4 g1_0
  show Code.wp _ _ _ _ _
  refine wp_cond_false (show ac2.eval (Operand.tmp 12) = .bool false from g2_12) ?_
  refine wp_skip ?_
  show Code.wp _ _ _ _ _
  refine wp_seq ?_
  refine wp_seq ?_
  refine Reg.plain (T := wristbandlaw08_PolyQuo.T3) (D := wristbandlaw08_PolyQuo.D3) (n := 76) (by kernel_rfl) hn2 (told [Pv.sl (Kd.int .u8) (l0), Pv.is (.int .i64 (((l0).length : Int))), Pv.is (.bool true), Pv.is (.bool true), Pv.is (undef), Pv.is (undef), Pv.is (undef), Pv.is (.bool true)]) (told_pst _) (owedS (owedS (owedS (owedS (owedS (owedS (owedS (owedS owed0 ?s0) ?s1) ?s2) ?s3) ?s4) ?s5) ?s6) ?s7) ?_
  case s0 =>
    intro b w1 hb hp hu
    have x0 : (Pv.sl (Kd.int .u8) (l0)).V (get b 0) w1 := Pv.keep _ g2_0 (hu 0 (by kernel_rfl)) hb
    exact st_move rfl (want0 rfl _) rfl x0
  case s1 =>
    intro b w1 hb hp hu
    have x13 : (Pv.sl (Kd.int .u8) (l0)).V (get b 13) w1 := hp 0 13 (by kernel_rfl) rfl
    obtain ⟨A_, c_, e_, _, _⟩ := x13
    exact st_len rfl (want0 rfl _) rfl Try.underlying22 e_ rfl
  case s2 =>
    intro b w1 hb hp hu
    have x14 : (Pv.is (.int .i64 (((l0).length : Int)))).V (get b 14) w1 := hp 1 14 (by kernel_rfl) rfl
    exact st_bin (v := .bool true) (vx := .int .i64 (((l0).length : Int))) (vy := .int .i64 ((120 : Int))) rfl (want0 rfl _) rfl x14 rfl (by first | rfl | (have c_ := c1000; refine Eq.trans (b := Result.ok (.bool decide ((((l0).length : Int)) > ((120 : Int)))) w1) rfl ?_; rw [show decide ((((l0).length : Int)) > ((120 : Int))) = true from decide_eq_true c_]) | (have c_ := c1000; clear hb hp hu; go_simp; first | done | rfl | (simp [c_]; done) | (simp; omega))) rfl
  case s3 =>
    intro b w1 hb hp hu
    have x15 : (Pv.is (.bool true)).V (get b 15) w1 := hp 2 15 (by kernel_rfl) rfl
    exact st_move rfl (want0 rfl _) rfl x15
  case s4 =>
    intro b w1 hb hp hu
    have x16 : (Pv.is (.bool true)).V (get b 16) w1 := hp 3 16 (by kernel_rfl) rfl
    exact st_off rfl ((want_is (N := 16) rfl rfl x16).trans rfl) rfl
  case s5 =>
    intro b w1 hb hp hu
    have x16 : (Pv.is (.bool true)).V (get b 16) w1 := hp 3 16 (by kernel_rfl) rfl
    exact st_off rfl ((want_is (N := 16) rfl rfl x16).trans rfl) rfl
  case s6 =>
    intro b w1 hb hp hu
    have x16 : (Pv.is (.bool true)).V (get b 16) w1 := hp 3 16 (by kernel_rfl) rfl
    exact st_off rfl ((want_is (N := 16) rfl rfl x16).trans rfl) rfl
  case s7 =>
    intro b w1 hb hp hu
    have x16 : (Pv.is (.bool true)).V (get b 16) w1 := hp 3 16 (by kernel_rfl) rfl
    exact st_pick (b := true) rfl (want0 rfl _) rfl x16 rfl
  intro ac3 wo3 hn3 hd_ hb hv hs
  have g3_20 : (Pv.is (.bool true)).V (get ac3 20) wo3 := hv 7 20 rfl
  have g3_4 : (Pv.is (.bool false)).V (get ac3 4) wo3 := Pv.keep _ g2_4 (hs 4 rfl) hb
  have hB3 := below_step hB2 hb
  have hd3 := hd_.trans hd2
  clear hv hs hd_ hb hB2 hn2 hd2 g2_12 g2_4 g2_0
  show Code.wp _ _ _ _ _
  refine wp_cond_true (show ac3.eval (Operand.tmp 20) = .bool true from g3_20) ?_
  refine wp_seq ?_
  refine Reg.plain (T := wristbandlaw08_PolyQuo.T4) (D := wristbandlaw08_PolyQuo.D4) (n := 76) (by kernel_rfl) hn3 (told [Pv.is (.bool true)]) (told_pst _) (owedS owed0 ?s0) ?_
  case s0 =>
    intro b w1 hb hp hu
    exact st_assign rfl (want0 rfl _) rfl rfl
  intro ac4 wo4 hn4 hd_ hb hv hs
  have g4_4 : (Pv.is (.bool true)).V (get ac4 4) wo4 := hv 0 4 rfl
  have hB4 := below_step hB3 hb
  have hd4 := hd_.trans hd3
  clear hv hs hd_ hb hB3 hn3 hd3 g3_20 g3_4
  show Code.wp _ _ _ _ _
  refine wp_ret ?_
  repeat (refine then_ret ?_)
  exact back_is rfl hd4 g4_4 ⟨rfl, hB4⟩
set_option maxRecDepth 100000 in
set_option maxHeartbeats 4000000 in
theorem wristbandlaw08_PolyQuo.way2 (k : Nat) (A0 : Option Addr) (c0 : Nat) (l0 : List Int) (A1 : Option Addr) (c1 : Nat) (l1 : List Int) (w : World) (hr0 : Kd.C (Kd.int .u8) w A0 l0.length l0) (hc0 : l0.length ≤ c0) (hr1 : Kd.C (Kd.int .u8) w A1 l1.length l1) (hc1 : l1.length ≤ c1) (H1 : wristbandlaw08_awake.ok k) (c1000 : ¬ (((l0).length : Int) > (120 : Int))) (c1001 : ((l1).length : Int) > (120 : Int)) :
    Calls Try.prog 4 #[.slice A0 l0.length c0, .slice A1 l1.length c1] w fun e w' => e = .returned (.bool true) ∧ Below w.heap.size w w' := by
  refine enter Try.func4 rfl (n := 76) rfl ?_
  intro ac0 hn0 hd0 ha
  have hB0 := Below.refl w.heap.size w
  have g0_0 : (Pv.sl (Kd.int .u8) (l0)).V (get ac0 0) w := by rw [ha 0 (by simp)]; exact ⟨A0, c0, rfl, hr0, hc0⟩
  have g0_1 : (Pv.sl (Kd.int .u8) (l1)).V (get ac0 1) w := by rw [ha 1 (by simp)]; exact ⟨A1, c1, rfl, hr1, hc1⟩
  clear ha
  refine wp_seq ?_
  refine Reg.plain (T := wristbandlaw08_PolyQuo.T0) (D := wristbandlaw08_PolyQuo.D0) (n := 76) (by kernel_rfl) hn0 (told [Pv.is (.bool false)]) (told_pst _) (owedS owed0 ?s0) ?_
  case s0 =>
    intro b w1 hb hp hu
    exact st_assign rfl (want0 rfl _) rfl rfl
  intro ac1 wo1 hn1 hd_ hb hv hs
  have g1_4 : (Pv.is (.bool false)).V (get ac1 4) wo1 := hv 0 4 rfl
  have g1_0 : (Pv.sl (Kd.int .u8) (l0)).V (get ac1 0) wo1 := Pv.keep _ g0_0 (hs 0 rfl) hb
  have g1_1 : (Pv.sl (Kd.int .u8) (l1)).V (get ac1 1) wo1 := Pv.keep _ g0_1 (hs 1 rfl) hb
  have hB1 := below_step hB0 hb
  have hd1 := hd_.trans hd0
  clear hv hs hd_ hb hB0 hn0 hd0 g0_0 g0_1
  show Code.wp _ _ _ _ _
  refine wp_seq ?_
  refine wp_seq ?_
  refine Reg.plain (T := wristbandlaw08_PolyQuo.T1) (D := wristbandlaw08_PolyQuo.D1) (n := 76) (by kernel_rfl) hn1 (told [Pv.is (.bool true), Pv.is (.bool false)]) (told_pst _) (owedS (owedS owed0 ?s0) ?s1) ?_
  case s0 =>
    intro b w1 hb hp hu
    refine st_call rfl (want0 rfl _) rfl Try.func9 (by kernel_rfl) rfl #[] (by simp) ?_
    refine (wristbandlaw08_awake.calls k  w1  H1).mono ?_
    rintro e w2 ⟨rfl, hb2⟩
    exact ⟨_, rfl, rfl, hb2⟩
  case s1 =>
    intro b w1 hb hp hu
    have x11 : (Pv.is (.bool true)).V (get b 11) w1 := hp 0 11 (by kernel_rfl) rfl
    exact st_un (v := .bool false) (vx := .bool true) rfl (want0 rfl _) rfl x11 (by first | rfl | (go_simp; first | done | rfl | (simp only [i64_w, i32_w]; done))) rfl
  intro ac2 wo2 hn2 hd_ hb hv hs
  have g2_12 : (Pv.is (.bool false)).V (get ac2 12) wo2 := hv 1 12 rfl
  have g2_4 : (Pv.is (.bool false)).V (get ac2 4) wo2 := Pv.keep _ g1_4 (hs 4 rfl) hb
  have g2_0 : (Pv.sl (Kd.int .u8) (l0)).V (get ac2 0) wo2 := Pv.keep _ g1_0 (hs 0 rfl) hb
  have g2_1 : (Pv.sl (Kd.int .u8) (l1)).V (get ac2 1) wo2 := Pv.keep _ g1_1 (hs 1 rfl) hb
  have hB2 := below_step hB1 hb
  have hd2 := hd_.trans hd1
  clear hv hs hd_ hb hB1 hn1 hd1 g1_4 g1_0 g1_1
  show Code.wp _ _ _ _ _
  refine wp_cond_false (show ac2.eval (Operand.tmp 12) = .bool false from g2_12) ?_
  refine wp_skip ?_
  show Code.wp _ _ _ _ _
  refine wp_seq ?_
  refine wp_seq ?_
  refine Reg.plain (T := wristbandlaw08_PolyQuo.T3) (D := wristbandlaw08_PolyQuo.D3) (n := 76) (by kernel_rfl) hn2 (told [Pv.sl (Kd.int .u8) (l0), Pv.is (.int .i64 (((l0).length : Int))), Pv.is (.bool false), Pv.is (.bool false), Pv.sl (Kd.int .u8) (l1), Pv.is (.int .i64 (((l1).length : Int))), Pv.is (.bool true), Pv.is (.bool true)]) (told_pst _) (owedS (owedS (owedS (owedS (owedS (owedS (owedS (owedS owed0 ?s0) ?s1) ?s2) ?s3) ?s4) ?s5) ?s6) ?s7) ?_
  case s0 =>
    intro b w1 hb hp hu
    have x0 : (Pv.sl (Kd.int .u8) (l0)).V (get b 0) w1 := Pv.keep _ g2_0 (hu 0 (by kernel_rfl)) hb
    exact st_move rfl (want0 rfl _) rfl x0
  case s1 =>
    intro b w1 hb hp hu
    have x13 : (Pv.sl (Kd.int .u8) (l0)).V (get b 13) w1 := hp 0 13 (by kernel_rfl) rfl
    obtain ⟨A_, c_, e_, _, _⟩ := x13
    exact st_len rfl (want0 rfl _) rfl Try.underlying22 e_ rfl
  case s2 =>
    intro b w1 hb hp hu
    have x14 : (Pv.is (.int .i64 (((l0).length : Int)))).V (get b 14) w1 := hp 1 14 (by kernel_rfl) rfl
    exact st_bin (v := .bool false) (vx := .int .i64 (((l0).length : Int))) (vy := .int .i64 ((120 : Int))) rfl (want0 rfl _) rfl x14 rfl (by first | rfl | (have c_ := c1000; refine Eq.trans (b := Result.ok (.bool decide ((((l0).length : Int)) > ((120 : Int)))) w1) rfl ?_; rw [show decide ((((l0).length : Int)) > ((120 : Int))) = false from decide_eq_false c_]) | (have c_ := c1000; clear hb hp hu; go_simp; first | done | rfl | (simp [c_]; done) | (simp; omega))) rfl
  case s3 =>
    intro b w1 hb hp hu
    have x15 : (Pv.is (.bool false)).V (get b 15) w1 := hp 2 15 (by kernel_rfl) rfl
    exact st_move rfl (want0 rfl _) rfl x15
  case s4 =>
    intro b w1 hb hp hu
    have x16 : (Pv.is (.bool false)).V (get b 16) w1 := hp 3 16 (by kernel_rfl) rfl
    have x1 : (Pv.sl (Kd.int .u8) (l1)).V (get b 1) w1 := Pv.keep _ g2_1 (hu 1 (by kernel_rfl)) hb
    exact st_move rfl ((want_is (N := 16) rfl rfl x16).trans rfl) rfl x1
  case s5 =>
    intro b w1 hb hp hu
    have x16 : (Pv.is (.bool false)).V (get b 16) w1 := hp 3 16 (by kernel_rfl) rfl
    have x17 : (Pv.sl (Kd.int .u8) (l1)).V (get b 17) w1 := hp 4 17 (by kernel_rfl) rfl
    obtain ⟨A_, c_, e_, _, _⟩ := x17
    exact st_len rfl ((want_is (N := 16) rfl rfl x16).trans rfl) rfl Try.underlying22 e_ rfl
  case s6 =>
    intro b w1 hb hp hu
    have x16 : (Pv.is (.bool false)).V (get b 16) w1 := hp 3 16 (by kernel_rfl) rfl
    have x18 : (Pv.is (.int .i64 (((l1).length : Int)))).V (get b 18) w1 := hp 5 18 (by kernel_rfl) rfl
    exact st_bin (v := .bool true) (vx := .int .i64 (((l1).length : Int))) (vy := .int .i64 ((120 : Int))) rfl ((want_is (N := 16) rfl rfl x16).trans rfl) rfl x18 rfl (by first | rfl | (have c_ := c1001; refine Eq.trans (b := Result.ok (.bool decide ((((l1).length : Int)) > ((120 : Int)))) w1) rfl ?_; rw [show decide ((((l1).length : Int)) > ((120 : Int))) = true from decide_eq_true c_]) | (have c_ := c1001; clear hb hp hu; go_simp; first | done | rfl | (simp [c_]; done) | (simp; omega))) rfl
  case s7 =>
    intro b w1 hb hp hu
    have x16 : (Pv.is (.bool false)).V (get b 16) w1 := hp 3 16 (by kernel_rfl) rfl
    have x19 : (Pv.is (.bool true)).V (get b 19) w1 := hp 6 19 (by kernel_rfl) rfl
    exact st_pick (b := false) rfl (want0 rfl _) rfl x16 x19
  intro ac3 wo3 hn3 hd_ hb hv hs
  have g3_20 : (Pv.is (.bool true)).V (get ac3 20) wo3 := hv 7 20 rfl
  have g3_4 : (Pv.is (.bool false)).V (get ac3 4) wo3 := Pv.keep _ g2_4 (hs 4 rfl) hb
  have hB3 := below_step hB2 hb
  have hd3 := hd_.trans hd2
  clear hv hs hd_ hb hB2 hn2 hd2 g2_12 g2_4 g2_0 g2_1
  show Code.wp _ _ _ _ _
  refine wp_cond_true (show ac3.eval (Operand.tmp 20) = .bool true from g3_20) ?_
  refine wp_seq ?_
  refine Reg.plain (T := wristbandlaw08_PolyQuo.T4) (D := wristbandlaw08_PolyQuo.D4) (n := 76) (by kernel_rfl) hn3 (told [Pv.is (.bool true)]) (told_pst _) (owedS owed0 ?s0) ?_
  case s0 =>
    intro b w1 hb hp hu
    exact st_assign rfl (want0 rfl _) rfl rfl
  intro ac4 wo4 hn4 hd_ hb hv hs
  have g4_4 : (Pv.is (.bool true)).V (get ac4 4) wo4 := hv 0 4 rfl
  have hB4 := below_step hB3 hb
  have hd4 := hd_.trans hd3
  clear hv hs hd_ hb hB3 hn3 hd3 g3_20 g3_4
  show Code.wp _ _ _ _ _
  refine wp_ret ?_
  repeat (refine then_ret ?_)
  exact back_is rfl hd4 g4_4 ⟨rfl, hB4⟩
set_option maxRecDepth 100000 in
set_option maxHeartbeats 4000000 in
theorem wristbandlaw08_PolyQuo.way3 (k : Nat) (A0 : Option Addr) (c0 : Nat) (l0 : List Int) (A1 : Option Addr) (c1 : Nat) (l1 : List Int) (w : World) (hr0 : Kd.C (Kd.int .u8) w A0 l0.length l0) (hc0 : l0.length ≤ c0) (hr1 : Kd.C (Kd.int .u8) w A1 l1.length l1) (hc1 : l1.length ≤ c1) (H1 : wristbandlaw08_awake.ok k) (t1 : List Int) (t2 : List Int) (t3 : Int) (H2 : poly_Quo.f k (l0) (l1) = some (t1, t2, t3)) (t4 : List Int) (H3 : poly_Mul.f k (l0) (l1) = some t4) (t5 : List Int) (t6 : List Int) (t7 : Int) (H4 : poly_Quo.f k (t4) (l1) = some (t5, t6, t7)) (t8 : Int) (H5 : poly_Degree.f (t2) = some t8) (t9 : Int) (H6 : poly_Degree.f (l1) = some t9) (t10 : List Int) (H7 : poly_Mul.f k (t1) (l1) = some t10) (t11 : List Int) (H8 : poly_Add.f k (t10) (t2) = some t11) (t12 : List Int) (H9 : poly_Plain.f (l0) = some t12) (c1000 : ¬ (((l0).length : Int) > (120 : Int))) (c1001 : ¬ (((l1).length : Int) > (120 : Int))) (c1002 : t3 = (0 : Int)) (c1003 : t8 < t9) (c1004 : (strOfNums (t11)).toList = (strOfNums (t12)).toList) (c1005 : t7 = (0 : Int)) (c1006 : ((t6).length : Int) = (0 : Int)) (c1007 : (strOfNums (t5)).toList = (strOfNums (t12)).toList) :
    Calls Try.prog 4 #[.slice A0 l0.length c0, .slice A1 l1.length c1] w fun e w' => e = .returned (.bool true) ∧ Below w.heap.size w w' := by
  refine enter Try.func4 rfl (n := 76) rfl ?_
  intro ac0 hn0 hd0 ha
  have hB0 := Below.refl w.heap.size w
  have g0_0 : (Pv.sl (Kd.int .u8) (l0)).V (get ac0 0) w := by rw [ha 0 (by simp)]; exact ⟨A0, c0, rfl, hr0, hc0⟩
  have g0_1 : (Pv.sl (Kd.int .u8) (l1)).V (get ac0 1) w := by rw [ha 1 (by simp)]; exact ⟨A1, c1, rfl, hr1, hc1⟩
  clear ha
  refine wp_seq ?_
  refine Reg.plain (T := wristbandlaw08_PolyQuo.T0) (D := wristbandlaw08_PolyQuo.D0) (n := 76) (by kernel_rfl) hn0 (told [Pv.is (.bool false)]) (told_pst _) (owedS owed0 ?s0) ?_
  case s0 =>
    intro b w1 hb hp hu
    exact st_assign rfl (want0 rfl _) rfl rfl
  intro ac1 wo1 hn1 hd_ hb hv hs
  have g1_4 : (Pv.is (.bool false)).V (get ac1 4) wo1 := hv 0 4 rfl
  have g1_0 : (Pv.sl (Kd.int .u8) (l0)).V (get ac1 0) wo1 := Pv.keep _ g0_0 (hs 0 rfl) hb
  have g1_1 : (Pv.sl (Kd.int .u8) (l1)).V (get ac1 1) wo1 := Pv.keep _ g0_1 (hs 1 rfl) hb
  have hB1 := below_step hB0 hb
  have hd1 := hd_.trans hd0
  clear hv hs hd_ hb hB0 hn0 hd0 g0_0 g0_1
  show Code.wp _ _ _ _ _
  refine wp_seq ?_
  refine wp_seq ?_
  refine Reg.plain (T := wristbandlaw08_PolyQuo.T1) (D := wristbandlaw08_PolyQuo.D1) (n := 76) (by kernel_rfl) hn1 (told [Pv.is (.bool true), Pv.is (.bool false)]) (told_pst _) (owedS (owedS owed0 ?s0) ?s1) ?_
  case s0 =>
    intro b w1 hb hp hu
    refine st_call rfl (want0 rfl _) rfl Try.func9 (by kernel_rfl) rfl #[] (by simp) ?_
    refine (wristbandlaw08_awake.calls k  w1  H1).mono ?_
    rintro e w2 ⟨rfl, hb2⟩
    exact ⟨_, rfl, rfl, hb2⟩
  case s1 =>
    intro b w1 hb hp hu
    have x11 : (Pv.is (.bool true)).V (get b 11) w1 := hp 0 11 (by kernel_rfl) rfl
    exact st_un (v := .bool false) (vx := .bool true) rfl (want0 rfl _) rfl x11 (by first | rfl | (go_simp; first | done | rfl | (simp only [i64_w, i32_w]; done))) rfl
  intro ac2 wo2 hn2 hd_ hb hv hs
  have g2_12 : (Pv.is (.bool false)).V (get ac2 12) wo2 := hv 1 12 rfl
  have g2_4 : (Pv.is (.bool false)).V (get ac2 4) wo2 := Pv.keep _ g1_4 (hs 4 rfl) hb
  have g2_0 : (Pv.sl (Kd.int .u8) (l0)).V (get ac2 0) wo2 := Pv.keep _ g1_0 (hs 0 rfl) hb
  have g2_1 : (Pv.sl (Kd.int .u8) (l1)).V (get ac2 1) wo2 := Pv.keep _ g1_1 (hs 1 rfl) hb
  have hB2 := below_step hB1 hb
  have hd2 := hd_.trans hd1
  clear hv hs hd_ hb hB1 hn1 hd1 g1_4 g1_0 g1_1
  show Code.wp _ _ _ _ _
  refine wp_cond_false (show ac2.eval (Operand.tmp 12) = .bool false from g2_12) ?_
  refine wp_skip ?_
  show Code.wp _ _ _ _ _
  refine wp_seq ?_
  refine wp_seq ?_
  refine Reg.plain (T := wristbandlaw08_PolyQuo.T3) (D := wristbandlaw08_PolyQuo.D3) (n := 76) (by kernel_rfl) hn2 (told [Pv.sl (Kd.int .u8) (l0), Pv.is (.int .i64 (((l0).length : Int))), Pv.is (.bool false), Pv.is (.bool false), Pv.sl (Kd.int .u8) (l1), Pv.is (.int .i64 (((l1).length : Int))), Pv.is (.bool false), Pv.is (.bool false)]) (told_pst _) (owedS (owedS (owedS (owedS (owedS (owedS (owedS (owedS owed0 ?s0) ?s1) ?s2) ?s3) ?s4) ?s5) ?s6) ?s7) ?_
  case s0 =>
    intro b w1 hb hp hu
    have x0 : (Pv.sl (Kd.int .u8) (l0)).V (get b 0) w1 := Pv.keep _ g2_0 (hu 0 (by kernel_rfl)) hb
    exact st_move rfl (want0 rfl _) rfl x0
  case s1 =>
    intro b w1 hb hp hu
    have x13 : (Pv.sl (Kd.int .u8) (l0)).V (get b 13) w1 := hp 0 13 (by kernel_rfl) rfl
    obtain ⟨A_, c_, e_, _, _⟩ := x13
    exact st_len rfl (want0 rfl _) rfl Try.underlying22 e_ rfl
  case s2 =>
    intro b w1 hb hp hu
    have x14 : (Pv.is (.int .i64 (((l0).length : Int)))).V (get b 14) w1 := hp 1 14 (by kernel_rfl) rfl
    exact st_bin (v := .bool false) (vx := .int .i64 (((l0).length : Int))) (vy := .int .i64 ((120 : Int))) rfl (want0 rfl _) rfl x14 rfl (by first | rfl | (have c_ := c1000; refine Eq.trans (b := Result.ok (.bool decide ((((l0).length : Int)) > ((120 : Int)))) w1) rfl ?_; rw [show decide ((((l0).length : Int)) > ((120 : Int))) = false from decide_eq_false c_]) | (have c_ := c1000; clear hb hp hu; go_simp; first | done | rfl | (simp [c_]; done) | (simp; omega))) rfl
  case s3 =>
    intro b w1 hb hp hu
    have x15 : (Pv.is (.bool false)).V (get b 15) w1 := hp 2 15 (by kernel_rfl) rfl
    exact st_move rfl (want0 rfl _) rfl x15
  case s4 =>
    intro b w1 hb hp hu
    have x16 : (Pv.is (.bool false)).V (get b 16) w1 := hp 3 16 (by kernel_rfl) rfl
    have x1 : (Pv.sl (Kd.int .u8) (l1)).V (get b 1) w1 := Pv.keep _ g2_1 (hu 1 (by kernel_rfl)) hb
    exact st_move rfl ((want_is (N := 16) rfl rfl x16).trans rfl) rfl x1
  case s5 =>
    intro b w1 hb hp hu
    have x16 : (Pv.is (.bool false)).V (get b 16) w1 := hp 3 16 (by kernel_rfl) rfl
    have x17 : (Pv.sl (Kd.int .u8) (l1)).V (get b 17) w1 := hp 4 17 (by kernel_rfl) rfl
    obtain ⟨A_, c_, e_, _, _⟩ := x17
    exact st_len rfl ((want_is (N := 16) rfl rfl x16).trans rfl) rfl Try.underlying22 e_ rfl
  case s6 =>
    intro b w1 hb hp hu
    have x16 : (Pv.is (.bool false)).V (get b 16) w1 := hp 3 16 (by kernel_rfl) rfl
    have x18 : (Pv.is (.int .i64 (((l1).length : Int)))).V (get b 18) w1 := hp 5 18 (by kernel_rfl) rfl
    exact st_bin (v := .bool false) (vx := .int .i64 (((l1).length : Int))) (vy := .int .i64 ((120 : Int))) rfl ((want_is (N := 16) rfl rfl x16).trans rfl) rfl x18 rfl (by first | rfl | (have c_ := c1001; refine Eq.trans (b := Result.ok (.bool decide ((((l1).length : Int)) > ((120 : Int)))) w1) rfl ?_; rw [show decide ((((l1).length : Int)) > ((120 : Int))) = false from decide_eq_false c_]) | (have c_ := c1001; clear hb hp hu; go_simp; first | done | rfl | (simp [c_]; done) | (simp; omega))) rfl
  case s7 =>
    intro b w1 hb hp hu
    have x16 : (Pv.is (.bool false)).V (get b 16) w1 := hp 3 16 (by kernel_rfl) rfl
    have x19 : (Pv.is (.bool false)).V (get b 19) w1 := hp 6 19 (by kernel_rfl) rfl
    exact st_pick (b := false) rfl (want0 rfl _) rfl x16 x19
  intro ac3 wo3 hn3 hd_ hb hv hs
  have g3_20 : (Pv.is (.bool false)).V (get ac3 20) wo3 := hv 7 20 rfl
  have g3_4 : (Pv.is (.bool false)).V (get ac3 4) wo3 := Pv.keep _ g2_4 (hs 4 rfl) hb
  have g3_0 : (Pv.sl (Kd.int .u8) (l0)).V (get ac3 0) wo3 := Pv.keep _ g2_0 (hs 0 rfl) hb
  have g3_1 : (Pv.sl (Kd.int .u8) (l1)).V (get ac3 1) wo3 := Pv.keep _ g2_1 (hs 1 rfl) hb
  have hB3 := below_step hB2 hb
  have hd3 := hd_.trans hd2
  clear hv hs hd_ hb hB2 hn2 hd2 g2_12 g2_4 g2_0 g2_1
  show Code.wp _ _ _ _ _
  refine wp_cond_false (show ac3.eval (Operand.tmp 20) = .bool false from g3_20) ?_
  refine wp_skip ?_
  show Code.wp _ _ _ _ _
  refine wp_seq ?_
  refine Reg.plain (T := wristbandlaw08_PolyQuo.T5) (D := wristbandlaw08_PolyQuo.D5) (n := 76) (by kernel_rfl) hn3 (told [Pv.sl (Kd.int .u8) (l0), Pv.sl (Kd.int .u8) (l1), Pv.tup [Pv.sl (Kd.int .u8) (t1), Pv.sl (Kd.int .u8) (t2), Pv.is (.int .i64 (t3))], Pv.tup [Pv.sl (Kd.int .u8) (t1), Pv.sl (Kd.int .u8) (t2), Pv.is (.int .i64 (t3))], Pv.sl (Kd.int .u8) (t1), Pv.sl (Kd.int .u8) (t2), Pv.is (.int .i64 (t3)), Pv.sl (Kd.int .u8) (t1), Pv.sl (Kd.int .u8) (t2), Pv.is (.int .i64 (t3))]) (told_pst _) (owedS (owedS (owedS (owedS (owedS (owedS (owedS (owedS (owedS (owedS owed0 ?s0) ?s1) ?s2) ?s3) ?s4) ?s5) ?s6) ?s7) ?s8) ?s9) ?_
  case s0 =>
    intro b w1 hb hp hu
    have x0 : (Pv.sl (Kd.int .u8) (l0)).V (get b 0) w1 := Pv.keep _ g3_0 (hu 0 (by kernel_rfl)) hb
    exact st_move rfl (want0 rfl _) rfl x0
  case s1 =>
    intro b w1 hb hp hu
    have x1 : (Pv.sl (Kd.int .u8) (l1)).V (get b 1) w1 := Pv.keep _ g3_1 (hu 1 (by kernel_rfl)) hb
    exact st_move rfl (want0 rfl _) rfl x1
  case s2 =>
    intro b w1 hb hp hu
    have x22 : (Pv.sl (Kd.int .u8) (l0)).V (get b 22) w1 := hp 0 22 (by kernel_rfl) rfl
    obtain ⟨B0, d0, e0_, hC0, hl0⟩ := x22
    have e0 : b.eval (Operand.tmp 22) = .slice B0 (l0).length d0 := e0_
    have x23 : (Pv.sl (Kd.int .u8) (l1)).V (get b 23) w1 := hp 1 23 (by kernel_rfl) rfl
    obtain ⟨B1, d1, e1_, hC1, hl1⟩ := x23
    have e1 : b.eval (Operand.tmp 23) = .slice B1 (l1).length d1 := e1_
    refine st_call rfl (want0 rfl _) rfl Try.func23 (by kernel_rfl) rfl #[.slice B0 (l0).length d0, .slice B1 (l1).length d1] (by simp only [List.map_toArray, List.map_cons, List.map_nil, e0, e1]) ?_
    refine (poly_Quo.calls k B0 d0 _ B1 d1 _ _ _ _ w1 hC0 hl0 hC1 hl1 H2).mono ?_
    rintro e w2 ⟨v0_, v1_, rfl, ho0, ho1, hb2⟩
    exact ⟨_, rfl, ⟨[_, _, _], rfl, Pv.of_sl ho0, Pv.of_sl ho1, rfl, trivial⟩, hb2⟩
  case s3 =>
    intro b w1 hb hp hu
    have x24 : (Pv.tup [Pv.sl (Kd.int .u8) (t1), Pv.sl (Kd.int .u8) (t2), Pv.is (.int .i64 (t3))]).V (get b 24) w1 := hp 2 24 (by kernel_rfl) rfl
    exact st_move rfl (want0 rfl _) rfl x24
  case s4 =>
    intro b w1 hb hp hu
    have x21 : (Pv.tup [Pv.sl (Kd.int .u8) (t1), Pv.sl (Kd.int .u8) (t2), Pv.is (.int .i64 (t3))]).V (get b 21) w1 := hp 3 21 (by kernel_rfl) rfl
    exact st_extract rfl (want0 rfl _) rfl x21 rfl (fun _ h => h)
  case s5 =>
    intro b w1 hb hp hu
    have x21 : (Pv.tup [Pv.sl (Kd.int .u8) (t1), Pv.sl (Kd.int .u8) (t2), Pv.is (.int .i64 (t3))]).V (get b 21) w1 := hp 3 21 (by kernel_rfl) rfl
    exact st_extract rfl (want0 rfl _) rfl x21 rfl (fun _ h => h)
  case s6 =>
    intro b w1 hb hp hu
    have x21 : (Pv.tup [Pv.sl (Kd.int .u8) (t1), Pv.sl (Kd.int .u8) (t2), Pv.is (.int .i64 (t3))]).V (get b 21) w1 := hp 3 21 (by kernel_rfl) rfl
    exact st_extract rfl (want0 rfl _) rfl x21 rfl (fun _ h => h)
  case s7 =>
    intro b w1 hb hp hu
    have x25 : (Pv.sl (Kd.int .u8) (t1)).V (get b 25) w1 := hp 4 25 (by kernel_rfl) rfl
    exact st_assign rfl (want0 rfl _) rfl x25
  case s8 =>
    intro b w1 hb hp hu
    have x26 : (Pv.sl (Kd.int .u8) (t2)).V (get b 26) w1 := hp 5 26 (by kernel_rfl) rfl
    exact st_assign rfl (want0 rfl _) rfl x26
  case s9 =>
    intro b w1 hb hp hu
    have x27 : (Pv.is (.int .i64 (t3))).V (get b 27) w1 := hp 6 27 (by kernel_rfl) rfl
    exact st_assign rfl (want0 rfl _) rfl x27
  intro ac4 wo4 hn4 hd_ hb hv hs
  have g4_5 : (Pv.sl (Kd.int .u8) (t1)).V (get ac4 5) wo4 := hv 7 5 rfl
  have g4_6 : (Pv.sl (Kd.int .u8) (t2)).V (get ac4 6) wo4 := hv 8 6 rfl
  have g4_7 : (Pv.is (.int .i64 (t3))).V (get ac4 7) wo4 := hv 9 7 rfl
  have g4_4 : (Pv.is (.bool false)).V (get ac4 4) wo4 := Pv.keep _ g3_4 (hs 4 rfl) hb
  have g4_0 : (Pv.sl (Kd.int .u8) (l0)).V (get ac4 0) wo4 := Pv.keep _ g3_0 (hs 0 rfl) hb
  have g4_1 : (Pv.sl (Kd.int .u8) (l1)).V (get ac4 1) wo4 := Pv.keep _ g3_1 (hs 1 rfl) hb
  have hB4 := below_step hB3 hb
  have hd4 := hd_.trans hd3
  clear hv hs hd_ hb hB3 hn3 hd3 g3_20 g3_4 g3_0 g3_1
  show Code.wp _ _ _ _ _
  refine wp_seq ?_
  refine wp_seq ?_
  refine Reg.plain (T := wristbandlaw08_PolyQuo.T6) (D := wristbandlaw08_PolyQuo.D6) (n := 76) (by kernel_rfl) hn4 (told [Pv.is (.int .i64 (t3)), Pv.is (.bool false)]) (told_pst _) (owedS (owedS owed0 ?s0) ?s1) ?_
  case s0 =>
    intro b w1 hb hp hu
    have x7 : (Pv.is (.int .i64 (t3))).V (get b 7) w1 := Pv.keep _ g4_7 (hu 7 (by kernel_rfl)) hb
    exact st_move rfl (want0 rfl _) rfl x7
  case s1 =>
    intro b w1 hb hp hu
    have x28 : (Pv.is (.int .i64 (t3))).V (get b 28) w1 := hp 0 28 (by kernel_rfl) rfl
    exact st_bin (v := .bool false) (vx := .int .i64 (t3)) (vy := .int .i64 ((0 : Int))) rfl (want0 rfl _) rfl x28 rfl (by first | rfl | (have c_ := c1002; refine Eq.trans (b := Result.ok (.bool ((t3) != ((0 : Int)))) w1) rfl ?_; rw [show ((t3) != ((0 : Int))) = false from bne_eq_false_iff_eq.mpr c_]) | (have c_ := c1002; clear hb hp hu; go_simp; first | done | rfl | (simp [c_]; done) | (simp; omega))) rfl
  intro ac5 wo5 hn5 hd_ hb hv hs
  have g5_29 : (Pv.is (.bool false)).V (get ac5 29) wo5 := hv 1 29 rfl
  have g5_5 : (Pv.sl (Kd.int .u8) (t1)).V (get ac5 5) wo5 := Pv.keep _ g4_5 (hs 5 rfl) hb
  have g5_6 : (Pv.sl (Kd.int .u8) (t2)).V (get ac5 6) wo5 := Pv.keep _ g4_6 (hs 6 rfl) hb
  have g5_4 : (Pv.is (.bool false)).V (get ac5 4) wo5 := Pv.keep _ g4_4 (hs 4 rfl) hb
  have g5_0 : (Pv.sl (Kd.int .u8) (l0)).V (get ac5 0) wo5 := Pv.keep _ g4_0 (hs 0 rfl) hb
  have g5_1 : (Pv.sl (Kd.int .u8) (l1)).V (get ac5 1) wo5 := Pv.keep _ g4_1 (hs 1 rfl) hb
  have hB5 := below_step hB4 hb
  have hd5 := hd_.trans hd4
  clear hv hs hd_ hb hB4 hn4 hd4 g4_5 g4_6 g4_7 g4_4 g4_0 g4_1
  show Code.wp _ _ _ _ _
  refine wp_cond_false (show ac5.eval (Operand.tmp 29) = .bool false from g5_29) ?_
  refine wp_skip ?_
  show Code.wp _ _ _ _ _
  refine wp_seq ?_
  refine Reg.plain (T := wristbandlaw08_PolyQuo.T8) (D := wristbandlaw08_PolyQuo.D8) (n := 76) (by kernel_rfl) hn5 (told [Pv.sl (Kd.int .u8) (l0), Pv.sl (Kd.int .u8) (l1), Pv.sl (Kd.int .u8) (t4), Pv.sl (Kd.int .u8) (l1), Pv.tup [Pv.sl (Kd.int .u8) (t5), Pv.sl (Kd.int .u8) (t6), Pv.is (.int .i64 (t7))], Pv.tup [Pv.sl (Kd.int .u8) (t5), Pv.sl (Kd.int .u8) (t6), Pv.is (.int .i64 (t7))], Pv.sl (Kd.int .u8) (t5), Pv.sl (Kd.int .u8) (t6), Pv.is (.int .i64 (t7)), Pv.sl (Kd.int .u8) (t5), Pv.sl (Kd.int .u8) (t6), Pv.is (.int .i64 (t7))]) (told_pst _) (owedS (owedS (owedS (owedS (owedS (owedS (owedS (owedS (owedS (owedS (owedS (owedS owed0 ?s0) ?s1) ?s2) ?s3) ?s4) ?s5) ?s6) ?s7) ?s8) ?s9) ?s10) ?s11) ?_
  case s0 =>
    intro b w1 hb hp hu
    have x0 : (Pv.sl (Kd.int .u8) (l0)).V (get b 0) w1 := Pv.keep _ g5_0 (hu 0 (by kernel_rfl)) hb
    exact st_move rfl (want0 rfl _) rfl x0
  case s1 =>
    intro b w1 hb hp hu
    have x1 : (Pv.sl (Kd.int .u8) (l1)).V (get b 1) w1 := Pv.keep _ g5_1 (hu 1 (by kernel_rfl)) hb
    exact st_move rfl (want0 rfl _) rfl x1
  case s2 =>
    intro b w1 hb hp hu
    have x34 : (Pv.sl (Kd.int .u8) (l0)).V (get b 34) w1 := hp 0 34 (by kernel_rfl) rfl
    obtain ⟨B0, d0, e0_, hC0, hl0⟩ := x34
    have e0 : b.eval (Operand.tmp 34) = .slice B0 (l0).length d0 := e0_
    have x35 : (Pv.sl (Kd.int .u8) (l1)).V (get b 35) w1 := hp 1 35 (by kernel_rfl) rfl
    obtain ⟨B1, d1, e1_, hC1, hl1⟩ := x35
    have e1 : b.eval (Operand.tmp 35) = .slice B1 (l1).length d1 := e1_
    refine st_call rfl (want0 rfl _) rfl Try.func15 (by kernel_rfl) rfl #[.slice B0 (l0).length d0, .slice B1 (l1).length d1] (by simp only [List.map_toArray, List.map_cons, List.map_nil, e0, e1]) ?_
    refine (poly_Mul.calls k B0 d0 _ B1 d1 _ _ w1 hC0 hl0 hC1 hl1 H3).mono ?_
    rintro e w2 ⟨v0_, rfl, ho0, hb2⟩
    exact ⟨_, rfl, Pv.of_sl ho0, hb2⟩
  case s3 =>
    intro b w1 hb hp hu
    have x1 : (Pv.sl (Kd.int .u8) (l1)).V (get b 1) w1 := Pv.keep _ g5_1 (hu 1 (by kernel_rfl)) hb
    exact st_move rfl (want0 rfl _) rfl x1
  case s4 =>
    intro b w1 hb hp hu
    have x36 : (Pv.sl (Kd.int .u8) (t4)).V (get b 36) w1 := hp 2 36 (by kernel_rfl) rfl
    obtain ⟨B0, d0, e0_, hC0, hl0⟩ := x36
    have e0 : b.eval (Operand.tmp 36) = .slice B0 (t4).length d0 := e0_
    have x37 : (Pv.sl (Kd.int .u8) (l1)).V (get b 37) w1 := hp 3 37 (by kernel_rfl) rfl
    obtain ⟨B1, d1, e1_, hC1, hl1⟩ := x37
    have e1 : b.eval (Operand.tmp 37) = .slice B1 (l1).length d1 := e1_
    refine st_call rfl (want0 rfl _) rfl Try.func23 (by kernel_rfl) rfl #[.slice B0 (t4).length d0, .slice B1 (l1).length d1] (by simp only [List.map_toArray, List.map_cons, List.map_nil, e0, e1]) ?_
    refine (poly_Quo.calls k B0 d0 _ B1 d1 _ _ _ _ w1 hC0 hl0 hC1 hl1 H4).mono ?_
    rintro e w2 ⟨v0_, v1_, rfl, ho0, ho1, hb2⟩
    exact ⟨_, rfl, ⟨[_, _, _], rfl, Pv.of_sl ho0, Pv.of_sl ho1, rfl, trivial⟩, hb2⟩
  case s5 =>
    intro b w1 hb hp hu
    have x38 : (Pv.tup [Pv.sl (Kd.int .u8) (t5), Pv.sl (Kd.int .u8) (t6), Pv.is (.int .i64 (t7))]).V (get b 38) w1 := hp 4 38 (by kernel_rfl) rfl
    exact st_move rfl (want0 rfl _) rfl x38
  case s6 =>
    intro b w1 hb hp hu
    have x33 : (Pv.tup [Pv.sl (Kd.int .u8) (t5), Pv.sl (Kd.int .u8) (t6), Pv.is (.int .i64 (t7))]).V (get b 33) w1 := hp 5 33 (by kernel_rfl) rfl
    exact st_extract rfl (want0 rfl _) rfl x33 rfl (fun _ h => h)
  case s7 =>
    intro b w1 hb hp hu
    have x33 : (Pv.tup [Pv.sl (Kd.int .u8) (t5), Pv.sl (Kd.int .u8) (t6), Pv.is (.int .i64 (t7))]).V (get b 33) w1 := hp 5 33 (by kernel_rfl) rfl
    exact st_extract rfl (want0 rfl _) rfl x33 rfl (fun _ h => h)
  case s8 =>
    intro b w1 hb hp hu
    have x33 : (Pv.tup [Pv.sl (Kd.int .u8) (t5), Pv.sl (Kd.int .u8) (t6), Pv.is (.int .i64 (t7))]).V (get b 33) w1 := hp 5 33 (by kernel_rfl) rfl
    exact st_extract rfl (want0 rfl _) rfl x33 rfl (fun _ h => h)
  case s9 =>
    intro b w1 hb hp hu
    have x39 : (Pv.sl (Kd.int .u8) (t5)).V (get b 39) w1 := hp 6 39 (by kernel_rfl) rfl
    exact st_assign rfl (want0 rfl _) rfl x39
  case s10 =>
    intro b w1 hb hp hu
    have x40 : (Pv.sl (Kd.int .u8) (t6)).V (get b 40) w1 := hp 7 40 (by kernel_rfl) rfl
    exact st_assign rfl (want0 rfl _) rfl x40
  case s11 =>
    intro b w1 hb hp hu
    have x41 : (Pv.is (.int .i64 (t7))).V (get b 41) w1 := hp 8 41 (by kernel_rfl) rfl
    exact st_assign rfl (want0 rfl _) rfl x41
  intro ac6 wo6 hn6 hd_ hb hv hs
  have g6_8 : (Pv.sl (Kd.int .u8) (t5)).V (get ac6 8) wo6 := hv 9 8 rfl
  have g6_9 : (Pv.sl (Kd.int .u8) (t6)).V (get ac6 9) wo6 := hv 10 9 rfl
  have g6_10 : (Pv.is (.int .i64 (t7))).V (get ac6 10) wo6 := hv 11 10 rfl
  have g6_5 : (Pv.sl (Kd.int .u8) (t1)).V (get ac6 5) wo6 := Pv.keep _ g5_5 (hs 5 rfl) hb
  have g6_6 : (Pv.sl (Kd.int .u8) (t2)).V (get ac6 6) wo6 := Pv.keep _ g5_6 (hs 6 rfl) hb
  have g6_4 : (Pv.is (.bool false)).V (get ac6 4) wo6 := Pv.keep _ g5_4 (hs 4 rfl) hb
  have g6_0 : (Pv.sl (Kd.int .u8) (l0)).V (get ac6 0) wo6 := Pv.keep _ g5_0 (hs 0 rfl) hb
  have g6_1 : (Pv.sl (Kd.int .u8) (l1)).V (get ac6 1) wo6 := Pv.keep _ g5_1 (hs 1 rfl) hb
  have hB6 := below_step hB5 hb
  have hd6 := hd_.trans hd5
  clear hv hs hd_ hb hB5 hn5 hd5 g5_29 g5_5 g5_6 g5_4 g5_0 g5_1
  show Code.wp _ _ _ _ _
  refine wp_seq ?_
  refine Reg.draws (T := wristbandlaw08_PolyQuo.T9) (D := wristbandlaw08_PolyQuo.D9) (n := 76) rfl (by kernel_rfl) hn6 (told [Pv.sl (Kd.int .u8) (t2), Pv.is (.int .i64 (t8)), Pv.sl (Kd.int .u8) (l1), Pv.is (.int .i64 (t9)), Pv.is (.bool true), Pv.is (.bool true), Pv.sl (Kd.int .u8) (t1), Pv.sl (Kd.int .u8) (l1), Pv.sl (Kd.int .u8) (t10), Pv.sl (Kd.int .u8) (t2), Pv.sl (Kd.int .u8) (t11), Pv.is (.string (strOfNums (t11))), Pv.sl (Kd.int .u8) (l0), Pv.sl (Kd.int .u8) (t12), Pv.is (.string (strOfNums (t12))), Pv.is (.bool true), Pv.is (.bool true), Pv.is (.bool true), Pv.is (.int .i64 (t7)), Pv.is (.bool true), Pv.is (.bool true), Pv.is (.bool true), Pv.sl (Kd.int .u8) (t6), Pv.is (.int .i64 (((t6).length : Int))), Pv.is (.bool true), Pv.is (.bool true), Pv.is (.bool true), Pv.sl (Kd.int .u8) (t5), Pv.is (.string (strOfNums (t5))), Pv.sl (Kd.int .u8) (l0), Pv.sl (Kd.int .u8) (t12), Pv.is (.string (strOfNums (t12))), Pv.is (.bool true), Pv.is (.bool true), Pv.is (.bool true)]) (told_pst _) (owedS (owedS (owedS (owedS (owedS (owedS (owedS (owedS (owedS (owedS (owedS (owedS (owedS (owedS (owedS (owedS (owedS (owedS (owedS (owedS (owedS (owedS (owedS (owedS (owedS (owedS (owedS (owedS (owedS (owedS (owedS (owedS (owedS (owedS (owedS owed0 ?s0) ?s1) ?s2) ?s3) ?s4) ?s5) ?s6) ?s7) ?s8) ?s9) ?s10) ?s11) ?s12) ?s13) ?s14) ?s15) ?s16) ?s17) ?s18) ?s19) ?s20) ?s21) ?s22) ?s23) ?s24) ?s25) ?s26) ?s27) ?s28) ?s29) ?s30) ?s31) ?s32) ?s33) ?s34) ?_
  case s0 =>
    intro b w1 hb hp hu
    have x6 : (Pv.sl (Kd.int .u8) (t2)).V (get b 6) w1 := Pv.keep _ g6_6 (hu 6 (by kernel_rfl)) hb
    exact st_move rfl (want0 rfl _) rfl x6
  case s1 =>
    intro b w1 hb hp hu
    have x42 : (Pv.sl (Kd.int .u8) (t2)).V (get b 42) w1 := hp 0 42 (by kernel_rfl) rfl
    obtain ⟨B0, d0, e0_, hC0, hl0⟩ := x42
    have e0 : b.eval (Operand.tmp 42) = .slice B0 (t2).length d0 := e0_
    refine st_call rfl (want0 rfl _) rfl Try.func12 (by kernel_rfl) rfl #[.slice B0 (t2).length d0] (by simp only [List.map_toArray, List.map_cons, List.map_nil, e0]) ?_
    refine (poly_Degree.calls B0 d0 _ _ w1 hC0 hl0 H5).mono ?_
    rintro e w2 ⟨rfl, hb2⟩
    exact ⟨_, rfl, rfl, hb2⟩
  case s2 =>
    intro b w1 hb hp hu
    have x1 : (Pv.sl (Kd.int .u8) (l1)).V (get b 1) w1 := Pv.keep _ g6_1 (hu 1 (by kernel_rfl)) hb
    exact st_move rfl (want0 rfl _) rfl x1
  case s3 =>
    intro b w1 hb hp hu
    have x44 : (Pv.sl (Kd.int .u8) (l1)).V (get b 44) w1 := hp 2 44 (by kernel_rfl) rfl
    obtain ⟨B0, d0, e0_, hC0, hl0⟩ := x44
    have e0 : b.eval (Operand.tmp 44) = .slice B0 (l1).length d0 := e0_
    refine st_call rfl (want0 rfl _) rfl Try.func12 (by kernel_rfl) rfl #[.slice B0 (l1).length d0] (by simp only [List.map_toArray, List.map_cons, List.map_nil, e0]) ?_
    refine (poly_Degree.calls B0 d0 _ _ w1 hC0 hl0 H6).mono ?_
    rintro e w2 ⟨rfl, hb2⟩
    exact ⟨_, rfl, rfl, hb2⟩
  case s4 =>
    intro b w1 hb hp hu
    have x43 : (Pv.is (.int .i64 (t8))).V (get b 43) w1 := hp 1 43 (by kernel_rfl) rfl
    have x45 : (Pv.is (.int .i64 (t9))).V (get b 45) w1 := hp 3 45 (by kernel_rfl) rfl
    exact st_bin (v := .bool true) (vx := .int .i64 (t8)) (vy := .int .i64 (t9)) rfl (want0 rfl _) rfl x43 x45 (by first | rfl | (have c_ := c1003; refine Eq.trans (b := Result.ok (.bool decide ((t8) < (t9))) w1) rfl ?_; rw [show decide ((t8) < (t9)) = true from decide_eq_true c_]) | (have c_ := c1003; clear hb hp hu; go_simp; first | done | rfl | (simp [c_]; done) | (simp; omega))) rfl
  case s5 =>
    intro b w1 hb hp hu
    have x46 : (Pv.is (.bool true)).V (get b 46) w1 := hp 4 46 (by kernel_rfl) rfl
    exact st_move rfl (want0 rfl _) rfl x46
  case s6 =>
    intro b w1 hb hp hu
    have x47 : (Pv.is (.bool true)).V (get b 47) w1 := hp 5 47 (by kernel_rfl) rfl
    have x5 : (Pv.sl (Kd.int .u8) (t1)).V (get b 5) w1 := Pv.keep _ g6_5 (hu 5 (by kernel_rfl)) hb
    exact st_move rfl ((want_is (N := 47) rfl rfl x47).trans rfl) rfl x5
  case s7 =>
    intro b w1 hb hp hu
    have x47 : (Pv.is (.bool true)).V (get b 47) w1 := hp 5 47 (by kernel_rfl) rfl
    have x1 : (Pv.sl (Kd.int .u8) (l1)).V (get b 1) w1 := Pv.keep _ g6_1 (hu 1 (by kernel_rfl)) hb
    exact st_move rfl ((want_is (N := 47) rfl rfl x47).trans rfl) rfl x1
  case s8 =>
    intro b w1 hb hp hu
    have x47 : (Pv.is (.bool true)).V (get b 47) w1 := hp 5 47 (by kernel_rfl) rfl
    have x48 : (Pv.sl (Kd.int .u8) (t1)).V (get b 48) w1 := hp 6 48 (by kernel_rfl) rfl
    obtain ⟨B0, d0, e0_, hC0, hl0⟩ := x48
    have e0 : b.eval (Operand.tmp 48) = .slice B0 (t1).length d0 := e0_
    have x49 : (Pv.sl (Kd.int .u8) (l1)).V (get b 49) w1 := hp 7 49 (by kernel_rfl) rfl
    obtain ⟨B1, d1, e1_, hC1, hl1⟩ := x49
    have e1 : b.eval (Operand.tmp 49) = .slice B1 (l1).length d1 := e1_
    refine st_call rfl ((want_is (N := 47) rfl rfl x47).trans rfl) rfl Try.func15 (by kernel_rfl) rfl #[.slice B0 (t1).length d0, .slice B1 (l1).length d1] (by simp only [List.map_toArray, List.map_cons, List.map_nil, e0, e1]) ?_
    refine (poly_Mul.calls k B0 d0 _ B1 d1 _ _ w1 hC0 hl0 hC1 hl1 H7).mono ?_
    rintro e w2 ⟨v0_, rfl, ho0, hb2⟩
    exact ⟨_, rfl, Pv.of_sl ho0, hb2⟩
  case s9 =>
    intro b w1 hb hp hu
    have x47 : (Pv.is (.bool true)).V (get b 47) w1 := hp 5 47 (by kernel_rfl) rfl
    have x6 : (Pv.sl (Kd.int .u8) (t2)).V (get b 6) w1 := Pv.keep _ g6_6 (hu 6 (by kernel_rfl)) hb
    exact st_move rfl ((want_is (N := 47) rfl rfl x47).trans rfl) rfl x6
  case s10 =>
    intro b w1 hb hp hu
    have x47 : (Pv.is (.bool true)).V (get b 47) w1 := hp 5 47 (by kernel_rfl) rfl
    have x50 : (Pv.sl (Kd.int .u8) (t10)).V (get b 50) w1 := hp 8 50 (by kernel_rfl) rfl
    obtain ⟨B0, d0, e0_, hC0, hl0⟩ := x50
    have e0 : b.eval (Operand.tmp 50) = .slice B0 (t10).length d0 := e0_
    have x51 : (Pv.sl (Kd.int .u8) (t2)).V (get b 51) w1 := hp 9 51 (by kernel_rfl) rfl
    obtain ⟨B1, d1, e1_, hC1, hl1⟩ := x51
    have e1 : b.eval (Operand.tmp 51) = .slice B1 (t2).length d1 := e1_
    refine st_call rfl ((want_is (N := 47) rfl rfl x47).trans rfl) rfl Try.func13 (by kernel_rfl) rfl #[.slice B0 (t10).length d0, .slice B1 (t2).length d1] (by simp only [List.map_toArray, List.map_cons, List.map_nil, e0, e1]) ?_
    refine (poly_Add.calls k B0 d0 _ B1 d1 _ _ w1 hC0 hl0 hC1 hl1 H8).mono ?_
    rintro e w2 ⟨v0_, rfl, ho0, hb2⟩
    exact ⟨_, rfl, Pv.of_sl ho0, hb2⟩
  case s11 =>
    intro b w1 hb hp hu
    have x47 : (Pv.is (.bool true)).V (get b 47) w1 := hp 5 47 (by kernel_rfl) rfl
    have x52 : (Pv.sl (Kd.int .u8) (t11)).V (get b 52) w1 := hp 10 52 (by kernel_rfl) rfl
    exact st_string Try.underlying22 Try.underlying5 Try.underlying9 rfl ((want_is (N := 47) rfl rfl x47).trans rfl) rfl x52 rfl
  case s12 =>
    intro b w1 hb hp hu
    have x47 : (Pv.is (.bool true)).V (get b 47) w1 := hp 5 47 (by kernel_rfl) rfl
    have x0 : (Pv.sl (Kd.int .u8) (l0)).V (get b 0) w1 := Pv.keep _ g6_0 (hu 0 (by kernel_rfl)) hb
    exact st_move rfl ((want_is (N := 47) rfl rfl x47).trans rfl) rfl x0
  case s13 =>
    intro b w1 hb hp hu
    have x47 : (Pv.is (.bool true)).V (get b 47) w1 := hp 5 47 (by kernel_rfl) rfl
    have x54 : (Pv.sl (Kd.int .u8) (l0)).V (get b 54) w1 := hp 12 54 (by kernel_rfl) rfl
    obtain ⟨B0, d0, e0_, hC0, hl0⟩ := x54
    have e0 : b.eval (Operand.tmp 54) = .slice B0 (l0).length d0 := e0_
    refine st_call rfl ((want_is (N := 47) rfl rfl x47).trans rfl) rfl Try.func10 (by kernel_rfl) rfl #[.slice B0 (l0).length d0] (by simp only [List.map_toArray, List.map_cons, List.map_nil, e0]) ?_
    refine (poly_Plain.calls B0 d0 _ _ w1 hC0 hl0 H9).mono ?_
    rintro e w2 ⟨v0_, rfl, ho0, hb2⟩
    exact ⟨_, rfl, Pv.of_sl ho0, hb2⟩
  case s14 =>
    intro b w1 hb hp hu
    have x47 : (Pv.is (.bool true)).V (get b 47) w1 := hp 5 47 (by kernel_rfl) rfl
    have x55 : (Pv.sl (Kd.int .u8) (t12)).V (get b 55) w1 := hp 13 55 (by kernel_rfl) rfl
    exact st_string Try.underlying22 Try.underlying5 Try.underlying9 rfl ((want_is (N := 47) rfl rfl x47).trans rfl) rfl x55 rfl
  case s15 =>
    intro b w1 hb hp hu
    have x47 : (Pv.is (.bool true)).V (get b 47) w1 := hp 5 47 (by kernel_rfl) rfl
    have x53 : (Pv.is (.string (strOfNums (t11)))).V (get b 53) w1 := hp 11 53 (by kernel_rfl) rfl
    have x56 : (Pv.is (.string (strOfNums (t12)))).V (get b 56) w1 := hp 14 56 (by kernel_rfl) rfl
    exact st_bin (v := .bool true) (vx := .string (strOfNums (t11))) (vy := .string (strOfNums (t12))) rfl ((want_is (N := 47) rfl rfl x47).trans rfl) rfl x53 x56 (by first | rfl | (have c_ := c1004; clear hb hp hu; go_simp; first | done | rfl | (simp [c_]; done) | (simp; omega))) rfl
  case s16 =>
    intro b w1 hb hp hu
    have x47 : (Pv.is (.bool true)).V (get b 47) w1 := hp 5 47 (by kernel_rfl) rfl
    have x57 : (Pv.is (.bool true)).V (get b 57) w1 := hp 15 57 (by kernel_rfl) rfl
    exact st_pick (b := true) rfl (want0 rfl _) rfl x47 x57
  case s17 =>
    intro b w1 hb hp hu
    have x58 : (Pv.is (.bool true)).V (get b 58) w1 := hp 16 58 (by kernel_rfl) rfl
    exact st_move rfl (want0 rfl _) rfl x58
  case s18 =>
    intro b w1 hb hp hu
    have x59 : (Pv.is (.bool true)).V (get b 59) w1 := hp 17 59 (by kernel_rfl) rfl
    have x10 : (Pv.is (.int .i64 (t7))).V (get b 10) w1 := Pv.keep _ g6_10 (hu 10 (by kernel_rfl)) hb
    exact st_move rfl ((want_is (N := 59) rfl rfl x59).trans rfl) rfl x10
  case s19 =>
    intro b w1 hb hp hu
    have x59 : (Pv.is (.bool true)).V (get b 59) w1 := hp 17 59 (by kernel_rfl) rfl
    have x60 : (Pv.is (.int .i64 (t7))).V (get b 60) w1 := hp 18 60 (by kernel_rfl) rfl
    exact st_bin (v := .bool true) (vx := .int .i64 (t7)) (vy := .int .i64 ((0 : Int))) rfl ((want_is (N := 59) rfl rfl x59).trans rfl) rfl x60 rfl (by first | rfl | (have c_ := c1005; refine Eq.trans (b := Result.ok (.bool ((t7) == ((0 : Int)))) w1) rfl ?_; rw [show ((t7) == ((0 : Int))) = true from beq_iff_eq.mpr c_]) | (have c_ := c1005; clear hb hp hu; go_simp; first | done | rfl | (simp [c_]; done) | (simp; omega))) rfl
  case s20 =>
    intro b w1 hb hp hu
    have x59 : (Pv.is (.bool true)).V (get b 59) w1 := hp 17 59 (by kernel_rfl) rfl
    have x61 : (Pv.is (.bool true)).V (get b 61) w1 := hp 19 61 (by kernel_rfl) rfl
    exact st_pick (b := true) rfl (want0 rfl _) rfl x59 x61
  case s21 =>
    intro b w1 hb hp hu
    have x62 : (Pv.is (.bool true)).V (get b 62) w1 := hp 20 62 (by kernel_rfl) rfl
    exact st_move rfl (want0 rfl _) rfl x62
  case s22 =>
    intro b w1 hb hp hu
    have x63 : (Pv.is (.bool true)).V (get b 63) w1 := hp 21 63 (by kernel_rfl) rfl
    have x9 : (Pv.sl (Kd.int .u8) (t6)).V (get b 9) w1 := Pv.keep _ g6_9 (hu 9 (by kernel_rfl)) hb
    exact st_move rfl ((want_is (N := 63) rfl rfl x63).trans rfl) rfl x9
  case s23 =>
    intro b w1 hb hp hu
    have x63 : (Pv.is (.bool true)).V (get b 63) w1 := hp 21 63 (by kernel_rfl) rfl
    have x64 : (Pv.sl (Kd.int .u8) (t6)).V (get b 64) w1 := hp 22 64 (by kernel_rfl) rfl
    obtain ⟨A_, c_, e_, _, _⟩ := x64
    exact st_len rfl ((want_is (N := 63) rfl rfl x63).trans rfl) rfl Try.underlying22 e_ rfl
  case s24 =>
    intro b w1 hb hp hu
    have x63 : (Pv.is (.bool true)).V (get b 63) w1 := hp 21 63 (by kernel_rfl) rfl
    have x65 : (Pv.is (.int .i64 (((t6).length : Int)))).V (get b 65) w1 := hp 23 65 (by kernel_rfl) rfl
    exact st_bin (v := .bool true) (vx := .int .i64 (((t6).length : Int))) (vy := .int .i64 ((0 : Int))) rfl ((want_is (N := 63) rfl rfl x63).trans rfl) rfl x65 rfl (by first | rfl | (have c_ := c1006; refine Eq.trans (b := Result.ok (.bool ((((t6).length : Int)) == ((0 : Int)))) w1) rfl ?_; rw [show ((((t6).length : Int)) == ((0 : Int))) = true from beq_iff_eq.mpr c_]) | (have c_ := c1006; clear hb hp hu; go_simp; first | done | rfl | (simp [c_]; done) | (simp; omega))) rfl
  case s25 =>
    intro b w1 hb hp hu
    have x63 : (Pv.is (.bool true)).V (get b 63) w1 := hp 21 63 (by kernel_rfl) rfl
    have x66 : (Pv.is (.bool true)).V (get b 66) w1 := hp 24 66 (by kernel_rfl) rfl
    exact st_pick (b := true) rfl (want0 rfl _) rfl x63 x66
  case s26 =>
    intro b w1 hb hp hu
    have x67 : (Pv.is (.bool true)).V (get b 67) w1 := hp 25 67 (by kernel_rfl) rfl
    exact st_move rfl (want0 rfl _) rfl x67
  case s27 =>
    intro b w1 hb hp hu
    have x68 : (Pv.is (.bool true)).V (get b 68) w1 := hp 26 68 (by kernel_rfl) rfl
    have x8 : (Pv.sl (Kd.int .u8) (t5)).V (get b 8) w1 := Pv.keep _ g6_8 (hu 8 (by kernel_rfl)) hb
    exact st_move rfl ((want_is (N := 68) rfl rfl x68).trans rfl) rfl x8
  case s28 =>
    intro b w1 hb hp hu
    have x68 : (Pv.is (.bool true)).V (get b 68) w1 := hp 26 68 (by kernel_rfl) rfl
    have x69 : (Pv.sl (Kd.int .u8) (t5)).V (get b 69) w1 := hp 27 69 (by kernel_rfl) rfl
    exact st_string Try.underlying22 Try.underlying5 Try.underlying9 rfl ((want_is (N := 68) rfl rfl x68).trans rfl) rfl x69 rfl
  case s29 =>
    intro b w1 hb hp hu
    have x68 : (Pv.is (.bool true)).V (get b 68) w1 := hp 26 68 (by kernel_rfl) rfl
    have x0 : (Pv.sl (Kd.int .u8) (l0)).V (get b 0) w1 := Pv.keep _ g6_0 (hu 0 (by kernel_rfl)) hb
    exact st_move rfl ((want_is (N := 68) rfl rfl x68).trans rfl) rfl x0
  case s30 =>
    intro b w1 hb hp hu
    have x68 : (Pv.is (.bool true)).V (get b 68) w1 := hp 26 68 (by kernel_rfl) rfl
    have x71 : (Pv.sl (Kd.int .u8) (l0)).V (get b 71) w1 := hp 29 71 (by kernel_rfl) rfl
    obtain ⟨B0, d0, e0_, hC0, hl0⟩ := x71
    have e0 : b.eval (Operand.tmp 71) = .slice B0 (l0).length d0 := e0_
    refine st_call rfl ((want_is (N := 68) rfl rfl x68).trans rfl) rfl Try.func10 (by kernel_rfl) rfl #[.slice B0 (l0).length d0] (by simp only [List.map_toArray, List.map_cons, List.map_nil, e0]) ?_
    refine (poly_Plain.calls B0 d0 _ _ w1 hC0 hl0 H9).mono ?_
    rintro e w2 ⟨v0_, rfl, ho0, hb2⟩
    exact ⟨_, rfl, Pv.of_sl ho0, hb2⟩
  case s31 =>
    intro b w1 hb hp hu
    have x68 : (Pv.is (.bool true)).V (get b 68) w1 := hp 26 68 (by kernel_rfl) rfl
    have x72 : (Pv.sl (Kd.int .u8) (t12)).V (get b 72) w1 := hp 30 72 (by kernel_rfl) rfl
    exact st_string Try.underlying22 Try.underlying5 Try.underlying9 rfl ((want_is (N := 68) rfl rfl x68).trans rfl) rfl x72 rfl
  case s32 =>
    intro b w1 hb hp hu
    have x68 : (Pv.is (.bool true)).V (get b 68) w1 := hp 26 68 (by kernel_rfl) rfl
    have x70 : (Pv.is (.string (strOfNums (t5)))).V (get b 70) w1 := hp 28 70 (by kernel_rfl) rfl
    have x73 : (Pv.is (.string (strOfNums (t12)))).V (get b 73) w1 := hp 31 73 (by kernel_rfl) rfl
    exact st_bin (v := .bool true) (vx := .string (strOfNums (t5))) (vy := .string (strOfNums (t12))) rfl ((want_is (N := 68) rfl rfl x68).trans rfl) rfl x70 x73 (by first | rfl | (have c_ := c1007; clear hb hp hu; go_simp; first | done | rfl | (simp [c_]; done) | (simp; omega))) rfl
  case s33 =>
    intro b w1 hb hp hu
    have x68 : (Pv.is (.bool true)).V (get b 68) w1 := hp 26 68 (by kernel_rfl) rfl
    have x74 : (Pv.is (.bool true)).V (get b 74) w1 := hp 32 74 (by kernel_rfl) rfl
    exact st_pick (b := true) rfl (want0 rfl _) rfl x68 x74
  case s34 =>
    intro b w1 hb hp hu
    have x75 : (Pv.is (.bool true)).V (get b 75) w1 := hp 33 75 (by kernel_rfl) rfl
    exact st_assign rfl (want0 rfl _) rfl x75
  intro ac7 wo7 hn7 hd_ hb hv hs
  have g7_4 : (Pv.is (.bool true)).V (get ac7 4) wo7 := hv 34 4 rfl
  have hB7 := below_step hB6 hb
  have hd7 := hd_.trans hd6
  clear hv hs hd_ hb hB6 hn6 hd6 g6_8 g6_9 g6_10 g6_5 g6_6 g6_4 g6_0 g6_1
  show Code.wp _ _ _ _ _
  refine wp_ret ?_
  repeat (refine then_ret ?_)
  exact back_is rfl hd7 g7_4 ⟨rfl, hB7⟩
set_option maxRecDepth 100000 in
set_option maxHeartbeats 4000000 in
theorem wristbandlaw08_PolyQuo.way4 (k : Nat) (A0 : Option Addr) (c0 : Nat) (l0 : List Int) (A1 : Option Addr) (c1 : Nat) (l1 : List Int) (w : World) (hr0 : Kd.C (Kd.int .u8) w A0 l0.length l0) (hc0 : l0.length ≤ c0) (hr1 : Kd.C (Kd.int .u8) w A1 l1.length l1) (hc1 : l1.length ≤ c1) (H1 : wristbandlaw08_awake.ok k) (t1 : List Int) (t2 : List Int) (t3 : Int) (H2 : poly_Quo.f k (l0) (l1) = some (t1, t2, t3)) (t4 : Int) (H3 : poly_Degree.f (l1) = some t4) (c1000 : ¬ (((l0).length : Int) > (120 : Int))) (c1001 : ¬ (((l1).length : Int) > (120 : Int))) (c1002 : ¬ (t3 = (0 : Int))) (c1003 : t4 < (0 : Int)) :
    Calls Try.prog 4 #[.slice A0 l0.length c0, .slice A1 l1.length c1] w fun e w' => e = .returned (.bool true) ∧ Below w.heap.size w w' := by
  refine enter Try.func4 rfl (n := 76) rfl ?_
  intro ac0 hn0 hd0 ha
  have hB0 := Below.refl w.heap.size w
  have g0_0 : (Pv.sl (Kd.int .u8) (l0)).V (get ac0 0) w := by rw [ha 0 (by simp)]; exact ⟨A0, c0, rfl, hr0, hc0⟩
  have g0_1 : (Pv.sl (Kd.int .u8) (l1)).V (get ac0 1) w := by rw [ha 1 (by simp)]; exact ⟨A1, c1, rfl, hr1, hc1⟩
  clear ha
  refine wp_seq ?_
  refine Reg.plain (T := wristbandlaw08_PolyQuo.T0) (D := wristbandlaw08_PolyQuo.D0) (n := 76) (by kernel_rfl) hn0 (told [Pv.is (.bool false)]) (told_pst _) (owedS owed0 ?s0) ?_
  case s0 =>
    intro b w1 hb hp hu
    exact st_assign rfl (want0 rfl _) rfl rfl
  intro ac1 wo1 hn1 hd_ hb hv hs
  have g1_4 : (Pv.is (.bool false)).V (get ac1 4) wo1 := hv 0 4 rfl
  have g1_0 : (Pv.sl (Kd.int .u8) (l0)).V (get ac1 0) wo1 := Pv.keep _ g0_0 (hs 0 rfl) hb
  have g1_1 : (Pv.sl (Kd.int .u8) (l1)).V (get ac1 1) wo1 := Pv.keep _ g0_1 (hs 1 rfl) hb
  have hB1 := below_step hB0 hb
  have hd1 := hd_.trans hd0
  clear hv hs hd_ hb hB0 hn0 hd0 g0_0 g0_1
  show Code.wp _ _ _ _ _
  refine wp_seq ?_
  refine wp_seq ?_
  refine Reg.plain (T := wristbandlaw08_PolyQuo.T1) (D := wristbandlaw08_PolyQuo.D1) (n := 76) (by kernel_rfl) hn1 (told [Pv.is (.bool true), Pv.is (.bool false)]) (told_pst _) (owedS (owedS owed0 ?s0) ?s1) ?_
  case s0 =>
    intro b w1 hb hp hu
    refine st_call rfl (want0 rfl _) rfl Try.func9 (by kernel_rfl) rfl #[] (by simp) ?_
    refine (wristbandlaw08_awake.calls k  w1  H1).mono ?_
    rintro e w2 ⟨rfl, hb2⟩
    exact ⟨_, rfl, rfl, hb2⟩
  case s1 =>
    intro b w1 hb hp hu
    have x11 : (Pv.is (.bool true)).V (get b 11) w1 := hp 0 11 (by kernel_rfl) rfl
    exact st_un (v := .bool false) (vx := .bool true) rfl (want0 rfl _) rfl x11 (by first | rfl | (go_simp; first | done | rfl | (simp only [i64_w, i32_w]; done))) rfl
  intro ac2 wo2 hn2 hd_ hb hv hs
  have g2_12 : (Pv.is (.bool false)).V (get ac2 12) wo2 := hv 1 12 rfl
  have g2_4 : (Pv.is (.bool false)).V (get ac2 4) wo2 := Pv.keep _ g1_4 (hs 4 rfl) hb
  have g2_0 : (Pv.sl (Kd.int .u8) (l0)).V (get ac2 0) wo2 := Pv.keep _ g1_0 (hs 0 rfl) hb
  have g2_1 : (Pv.sl (Kd.int .u8) (l1)).V (get ac2 1) wo2 := Pv.keep _ g1_1 (hs 1 rfl) hb
  have hB2 := below_step hB1 hb
  have hd2 := hd_.trans hd1
  clear hv hs hd_ hb hB1 hn1 hd1 g1_4 g1_0 g1_1
  show Code.wp _ _ _ _ _
  refine wp_cond_false (show ac2.eval (Operand.tmp 12) = .bool false from g2_12) ?_
  refine wp_skip ?_
  show Code.wp _ _ _ _ _
  refine wp_seq ?_
  refine wp_seq ?_
  refine Reg.plain (T := wristbandlaw08_PolyQuo.T3) (D := wristbandlaw08_PolyQuo.D3) (n := 76) (by kernel_rfl) hn2 (told [Pv.sl (Kd.int .u8) (l0), Pv.is (.int .i64 (((l0).length : Int))), Pv.is (.bool false), Pv.is (.bool false), Pv.sl (Kd.int .u8) (l1), Pv.is (.int .i64 (((l1).length : Int))), Pv.is (.bool false), Pv.is (.bool false)]) (told_pst _) (owedS (owedS (owedS (owedS (owedS (owedS (owedS (owedS owed0 ?s0) ?s1) ?s2) ?s3) ?s4) ?s5) ?s6) ?s7) ?_
  case s0 =>
    intro b w1 hb hp hu
    have x0 : (Pv.sl (Kd.int .u8) (l0)).V (get b 0) w1 := Pv.keep _ g2_0 (hu 0 (by kernel_rfl)) hb
    exact st_move rfl (want0 rfl _) rfl x0
  case s1 =>
    intro b w1 hb hp hu
    have x13 : (Pv.sl (Kd.int .u8) (l0)).V (get b 13) w1 := hp 0 13 (by kernel_rfl) rfl
    obtain ⟨A_, c_, e_, _, _⟩ := x13
    exact st_len rfl (want0 rfl _) rfl Try.underlying22 e_ rfl
  case s2 =>
    intro b w1 hb hp hu
    have x14 : (Pv.is (.int .i64 (((l0).length : Int)))).V (get b 14) w1 := hp 1 14 (by kernel_rfl) rfl
    exact st_bin (v := .bool false) (vx := .int .i64 (((l0).length : Int))) (vy := .int .i64 ((120 : Int))) rfl (want0 rfl _) rfl x14 rfl (by first | rfl | (have c_ := c1000; refine Eq.trans (b := Result.ok (.bool decide ((((l0).length : Int)) > ((120 : Int)))) w1) rfl ?_; rw [show decide ((((l0).length : Int)) > ((120 : Int))) = false from decide_eq_false c_]) | (have c_ := c1000; clear hb hp hu; go_simp; first | done | rfl | (simp [c_]; done) | (simp; omega))) rfl
  case s3 =>
    intro b w1 hb hp hu
    have x15 : (Pv.is (.bool false)).V (get b 15) w1 := hp 2 15 (by kernel_rfl) rfl
    exact st_move rfl (want0 rfl _) rfl x15
  case s4 =>
    intro b w1 hb hp hu
    have x16 : (Pv.is (.bool false)).V (get b 16) w1 := hp 3 16 (by kernel_rfl) rfl
    have x1 : (Pv.sl (Kd.int .u8) (l1)).V (get b 1) w1 := Pv.keep _ g2_1 (hu 1 (by kernel_rfl)) hb
    exact st_move rfl ((want_is (N := 16) rfl rfl x16).trans rfl) rfl x1
  case s5 =>
    intro b w1 hb hp hu
    have x16 : (Pv.is (.bool false)).V (get b 16) w1 := hp 3 16 (by kernel_rfl) rfl
    have x17 : (Pv.sl (Kd.int .u8) (l1)).V (get b 17) w1 := hp 4 17 (by kernel_rfl) rfl
    obtain ⟨A_, c_, e_, _, _⟩ := x17
    exact st_len rfl ((want_is (N := 16) rfl rfl x16).trans rfl) rfl Try.underlying22 e_ rfl
  case s6 =>
    intro b w1 hb hp hu
    have x16 : (Pv.is (.bool false)).V (get b 16) w1 := hp 3 16 (by kernel_rfl) rfl
    have x18 : (Pv.is (.int .i64 (((l1).length : Int)))).V (get b 18) w1 := hp 5 18 (by kernel_rfl) rfl
    exact st_bin (v := .bool false) (vx := .int .i64 (((l1).length : Int))) (vy := .int .i64 ((120 : Int))) rfl ((want_is (N := 16) rfl rfl x16).trans rfl) rfl x18 rfl (by first | rfl | (have c_ := c1001; refine Eq.trans (b := Result.ok (.bool decide ((((l1).length : Int)) > ((120 : Int)))) w1) rfl ?_; rw [show decide ((((l1).length : Int)) > ((120 : Int))) = false from decide_eq_false c_]) | (have c_ := c1001; clear hb hp hu; go_simp; first | done | rfl | (simp [c_]; done) | (simp; omega))) rfl
  case s7 =>
    intro b w1 hb hp hu
    have x16 : (Pv.is (.bool false)).V (get b 16) w1 := hp 3 16 (by kernel_rfl) rfl
    have x19 : (Pv.is (.bool false)).V (get b 19) w1 := hp 6 19 (by kernel_rfl) rfl
    exact st_pick (b := false) rfl (want0 rfl _) rfl x16 x19
  intro ac3 wo3 hn3 hd_ hb hv hs
  have g3_20 : (Pv.is (.bool false)).V (get ac3 20) wo3 := hv 7 20 rfl
  have g3_4 : (Pv.is (.bool false)).V (get ac3 4) wo3 := Pv.keep _ g2_4 (hs 4 rfl) hb
  have g3_0 : (Pv.sl (Kd.int .u8) (l0)).V (get ac3 0) wo3 := Pv.keep _ g2_0 (hs 0 rfl) hb
  have g3_1 : (Pv.sl (Kd.int .u8) (l1)).V (get ac3 1) wo3 := Pv.keep _ g2_1 (hs 1 rfl) hb
  have hB3 := below_step hB2 hb
  have hd3 := hd_.trans hd2
  clear hv hs hd_ hb hB2 hn2 hd2 g2_12 g2_4 g2_0 g2_1
  show Code.wp _ _ _ _ _
  refine wp_cond_false (show ac3.eval (Operand.tmp 20) = .bool false from g3_20) ?_
  refine wp_skip ?_
  show Code.wp _ _ _ _ _
  refine wp_seq ?_
  refine Reg.plain (T := wristbandlaw08_PolyQuo.T5) (D := wristbandlaw08_PolyQuo.D5) (n := 76) (by kernel_rfl) hn3 (told [Pv.sl (Kd.int .u8) (l0), Pv.sl (Kd.int .u8) (l1), Pv.tup [Pv.sl (Kd.int .u8) (t1), Pv.sl (Kd.int .u8) (t2), Pv.is (.int .i64 (t3))], Pv.tup [Pv.sl (Kd.int .u8) (t1), Pv.sl (Kd.int .u8) (t2), Pv.is (.int .i64 (t3))], Pv.sl (Kd.int .u8) (t1), Pv.sl (Kd.int .u8) (t2), Pv.is (.int .i64 (t3)), Pv.sl (Kd.int .u8) (t1), Pv.sl (Kd.int .u8) (t2), Pv.is (.int .i64 (t3))]) (told_pst _) (owedS (owedS (owedS (owedS (owedS (owedS (owedS (owedS (owedS (owedS owed0 ?s0) ?s1) ?s2) ?s3) ?s4) ?s5) ?s6) ?s7) ?s8) ?s9) ?_
  case s0 =>
    intro b w1 hb hp hu
    have x0 : (Pv.sl (Kd.int .u8) (l0)).V (get b 0) w1 := Pv.keep _ g3_0 (hu 0 (by kernel_rfl)) hb
    exact st_move rfl (want0 rfl _) rfl x0
  case s1 =>
    intro b w1 hb hp hu
    have x1 : (Pv.sl (Kd.int .u8) (l1)).V (get b 1) w1 := Pv.keep _ g3_1 (hu 1 (by kernel_rfl)) hb
    exact st_move rfl (want0 rfl _) rfl x1
  case s2 =>
    intro b w1 hb hp hu
    have x22 : (Pv.sl (Kd.int .u8) (l0)).V (get b 22) w1 := hp 0 22 (by kernel_rfl) rfl
    obtain ⟨B0, d0, e0_, hC0, hl0⟩ := x22
    have e0 : b.eval (Operand.tmp 22) = .slice B0 (l0).length d0 := e0_
    have x23 : (Pv.sl (Kd.int .u8) (l1)).V (get b 23) w1 := hp 1 23 (by kernel_rfl) rfl
    obtain ⟨B1, d1, e1_, hC1, hl1⟩ := x23
    have e1 : b.eval (Operand.tmp 23) = .slice B1 (l1).length d1 := e1_
    refine st_call rfl (want0 rfl _) rfl Try.func23 (by kernel_rfl) rfl #[.slice B0 (l0).length d0, .slice B1 (l1).length d1] (by simp only [List.map_toArray, List.map_cons, List.map_nil, e0, e1]) ?_
    refine (poly_Quo.calls k B0 d0 _ B1 d1 _ _ _ _ w1 hC0 hl0 hC1 hl1 H2).mono ?_
    rintro e w2 ⟨v0_, v1_, rfl, ho0, ho1, hb2⟩
    exact ⟨_, rfl, ⟨[_, _, _], rfl, Pv.of_sl ho0, Pv.of_sl ho1, rfl, trivial⟩, hb2⟩
  case s3 =>
    intro b w1 hb hp hu
    have x24 : (Pv.tup [Pv.sl (Kd.int .u8) (t1), Pv.sl (Kd.int .u8) (t2), Pv.is (.int .i64 (t3))]).V (get b 24) w1 := hp 2 24 (by kernel_rfl) rfl
    exact st_move rfl (want0 rfl _) rfl x24
  case s4 =>
    intro b w1 hb hp hu
    have x21 : (Pv.tup [Pv.sl (Kd.int .u8) (t1), Pv.sl (Kd.int .u8) (t2), Pv.is (.int .i64 (t3))]).V (get b 21) w1 := hp 3 21 (by kernel_rfl) rfl
    exact st_extract rfl (want0 rfl _) rfl x21 rfl (fun _ h => h)
  case s5 =>
    intro b w1 hb hp hu
    have x21 : (Pv.tup [Pv.sl (Kd.int .u8) (t1), Pv.sl (Kd.int .u8) (t2), Pv.is (.int .i64 (t3))]).V (get b 21) w1 := hp 3 21 (by kernel_rfl) rfl
    exact st_extract rfl (want0 rfl _) rfl x21 rfl (fun _ h => h)
  case s6 =>
    intro b w1 hb hp hu
    have x21 : (Pv.tup [Pv.sl (Kd.int .u8) (t1), Pv.sl (Kd.int .u8) (t2), Pv.is (.int .i64 (t3))]).V (get b 21) w1 := hp 3 21 (by kernel_rfl) rfl
    exact st_extract rfl (want0 rfl _) rfl x21 rfl (fun _ h => h)
  case s7 =>
    intro b w1 hb hp hu
    have x25 : (Pv.sl (Kd.int .u8) (t1)).V (get b 25) w1 := hp 4 25 (by kernel_rfl) rfl
    exact st_assign rfl (want0 rfl _) rfl x25
  case s8 =>
    intro b w1 hb hp hu
    have x26 : (Pv.sl (Kd.int .u8) (t2)).V (get b 26) w1 := hp 5 26 (by kernel_rfl) rfl
    exact st_assign rfl (want0 rfl _) rfl x26
  case s9 =>
    intro b w1 hb hp hu
    have x27 : (Pv.is (.int .i64 (t3))).V (get b 27) w1 := hp 6 27 (by kernel_rfl) rfl
    exact st_assign rfl (want0 rfl _) rfl x27
  intro ac4 wo4 hn4 hd_ hb hv hs
  have g4_7 : (Pv.is (.int .i64 (t3))).V (get ac4 7) wo4 := hv 9 7 rfl
  have g4_4 : (Pv.is (.bool false)).V (get ac4 4) wo4 := Pv.keep _ g3_4 (hs 4 rfl) hb
  have g4_1 : (Pv.sl (Kd.int .u8) (l1)).V (get ac4 1) wo4 := Pv.keep _ g3_1 (hs 1 rfl) hb
  have hB4 := below_step hB3 hb
  have hd4 := hd_.trans hd3
  clear hv hs hd_ hb hB3 hn3 hd3 g3_20 g3_4 g3_0 g3_1
  show Code.wp _ _ _ _ _
  refine wp_seq ?_
  refine wp_seq ?_
  refine Reg.plain (T := wristbandlaw08_PolyQuo.T6) (D := wristbandlaw08_PolyQuo.D6) (n := 76) (by kernel_rfl) hn4 (told [Pv.is (.int .i64 (t3)), Pv.is (.bool true)]) (told_pst _) (owedS (owedS owed0 ?s0) ?s1) ?_
  case s0 =>
    intro b w1 hb hp hu
    have x7 : (Pv.is (.int .i64 (t3))).V (get b 7) w1 := Pv.keep _ g4_7 (hu 7 (by kernel_rfl)) hb
    exact st_move rfl (want0 rfl _) rfl x7
  case s1 =>
    intro b w1 hb hp hu
    have x28 : (Pv.is (.int .i64 (t3))).V (get b 28) w1 := hp 0 28 (by kernel_rfl) rfl
    exact st_bin (v := .bool true) (vx := .int .i64 (t3)) (vy := .int .i64 ((0 : Int))) rfl (want0 rfl _) rfl x28 rfl (by first | rfl | (have c_ := c1002; refine Eq.trans (b := Result.ok (.bool ((t3) != ((0 : Int)))) w1) rfl ?_; rw [show ((t3) != ((0 : Int))) = true from bne_iff_ne.mpr c_]) | (have c_ := c1002; clear hb hp hu; go_simp; first | done | rfl | (simp [c_]; done) | (simp; omega))) rfl
  intro ac5 wo5 hn5 hd_ hb hv hs
  have g5_29 : (Pv.is (.bool true)).V (get ac5 29) wo5 := hv 1 29 rfl
  have g5_4 : (Pv.is (.bool false)).V (get ac5 4) wo5 := Pv.keep _ g4_4 (hs 4 rfl) hb
  have g5_1 : (Pv.sl (Kd.int .u8) (l1)).V (get ac5 1) wo5 := Pv.keep _ g4_1 (hs 1 rfl) hb
  have hB5 := below_step hB4 hb
  have hd5 := hd_.trans hd4
  clear hv hs hd_ hb hB4 hn4 hd4 g4_7 g4_4 g4_1
  show Code.wp _ _ _ _ _
  refine wp_cond_true (show ac5.eval (Operand.tmp 29) = .bool true from g5_29) ?_
  refine wp_seq ?_
  refine Reg.plain (T := wristbandlaw08_PolyQuo.T7) (D := wristbandlaw08_PolyQuo.D7) (n := 76) (by kernel_rfl) hn5 (told [Pv.sl (Kd.int .u8) (l1), Pv.is (.int .i64 (t4)), Pv.is (.bool true), Pv.is (.bool true)]) (told_pst _) (owedS (owedS (owedS (owedS owed0 ?s0) ?s1) ?s2) ?s3) ?_
  case s0 =>
    intro b w1 hb hp hu
    have x1 : (Pv.sl (Kd.int .u8) (l1)).V (get b 1) w1 := Pv.keep _ g5_1 (hu 1 (by kernel_rfl)) hb
    exact st_move rfl (want0 rfl _) rfl x1
  case s1 =>
    intro b w1 hb hp hu
    have x30 : (Pv.sl (Kd.int .u8) (l1)).V (get b 30) w1 := hp 0 30 (by kernel_rfl) rfl
    obtain ⟨B0, d0, e0_, hC0, hl0⟩ := x30
    have e0 : b.eval (Operand.tmp 30) = .slice B0 (l1).length d0 := e0_
    refine st_call rfl (want0 rfl _) rfl Try.func12 (by kernel_rfl) rfl #[.slice B0 (l1).length d0] (by simp only [List.map_toArray, List.map_cons, List.map_nil, e0]) ?_
    refine (poly_Degree.calls B0 d0 _ _ w1 hC0 hl0 H3).mono ?_
    rintro e w2 ⟨rfl, hb2⟩
    exact ⟨_, rfl, rfl, hb2⟩
  case s2 =>
    intro b w1 hb hp hu
    have x31 : (Pv.is (.int .i64 (t4))).V (get b 31) w1 := hp 1 31 (by kernel_rfl) rfl
    exact st_bin (v := .bool true) (vx := .int .i64 (t4)) (vy := .int .i64 ((0 : Int))) rfl (want0 rfl _) rfl x31 rfl (by first | rfl | (have c_ := c1003; refine Eq.trans (b := Result.ok (.bool decide ((t4) < ((0 : Int)))) w1) rfl ?_; rw [show decide ((t4) < ((0 : Int))) = true from decide_eq_true c_]) | (have c_ := c1003; clear hb hp hu; go_simp; first | done | rfl | (simp [c_]; done) | (simp; omega))) rfl
  case s3 =>
    intro b w1 hb hp hu
    have x32 : (Pv.is (.bool true)).V (get b 32) w1 := hp 2 32 (by kernel_rfl) rfl
    exact st_assign rfl (want0 rfl _) rfl x32
  intro ac6 wo6 hn6 hd_ hb hv hs
  have g6_4 : (Pv.is (.bool true)).V (get ac6 4) wo6 := hv 3 4 rfl
  have hB6 := below_step hB5 hb
  have hd6 := hd_.trans hd5
  clear hv hs hd_ hb hB5 hn5 hd5 g5_29 g5_4 g5_1
  show Code.wp _ _ _ _ _
  refine wp_ret ?_
  repeat (refine then_ret ?_)
  exact back_is rfl hd6 g6_4 ⟨rfl, hB6⟩
theorem wristbandlaw08_PolyQuo.calls (k : Nat) (A0 : Option Addr) (c0 : Nat) (l0 : List Int) (A1 : Option Addr) (c1 : Nat) (l1 : List Int) (w : World) (hr0 : Kd.C (Kd.int .u8) w A0 l0.length l0) (hc0 : l0.length ≤ c0) (hr1 : Kd.C (Kd.int .u8) w A1 l1.length l1) (hc1 : l1.length ≤ c1) (h : wristbandlaw08_PolyQuo.ok k l0 l1) :
    Calls Try.prog 4 #[.slice A0 l0.length c0, .slice A1 l1.length c1] w fun e w' => e = .returned (.bool true) ∧ Below w.heap.size w w' := by
  unfold wristbandlaw08_PolyQuo.ok at h
  obtain ⟨H1, h⟩ := h
  obtain ⟨hy, hn⟩ := h
  by_cases c1000 : ((l0).length : Int) > (120 : Int)
  · have h := hy c1000
    exact wristbandlaw08_PolyQuo.way1 k A0 c0 l0 A1 c1 l1 w hr0 hc0 hr1 hc1 H1 c1000
  · have h := hn c1000
    obtain ⟨hy, hn⟩ := h
    by_cases c1001 : ((l1).length : Int) > (120 : Int)
    · have h := hy c1001
      exact wristbandlaw08_PolyQuo.way2 k A0 c0 l0 A1 c1 l1 w hr0 hc0 hr1 hc1 H1 c1000 c1001
    · have h := hn c1001
      obtain ⟨t1, t2, t3, H2, h⟩ := h
      obtain ⟨hy, hn⟩ := h
      by_cases c1002 : t3 = (0 : Int)
      · have h := hy c1002
        obtain ⟨t4, H3, h⟩ := h
        obtain ⟨t5, t6, t7, H4, h⟩ := h
        obtain ⟨t8, H5, h⟩ := h
        obtain ⟨t9, H6, h⟩ := h
        obtain ⟨c1003, h⟩ := h
        obtain ⟨t10, H7, h⟩ := h
        obtain ⟨t11, H8, h⟩ := h
        obtain ⟨t12, H9, h⟩ := h
        obtain ⟨c1004, h⟩ := h
        obtain ⟨c1005, h⟩ := h
        obtain ⟨c1006, h⟩ := h
        obtain ⟨c1007, h⟩ := h
        exact wristbandlaw08_PolyQuo.way3 k A0 c0 l0 A1 c1 l1 w hr0 hc0 hr1 hc1 H1 t1 t2 t3 H2 t4 H3 t5 t6 t7 H4 t8 H5 t9 H6 t10 H7 t11 H8 t12 H9 c1000 c1001 c1002 c1003 c1004 c1005 c1006 c1007
      · have h := hn c1002
        obtain ⟨t4, H3, h⟩ := h
        obtain ⟨c1003, h⟩ := h
        exact wristbandlaw08_PolyQuo.way4 k A0 c0 l0 A1 c1 l1 w hr0 hc0 hr1 hc1 H1 t1 t2 t3 H2 t4 H3 c1000 c1001 c1002 c1003

/-- THE ONE PURE STATEMENT of wristbandlaw08_PolyQuo. -/
def wristbandlaw08_PolyQuo.Pure : Prop := ∀ (l0 : List Int) (l1 : List Int), l0.length ≤ maxLen → l0.length * 1 ≤ 140737488351232 → (∀ x ∈ l0, (Lit.int .u8 x).wf = true) → l1.length ≤ maxLen → l1.length * 1 ≤ 140737488351232 → (∀ x ∈ l1, (Lit.int .u8 x).wf = true) → ∃ k, wristbandlaw08_PolyQuo.ok k l0 l1
theorem wristbandlaw08_PolyQuo.walk (P : wristbandlaw08_PolyQuo.Pure) (a0 : Option Addr) (len0 cap0 : Nat) (z0 : List Int) (a1 : Option Addr) (len1 cap1 : Nat) (z1 : List Int) (w : World) (w0 : (a0 = none ∧ len0 = 0 ∧ cap0 = 0 ∧ z0 = []) ∨ ∃ x, a0 = some x ∧ len0 ≤ cap0 ∧ cap0 ≤ maxLen ∧ z0.length = cap0 ∧ (∀ i, i < z0.length → w.cell? (x.add i) = some (.int .u8 (z0.getD i 0))) ∧ ∀ n ∈ z0, (Lit.int .u8 n).wf = true) (y0 : len0 * 1 ≤ 140737488351232) (w1 : (a1 = none ∧ len1 = 0 ∧ cap1 = 0 ∧ z1 = []) ∨ ∃ x, a1 = some x ∧ len1 ≤ cap1 ∧ cap1 ≤ maxLen ∧ z1.length = cap1 ∧ (∀ i, i < z1.length → w.cell? (x.add i) = some (.int .u8 (z1.getD i 0))) ∧ ∀ n ∈ z1, (Lit.int .u8 n).wf = true) (y1 : len1 * 1 ≤ 140737488351232) :
    Calls Try.prog 4 #[.slice a0 len0 cap0, .slice a1 len1 cap1] w fun e w' => e = .returned (.bool true) ∧ Below w.heap.size w w' := by
  obtain ⟨l0, rfl, hr0, hm0, hw0, hc0⟩ := ReadsInt.ofRowC w0
  obtain ⟨l1, rfl, hr1, hm1, hw1, hc1⟩ := ReadsInt.ofRowC w1
  obtain ⟨k, h⟩ := P l0 l1 hm0 y0 hw0 hm1 y1 hw1
  exact wristbandlaw08_PolyQuo.calls k _ _ l0 _ _ l1 w (Kd.C_of_reads (d := (0 : Int)) (h1 := fun _ => rfl) hr0) hc0 (Kd.C_of_reads (d := (0 : Int)) (h1 := fun _ => rfl) hr1) hc1 h

end Go.Proofs.Ytgieppcadnhhaaa.P
