-- Written by a program of this session (its own contracts laid into the walks). Lean checks it.
import Derived.Test.YtgieppcadnhhaaaPx0
import Derived.Test.YtgieppcadnhhaaaPx2
import Derived.Test.YtgieppcadnhhaaaPx3
import Derived.Test.YtgieppcadnhhaaaPx4
import Derived.Test.YtgieppcadnhhaaaPx5
import Derived.Test.YtgieppcadnhhaaaPx6
import Derived.Test.YtgieppcadnhhaaaPx7
import Derived.Test.YtgieppcadnhhaaaPx8
import Derived.Test.YtgieppcadnhhaaaReg
namespace Go.Proofs.Ytgieppcadnhhaaa.P
open Go.RowKit Go.Proofs.YtgieppcadnhhaaaW.PrintWords Go.Proofs.YtgieppcadnhhaaaW.PrintLast Go.Proofs.YtgieppcadnhhaaaW.PrintMore
attribute [local go_sem] max2_int min2_int max_two min_two max_three min_three max_four min_four   -- for this text's walks alone
set_option linter.unusedVariables false
set_option linter.unusedSimpArgs false

/-! ### wristbandlaw08_awake: function 9 -/
-- IMPORTS Derived.Test.YtgieppcadnhhaaaReg
open Go.Proofs.Ytgieppcadnhhaaa.Reg
def wristbandlaw08_awake.T0 : List Nat := [0]
def wristbandlaw08_awake.D0 : List (Option Tmp) := [some 0]
def wristbandlaw08_awake.T1 : List Nat := [0, 0, 3, 7, 15, 15, 15, 31, 191, 511]
def wristbandlaw08_awake.D1 : List (Option Tmp) := [some 8, some 9, some 10, some 7, some 11, some 12, some 13, some 1, some 2, some 3]
def wristbandlaw08_awake.T2 : List Nat := [0, 0, 3, 7, 15, 15, 15, 31, 191, 511]
def wristbandlaw08_awake.D2 : List (Option Tmp) := [some 15, some 16, some 17, some 14, some 18, some 19, some 20, some 4, some 5, some 6]
def wristbandlaw08_awake.T3 : List Nat := [0, 1, 3, 7, 15, 31, 63, 127, 255, 511, 1023, 2047, 4095, 8191, 16383, 32767, 65535, 131071, 131071, 524287, 1048575, 2097151, 4194303, 8388607, 16777215, 33554431, 67108863, 134217727, 268435455, 536870911, 1073741823, 2147483647, 4294967295, 8589934591, 17179869183, 34359738367, 68719476735, 137438953471, 274877906943, 549755813887, 1099511627775, 1099511627775, 4398046511103, 8796093022207, 17592186044415, 35184372088831, 70368744177663, 140737488355327, 281474976710655, 562949953421311, 1125899906842623, 2251799813685247, 4503599627370495, 9007199254740991, 18014398509481983, 36028797018963967, 72057594037927935, 144115188075855871, 288230376151711743]
def wristbandlaw08_awake.D3 : List (Option Tmp) := [some 21, some 22, some 23, some 24, some 25, some 26, some 27, some 28, some 29, some 30, some 31, some 32, some 33, some 34, some 35, some 36, some 37, some 38, some 39, some 40, some 41, some 42, some 43, some 44, some 45, some 46, some 47, some 48, some 49, some 50, some 51, some 52, some 53, some 54, some 55, some 56, some 57, some 58, some 59, some 60, some 61, some 62, some 63, some 64, some 65, some 66, some 67, some 68, some 69, some 70, some 71, some 72, some 73, some 74, some 75, some 76, some 77, some 78, some 0]
/-- What the law asks, told of the walks' own functions. -/
def wristbandlaw08_awake.ok (k : Nat)  : Prop := (∃ (t1 : List Int) (t2 : List Int) (t3 : Int), poly_Quo.f k (([(1 : Int), (0 : Int), (1 : Int)] : List Int)) (([(1 : Int), (1 : Int)] : List Int)) = some (t1, t2, t3) ∧ (∃ (t4 : List Int) (t5 : List Int) (t6 : Int), poly_Quo.f k (([(1 : Int)] : List Int)) (([(0 : Int), (0 : Int)] : List Int)) = some (t4, t5, t6) ∧ (((strOfNums (t1)).toList = ([1, 1] : List UInt8)) ∧ ((((t2).length : Int) = (0 : Int)) ∧ ((t3 = (0 : Int)) ∧ ((t6 = (1 : Int)) ∧ (∃ (t7 : List Int), poly_Mul.f k (t1) (([(1 : Int), (1 : Int)] : List Int)) = some t7 ∧ (((strOfNums (t7)).toList = ([1, 0, 1] : List UInt8)) ∧ (∃ (t8 : Int), poly_Degree.f (([(5 : Int), (0 : Int)] : List Int)) = some t8 ∧ ((t8 = (0 : Int)) ∧ (∃ (t9 : Int), poly_Eval.f k (([(1 : Int), (1 : Int)] : List Int)) ((3 : Int)) = some t9 ∧ ((t9 = (2 : Int)) ∧ (∃ (t10 : List Int), poly_Slope.f k (([(9 : Int), (8 : Int), (7 : Int), (6 : Int)] : List Int)) = some t10 ∧ (((strOfNums (t10)).toList = ([8, 0, 6] : List UInt8)) ∧ (∃ (t11 : List Int), poly_Add.f k (([(1 : Int), (2 : Int)] : List Int)) (([(1 : Int), (2 : Int), (3 : Int)] : List Int)) = some t11 ∧ (((strOfNums (t11)).toList = ([0, 0, 3] : List UInt8)) ∧ (∃ (t12 : List Int), poly_Plain.f (([(0 : Int)] : List Int)) = some t12 ∧ ((((t12).length : Int) = (0 : Int)) ∧ (∃ (t13 : List Int), poly_Times.f k (([(1 : Int), (128 : Int)] : List Int)) ((2 : Int)) = some t13 ∧ (((strOfNums (t13)).toList = ([2, 45] : List UInt8)) ∧ True))))))))))))))))))))
set_option maxRecDepth 100000 in
set_option maxHeartbeats 4000000 in
theorem wristbandlaw08_awake.way1 (k : Nat) (w : World)  (t1 : List Int) (t2 : List Int) (t3 : Int) (H1 : poly_Quo.f k (([(1 : Int), (0 : Int), (1 : Int)] : List Int)) (([(1 : Int), (1 : Int)] : List Int)) = some (t1, t2, t3)) (t4 : List Int) (t5 : List Int) (t6 : Int) (H2 : poly_Quo.f k (([(1 : Int)] : List Int)) (([(0 : Int), (0 : Int)] : List Int)) = some (t4, t5, t6)) (t7 : List Int) (H3 : poly_Mul.f k (t1) (([(1 : Int), (1 : Int)] : List Int)) = some t7) (t8 : Int) (H4 : poly_Degree.f (([(5 : Int), (0 : Int)] : List Int)) = some t8) (t9 : Int) (H5 : poly_Eval.f k (([(1 : Int), (1 : Int)] : List Int)) ((3 : Int)) = some t9) (t10 : List Int) (H6 : poly_Slope.f k (([(9 : Int), (8 : Int), (7 : Int), (6 : Int)] : List Int)) = some t10) (t11 : List Int) (H7 : poly_Add.f k (([(1 : Int), (2 : Int)] : List Int)) (([(1 : Int), (2 : Int), (3 : Int)] : List Int)) = some t11) (t12 : List Int) (H8 : poly_Plain.f (([(0 : Int)] : List Int)) = some t12) (t13 : List Int) (H9 : poly_Times.f k (([(1 : Int), (128 : Int)] : List Int)) ((2 : Int)) = some t13) (c1000 : (strOfNums (t1)).toList = ([1, 1] : List UInt8)) (c1001 : ((t2).length : Int) = (0 : Int)) (c1002 : t3 = (0 : Int)) (c1003 : t6 = (1 : Int)) (c1004 : (strOfNums (t7)).toList = ([1, 0, 1] : List UInt8)) (c1005 : t8 = (0 : Int)) (c1006 : t9 = (2 : Int)) (c1007 : (strOfNums (t10)).toList = ([8, 0, 6] : List UInt8)) (c1008 : (strOfNums (t11)).toList = ([0, 0, 3] : List UInt8)) (c1009 : ((t12).length : Int) = (0 : Int)) (c1010 : (strOfNums (t13)).toList = ([2, 45] : List UInt8)) :
    Calls Try.prog 9 #[] w fun e w' => e = .returned (.bool true) ∧ Below w.heap.size w w' := by
  refine enter Try.func9 rfl (n := 79) rfl ?_
  intro ac0 hn0 hd0 ha
  have hB0 := Below.refl w.heap.size w
  clear ha
  refine wp_seq ?_
  refine Reg.plain (T := wristbandlaw08_awake.T0) (D := wristbandlaw08_awake.D0) (n := 79) (by kernel_rfl) hn0 (told [Pv.is (.bool false)]) (told_pst _) (owedS owed0 ?s0) ?_
  case s0 =>
    intro b w1 hb hp hu
    exact st_assign rfl (want0 rfl _) rfl rfl
  intro ac1 wo1 hn1 hd_ hb hv hs
  have g1_0 : (Pv.is (.bool false)).V (get ac1 0) wo1 := hv 0 0 rfl
  have hB1 := below_step hB0 hb
  have hd1 := hd_.trans hd0
  clear hv hs hd_ hb hB0 hn0 hd0
  show Code.wp _ _ _ _ _
  refine wp_seq ?_
  refine Reg.plain (T := wristbandlaw08_awake.T1) (D := wristbandlaw08_awake.D1) (n := 79) (by kernel_rfl) hn1 (told [Pv.sl (Kd.int .u8) (([(1 : Int), (0 : Int), (1 : Int)] : List Int)), Pv.sl (Kd.int .u8) (([(1 : Int), (1 : Int)] : List Int)), Pv.tup [Pv.sl (Kd.int .u8) (t1), Pv.sl (Kd.int .u8) (t2), Pv.is (.int .i64 (t3))], Pv.tup [Pv.sl (Kd.int .u8) (t1), Pv.sl (Kd.int .u8) (t2), Pv.is (.int .i64 (t3))], Pv.sl (Kd.int .u8) (t1), Pv.sl (Kd.int .u8) (t2), Pv.is (.int .i64 (t3)), Pv.sl (Kd.int .u8) (t1), Pv.sl (Kd.int .u8) (t2), Pv.is (.int .i64 (t3))]) (told_pst _) (owedS (owedS (owedS (owedS (owedS (owedS (owedS (owedS (owedS (owedS owed0 ?s0) ?s1) ?s2) ?s3) ?s4) ?s5) ?s6) ?s7) ?s8) ?s9) ?_
  case s0 =>
    intro b w1 hb hp hu
    have e0 : b.eval (Operand.const (Value.int IntKind.u8 1)) = .int .u8 ((1 : Int)) := rfl
    have e1 : b.eval (Operand.const (Value.int IntKind.u8 0)) = .int .u8 ((0 : Int)) := rfl
    have e2 : b.eval (Operand.const (Value.int IntKind.u8 1)) = .int .u8 ((1 : Int)) := rfl
    exact st_lit (e := 5) (N := 8) (xs := ([(1 : Int), (0 : Int), (1 : Int)] : List Int)) (inner := [.int .u8 ((1 : Int)), .int .u8 ((0 : Int)), .int .u8 ((1 : Int))]) (ps := #[(0, .int .u8 ((1 : Int))), (1, .int .u8 ((0 : Int))), (2, .int .u8 ((1 : Int)))]) rfl (want0 rfl _) rfl rfl (by simp only [List.map_toArray, List.map_cons, List.map_nil, e0, e1, e2]) (by first | (go_simp; done) | (go_simp; rfl)) (Reps.one (show Kd.M (Kd.int .u8) _ _ _ ((1 : Int)) [.int .u8 ((1 : Int))] from rfl) (Reps.one (show Kd.M (Kd.int .u8) _ _ _ ((0 : Int)) [.int .u8 ((0 : Int))] from rfl) (Reps.one (show Kd.M (Kd.int .u8) _ _ _ ((1 : Int)) [.int .u8 ((1 : Int))] from rfl) (Reps.none _ _)))) (by simp) (fun _ _ h => h)
  case s1 =>
    intro b w1 hb hp hu
    have e0 : b.eval (Operand.const (Value.int IntKind.u8 1)) = .int .u8 ((1 : Int)) := rfl
    have e1 : b.eval (Operand.const (Value.int IntKind.u8 1)) = .int .u8 ((1 : Int)) := rfl
    exact st_lit (e := 5) (N := 9) (xs := ([(1 : Int), (1 : Int)] : List Int)) (inner := [.int .u8 ((1 : Int)), .int .u8 ((1 : Int))]) (ps := #[(0, .int .u8 ((1 : Int))), (1, .int .u8 ((1 : Int)))]) rfl (want0 rfl _) rfl rfl (by simp only [List.map_toArray, List.map_cons, List.map_nil, e0, e1]) (by first | (go_simp; done) | (go_simp; rfl)) (Reps.one (show Kd.M (Kd.int .u8) _ _ _ ((1 : Int)) [.int .u8 ((1 : Int))] from rfl) (Reps.one (show Kd.M (Kd.int .u8) _ _ _ ((1 : Int)) [.int .u8 ((1 : Int))] from rfl) (Reps.none _ _))) (by simp) (fun _ _ h => h)
  case s2 =>
    intro b w1 hb hp hu
    have x8 : (Pv.sl (Kd.int .u8) (([(1 : Int), (0 : Int), (1 : Int)] : List Int))).V (get b 8) w1 := hp 0 8 (by kernel_rfl) rfl
    obtain ⟨B0, d0, e0_, hC0, hl0⟩ := x8
    have e0 : b.eval (Operand.tmp 8) = .slice B0 (([(1 : Int), (0 : Int), (1 : Int)] : List Int)).length d0 := e0_
    have x9 : (Pv.sl (Kd.int .u8) (([(1 : Int), (1 : Int)] : List Int))).V (get b 9) w1 := hp 1 9 (by kernel_rfl) rfl
    obtain ⟨B1, d1, e1_, hC1, hl1⟩ := x9
    have e1 : b.eval (Operand.tmp 9) = .slice B1 (([(1 : Int), (1 : Int)] : List Int)).length d1 := e1_
    refine st_call rfl (want0 rfl _) rfl Try.func23 (by kernel_rfl) rfl #[.slice B0 (([(1 : Int), (0 : Int), (1 : Int)] : List Int)).length d0, .slice B1 (([(1 : Int), (1 : Int)] : List Int)).length d1] (by simp only [List.map_toArray, List.map_cons, List.map_nil, e0, e1]) ?_
    refine (poly_Quo.calls k B0 d0 _ B1 d1 _ _ _ _ w1 hC0 hl0 hC1 hl1 H1).mono ?_
    rintro e w2 ⟨v0_, v1_, rfl, ho0, ho1, hb2⟩
    exact ⟨_, rfl, ⟨[_, _, _], rfl, Pv.of_sl ho0, Pv.of_sl ho1, rfl, trivial⟩, hb2⟩
  case s3 =>
    intro b w1 hb hp hu
    have x10 : (Pv.tup [Pv.sl (Kd.int .u8) (t1), Pv.sl (Kd.int .u8) (t2), Pv.is (.int .i64 (t3))]).V (get b 10) w1 := hp 2 10 (by kernel_rfl) rfl
    exact st_move rfl (want0 rfl _) rfl x10
  case s4 =>
    intro b w1 hb hp hu
    have x7 : (Pv.tup [Pv.sl (Kd.int .u8) (t1), Pv.sl (Kd.int .u8) (t2), Pv.is (.int .i64 (t3))]).V (get b 7) w1 := hp 3 7 (by kernel_rfl) rfl
    exact st_extract rfl (want0 rfl _) rfl x7 rfl (fun _ h => h)
  case s5 =>
    intro b w1 hb hp hu
    have x7 : (Pv.tup [Pv.sl (Kd.int .u8) (t1), Pv.sl (Kd.int .u8) (t2), Pv.is (.int .i64 (t3))]).V (get b 7) w1 := hp 3 7 (by kernel_rfl) rfl
    exact st_extract rfl (want0 rfl _) rfl x7 rfl (fun _ h => h)
  case s6 =>
    intro b w1 hb hp hu
    have x7 : (Pv.tup [Pv.sl (Kd.int .u8) (t1), Pv.sl (Kd.int .u8) (t2), Pv.is (.int .i64 (t3))]).V (get b 7) w1 := hp 3 7 (by kernel_rfl) rfl
    exact st_extract rfl (want0 rfl _) rfl x7 rfl (fun _ h => h)
  case s7 =>
    intro b w1 hb hp hu
    have x11 : (Pv.sl (Kd.int .u8) (t1)).V (get b 11) w1 := hp 4 11 (by kernel_rfl) rfl
    exact st_assign rfl (want0 rfl _) rfl x11
  case s8 =>
    intro b w1 hb hp hu
    have x12 : (Pv.sl (Kd.int .u8) (t2)).V (get b 12) w1 := hp 5 12 (by kernel_rfl) rfl
    exact st_assign rfl (want0 rfl _) rfl x12
  case s9 =>
    intro b w1 hb hp hu
    have x13 : (Pv.is (.int .i64 (t3))).V (get b 13) w1 := hp 6 13 (by kernel_rfl) rfl
    exact st_assign rfl (want0 rfl _) rfl x13
  intro ac2 wo2 hn2 hd_ hb hv hs
  have g2_1 : (Pv.sl (Kd.int .u8) (t1)).V (get ac2 1) wo2 := hv 7 1 rfl
  have g2_2 : (Pv.sl (Kd.int .u8) (t2)).V (get ac2 2) wo2 := hv 8 2 rfl
  have g2_3 : (Pv.is (.int .i64 (t3))).V (get ac2 3) wo2 := hv 9 3 rfl
  have g2_0 : (Pv.is (.bool false)).V (get ac2 0) wo2 := Pv.keep _ g1_0 (hs 0 rfl) hb
  have hB2 := below_step hB1 hb
  have hd2 := hd_.trans hd1
  clear hv hs hd_ hb hB1 hn1 hd1 g1_0
  show Code.wp _ _ _ _ _
  refine wp_seq ?_
  refine Reg.plain (T := wristbandlaw08_awake.T2) (D := wristbandlaw08_awake.D2) (n := 79) (by kernel_rfl) hn2 (told [Pv.sl (Kd.int .u8) (([(1 : Int)] : List Int)), Pv.sl (Kd.int .u8) (([(0 : Int), (0 : Int)] : List Int)), Pv.tup [Pv.sl (Kd.int .u8) (t4), Pv.sl (Kd.int .u8) (t5), Pv.is (.int .i64 (t6))], Pv.tup [Pv.sl (Kd.int .u8) (t4), Pv.sl (Kd.int .u8) (t5), Pv.is (.int .i64 (t6))], Pv.sl (Kd.int .u8) (t4), Pv.sl (Kd.int .u8) (t5), Pv.is (.int .i64 (t6)), Pv.sl (Kd.int .u8) (t4), Pv.sl (Kd.int .u8) (t5), Pv.is (.int .i64 (t6))]) (told_pst _) (owedS (owedS (owedS (owedS (owedS (owedS (owedS (owedS (owedS (owedS owed0 ?s0) ?s1) ?s2) ?s3) ?s4) ?s5) ?s6) ?s7) ?s8) ?s9) ?_
  case s0 =>
    intro b w1 hb hp hu
    have e0 : b.eval (Operand.const (Value.int IntKind.u8 1)) = .int .u8 ((1 : Int)) := rfl
    exact st_lit (e := 5) (N := 15) (xs := ([(1 : Int)] : List Int)) (inner := [.int .u8 ((1 : Int))]) (ps := #[(0, .int .u8 ((1 : Int)))]) rfl (want0 rfl _) rfl rfl (by simp only [List.map_toArray, List.map_cons, List.map_nil, e0]) (by first | (go_simp; done) | (go_simp; rfl)) (Reps.one (show Kd.M (Kd.int .u8) _ _ _ ((1 : Int)) [.int .u8 ((1 : Int))] from rfl) (Reps.none _ _)) (by simp) (fun _ _ h => h)
  case s1 =>
    intro b w1 hb hp hu
    have e0 : b.eval (Operand.const (Value.int IntKind.u8 0)) = .int .u8 ((0 : Int)) := rfl
    have e1 : b.eval (Operand.const (Value.int IntKind.u8 0)) = .int .u8 ((0 : Int)) := rfl
    exact st_lit (e := 5) (N := 16) (xs := ([(0 : Int), (0 : Int)] : List Int)) (inner := [.int .u8 ((0 : Int)), .int .u8 ((0 : Int))]) (ps := #[(0, .int .u8 ((0 : Int))), (1, .int .u8 ((0 : Int)))]) rfl (want0 rfl _) rfl rfl (by simp only [List.map_toArray, List.map_cons, List.map_nil, e0, e1]) (by first | (go_simp; done) | (go_simp; rfl)) (Reps.one (show Kd.M (Kd.int .u8) _ _ _ ((0 : Int)) [.int .u8 ((0 : Int))] from rfl) (Reps.one (show Kd.M (Kd.int .u8) _ _ _ ((0 : Int)) [.int .u8 ((0 : Int))] from rfl) (Reps.none _ _))) (by simp) (fun _ _ h => h)
  case s2 =>
    intro b w1 hb hp hu
    have x15 : (Pv.sl (Kd.int .u8) (([(1 : Int)] : List Int))).V (get b 15) w1 := hp 0 15 (by kernel_rfl) rfl
    obtain ⟨B0, d0, e0_, hC0, hl0⟩ := x15
    have e0 : b.eval (Operand.tmp 15) = .slice B0 (([(1 : Int)] : List Int)).length d0 := e0_
    have x16 : (Pv.sl (Kd.int .u8) (([(0 : Int), (0 : Int)] : List Int))).V (get b 16) w1 := hp 1 16 (by kernel_rfl) rfl
    obtain ⟨B1, d1, e1_, hC1, hl1⟩ := x16
    have e1 : b.eval (Operand.tmp 16) = .slice B1 (([(0 : Int), (0 : Int)] : List Int)).length d1 := e1_
    refine st_call rfl (want0 rfl _) rfl Try.func23 (by kernel_rfl) rfl #[.slice B0 (([(1 : Int)] : List Int)).length d0, .slice B1 (([(0 : Int), (0 : Int)] : List Int)).length d1] (by simp only [List.map_toArray, List.map_cons, List.map_nil, e0, e1]) ?_
    refine (poly_Quo.calls k B0 d0 _ B1 d1 _ _ _ _ w1 hC0 hl0 hC1 hl1 H2).mono ?_
    rintro e w2 ⟨v0_, v1_, rfl, ho0, ho1, hb2⟩
    exact ⟨_, rfl, ⟨[_, _, _], rfl, Pv.of_sl ho0, Pv.of_sl ho1, rfl, trivial⟩, hb2⟩
  case s3 =>
    intro b w1 hb hp hu
    have x17 : (Pv.tup [Pv.sl (Kd.int .u8) (t4), Pv.sl (Kd.int .u8) (t5), Pv.is (.int .i64 (t6))]).V (get b 17) w1 := hp 2 17 (by kernel_rfl) rfl
    exact st_move rfl (want0 rfl _) rfl x17
  case s4 =>
    intro b w1 hb hp hu
    have x14 : (Pv.tup [Pv.sl (Kd.int .u8) (t4), Pv.sl (Kd.int .u8) (t5), Pv.is (.int .i64 (t6))]).V (get b 14) w1 := hp 3 14 (by kernel_rfl) rfl
    exact st_extract rfl (want0 rfl _) rfl x14 rfl (fun _ h => h)
  case s5 =>
    intro b w1 hb hp hu
    have x14 : (Pv.tup [Pv.sl (Kd.int .u8) (t4), Pv.sl (Kd.int .u8) (t5), Pv.is (.int .i64 (t6))]).V (get b 14) w1 := hp 3 14 (by kernel_rfl) rfl
    exact st_extract rfl (want0 rfl _) rfl x14 rfl (fun _ h => h)
  case s6 =>
    intro b w1 hb hp hu
    have x14 : (Pv.tup [Pv.sl (Kd.int .u8) (t4), Pv.sl (Kd.int .u8) (t5), Pv.is (.int .i64 (t6))]).V (get b 14) w1 := hp 3 14 (by kernel_rfl) rfl
    exact st_extract rfl (want0 rfl _) rfl x14 rfl (fun _ h => h)
  case s7 =>
    intro b w1 hb hp hu
    have x18 : (Pv.sl (Kd.int .u8) (t4)).V (get b 18) w1 := hp 4 18 (by kernel_rfl) rfl
    exact st_assign rfl (want0 rfl _) rfl x18
  case s8 =>
    intro b w1 hb hp hu
    have x19 : (Pv.sl (Kd.int .u8) (t5)).V (get b 19) w1 := hp 5 19 (by kernel_rfl) rfl
    exact st_assign rfl (want0 rfl _) rfl x19
  case s9 =>
    intro b w1 hb hp hu
    have x20 : (Pv.is (.int .i64 (t6))).V (get b 20) w1 := hp 6 20 (by kernel_rfl) rfl
    exact st_assign rfl (want0 rfl _) rfl x20
  intro ac3 wo3 hn3 hd_ hb hv hs
  have g3_6 : (Pv.is (.int .i64 (t6))).V (get ac3 6) wo3 := hv 9 6 rfl
  have g3_1 : (Pv.sl (Kd.int .u8) (t1)).V (get ac3 1) wo3 := Pv.keep _ g2_1 (hs 1 rfl) hb
  have g3_2 : (Pv.sl (Kd.int .u8) (t2)).V (get ac3 2) wo3 := Pv.keep _ g2_2 (hs 2 rfl) hb
  have g3_3 : (Pv.is (.int .i64 (t3))).V (get ac3 3) wo3 := Pv.keep _ g2_3 (hs 3 rfl) hb
  have g3_0 : (Pv.is (.bool false)).V (get ac3 0) wo3 := Pv.keep _ g2_0 (hs 0 rfl) hb
  have hB3 := below_step hB2 hb
  have hd3 := hd_.trans hd2
  clear hv hs hd_ hb hB2 hn2 hd2 g2_1 g2_2 g2_3 g2_0
  show Code.wp _ _ _ _ _
  refine wp_seq ?_
  refine Reg.plain (T := wristbandlaw08_awake.T3) (D := wristbandlaw08_awake.D3) (n := 79) (by kernel_rfl) hn3 (told [Pv.sl (Kd.int .u8) (t1), Pv.is (.string (strOfNums (t1))), Pv.is (.bool true), Pv.is (.bool true), Pv.sl (Kd.int .u8) (t2), Pv.is (.int .i64 (((t2).length : Int))), Pv.is (.bool true), Pv.is (.bool true), Pv.is (.bool true), Pv.is (.int .i64 (t3)), Pv.is (.bool true), Pv.is (.bool true), Pv.is (.bool true), Pv.is (.int .i64 (t6)), Pv.is (.bool true), Pv.is (.bool true), Pv.is (.bool true), Pv.sl (Kd.int .u8) (t1), Pv.sl (Kd.int .u8) (([(1 : Int), (1 : Int)] : List Int)), Pv.sl (Kd.int .u8) (t7), Pv.is (.string (strOfNums (t7))), Pv.is (.bool true), Pv.is (.bool true), Pv.is (.bool true), Pv.sl (Kd.int .u8) (([(5 : Int), (0 : Int)] : List Int)), Pv.is (.int .i64 (t8)), Pv.is (.bool true), Pv.is (.bool true), Pv.is (.bool true), Pv.sl (Kd.int .u8) (([(1 : Int), (1 : Int)] : List Int)), Pv.is (.int .u8 (t9)), Pv.is (.bool true), Pv.is (.bool true), Pv.is (.bool true), Pv.sl (Kd.int .u8) (([(9 : Int), (8 : Int), (7 : Int), (6 : Int)] : List Int)), Pv.sl (Kd.int .u8) (t10), Pv.is (.string (strOfNums (t10))), Pv.is (.bool true), Pv.is (.bool true), Pv.is (.bool true), Pv.sl (Kd.int .u8) (([(1 : Int), (2 : Int)] : List Int)), Pv.sl (Kd.int .u8) (([(1 : Int), (2 : Int), (3 : Int)] : List Int)), Pv.sl (Kd.int .u8) (t11), Pv.is (.string (strOfNums (t11))), Pv.is (.bool true), Pv.is (.bool true), Pv.is (.bool true), Pv.sl (Kd.int .u8) (([(0 : Int)] : List Int)), Pv.sl (Kd.int .u8) (t12), Pv.is (.int .i64 (((t12).length : Int))), Pv.is (.bool true), Pv.is (.bool true), Pv.is (.bool true), Pv.sl (Kd.int .u8) (([(1 : Int), (128 : Int)] : List Int)), Pv.sl (Kd.int .u8) (t13), Pv.is (.string (strOfNums (t13))), Pv.is (.bool true), Pv.is (.bool true), Pv.is (.bool true)]) (told_pst _) (owedS (owedS (owedS (owedS (owedS (owedS (owedS (owedS (owedS (owedS (owedS (owedS (owedS (owedS (owedS (owedS (owedS (owedS (owedS (owedS (owedS (owedS (owedS (owedS (owedS (owedS (owedS (owedS (owedS (owedS (owedS (owedS (owedS (owedS (owedS (owedS (owedS (owedS (owedS (owedS (owedS (owedS (owedS (owedS (owedS (owedS (owedS (owedS (owedS (owedS (owedS (owedS (owedS (owedS (owedS (owedS (owedS (owedS (owedS owed0 ?s0) ?s1) ?s2) ?s3) ?s4) ?s5) ?s6) ?s7) ?s8) ?s9) ?s10) ?s11) ?s12) ?s13) ?s14) ?s15) ?s16) ?s17) ?s18) ?s19) ?s20) ?s21) ?s22) ?s23) ?s24) ?s25) ?s26) ?s27) ?s28) ?s29) ?s30) ?s31) ?s32) ?s33) ?s34) ?s35) ?s36) ?s37) ?s38) ?s39) ?s40) ?s41) ?s42) ?s43) ?s44) ?s45) ?s46) ?s47) ?s48) ?s49) ?s50) ?s51) ?s52) ?s53) ?s54) ?s55) ?s56) ?s57) ?s58) ?_
  case s0 =>
    intro b w1 hb hp hu
    have x1 : (Pv.sl (Kd.int .u8) (t1)).V (get b 1) w1 := Pv.keep _ g3_1 (hu 1 (by kernel_rfl)) hb
    exact st_move rfl (want0 rfl _) rfl x1
  case s1 =>
    intro b w1 hb hp hu
    have x21 : (Pv.sl (Kd.int .u8) (t1)).V (get b 21) w1 := hp 0 21 (by kernel_rfl) rfl
    exact st_string Try.underlying22 Try.underlying5 Try.underlying9 rfl (want0 rfl _) rfl x21 rfl
  case s2 =>
    intro b w1 hb hp hu
    have x22 : (Pv.is (.string (strOfNums (t1)))).V (get b 22) w1 := hp 1 22 (by kernel_rfl) rfl
    exact st_bin (v := .bool true) (vx := .string (strOfNums (t1))) (vy := .string ({ data := #[1, 1] })) rfl (want0 rfl _) rfl x22 rfl (by first | rfl | (have c_ := c1000; clear hb hp hu; go_simp; first | done | rfl | (simp [c_]; done) | (simp; omega))) rfl
  case s3 =>
    intro b w1 hb hp hu
    have x23 : (Pv.is (.bool true)).V (get b 23) w1 := hp 2 23 (by kernel_rfl) rfl
    exact st_move rfl (want0 rfl _) rfl x23
  case s4 =>
    intro b w1 hb hp hu
    have x24 : (Pv.is (.bool true)).V (get b 24) w1 := hp 3 24 (by kernel_rfl) rfl
    have x2 : (Pv.sl (Kd.int .u8) (t2)).V (get b 2) w1 := Pv.keep _ g3_2 (hu 2 (by kernel_rfl)) hb
    exact st_move rfl ((want_is (N := 24) rfl rfl x24).trans rfl) rfl x2
  case s5 =>
    intro b w1 hb hp hu
    have x24 : (Pv.is (.bool true)).V (get b 24) w1 := hp 3 24 (by kernel_rfl) rfl
    have x25 : (Pv.sl (Kd.int .u8) (t2)).V (get b 25) w1 := hp 4 25 (by kernel_rfl) rfl
    obtain ⟨A_, c_, e_, _, _⟩ := x25
    exact st_len rfl ((want_is (N := 24) rfl rfl x24).trans rfl) rfl Try.underlying22 e_ rfl
  case s6 =>
    intro b w1 hb hp hu
    have x24 : (Pv.is (.bool true)).V (get b 24) w1 := hp 3 24 (by kernel_rfl) rfl
    have x26 : (Pv.is (.int .i64 (((t2).length : Int)))).V (get b 26) w1 := hp 5 26 (by kernel_rfl) rfl
    exact st_bin (v := .bool true) (vx := .int .i64 (((t2).length : Int))) (vy := .int .i64 ((0 : Int))) rfl ((want_is (N := 24) rfl rfl x24).trans rfl) rfl x26 rfl (by first | rfl | (have c_ := c1001; refine Eq.trans (b := Result.ok (.bool ((((t2).length : Int)) == ((0 : Int)))) w1) rfl ?_; rw [show ((((t2).length : Int)) == ((0 : Int))) = true from beq_iff_eq.mpr c_]) | (have c_ := c1001; clear hb hp hu; go_simp; first | done | rfl | (simp [c_]; done) | (simp; omega))) rfl
  case s7 =>
    intro b w1 hb hp hu
    have x24 : (Pv.is (.bool true)).V (get b 24) w1 := hp 3 24 (by kernel_rfl) rfl
    have x27 : (Pv.is (.bool true)).V (get b 27) w1 := hp 6 27 (by kernel_rfl) rfl
    exact st_pick (b := true) rfl (want0 rfl _) rfl x24 x27
  case s8 =>
    intro b w1 hb hp hu
    have x28 : (Pv.is (.bool true)).V (get b 28) w1 := hp 7 28 (by kernel_rfl) rfl
    exact st_move rfl (want0 rfl _) rfl x28
  case s9 =>
    intro b w1 hb hp hu
    have x29 : (Pv.is (.bool true)).V (get b 29) w1 := hp 8 29 (by kernel_rfl) rfl
    have x3 : (Pv.is (.int .i64 (t3))).V (get b 3) w1 := Pv.keep _ g3_3 (hu 3 (by kernel_rfl)) hb
    exact st_move rfl ((want_is (N := 29) rfl rfl x29).trans rfl) rfl x3
  case s10 =>
    intro b w1 hb hp hu
    have x29 : (Pv.is (.bool true)).V (get b 29) w1 := hp 8 29 (by kernel_rfl) rfl
    have x30 : (Pv.is (.int .i64 (t3))).V (get b 30) w1 := hp 9 30 (by kernel_rfl) rfl
    exact st_bin (v := .bool true) (vx := .int .i64 (t3)) (vy := .int .i64 ((0 : Int))) rfl ((want_is (N := 29) rfl rfl x29).trans rfl) rfl x30 rfl (by first | rfl | (have c_ := c1002; refine Eq.trans (b := Result.ok (.bool ((t3) == ((0 : Int)))) w1) rfl ?_; rw [show ((t3) == ((0 : Int))) = true from beq_iff_eq.mpr c_]) | (have c_ := c1002; clear hb hp hu; go_simp; first | done | rfl | (simp [c_]; done) | (simp; omega))) rfl
  case s11 =>
    intro b w1 hb hp hu
    have x29 : (Pv.is (.bool true)).V (get b 29) w1 := hp 8 29 (by kernel_rfl) rfl
    have x31 : (Pv.is (.bool true)).V (get b 31) w1 := hp 10 31 (by kernel_rfl) rfl
    exact st_pick (b := true) rfl (want0 rfl _) rfl x29 x31
  case s12 =>
    intro b w1 hb hp hu
    have x32 : (Pv.is (.bool true)).V (get b 32) w1 := hp 11 32 (by kernel_rfl) rfl
    exact st_move rfl (want0 rfl _) rfl x32
  case s13 =>
    intro b w1 hb hp hu
    have x33 : (Pv.is (.bool true)).V (get b 33) w1 := hp 12 33 (by kernel_rfl) rfl
    have x6 : (Pv.is (.int .i64 (t6))).V (get b 6) w1 := Pv.keep _ g3_6 (hu 6 (by kernel_rfl)) hb
    exact st_move rfl ((want_is (N := 33) rfl rfl x33).trans rfl) rfl x6
  case s14 =>
    intro b w1 hb hp hu
    have x33 : (Pv.is (.bool true)).V (get b 33) w1 := hp 12 33 (by kernel_rfl) rfl
    have x34 : (Pv.is (.int .i64 (t6))).V (get b 34) w1 := hp 13 34 (by kernel_rfl) rfl
    exact st_bin (v := .bool true) (vx := .int .i64 (t6)) (vy := .int .i64 ((1 : Int))) rfl ((want_is (N := 33) rfl rfl x33).trans rfl) rfl x34 rfl (by first | rfl | (have c_ := c1003; refine Eq.trans (b := Result.ok (.bool ((t6) == ((1 : Int)))) w1) rfl ?_; rw [show ((t6) == ((1 : Int))) = true from beq_iff_eq.mpr c_]) | (have c_ := c1003; clear hb hp hu; go_simp; first | done | rfl | (simp [c_]; done) | (simp; omega))) rfl
  case s15 =>
    intro b w1 hb hp hu
    have x33 : (Pv.is (.bool true)).V (get b 33) w1 := hp 12 33 (by kernel_rfl) rfl
    have x35 : (Pv.is (.bool true)).V (get b 35) w1 := hp 14 35 (by kernel_rfl) rfl
    exact st_pick (b := true) rfl (want0 rfl _) rfl x33 x35
  case s16 =>
    intro b w1 hb hp hu
    have x36 : (Pv.is (.bool true)).V (get b 36) w1 := hp 15 36 (by kernel_rfl) rfl
    exact st_move rfl (want0 rfl _) rfl x36
  case s17 =>
    intro b w1 hb hp hu
    have x37 : (Pv.is (.bool true)).V (get b 37) w1 := hp 16 37 (by kernel_rfl) rfl
    have x1 : (Pv.sl (Kd.int .u8) (t1)).V (get b 1) w1 := Pv.keep _ g3_1 (hu 1 (by kernel_rfl)) hb
    exact st_move rfl ((want_is (N := 37) rfl rfl x37).trans rfl) rfl x1
  case s18 =>
    intro b w1 hb hp hu
    have x37 : (Pv.is (.bool true)).V (get b 37) w1 := hp 16 37 (by kernel_rfl) rfl
    have e0 : b.eval (Operand.const (Value.int IntKind.u8 1)) = .int .u8 ((1 : Int)) := rfl
    have e1 : b.eval (Operand.const (Value.int IntKind.u8 1)) = .int .u8 ((1 : Int)) := rfl
    exact st_lit (e := 5) (N := 39) (xs := ([(1 : Int), (1 : Int)] : List Int)) (inner := [.int .u8 ((1 : Int)), .int .u8 ((1 : Int))]) (ps := #[(0, .int .u8 ((1 : Int))), (1, .int .u8 ((1 : Int)))]) rfl ((want_is (N := 37) rfl rfl x37).trans rfl) rfl rfl (by simp only [List.map_toArray, List.map_cons, List.map_nil, e0, e1]) (by first | (go_simp; done) | (go_simp; rfl)) (Reps.one (show Kd.M (Kd.int .u8) _ _ _ ((1 : Int)) [.int .u8 ((1 : Int))] from rfl) (Reps.one (show Kd.M (Kd.int .u8) _ _ _ ((1 : Int)) [.int .u8 ((1 : Int))] from rfl) (Reps.none _ _))) (by simp) (fun _ _ h => h)
  case s19 =>
    intro b w1 hb hp hu
    have x37 : (Pv.is (.bool true)).V (get b 37) w1 := hp 16 37 (by kernel_rfl) rfl
    have x38 : (Pv.sl (Kd.int .u8) (t1)).V (get b 38) w1 := hp 17 38 (by kernel_rfl) rfl
    obtain ⟨B0, d0, e0_, hC0, hl0⟩ := x38
    have e0 : b.eval (Operand.tmp 38) = .slice B0 (t1).length d0 := e0_
    have x39 : (Pv.sl (Kd.int .u8) (([(1 : Int), (1 : Int)] : List Int))).V (get b 39) w1 := hp 18 39 (by kernel_rfl) rfl
    obtain ⟨B1, d1, e1_, hC1, hl1⟩ := x39
    have e1 : b.eval (Operand.tmp 39) = .slice B1 (([(1 : Int), (1 : Int)] : List Int)).length d1 := e1_
    refine st_call rfl ((want_is (N := 37) rfl rfl x37).trans rfl) rfl Try.func15 (by kernel_rfl) rfl #[.slice B0 (t1).length d0, .slice B1 (([(1 : Int), (1 : Int)] : List Int)).length d1] (by simp only [List.map_toArray, List.map_cons, List.map_nil, e0, e1]) ?_
    refine (poly_Mul.calls k B0 d0 _ B1 d1 _ _ w1 hC0 hl0 hC1 hl1 H3).mono ?_
    rintro e w2 ⟨v0_, rfl, ho0, hb2⟩
    exact ⟨_, rfl, Pv.of_sl ho0, hb2⟩
  case s20 =>
    intro b w1 hb hp hu
    have x37 : (Pv.is (.bool true)).V (get b 37) w1 := hp 16 37 (by kernel_rfl) rfl
    have x40 : (Pv.sl (Kd.int .u8) (t7)).V (get b 40) w1 := hp 19 40 (by kernel_rfl) rfl
    exact st_string Try.underlying22 Try.underlying5 Try.underlying9 rfl ((want_is (N := 37) rfl rfl x37).trans rfl) rfl x40 rfl
  case s21 =>
    intro b w1 hb hp hu
    have x37 : (Pv.is (.bool true)).V (get b 37) w1 := hp 16 37 (by kernel_rfl) rfl
    have x41 : (Pv.is (.string (strOfNums (t7)))).V (get b 41) w1 := hp 20 41 (by kernel_rfl) rfl
    exact st_bin (v := .bool true) (vx := .string (strOfNums (t7))) (vy := .string ({ data := #[1, 0, 1] })) rfl ((want_is (N := 37) rfl rfl x37).trans rfl) rfl x41 rfl (by first | rfl | (have c_ := c1004; clear hb hp hu; go_simp; first | done | rfl | (simp [c_]; done) | (simp; omega))) rfl
  case s22 =>
    intro b w1 hb hp hu
    have x37 : (Pv.is (.bool true)).V (get b 37) w1 := hp 16 37 (by kernel_rfl) rfl
    have x42 : (Pv.is (.bool true)).V (get b 42) w1 := hp 21 42 (by kernel_rfl) rfl
    exact st_pick (b := true) rfl (want0 rfl _) rfl x37 x42
  case s23 =>
    intro b w1 hb hp hu
    have x43 : (Pv.is (.bool true)).V (get b 43) w1 := hp 22 43 (by kernel_rfl) rfl
    exact st_move rfl (want0 rfl _) rfl x43
  case s24 =>
    intro b w1 hb hp hu
    have x44 : (Pv.is (.bool true)).V (get b 44) w1 := hp 23 44 (by kernel_rfl) rfl
    have e0 : b.eval (Operand.const (Value.int IntKind.u8 5)) = .int .u8 ((5 : Int)) := rfl
    have e1 : b.eval (Operand.const (Value.int IntKind.u8 0)) = .int .u8 ((0 : Int)) := rfl
    exact st_lit (e := 5) (N := 45) (xs := ([(5 : Int), (0 : Int)] : List Int)) (inner := [.int .u8 ((5 : Int)), .int .u8 ((0 : Int))]) (ps := #[(0, .int .u8 ((5 : Int))), (1, .int .u8 ((0 : Int)))]) rfl ((want_is (N := 44) rfl rfl x44).trans rfl) rfl rfl (by simp only [List.map_toArray, List.map_cons, List.map_nil, e0, e1]) (by first | (go_simp; done) | (go_simp; rfl)) (Reps.one (show Kd.M (Kd.int .u8) _ _ _ ((5 : Int)) [.int .u8 ((5 : Int))] from rfl) (Reps.one (show Kd.M (Kd.int .u8) _ _ _ ((0 : Int)) [.int .u8 ((0 : Int))] from rfl) (Reps.none _ _))) (by simp) (fun _ _ h => h)
  case s25 =>
    intro b w1 hb hp hu
    have x44 : (Pv.is (.bool true)).V (get b 44) w1 := hp 23 44 (by kernel_rfl) rfl
    have x45 : (Pv.sl (Kd.int .u8) (([(5 : Int), (0 : Int)] : List Int))).V (get b 45) w1 := hp 24 45 (by kernel_rfl) rfl
    obtain ⟨B0, d0, e0_, hC0, hl0⟩ := x45
    have e0 : b.eval (Operand.tmp 45) = .slice B0 (([(5 : Int), (0 : Int)] : List Int)).length d0 := e0_
    refine st_call rfl ((want_is (N := 44) rfl rfl x44).trans rfl) rfl Try.func12 (by kernel_rfl) rfl #[.slice B0 (([(5 : Int), (0 : Int)] : List Int)).length d0] (by simp only [List.map_toArray, List.map_cons, List.map_nil, e0]) ?_
    refine (poly_Degree.calls B0 d0 _ _ w1 hC0 hl0 H4).mono ?_
    rintro e w2 ⟨rfl, hb2⟩
    exact ⟨_, rfl, rfl, hb2⟩
  case s26 =>
    intro b w1 hb hp hu
    have x44 : (Pv.is (.bool true)).V (get b 44) w1 := hp 23 44 (by kernel_rfl) rfl
    have x46 : (Pv.is (.int .i64 (t8))).V (get b 46) w1 := hp 25 46 (by kernel_rfl) rfl
    exact st_bin (v := .bool true) (vx := .int .i64 (t8)) (vy := .int .i64 ((0 : Int))) rfl ((want_is (N := 44) rfl rfl x44).trans rfl) rfl x46 rfl (by first | rfl | (have c_ := c1005; refine Eq.trans (b := Result.ok (.bool ((t8) == ((0 : Int)))) w1) rfl ?_; rw [show ((t8) == ((0 : Int))) = true from beq_iff_eq.mpr c_]) | (have c_ := c1005; clear hb hp hu; go_simp; first | done | rfl | (simp [c_]; done) | (simp; omega))) rfl
  case s27 =>
    intro b w1 hb hp hu
    have x44 : (Pv.is (.bool true)).V (get b 44) w1 := hp 23 44 (by kernel_rfl) rfl
    have x47 : (Pv.is (.bool true)).V (get b 47) w1 := hp 26 47 (by kernel_rfl) rfl
    exact st_pick (b := true) rfl (want0 rfl _) rfl x44 x47
  case s28 =>
    intro b w1 hb hp hu
    have x48 : (Pv.is (.bool true)).V (get b 48) w1 := hp 27 48 (by kernel_rfl) rfl
    exact st_move rfl (want0 rfl _) rfl x48
  case s29 =>
    intro b w1 hb hp hu
    have x49 : (Pv.is (.bool true)).V (get b 49) w1 := hp 28 49 (by kernel_rfl) rfl
    have e0 : b.eval (Operand.const (Value.int IntKind.u8 1)) = .int .u8 ((1 : Int)) := rfl
    have e1 : b.eval (Operand.const (Value.int IntKind.u8 1)) = .int .u8 ((1 : Int)) := rfl
    exact st_lit (e := 5) (N := 50) (xs := ([(1 : Int), (1 : Int)] : List Int)) (inner := [.int .u8 ((1 : Int)), .int .u8 ((1 : Int))]) (ps := #[(0, .int .u8 ((1 : Int))), (1, .int .u8 ((1 : Int)))]) rfl ((want_is (N := 49) rfl rfl x49).trans rfl) rfl rfl (by simp only [List.map_toArray, List.map_cons, List.map_nil, e0, e1]) (by first | (go_simp; done) | (go_simp; rfl)) (Reps.one (show Kd.M (Kd.int .u8) _ _ _ ((1 : Int)) [.int .u8 ((1 : Int))] from rfl) (Reps.one (show Kd.M (Kd.int .u8) _ _ _ ((1 : Int)) [.int .u8 ((1 : Int))] from rfl) (Reps.none _ _))) (by simp) (fun _ _ h => h)
  case s30 =>
    intro b w1 hb hp hu
    have x49 : (Pv.is (.bool true)).V (get b 49) w1 := hp 28 49 (by kernel_rfl) rfl
    have x50 : (Pv.sl (Kd.int .u8) (([(1 : Int), (1 : Int)] : List Int))).V (get b 50) w1 := hp 29 50 (by kernel_rfl) rfl
    obtain ⟨B0, d0, e0_, hC0, hl0⟩ := x50
    have e0 : b.eval (Operand.tmp 50) = .slice B0 (([(1 : Int), (1 : Int)] : List Int)).length d0 := e0_
    have e1 : b.eval (Operand.const (Value.int IntKind.u8 3)) = .int .u8 ((3 : Int)) := rfl
    refine st_call rfl ((want_is (N := 49) rfl rfl x49).trans rfl) rfl Try.func19 (by kernel_rfl) rfl #[.slice B0 (([(1 : Int), (1 : Int)] : List Int)).length d0, .int .u8 ((3 : Int))] (by simp only [List.map_toArray, List.map_cons, List.map_nil, e0, e1]) ?_
    refine (poly_Eval.calls k B0 d0 _ _ _ w1 hC0 hl0 H5).mono ?_
    rintro e w2 ⟨rfl, hb2⟩
    exact ⟨_, rfl, rfl, hb2⟩
  case s31 =>
    intro b w1 hb hp hu
    have x49 : (Pv.is (.bool true)).V (get b 49) w1 := hp 28 49 (by kernel_rfl) rfl
    have x51 : (Pv.is (.int .u8 (t9))).V (get b 51) w1 := hp 30 51 (by kernel_rfl) rfl
    exact st_bin (v := .bool true) (vx := .int .u8 (t9)) (vy := .int .u8 ((2 : Int))) rfl ((want_is (N := 49) rfl rfl x49).trans rfl) rfl x51 rfl (by first | rfl | (have c_ := c1006; refine Eq.trans (b := Result.ok (.bool ((t9) == ((2 : Int)))) w1) rfl ?_; rw [show ((t9) == ((2 : Int))) = true from beq_iff_eq.mpr c_]) | (have c_ := c1006; clear hb hp hu; go_simp; first | done | rfl | (simp [c_]; done) | (simp; omega))) rfl
  case s32 =>
    intro b w1 hb hp hu
    have x49 : (Pv.is (.bool true)).V (get b 49) w1 := hp 28 49 (by kernel_rfl) rfl
    have x52 : (Pv.is (.bool true)).V (get b 52) w1 := hp 31 52 (by kernel_rfl) rfl
    exact st_pick (b := true) rfl (want0 rfl _) rfl x49 x52
  case s33 =>
    intro b w1 hb hp hu
    have x53 : (Pv.is (.bool true)).V (get b 53) w1 := hp 32 53 (by kernel_rfl) rfl
    exact st_move rfl (want0 rfl _) rfl x53
  case s34 =>
    intro b w1 hb hp hu
    have x54 : (Pv.is (.bool true)).V (get b 54) w1 := hp 33 54 (by kernel_rfl) rfl
    have e0 : b.eval (Operand.const (Value.int IntKind.u8 9)) = .int .u8 ((9 : Int)) := rfl
    have e1 : b.eval (Operand.const (Value.int IntKind.u8 8)) = .int .u8 ((8 : Int)) := rfl
    have e2 : b.eval (Operand.const (Value.int IntKind.u8 7)) = .int .u8 ((7 : Int)) := rfl
    have e3 : b.eval (Operand.const (Value.int IntKind.u8 6)) = .int .u8 ((6 : Int)) := rfl
    exact st_lit (e := 5) (N := 55) (xs := ([(9 : Int), (8 : Int), (7 : Int), (6 : Int)] : List Int)) (inner := [.int .u8 ((9 : Int)), .int .u8 ((8 : Int)), .int .u8 ((7 : Int)), .int .u8 ((6 : Int))]) (ps := #[(0, .int .u8 ((9 : Int))), (1, .int .u8 ((8 : Int))), (2, .int .u8 ((7 : Int))), (3, .int .u8 ((6 : Int)))]) rfl ((want_is (N := 54) rfl rfl x54).trans rfl) rfl rfl (by simp only [List.map_toArray, List.map_cons, List.map_nil, e0, e1, e2, e3]) (by first | (go_simp; done) | (go_simp; rfl)) (Reps.one (show Kd.M (Kd.int .u8) _ _ _ ((9 : Int)) [.int .u8 ((9 : Int))] from rfl) (Reps.one (show Kd.M (Kd.int .u8) _ _ _ ((8 : Int)) [.int .u8 ((8 : Int))] from rfl) (Reps.one (show Kd.M (Kd.int .u8) _ _ _ ((7 : Int)) [.int .u8 ((7 : Int))] from rfl) (Reps.one (show Kd.M (Kd.int .u8) _ _ _ ((6 : Int)) [.int .u8 ((6 : Int))] from rfl) (Reps.none _ _))))) (by simp) (fun _ _ h => h)
  case s35 =>
    intro b w1 hb hp hu
    have x54 : (Pv.is (.bool true)).V (get b 54) w1 := hp 33 54 (by kernel_rfl) rfl
    have x55 : (Pv.sl (Kd.int .u8) (([(9 : Int), (8 : Int), (7 : Int), (6 : Int)] : List Int))).V (get b 55) w1 := hp 34 55 (by kernel_rfl) rfl
    obtain ⟨B0, d0, e0_, hC0, hl0⟩ := x55
    have e0 : b.eval (Operand.tmp 55) = .slice B0 (([(9 : Int), (8 : Int), (7 : Int), (6 : Int)] : List Int)).length d0 := e0_
    refine st_call rfl ((want_is (N := 54) rfl rfl x54).trans rfl) rfl Try.func21 (by kernel_rfl) rfl #[.slice B0 (([(9 : Int), (8 : Int), (7 : Int), (6 : Int)] : List Int)).length d0] (by simp only [List.map_toArray, List.map_cons, List.map_nil, e0]) ?_
    refine (poly_Slope.calls k B0 d0 _ _ w1 hC0 hl0 H6).mono ?_
    rintro e w2 ⟨v0_, rfl, ho0, hb2⟩
    exact ⟨_, rfl, Pv.of_sl ho0, hb2⟩
  case s36 =>
    intro b w1 hb hp hu
    have x54 : (Pv.is (.bool true)).V (get b 54) w1 := hp 33 54 (by kernel_rfl) rfl
    have x56 : (Pv.sl (Kd.int .u8) (t10)).V (get b 56) w1 := hp 35 56 (by kernel_rfl) rfl
    exact st_string Try.underlying22 Try.underlying5 Try.underlying9 rfl ((want_is (N := 54) rfl rfl x54).trans rfl) rfl x56 rfl
  case s37 =>
    intro b w1 hb hp hu
    have x54 : (Pv.is (.bool true)).V (get b 54) w1 := hp 33 54 (by kernel_rfl) rfl
    have x57 : (Pv.is (.string (strOfNums (t10)))).V (get b 57) w1 := hp 36 57 (by kernel_rfl) rfl
    exact st_bin (v := .bool true) (vx := .string (strOfNums (t10))) (vy := .string ({ data := #[8, 0, 6] })) rfl ((want_is (N := 54) rfl rfl x54).trans rfl) rfl x57 rfl (by first | rfl | (have c_ := c1007; clear hb hp hu; go_simp; first | done | rfl | (simp [c_]; done) | (simp; omega))) rfl
  case s38 =>
    intro b w1 hb hp hu
    have x54 : (Pv.is (.bool true)).V (get b 54) w1 := hp 33 54 (by kernel_rfl) rfl
    have x58 : (Pv.is (.bool true)).V (get b 58) w1 := hp 37 58 (by kernel_rfl) rfl
    exact st_pick (b := true) rfl (want0 rfl _) rfl x54 x58
  case s39 =>
    intro b w1 hb hp hu
    have x59 : (Pv.is (.bool true)).V (get b 59) w1 := hp 38 59 (by kernel_rfl) rfl
    exact st_move rfl (want0 rfl _) rfl x59
  case s40 =>
    intro b w1 hb hp hu
    have x60 : (Pv.is (.bool true)).V (get b 60) w1 := hp 39 60 (by kernel_rfl) rfl
    have e0 : b.eval (Operand.const (Value.int IntKind.u8 1)) = .int .u8 ((1 : Int)) := rfl
    have e1 : b.eval (Operand.const (Value.int IntKind.u8 2)) = .int .u8 ((2 : Int)) := rfl
    exact st_lit (e := 5) (N := 61) (xs := ([(1 : Int), (2 : Int)] : List Int)) (inner := [.int .u8 ((1 : Int)), .int .u8 ((2 : Int))]) (ps := #[(0, .int .u8 ((1 : Int))), (1, .int .u8 ((2 : Int)))]) rfl ((want_is (N := 60) rfl rfl x60).trans rfl) rfl rfl (by simp only [List.map_toArray, List.map_cons, List.map_nil, e0, e1]) (by first | (go_simp; done) | (go_simp; rfl)) (Reps.one (show Kd.M (Kd.int .u8) _ _ _ ((1 : Int)) [.int .u8 ((1 : Int))] from rfl) (Reps.one (show Kd.M (Kd.int .u8) _ _ _ ((2 : Int)) [.int .u8 ((2 : Int))] from rfl) (Reps.none _ _))) (by simp) (fun _ _ h => h)
  case s41 =>
    intro b w1 hb hp hu
    have x60 : (Pv.is (.bool true)).V (get b 60) w1 := hp 39 60 (by kernel_rfl) rfl
    have e0 : b.eval (Operand.const (Value.int IntKind.u8 1)) = .int .u8 ((1 : Int)) := rfl
    have e1 : b.eval (Operand.const (Value.int IntKind.u8 2)) = .int .u8 ((2 : Int)) := rfl
    have e2 : b.eval (Operand.const (Value.int IntKind.u8 3)) = .int .u8 ((3 : Int)) := rfl
    exact st_lit (e := 5) (N := 62) (xs := ([(1 : Int), (2 : Int), (3 : Int)] : List Int)) (inner := [.int .u8 ((1 : Int)), .int .u8 ((2 : Int)), .int .u8 ((3 : Int))]) (ps := #[(0, .int .u8 ((1 : Int))), (1, .int .u8 ((2 : Int))), (2, .int .u8 ((3 : Int)))]) rfl ((want_is (N := 60) rfl rfl x60).trans rfl) rfl rfl (by simp only [List.map_toArray, List.map_cons, List.map_nil, e0, e1, e2]) (by first | (go_simp; done) | (go_simp; rfl)) (Reps.one (show Kd.M (Kd.int .u8) _ _ _ ((1 : Int)) [.int .u8 ((1 : Int))] from rfl) (Reps.one (show Kd.M (Kd.int .u8) _ _ _ ((2 : Int)) [.int .u8 ((2 : Int))] from rfl) (Reps.one (show Kd.M (Kd.int .u8) _ _ _ ((3 : Int)) [.int .u8 ((3 : Int))] from rfl) (Reps.none _ _)))) (by simp) (fun _ _ h => h)
  case s42 =>
    intro b w1 hb hp hu
    have x60 : (Pv.is (.bool true)).V (get b 60) w1 := hp 39 60 (by kernel_rfl) rfl
    have x61 : (Pv.sl (Kd.int .u8) (([(1 : Int), (2 : Int)] : List Int))).V (get b 61) w1 := hp 40 61 (by kernel_rfl) rfl
    obtain ⟨B0, d0, e0_, hC0, hl0⟩ := x61
    have e0 : b.eval (Operand.tmp 61) = .slice B0 (([(1 : Int), (2 : Int)] : List Int)).length d0 := e0_
    have x62 : (Pv.sl (Kd.int .u8) (([(1 : Int), (2 : Int), (3 : Int)] : List Int))).V (get b 62) w1 := hp 41 62 (by kernel_rfl) rfl
    obtain ⟨B1, d1, e1_, hC1, hl1⟩ := x62
    have e1 : b.eval (Operand.tmp 62) = .slice B1 (([(1 : Int), (2 : Int), (3 : Int)] : List Int)).length d1 := e1_
    refine st_call rfl ((want_is (N := 60) rfl rfl x60).trans rfl) rfl Try.func13 (by kernel_rfl) rfl #[.slice B0 (([(1 : Int), (2 : Int)] : List Int)).length d0, .slice B1 (([(1 : Int), (2 : Int), (3 : Int)] : List Int)).length d1] (by simp only [List.map_toArray, List.map_cons, List.map_nil, e0, e1]) ?_
    refine (poly_Add.calls k B0 d0 _ B1 d1 _ _ w1 hC0 hl0 hC1 hl1 H7).mono ?_
    rintro e w2 ⟨v0_, rfl, ho0, hb2⟩
    exact ⟨_, rfl, Pv.of_sl ho0, hb2⟩
  case s43 =>
    intro b w1 hb hp hu
    have x60 : (Pv.is (.bool true)).V (get b 60) w1 := hp 39 60 (by kernel_rfl) rfl
    have x63 : (Pv.sl (Kd.int .u8) (t11)).V (get b 63) w1 := hp 42 63 (by kernel_rfl) rfl
    exact st_string Try.underlying22 Try.underlying5 Try.underlying9 rfl ((want_is (N := 60) rfl rfl x60).trans rfl) rfl x63 rfl
  case s44 =>
    intro b w1 hb hp hu
    have x60 : (Pv.is (.bool true)).V (get b 60) w1 := hp 39 60 (by kernel_rfl) rfl
    have x64 : (Pv.is (.string (strOfNums (t11)))).V (get b 64) w1 := hp 43 64 (by kernel_rfl) rfl
    exact st_bin (v := .bool true) (vx := .string (strOfNums (t11))) (vy := .string ({ data := #[0, 0, 3] })) rfl ((want_is (N := 60) rfl rfl x60).trans rfl) rfl x64 rfl (by first | rfl | (have c_ := c1008; clear hb hp hu; go_simp; first | done | rfl | (simp [c_]; done) | (simp; omega))) rfl
  case s45 =>
    intro b w1 hb hp hu
    have x60 : (Pv.is (.bool true)).V (get b 60) w1 := hp 39 60 (by kernel_rfl) rfl
    have x65 : (Pv.is (.bool true)).V (get b 65) w1 := hp 44 65 (by kernel_rfl) rfl
    exact st_pick (b := true) rfl (want0 rfl _) rfl x60 x65
  case s46 =>
    intro b w1 hb hp hu
    have x66 : (Pv.is (.bool true)).V (get b 66) w1 := hp 45 66 (by kernel_rfl) rfl
    exact st_move rfl (want0 rfl _) rfl x66
  case s47 =>
    intro b w1 hb hp hu
    have x67 : (Pv.is (.bool true)).V (get b 67) w1 := hp 46 67 (by kernel_rfl) rfl
    have e0 : b.eval (Operand.const (Value.int IntKind.u8 0)) = .int .u8 ((0 : Int)) := rfl
    exact st_lit (e := 5) (N := 68) (xs := ([(0 : Int)] : List Int)) (inner := [.int .u8 ((0 : Int))]) (ps := #[(0, .int .u8 ((0 : Int)))]) rfl ((want_is (N := 67) rfl rfl x67).trans rfl) rfl rfl (by simp only [List.map_toArray, List.map_cons, List.map_nil, e0]) (by first | (go_simp; done) | (go_simp; rfl)) (Reps.one (show Kd.M (Kd.int .u8) _ _ _ ((0 : Int)) [.int .u8 ((0 : Int))] from rfl) (Reps.none _ _)) (by simp) (fun _ _ h => h)
  case s48 =>
    intro b w1 hb hp hu
    have x67 : (Pv.is (.bool true)).V (get b 67) w1 := hp 46 67 (by kernel_rfl) rfl
    have x68 : (Pv.sl (Kd.int .u8) (([(0 : Int)] : List Int))).V (get b 68) w1 := hp 47 68 (by kernel_rfl) rfl
    obtain ⟨B0, d0, e0_, hC0, hl0⟩ := x68
    have e0 : b.eval (Operand.tmp 68) = .slice B0 (([(0 : Int)] : List Int)).length d0 := e0_
    refine st_call rfl ((want_is (N := 67) rfl rfl x67).trans rfl) rfl Try.func10 (by kernel_rfl) rfl #[.slice B0 (([(0 : Int)] : List Int)).length d0] (by simp only [List.map_toArray, List.map_cons, List.map_nil, e0]) ?_
    refine (poly_Plain.calls B0 d0 _ _ w1 hC0 hl0 H8).mono ?_
    rintro e w2 ⟨v0_, rfl, ho0, hb2⟩
    exact ⟨_, rfl, Pv.of_sl ho0, hb2⟩
  case s49 =>
    intro b w1 hb hp hu
    have x67 : (Pv.is (.bool true)).V (get b 67) w1 := hp 46 67 (by kernel_rfl) rfl
    have x69 : (Pv.sl (Kd.int .u8) (t12)).V (get b 69) w1 := hp 48 69 (by kernel_rfl) rfl
    obtain ⟨A_, c_, e_, _, _⟩ := x69
    exact st_len rfl ((want_is (N := 67) rfl rfl x67).trans rfl) rfl Try.underlying22 e_ rfl
  case s50 =>
    intro b w1 hb hp hu
    have x67 : (Pv.is (.bool true)).V (get b 67) w1 := hp 46 67 (by kernel_rfl) rfl
    have x70 : (Pv.is (.int .i64 (((t12).length : Int)))).V (get b 70) w1 := hp 49 70 (by kernel_rfl) rfl
    exact st_bin (v := .bool true) (vx := .int .i64 (((t12).length : Int))) (vy := .int .i64 ((0 : Int))) rfl ((want_is (N := 67) rfl rfl x67).trans rfl) rfl x70 rfl (by first | rfl | (have c_ := c1009; refine Eq.trans (b := Result.ok (.bool ((((t12).length : Int)) == ((0 : Int)))) w1) rfl ?_; rw [show ((((t12).length : Int)) == ((0 : Int))) = true from beq_iff_eq.mpr c_]) | (have c_ := c1009; clear hb hp hu; go_simp; first | done | rfl | (simp [c_]; done) | (simp; omega))) rfl
  case s51 =>
    intro b w1 hb hp hu
    have x67 : (Pv.is (.bool true)).V (get b 67) w1 := hp 46 67 (by kernel_rfl) rfl
    have x71 : (Pv.is (.bool true)).V (get b 71) w1 := hp 50 71 (by kernel_rfl) rfl
    exact st_pick (b := true) rfl (want0 rfl _) rfl x67 x71
  case s52 =>
    intro b w1 hb hp hu
    have x72 : (Pv.is (.bool true)).V (get b 72) w1 := hp 51 72 (by kernel_rfl) rfl
    exact st_move rfl (want0 rfl _) rfl x72
  case s53 =>
    intro b w1 hb hp hu
    have x73 : (Pv.is (.bool true)).V (get b 73) w1 := hp 52 73 (by kernel_rfl) rfl
    have e0 : b.eval (Operand.const (Value.int IntKind.u8 1)) = .int .u8 ((1 : Int)) := rfl
    have e1 : b.eval (Operand.const (Value.int IntKind.u8 128)) = .int .u8 ((128 : Int)) := rfl
    exact st_lit (e := 5) (N := 74) (xs := ([(1 : Int), (128 : Int)] : List Int)) (inner := [.int .u8 ((1 : Int)), .int .u8 ((128 : Int))]) (ps := #[(0, .int .u8 ((1 : Int))), (1, .int .u8 ((128 : Int)))]) rfl ((want_is (N := 73) rfl rfl x73).trans rfl) rfl rfl (by simp only [List.map_toArray, List.map_cons, List.map_nil, e0, e1]) (by first | (go_simp; done) | (go_simp; rfl)) (Reps.one (show Kd.M (Kd.int .u8) _ _ _ ((1 : Int)) [.int .u8 ((1 : Int))] from rfl) (Reps.one (show Kd.M (Kd.int .u8) _ _ _ ((128 : Int)) [.int .u8 ((128 : Int))] from rfl) (Reps.none _ _))) (by simp) (fun _ _ h => h)
  case s54 =>
    intro b w1 hb hp hu
    have x73 : (Pv.is (.bool true)).V (get b 73) w1 := hp 52 73 (by kernel_rfl) rfl
    have x74 : (Pv.sl (Kd.int .u8) (([(1 : Int), (128 : Int)] : List Int))).V (get b 74) w1 := hp 53 74 (by kernel_rfl) rfl
    obtain ⟨B0, d0, e0_, hC0, hl0⟩ := x74
    have e0 : b.eval (Operand.tmp 74) = .slice B0 (([(1 : Int), (128 : Int)] : List Int)).length d0 := e0_
    have e1 : b.eval (Operand.const (Value.int IntKind.u8 2)) = .int .u8 ((2 : Int)) := rfl
    refine st_call rfl ((want_is (N := 73) rfl rfl x73).trans rfl) rfl Try.func17 (by kernel_rfl) rfl #[.slice B0 (([(1 : Int), (128 : Int)] : List Int)).length d0, .int .u8 ((2 : Int))] (by simp only [List.map_toArray, List.map_cons, List.map_nil, e0, e1]) ?_
    refine (poly_Times.calls k B0 d0 _ _ _ w1 hC0 hl0 H9).mono ?_
    rintro e w2 ⟨v0_, rfl, ho0, hb2⟩
    exact ⟨_, rfl, Pv.of_sl ho0, hb2⟩
  case s55 =>
    intro b w1 hb hp hu
    have x73 : (Pv.is (.bool true)).V (get b 73) w1 := hp 52 73 (by kernel_rfl) rfl
    have x75 : (Pv.sl (Kd.int .u8) (t13)).V (get b 75) w1 := hp 54 75 (by kernel_rfl) rfl
    exact st_string Try.underlying22 Try.underlying5 Try.underlying9 rfl ((want_is (N := 73) rfl rfl x73).trans rfl) rfl x75 rfl
  case s56 =>
    intro b w1 hb hp hu
    have x73 : (Pv.is (.bool true)).V (get b 73) w1 := hp 52 73 (by kernel_rfl) rfl
    have x76 : (Pv.is (.string (strOfNums (t13)))).V (get b 76) w1 := hp 55 76 (by kernel_rfl) rfl
    exact st_bin (v := .bool true) (vx := .string (strOfNums (t13))) (vy := .string ({ data := #[2, 45] })) rfl ((want_is (N := 73) rfl rfl x73).trans rfl) rfl x76 rfl (by first | rfl | (have c_ := c1010; clear hb hp hu; go_simp; first | done | rfl | (simp [c_]; done) | (simp; omega))) rfl
  case s57 =>
    intro b w1 hb hp hu
    have x73 : (Pv.is (.bool true)).V (get b 73) w1 := hp 52 73 (by kernel_rfl) rfl
    have x77 : (Pv.is (.bool true)).V (get b 77) w1 := hp 56 77 (by kernel_rfl) rfl
    exact st_pick (b := true) rfl (want0 rfl _) rfl x73 x77
  case s58 =>
    intro b w1 hb hp hu
    have x78 : (Pv.is (.bool true)).V (get b 78) w1 := hp 57 78 (by kernel_rfl) rfl
    exact st_assign rfl (want0 rfl _) rfl x78
  intro ac4 wo4 hn4 hd_ hb hv hs
  have g4_0 : (Pv.is (.bool true)).V (get ac4 0) wo4 := hv 58 0 rfl
  have hB4 := below_step hB3 hb
  have hd4 := hd_.trans hd3
  clear hv hs hd_ hb hB3 hn3 hd3 g3_6 g3_1 g3_2 g3_3 g3_0
  show Code.wp _ _ _ _ _
  refine wp_ret ?_
  repeat (refine then_ret ?_)
  exact back_is rfl hd4 g4_0 ⟨rfl, hB4⟩
theorem wristbandlaw08_awake.calls (k : Nat) (w : World)  (h : wristbandlaw08_awake.ok k ) :
    Calls Try.prog 9 #[] w fun e w' => e = .returned (.bool true) ∧ Below w.heap.size w w' := by
  unfold wristbandlaw08_awake.ok at h
  obtain ⟨t1, t2, t3, H1, h⟩ := h
  obtain ⟨t4, t5, t6, H2, h⟩ := h
  obtain ⟨c1000, h⟩ := h
  obtain ⟨c1001, h⟩ := h
  obtain ⟨c1002, h⟩ := h
  obtain ⟨c1003, h⟩ := h
  obtain ⟨t7, H3, h⟩ := h
  obtain ⟨c1004, h⟩ := h
  obtain ⟨t8, H4, h⟩ := h
  obtain ⟨c1005, h⟩ := h
  obtain ⟨t9, H5, h⟩ := h
  obtain ⟨c1006, h⟩ := h
  obtain ⟨t10, H6, h⟩ := h
  obtain ⟨c1007, h⟩ := h
  obtain ⟨t11, H7, h⟩ := h
  obtain ⟨c1008, h⟩ := h
  obtain ⟨t12, H8, h⟩ := h
  obtain ⟨c1009, h⟩ := h
  obtain ⟨t13, H9, h⟩ := h
  obtain ⟨c1010, h⟩ := h
  exact wristbandlaw08_awake.way1 k  w  t1 t2 t3 H1 t4 t5 t6 H2 t7 H3 t8 H4 t9 H5 t10 H6 t11 H7 t12 H8 t13 H9 c1000 c1001 c1002 c1003 c1004 c1005 c1006 c1007 c1008 c1009 c1010

end Go.Proofs.Ytgieppcadnhhaaa.P
