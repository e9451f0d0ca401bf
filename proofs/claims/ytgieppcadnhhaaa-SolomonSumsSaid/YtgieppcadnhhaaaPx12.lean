-- Written by a program of this session (its own contracts laid into the walks). Lean checks it.
import Derived.Test.YtgieppcadnhhaaaPx0
import Derived.Test.YtgieppcadnhhaaaPx9
import Derived.Test.YtgieppcadnhhaaaPx11
import Derived.Test.YtgieppcadnhhaaaReg
namespace Go.Proofs.Ytgieppcadnhhaaa.P
open Go.RowKit Go.Proofs.YtgieppcadnhhaaaW.PrintWords Go.Proofs.YtgieppcadnhhaaaW.PrintLast Go.Proofs.YtgieppcadnhhaaaW.PrintMore
attribute [local go_sem] max2_int min2_int max_two min_two max_three min_three max_four min_four   -- for this text's walks alone
set_option linter.unusedVariables false
set_option linter.unusedSimpArgs false

/-! ### wristbandlaw09_awake: function 27 -/
-- IMPORTS Derived.Test.YtgieppcadnhhaaaReg
open Go.Proofs.Ytgieppcadnhhaaa.Reg
def wristbandlaw09_awake.T0 : List Nat := [0]
def wristbandlaw09_awake.D0 : List (Option Tmp) := [some 0]
def wristbandlaw09_awake.T1 : List Nat := [0, 1, 3, 7, 7, 15, 63]
def wristbandlaw09_awake.D1 : List (Option Tmp) := [some 8, some 9, some 7, some 10, some 11, some 1, some 2]
def wristbandlaw09_awake.T2 : List Nat := [0, 1, 3, 7, 7, 15, 63]
def wristbandlaw09_awake.D2 : List (Option Tmp) := [some 13, some 14, some 12, some 15, some 16, some 3, some 4]
def wristbandlaw09_awake.T3 : List Nat := [0, 1, 3, 7, 7, 15, 63]
def wristbandlaw09_awake.D3 : List (Option Tmp) := [some 18, some 19, some 17, some 20, some 21, some 5, some 6]
def wristbandlaw09_awake.T4 : List Nat := [0, 1, 3, 7, 15, 31, 63, 127, 255, 511, 1023, 2047, 4095, 8191, 16383, 32767, 65535, 131071, 262143, 524287, 1048575, 2097151, 4194303, 8388607, 16777215, 33554431, 67108863, 134217727, 268435455, 536870911]
def wristbandlaw09_awake.D4 : List (Option Tmp) := [some 22, some 23, some 24, some 25, some 26, some 27, some 28, some 29, some 30, some 31, some 32, some 33, some 34, some 35, some 36, some 37, some 38, some 39, some 40, some 41, some 42, some 43, some 44, some 45, some 46, some 47, some 48, some 49, some 50, some 0]
/-- What the law asks, told of the walks' own functions. -/
def wristbandlaw09_awake.ok (k : Nat)  : Prop := (∃ (t1 : List Int) (t2 : Int), solomon_Put.f k (([(1 : Int)] : List Int)) ((1 : Int)) = some (t1, t2) ∧ (∃ (t3 : List Int) (t4 : Int), solomon_Signs.f k (([(1 : Int), (0 : Int)] : List Int)) ((1 : Int)) = some (t3, t4) ∧ ((0 ≤ (246 : Int)) ∧ ((((246 : Int) : Int).toNat ≤ 281474976710656) ∧ (∃ (t5 : List Int) (t6 : Int), solomon_Put.f k (List.replicate ((246 : Int) : Int).toNat 0) ((10 : Int)) = some (t5, t6) ∧ ((t2 = (0 : Int)) ∧ ((t4 = (0 : Int)) ∧ ((t6 = (4 : Int)) ∧ (((strOfNums (t1)).toList = ([1, 2] : List UInt8)) ∧ (((strOfNums (t3)).toList = ([2] : List UInt8)) ∧ (∃ (t7 : Bool), solomon_Fine.f k (t1) ((1 : Int)) = some t7 ∧ ((t7 = true) ∧ (∃ (t8 : Bool), solomon_Fine.f k (([(1 : Int), (0 : Int)] : List Int)) ((1 : Int)) = some t8 ∧ (¬ (t8 = true) ∧ True))))))))))))))
set_option maxRecDepth 100000 in
set_option maxHeartbeats 40000000 in
theorem wristbandlaw09_awake.calls (k : Nat) (w : World)  (h : wristbandlaw09_awake.ok k ) :
  Calls Try.prog 27 #[] w fun e w' => e = .returned (.bool true) ∧ Below w.heap.size w w' := by
 unfold wristbandlaw09_awake.ok at h
 refine enter Try.func27 rfl (n := 51) rfl ?_
 intro ac0 hn0 hd0 ha
 have hB0 := Below.refl w.heap.size w
 clear ha
 obtain ⟨t1, t2, H1, h⟩ := h
 obtain ⟨t3, t4, H2, h⟩ := h
 obtain ⟨c0_0, h⟩ := h
 obtain ⟨c0_1, h⟩ := h
 obtain ⟨t5, t6, H3, h⟩ := h
 obtain ⟨c0_2, h⟩ := h
 obtain ⟨c0_3, h⟩ := h
 obtain ⟨c0_4, h⟩ := h
 obtain ⟨c0_5, h⟩ := h
 obtain ⟨c0_6, h⟩ := h
 obtain ⟨t7, H4, h⟩ := h
 obtain ⟨c0_7, h⟩ := h
 obtain ⟨t8, H5, h⟩ := h
 obtain ⟨c0_8, h⟩ := h
 refine wp_seq ?_
 refine Reg.plain (T := T0) (D := D0) (n := 51) (by kernel_rfl) hn0 (told [pF]) (told_pst _) (owedS owed0 ?s0) ?_
 case s0 =>
  intro b w1 hb hp hu
  exact st_assign rfl (want0 rfl _) rfl rfl
 intro ac1 wo1 hn1 hd_ hb hv hs
 have g1_0 : (pF).V (get ac1 0) wo1 := hv 0 0 rfl
 have hB1 := below_step hB0 hb
 have hd1 := hd_.trans hd0
 clear hv hs hd_ hb hB0 hn0 hd0
 show Code.wp _ _ _ _ _
 refine wp_seq ?_
 refine Reg.plain (T := T1) (D := D1) (n := 51) (by kernel_rfl) hn1 (told [pB (([(1 : Int)] : List Int)), Pv.tup [pB (t1), pI (t2)], Pv.tup [pB (t1), pI (t2)], pB (t1), pI (t2), pB (t1), pI (t2)]) (told_pst _) (owedS (owedS (owedS (owedS (owedS (owedS (owedS owed0 ?s0) ?s1) ?s2) ?s3) ?s4) ?s5) ?s6) ?_
 case s0 =>
  intro b w1 hb hp hu
  have e0 : b.eval (Operand.const (Value.int IntKind.u8 1)) = .int .u8 ((1 : Int)) := rfl
  exact st_lit (e := 5) (N := 8) (xs := ([(1 : Int)] : List Int)) (inner := [.int .u8 ((1 : Int))]) (ps := #[(0, .int .u8 ((1 : Int)))]) rfl (want0 rfl _) rfl rfl (by simp only [List.map_toArray, List.map_cons, List.map_nil, e0]) (by first | (go_simp; done) | (go_simp; rfl)) (Reps.one (show Kd.M (Kd.int .u8) _ _ _ ((1 : Int)) [.int .u8 ((1 : Int))] from rfl) (Reps.none _ _)) (by simp) (fun _ _ h => h)
 case s1 =>
  intro b w1 hb hp hu
  have x8 : (pB (([(1 : Int)] : List Int))).V (get b 8) w1 := hp 0 8 (by kernel_rfl) rfl
  obtain ⟨B0, d0, e0_, hC0, hl0⟩ := x8
  have e0 : b.eval (Operand.tmp 8) = .slice B0 (([(1 : Int)] : List Int)).length d0 := e0_
  have e1 : b.eval (Operand.const (Value.int IntKind.i64 1)) = .int .i64 ((1 : Int)) := rfl
  refine st_call rfl (want0 rfl _) rfl Try.func29 (by kernel_rfl) rfl #[.slice B0 (([(1 : Int)] : List Int)).length d0, .int .i64 ((1 : Int))] (by simp only [List.map_toArray, List.map_cons, List.map_nil, e0, e1]) ?_
  refine (solomon_Put.callsC k B0 d0 _ _ _ _ w1 hC0 hl0 H1).mono ?_
  rintro e w2 ⟨v0_, rfl, ho0, hb2⟩
  exact ⟨_, rfl, ⟨[_, _], rfl, Pv.of_sl ho0, rfl, trivial⟩, hb2⟩
 case s2 =>
  intro b w1 hb hp hu
  have x9 : (Pv.tup [pB (t1), pI (t2)]).V (get b 9) w1 := hp 1 9 (by kernel_rfl) rfl
  exact st_move rfl (want0 rfl _) rfl x9
 case s3 =>
  intro b w1 hb hp hu
  have x7 : (Pv.tup [pB (t1), pI (t2)]).V (get b 7) w1 := hp 2 7 (by kernel_rfl) rfl
  exact st_extract rfl (want0 rfl _) rfl x7 rfl (fun _ h => h)
 case s4 =>
  intro b w1 hb hp hu
  have x7 : (Pv.tup [pB (t1), pI (t2)]).V (get b 7) w1 := hp 2 7 (by kernel_rfl) rfl
  exact st_extract rfl (want0 rfl _) rfl x7 rfl (fun _ h => h)
 case s5 =>
  intro b w1 hb hp hu
  have x10 : (pB (t1)).V (get b 10) w1 := hp 3 10 (by kernel_rfl) rfl
  exact st_assign rfl (want0 rfl _) rfl x10
 case s6 =>
  intro b w1 hb hp hu
  have x11 : (pI (t2)).V (get b 11) w1 := hp 4 11 (by kernel_rfl) rfl
  exact st_assign rfl (want0 rfl _) rfl x11
 intro ac2 wo2 hn2 hd_ hb hv hs
 have g2_1 : (pB (t1)).V (get ac2 1) wo2 := hv 5 1 rfl
 have g2_2 : (pI (t2)).V (get ac2 2) wo2 := hv 6 2 rfl
 have g2_0 : (pF).V (get ac2 0) wo2 := Pv.keep _ g1_0 (hs 0 rfl) hb
 have hB2 := below_step hB1 hb
 have hd2 := hd_.trans hd1
 clear hv hs hd_ hb hB1 hn1 hd1 g1_0
 show Code.wp _ _ _ _ _
 refine wp_seq ?_
 refine Reg.plain (T := T2) (D := D2) (n := 51) (by kernel_rfl) hn2 (told [pB (([(1 : Int), (0 : Int)] : List Int)), Pv.tup [pB (t3), pI (t4)], Pv.tup [pB (t3), pI (t4)], pB (t3), pI (t4), pB (t3), pI (t4)]) (told_pst _) (owedS (owedS (owedS (owedS (owedS (owedS (owedS owed0 ?s0) ?s1) ?s2) ?s3) ?s4) ?s5) ?s6) ?_
 case s0 =>
  intro b w1 hb hp hu
  have e0 : b.eval (Operand.const (Value.int IntKind.u8 1)) = .int .u8 ((1 : Int)) := rfl
  have e1 : b.eval (Operand.const (Value.int IntKind.u8 0)) = .int .u8 ((0 : Int)) := rfl
  exact st_lit (e := 5) (N := 13) (xs := ([(1 : Int), (0 : Int)] : List Int)) (inner := [.int .u8 ((1 : Int)), .int .u8 ((0 : Int))]) (ps := #[(0, .int .u8 ((1 : Int))), (1, .int .u8 ((0 : Int)))]) rfl (want0 rfl _) rfl rfl (by simp only [List.map_toArray, List.map_cons, List.map_nil, e0, e1]) (by first | (go_simp; done) | (go_simp; rfl)) (Reps.one (show Kd.M (Kd.int .u8) _ _ _ ((1 : Int)) [.int .u8 ((1 : Int))] from rfl) (Reps.one (show Kd.M (Kd.int .u8) _ _ _ ((0 : Int)) [.int .u8 ((0 : Int))] from rfl) (Reps.none _ _))) (by simp) (fun _ _ h => h)
 case s1 =>
  intro b w1 hb hp hu
  have x13 : (pB (([(1 : Int), (0 : Int)] : List Int))).V (get b 13) w1 := hp 0 13 (by kernel_rfl) rfl
  obtain ⟨B0, d0, e0_, hC0, hl0⟩ := x13
  have e0 : b.eval (Operand.tmp 13) = .slice B0 (([(1 : Int), (0 : Int)] : List Int)).length d0 := e0_
  have e1 : b.eval (Operand.const (Value.int IntKind.i64 1)) = .int .i64 ((1 : Int)) := rfl
  refine st_call rfl (want0 rfl _) rfl Try.func30 (by kernel_rfl) rfl #[.slice B0 (([(1 : Int), (0 : Int)] : List Int)).length d0, .int .i64 ((1 : Int))] (by simp only [List.map_toArray, List.map_cons, List.map_nil, e0, e1]) ?_
  refine (solomon_Signs.calls k B0 d0 _ _ _ _ w1 hC0 hl0 H2).mono ?_
  rintro e w2 ⟨v0_, rfl, ho0, hb2⟩
  exact ⟨_, rfl, ⟨[_, _], rfl, Pv.of_sl ho0, rfl, trivial⟩, hb2⟩
 case s2 =>
  intro b w1 hb hp hu
  have x14 : (Pv.tup [pB (t3), pI (t4)]).V (get b 14) w1 := hp 1 14 (by kernel_rfl) rfl
  exact st_move rfl (want0 rfl _) rfl x14
 case s3 =>
  intro b w1 hb hp hu
  have x12 : (Pv.tup [pB (t3), pI (t4)]).V (get b 12) w1 := hp 2 12 (by kernel_rfl) rfl
  exact st_extract rfl (want0 rfl _) rfl x12 rfl (fun _ h => h)
 case s4 =>
  intro b w1 hb hp hu
  have x12 : (Pv.tup [pB (t3), pI (t4)]).V (get b 12) w1 := hp 2 12 (by kernel_rfl) rfl
  exact st_extract rfl (want0 rfl _) rfl x12 rfl (fun _ h => h)
 case s5 =>
  intro b w1 hb hp hu
  have x15 : (pB (t3)).V (get b 15) w1 := hp 3 15 (by kernel_rfl) rfl
  exact st_assign rfl (want0 rfl _) rfl x15
 case s6 =>
  intro b w1 hb hp hu
  have x16 : (pI (t4)).V (get b 16) w1 := hp 4 16 (by kernel_rfl) rfl
  exact st_assign rfl (want0 rfl _) rfl x16
 intro ac3 wo3 hn3 hd_ hb hv hs
 have g3_3 : (pB (t3)).V (get ac3 3) wo3 := hv 5 3 rfl
 have g3_4 : (pI (t4)).V (get ac3 4) wo3 := hv 6 4 rfl
 have g3_1 : (pB (t1)).V (get ac3 1) wo3 := Pv.keep _ g2_1 (hs 1 rfl) hb
 have g3_2 : (pI (t2)).V (get ac3 2) wo3 := Pv.keep _ g2_2 (hs 2 rfl) hb
 have g3_0 : (pF).V (get ac3 0) wo3 := Pv.keep _ g2_0 (hs 0 rfl) hb
 have hB3 := below_step hB2 hb
 have hd3 := hd_.trans hd2
 clear hv hs hd_ hb hB2 hn2 hd2 g2_1 g2_2 g2_0
 show Code.wp _ _ _ _ _
 refine wp_seq ?_
 have hEo0_3 : w.heap.size ≤ wo3.heap.size := hB3.size
 replace g3_3 : (Pv.fx (wo3.heap.size) (Kd.int .u8) (t3)).V (get ac3 3) wo3 := Pv.sl_fx (Kd.heap_int .u8) g3_3
 replace g3_1 : (Pv.fx (wo3.heap.size) (Kd.int .u8) (t1)).V (get ac3 1) wo3 := Pv.sl_fx (Kd.heap_int .u8) g3_1
 refine Reg.plain (T := T3) (D := D3) (n := 51) (by kernel_rfl) hn3 (told [Pv.own (wo3.heap.size) 5 (Kd.int .u8) (List.replicate ((246 : Int) : Int).toNat 0), Pv.tup [pB (t5), pI (t6)], Pv.tup [pB (t5), pI (t6)], pB (t5), pI (t6), pB (t5), pI (t6)]) (told_pst _) (owedS (owedS (owedS (owedS (owedS (owedS (owedS owed0 ?s0) ?s1) ?s2) ?s3) ?s4) ?s5) ?s6) ?_
 case s0 =>
  intro b w1 hb hp hu
  exact st_make Try.underlying22 info5 (by decide) rfl (want0 rfl _) rfl rfl rfl rfl c0_0 (by have c_ := c0_1; omega) hb.size
 case s1 =>
  intro b w1 hb hp hu
  have x18 : (Pv.own (wo3.heap.size) 5 (Kd.int .u8) (List.replicate ((246 : Int) : Int).toNat 0)).V (get b 18) w1 := hp 0 18 (by kernel_rfl) rfl
  obtain ⟨B0, d0, e0_, hC0, hl0⟩ := (Pv.own_sl x18)
  have e0 : b.eval (Operand.tmp 18) = .slice B0 (List.replicate ((246 : Int) : Int).toNat 0).length d0 := e0_
  have e1 : b.eval (Operand.const (Value.int IntKind.i64 10)) = .int .i64 ((10 : Int)) := rfl
  refine st_call rfl (want0 rfl _) rfl Try.func29 (by kernel_rfl) rfl #[.slice B0 (List.replicate ((246 : Int) : Int).toNat 0).length d0, .int .i64 ((10 : Int))] (by simp only [List.map_toArray, List.map_cons, List.map_nil, e0, e1]) ?_
  refine (solomon_Put.callsC k B0 d0 _ _ _ _ w1 hC0 hl0 H3).mono ?_
  rintro e w2 ⟨v0_, rfl, ho0, hb2⟩
  exact ⟨_, rfl, ⟨[_, _], rfl, Pv.of_sl ho0, rfl, trivial⟩, hb2⟩
 case s2 =>
  intro b w1 hb hp hu
  have x19 : (Pv.tup [pB (t5), pI (t6)]).V (get b 19) w1 := hp 1 19 (by kernel_rfl) rfl
  exact st_move rfl (want0 rfl _) rfl x19
 case s3 =>
  intro b w1 hb hp hu
  have x17 : (Pv.tup [pB (t5), pI (t6)]).V (get b 17) w1 := hp 2 17 (by kernel_rfl) rfl
  exact st_extract rfl (want0 rfl _) rfl x17 rfl (fun _ h => h)
 case s4 =>
  intro b w1 hb hp hu
  have x17 : (Pv.tup [pB (t5), pI (t6)]).V (get b 17) w1 := hp 2 17 (by kernel_rfl) rfl
  exact st_extract rfl (want0 rfl _) rfl x17 rfl (fun _ h => h)
 case s5 =>
  intro b w1 hb hp hu
  have x20 : (pB (t5)).V (get b 20) w1 := hp 3 20 (by kernel_rfl) rfl
  exact st_assign rfl (want0 rfl _) rfl x20
 case s6 =>
  intro b w1 hb hp hu
  have x21 : (pI (t6)).V (get b 21) w1 := hp 4 21 (by kernel_rfl) rfl
  exact st_assign rfl (want0 rfl _) rfl x21
 intro ac4 wo4 hn4 hd_ hb hv hs
 have g4_6 : (pI (t6)).V (get ac4 6) wo4 := hv 6 6 rfl
 have g4_3 : (Pv.fx (wo3.heap.size) (Kd.int .u8) (t3)).V (get ac4 3) wo4 := Pv.keep _ g3_3 (hs 3 rfl) hb
 have g4_4 : (pI (t4)).V (get ac4 4) wo4 := Pv.keep _ g3_4 (hs 4 rfl) hb
 have g4_1 : (Pv.fx (wo3.heap.size) (Kd.int .u8) (t1)).V (get ac4 1) wo4 := Pv.keep _ g3_1 (hs 1 rfl) hb
 have g4_2 : (pI (t2)).V (get ac4 2) wo4 := Pv.keep _ g3_2 (hs 2 rfl) hb
 have g4_0 : (pF).V (get ac4 0) wo4 := Pv.keep _ g3_0 (hs 0 rfl) hb
 have hB4 := below_step hB3 hb
 have hd4 := hd_.trans hd3
 have hOo0_3_4 : wo3.heap.size ≤ wo4.heap.size := hb.size
 clear hv hs hd_ hb hB3 hn3 hd3 g3_3 g3_4 g3_1 g3_2 g3_0
 show Code.wp _ _ _ _ _
 refine wp_seq ?_
 refine Reg.plain (T := T4) (D := D4) (n := 51) (by kernel_rfl) hn4 (told [pI (t2), pT, pT, pI (t4), pT, pT, pT, pI (t6), pT, pT, pT, Pv.fx (wo3.heap.size) (Kd.int .u8) (t1), Pv.is (.string (strOfNums (t1))), pT, pT, pT, Pv.fx (wo3.heap.size) (Kd.int .u8) (t3), Pv.is (.string (strOfNums (t3))), pT, pT, pT, Pv.fx (wo3.heap.size) (Kd.int .u8) (t1), pT, pT, pT, pB (([(1 : Int), (0 : Int)] : List Int)), pF, pT, pT, pT]) (told_pst _) (owedS (owedS (owedS (owedS (owedS (owedS (owedS (owedS (owedS (owedS (owedS (owedS (owedS (owedS (owedS (owedS (owedS (owedS (owedS (owedS (owedS (owedS (owedS (owedS (owedS (owedS (owedS (owedS (owedS (owedS owed0 ?s0) ?s1) ?s2) ?s3) ?s4) ?s5) ?s6) ?s7) ?s8) ?s9) ?s10) ?s11) ?s12) ?s13) ?s14) ?s15) ?s16) ?s17) ?s18) ?s19) ?s20) ?s21) ?s22) ?s23) ?s24) ?s25) ?s26) ?s27) ?s28) ?s29) ?_
 case s0 =>
  intro b w1 hb hp hu
  have x2 : (pI (t2)).V (get b 2) w1 := Pv.keep _ g4_2 (hu 2 (by kernel_rfl)) hb
  exact st_move rfl (want0 rfl _) rfl x2
 case s1 =>
  intro b w1 hb hp hu
  have x22 : (pI (t2)).V (get b 22) w1 := hp 0 22 (by kernel_rfl) rfl
  exact st_eql (b := true) (κ := .i64) (m := t2) (n := ((0 : Int))) rfl (want0 rfl _) rfl x22 rfl (decide_eq_true c0_2)
 case s2 =>
  intro b w1 hb hp hu
  have x23 : (pT).V (get b 23) w1 := hp 1 23 (by kernel_rfl) rfl
  exact st_move rfl (want0 rfl _) rfl x23
 case s3 =>
  intro b w1 hb hp hu
  have x24 : (pT).V (get b 24) w1 := hp 2 24 (by kernel_rfl) rfl
  have x4 : (pI (t4)).V (get b 4) w1 := Pv.keep _ g4_4 (hu 4 (by kernel_rfl)) hb
  exact st_move rfl ((want_is (N := 24) rfl rfl x24).trans rfl) rfl x4
 case s4 =>
  intro b w1 hb hp hu
  have x24 : (pT).V (get b 24) w1 := hp 2 24 (by kernel_rfl) rfl
  have x25 : (pI (t4)).V (get b 25) w1 := hp 3 25 (by kernel_rfl) rfl
  exact st_eql (b := true) (κ := .i64) (m := t4) (n := ((0 : Int))) rfl ((want_is (N := 24) rfl rfl x24).trans rfl) rfl x25 rfl (decide_eq_true c0_3)
 case s5 =>
  intro b w1 hb hp hu
  have x24 : (pT).V (get b 24) w1 := hp 2 24 (by kernel_rfl) rfl
  have x26 : (pT).V (get b 26) w1 := hp 4 26 (by kernel_rfl) rfl
  exact st_pick (b := true) rfl (want0 rfl _) rfl x24 x26
 case s6 =>
  intro b w1 hb hp hu
  have x27 : (pT).V (get b 27) w1 := hp 5 27 (by kernel_rfl) rfl
  exact st_move rfl (want0 rfl _) rfl x27
 case s7 =>
  intro b w1 hb hp hu
  have x28 : (pT).V (get b 28) w1 := hp 6 28 (by kernel_rfl) rfl
  have x6 : (pI (t6)).V (get b 6) w1 := Pv.keep _ g4_6 (hu 6 (by kernel_rfl)) hb
  exact st_move rfl ((want_is (N := 28) rfl rfl x28).trans rfl) rfl x6
 case s8 =>
  intro b w1 hb hp hu
  have x28 : (pT).V (get b 28) w1 := hp 6 28 (by kernel_rfl) rfl
  have x29 : (pI (t6)).V (get b 29) w1 := hp 7 29 (by kernel_rfl) rfl
  exact st_eql (b := true) (κ := .i64) (m := t6) (n := ((4 : Int))) rfl ((want_is (N := 28) rfl rfl x28).trans rfl) rfl x29 rfl (decide_eq_true c0_4)
 case s9 =>
  intro b w1 hb hp hu
  have x28 : (pT).V (get b 28) w1 := hp 6 28 (by kernel_rfl) rfl
  have x30 : (pT).V (get b 30) w1 := hp 8 30 (by kernel_rfl) rfl
  exact st_pick (b := true) rfl (want0 rfl _) rfl x28 x30
 case s10 =>
  intro b w1 hb hp hu
  have x31 : (pT).V (get b 31) w1 := hp 9 31 (by kernel_rfl) rfl
  exact st_move rfl (want0 rfl _) rfl x31
 case s11 =>
  intro b w1 hb hp hu
  have x32 : (pT).V (get b 32) w1 := hp 10 32 (by kernel_rfl) rfl
  have x1 : (Pv.fx (wo3.heap.size) (Kd.int .u8) (t1)).V (get b 1) w1 := Pv.keep _ g4_1 (hu 1 (by kernel_rfl)) hb
  exact st_move rfl ((want_is (N := 32) rfl rfl x32).trans rfl) rfl x1
 case s12 =>
  intro b w1 hb hp hu
  have x32 : (pT).V (get b 32) w1 := hp 10 32 (by kernel_rfl) rfl
  have x33 : (Pv.fx (wo3.heap.size) (Kd.int .u8) (t1)).V (get b 33) w1 := hp 11 33 (by kernel_rfl) rfl
  exact st_string Try.underlying22 Try.underlying5 Try.underlying9 rfl ((want_is (N := 32) rfl rfl x32).trans rfl) rfl (Pv.fx_sl x33) rfl
 case s13 =>
  intro b w1 hb hp hu
  have x32 : (pT).V (get b 32) w1 := hp 10 32 (by kernel_rfl) rfl
  have x34 : (Pv.is (.string (strOfNums (t1)))).V (get b 34) w1 := hp 12 34 (by kernel_rfl) rfl
  exact st_seql (b := true) rfl ((want_is (N := 32) rfl rfl x32).trans rfl) rfl x34 rfl (by have c_ := c0_5; rw [show ({ data := #[1, 2] } : ByteArray).toList = ([1, 2] : List UInt8) from by decide +kernel]; exact decide_eq_true c_)
 case s14 =>
  intro b w1 hb hp hu
  have x32 : (pT).V (get b 32) w1 := hp 10 32 (by kernel_rfl) rfl
  have x35 : (pT).V (get b 35) w1 := hp 13 35 (by kernel_rfl) rfl
  exact st_pick (b := true) rfl (want0 rfl _) rfl x32 x35
 case s15 =>
  intro b w1 hb hp hu
  have x36 : (pT).V (get b 36) w1 := hp 14 36 (by kernel_rfl) rfl
  exact st_move rfl (want0 rfl _) rfl x36
 case s16 =>
  intro b w1 hb hp hu
  have x37 : (pT).V (get b 37) w1 := hp 15 37 (by kernel_rfl) rfl
  have x3 : (Pv.fx (wo3.heap.size) (Kd.int .u8) (t3)).V (get b 3) w1 := Pv.keep _ g4_3 (hu 3 (by kernel_rfl)) hb
  exact st_move rfl ((want_is (N := 37) rfl rfl x37).trans rfl) rfl x3
 case s17 =>
  intro b w1 hb hp hu
  have x37 : (pT).V (get b 37) w1 := hp 15 37 (by kernel_rfl) rfl
  have x38 : (Pv.fx (wo3.heap.size) (Kd.int .u8) (t3)).V (get b 38) w1 := hp 16 38 (by kernel_rfl) rfl
  exact st_string Try.underlying22 Try.underlying5 Try.underlying9 rfl ((want_is (N := 37) rfl rfl x37).trans rfl) rfl (Pv.fx_sl x38) rfl
 case s18 =>
  intro b w1 hb hp hu
  have x37 : (pT).V (get b 37) w1 := hp 15 37 (by kernel_rfl) rfl
  have x39 : (Pv.is (.string (strOfNums (t3)))).V (get b 39) w1 := hp 17 39 (by kernel_rfl) rfl
  exact st_seql (b := true) rfl ((want_is (N := 37) rfl rfl x37).trans rfl) rfl x39 rfl (by have c_ := c0_6; rw [show ({ data := #[2] } : ByteArray).toList = ([2] : List UInt8) from by decide +kernel]; exact decide_eq_true c_)
 case s19 =>
  intro b w1 hb hp hu
  have x37 : (pT).V (get b 37) w1 := hp 15 37 (by kernel_rfl) rfl
  have x40 : (pT).V (get b 40) w1 := hp 18 40 (by kernel_rfl) rfl
  exact st_pick (b := true) rfl (want0 rfl _) rfl x37 x40
 case s20 =>
  intro b w1 hb hp hu
  have x41 : (pT).V (get b 41) w1 := hp 19 41 (by kernel_rfl) rfl
  exact st_move rfl (want0 rfl _) rfl x41
 case s21 =>
  intro b w1 hb hp hu
  have x42 : (pT).V (get b 42) w1 := hp 20 42 (by kernel_rfl) rfl
  have x1 : (Pv.fx (wo3.heap.size) (Kd.int .u8) (t1)).V (get b 1) w1 := Pv.keep _ g4_1 (hu 1 (by kernel_rfl)) hb
  exact st_move rfl ((want_is (N := 42) rfl rfl x42).trans rfl) rfl x1
 case s22 =>
  intro b w1 hb hp hu
  have x42 : (pT).V (get b 42) w1 := hp 20 42 (by kernel_rfl) rfl
  have x43 : (Pv.fx (wo3.heap.size) (Kd.int .u8) (t1)).V (get b 43) w1 := hp 21 43 (by kernel_rfl) rfl
  obtain ⟨B0, d0, e0_, hC0, hl0⟩ := (Pv.fx_sl x43)
  have e0 : b.eval (Operand.tmp 43) = .slice B0 (t1).length d0 := e0_
  have e1 : b.eval (Operand.const (Value.int IntKind.i64 1)) = .int .i64 ((1 : Int)) := rfl
  refine st_call rfl ((want_is (N := 42) rfl rfl x42).trans rfl) rfl Try.func31 (by kernel_rfl) rfl #[.slice B0 (t1).length d0, .int .i64 ((1 : Int))] (by simp only [List.map_toArray, List.map_cons, List.map_nil, e0, e1]) ?_
  refine (solomon_Fine.calls k B0 d0 _ _ _ w1 hC0 hl0 H4).mono ?_
  rintro e w2 ⟨rfl, hb2⟩
  exact ⟨_, rfl, (show (Pv.is (.bool true)).V (.bool t7) w2 from by rw [c0_7]; first | done | exact rfl), hb2⟩
 case s23 =>
  intro b w1 hb hp hu
  have x42 : (pT).V (get b 42) w1 := hp 20 42 (by kernel_rfl) rfl
  have x44 : (pT).V (get b 44) w1 := hp 22 44 (by kernel_rfl) rfl
  exact st_pick (b := true) rfl (want0 rfl _) rfl x42 x44
 case s24 =>
  intro b w1 hb hp hu
  have x45 : (pT).V (get b 45) w1 := hp 23 45 (by kernel_rfl) rfl
  exact st_move rfl (want0 rfl _) rfl x45
 case s25 =>
  intro b w1 hb hp hu
  have x46 : (pT).V (get b 46) w1 := hp 24 46 (by kernel_rfl) rfl
  have e0 : b.eval (Operand.const (Value.int IntKind.u8 1)) = .int .u8 ((1 : Int)) := rfl
  have e1 : b.eval (Operand.const (Value.int IntKind.u8 0)) = .int .u8 ((0 : Int)) := rfl
  exact st_lit (e := 5) (N := 47) (xs := ([(1 : Int), (0 : Int)] : List Int)) (inner := [.int .u8 ((1 : Int)), .int .u8 ((0 : Int))]) (ps := #[(0, .int .u8 ((1 : Int))), (1, .int .u8 ((0 : Int)))]) rfl ((want_is (N := 46) rfl rfl x46).trans rfl) rfl rfl (by simp only [List.map_toArray, List.map_cons, List.map_nil, e0, e1]) (by first | (go_simp; done) | (go_simp; rfl)) (Reps.one (show Kd.M (Kd.int .u8) _ _ _ ((1 : Int)) [.int .u8 ((1 : Int))] from rfl) (Reps.one (show Kd.M (Kd.int .u8) _ _ _ ((0 : Int)) [.int .u8 ((0 : Int))] from rfl) (Reps.none _ _))) (by simp) (fun _ _ h => h)
 case s26 =>
  intro b w1 hb hp hu
  have x46 : (pT).V (get b 46) w1 := hp 24 46 (by kernel_rfl) rfl
  have x47 : (pB (([(1 : Int), (0 : Int)] : List Int))).V (get b 47) w1 := hp 25 47 (by kernel_rfl) rfl
  obtain ⟨B0, d0, e0_, hC0, hl0⟩ := x47
  have e0 : b.eval (Operand.tmp 47) = .slice B0 (([(1 : Int), (0 : Int)] : List Int)).length d0 := e0_
  have e1 : b.eval (Operand.const (Value.int IntKind.i64 1)) = .int .i64 ((1 : Int)) := rfl
  refine st_call rfl ((want_is (N := 46) rfl rfl x46).trans rfl) rfl Try.func31 (by kernel_rfl) rfl #[.slice B0 (([(1 : Int), (0 : Int)] : List Int)).length d0, .int .i64 ((1 : Int))] (by simp only [List.map_toArray, List.map_cons, List.map_nil, e0, e1]) ?_
  refine (solomon_Fine.calls k B0 d0 _ _ _ w1 hC0 hl0 H5).mono ?_
  rintro e w2 ⟨rfl, hb2⟩
  exact ⟨_, rfl, (show (Pv.is (.bool false)).V (.bool t8) w2 from by rw [Bool.eq_false_iff.mpr c0_8]; first | done | exact rfl), hb2⟩
 case s27 =>
  intro b w1 hb hp hu
  have x46 : (pT).V (get b 46) w1 := hp 24 46 (by kernel_rfl) rfl
  have x48 : (pF).V (get b 48) w1 := hp 26 48 (by kernel_rfl) rfl
  exact st_un (v := .bool true) (vx := .bool false) rfl ((want_is (N := 46) rfl rfl x46).trans rfl) rfl x48 (by first | rfl | (go_simp; first | done | rfl | (simp only [i64_w, i32_w]; done))) rfl
 case s28 =>
  intro b w1 hb hp hu
  have x46 : (pT).V (get b 46) w1 := hp 24 46 (by kernel_rfl) rfl
  have x49 : (pT).V (get b 49) w1 := hp 27 49 (by kernel_rfl) rfl
  exact st_pick (b := true) rfl (want0 rfl _) rfl x46 x49
 case s29 =>
  intro b w1 hb hp hu
  have x50 : (pT).V (get b 50) w1 := hp 28 50 (by kernel_rfl) rfl
  exact st_assign rfl (want0 rfl _) rfl x50
 intro ac5 wo5 hn5 hd_ hb hv hs
 have g5_0 : (pT).V (get ac5 0) wo5 := hv 29 0 rfl
 have hB5 := below_step hB4 hb
 have hd5 := hd_.trans hd4
 have hOo0_3_5 : wo3.heap.size ≤ wo5.heap.size := Nat.le_trans hOo0_3_4 hb.size
 clear hv hs hd_ hb hB4 hn4 hd4 hOo0_3_4 g4_6 g4_3 g4_4 g4_1 g4_2 g4_0
 show Code.wp _ _ _ _ _
 refine wp_ret ?_
 repeat (first | refine then_ret ?_ | refine inb_ret ?_)
 exact back_is rfl hd5 g5_0 ⟨rfl, hB5⟩

end Go.Proofs.Ytgieppcadnhhaaa.P
