-- PRINTED BY print.sh 35421559b90ae4d0a3588c463048766b98c2df88dd9212a6774a882060cdf62d: not written by this session
import Derived.Test.YtofmhbhcpojglaaPGfPowersx0
import Derived.Test.YtofmhbhcpojglaaPGfPowersx1
namespace Go.Proofs.Ytofmhbhcpojglaa.PGfPowers
open Go.RowKit Go.Proofs.YtofmhbhcpojglaaW.PrintWords Go.Proofs.YtofmhbhcpojglaaW.PrintLast Go.Proofs.YtofmhbhcpojglaaW.PrintMore
attribute [local go_sem] max2_int min2_int max_two min_two max_three min_three max_four min_four   -- for this text's walks alone
set_option linter.unusedVariables false
set_option linter.unusedSimpArgs false

/-! ### wristbandlaw07_GfPowers: function 8 -/
mutual
def wristbandlaw07_GfPowers.j0 : Nat → Int → Int → Bool → Option (Bool)
  | 0, _, _, _ => none
  | k + 1, x0, x1, x49 => if x49 = true then (some false) else ((gf_Log.f k x0).bind fun bt135 => ((gf_Log.f k x1).bind fun bt137 => (if bt135.2 = 0 then (wristbandlaw07_GfPowers.j1 k x0 x1 bt135.1 bt137.1 (bt137.2 != 0)) else (wristbandlaw07_GfPowers.j1 k x0 x1 bt135.1 bt137.1 true))))
def wristbandlaw07_GfPowers.j1 : Nat → Int → Int → Int → Int → Bool → Option (Bool)
  | 0, _, _, _, _, _ => none
  | k + 1, x0, x1, x9, x11, x65 => if x65 = true then (if x0 = 0 then (some true) else (some (x1 == 0))) else ((gf_Mul.f k x0 x1).bind fun t139 => ((gf_Log.f k t139).bind fun bt140 => (if bt140.2 = 0 then ((gf_Exp.f k x9).bind fun t142 => (if t142 = x0 then (if x9 ≥ 0 then (if x9 < 255 then (some (bt140.1 == (Int.tmod (wrap64 (x9 + x11)) 255))) else (some false)) else (some false)) else (some false))) else (some false))))
end
def wristbandlaw07_GfPowers.f (k : Nat) (a0 : Int) (a1 : Int) (a2 : Int) (a3 : Int) : Option (Bool) := (wristbandlaw07_awake.f k).bind fun t120 => (if t120 = true then (if a0 = 0 then ((gf_Add.f a0 a1).bind fun t121 => ((gf_Pow.f k t121 2).bind fun t122 => ((gf_Pow.f k a0 2).bind fun t123 => ((gf_Pow.f k a1 2).bind fun t124 => ((gf_Add.f t123 t124).bind fun t125 => (wristbandlaw07_GfPowers.j0 k a0 a1 (t122 != t125))))))) else ((gf_Pow.f k a0 (wrap64 (a2))).bind fun t126 => ((gf_Pow.f k a0 (wrap64 (a3))).bind fun t127 => ((gf_Mul.f k t126 t127).bind fun t128 => ((gf_Pow.f k a0 (wrap64 ((wrap64 (a2)) + (wrap64 (a3))))).bind fun t129 => (if t128 = t129 then ((gf_Add.f a0 a1).bind fun t130 => ((gf_Pow.f k t130 2).bind fun t131 => ((gf_Pow.f k a0 2).bind fun t132 => ((gf_Pow.f k a1 2).bind fun t133 => ((gf_Add.f t132 t133).bind fun t134 => (wristbandlaw07_GfPowers.j0 k a0 a1 (t131 != t134))))))) else (wristbandlaw07_GfPowers.j0 k a0 a1 true))))))) else (some false))
theorem wristbandlaw07_GfPowers.mono_l : ∀ k, (∀ y0 y1 y2, LeO (wristbandlaw07_GfPowers.j0 k y0 y1 y2) (wristbandlaw07_GfPowers.j0 (k + 1) y0 y1 y2)) ∧ (∀ y0 y1 y2 y3 y4, LeO (wristbandlaw07_GfPowers.j1 k y0 y1 y2 y3 y4) (wristbandlaw07_GfPowers.j1 (k + 1) y0 y1 y2 y3 y4))
  | 0 => ⟨fun _ _ _ r h => by simp [wristbandlaw07_GfPowers.j0] at h, fun _ _ _ _ _ r h => by simp [wristbandlaw07_GfPowers.j1] at h⟩
  | k + 1 => by
    obtain ⟨ih0, ih1⟩ := wristbandlaw07_GfPowers.mono_l k
    refine ⟨?_, ?_⟩
    · intro y0 y1 y2
      unfold wristbandlaw07_GfPowers.j0
      repeat' first
      | (with_reducible exact ih0 _ _ _)
      | (with_reducible exact ih1 _ _ _ _ _)
      | (with_reducible exact gf_Exp.mono _ _)
      | (with_reducible exact gf_Log.mono _ _)
      | (with_reducible exact gf_Mul.mono _ _ _)
      | (with_reducible exact gf_Pow.mono _ _ _)
      | (with_reducible exact wristbandlaw07_awake.mono _)
      | (with_reducible exact LeO.refl _)
      | (with_reducible exact LeO.none _)
      | (with_reducible refine LeO.ite ?_ ?_)
      | (with_reducible refine LeO.bind ?_ (fun _ => ?_))
      | exact ih0 _ _ _
      | exact ih1 _ _ _ _ _
      | exact gf_Exp.mono _ _
      | exact gf_Log.mono _ _
      | exact gf_Mul.mono _ _ _
      | exact gf_Pow.mono _ _ _
      | exact wristbandlaw07_awake.mono _
      | exact LeO.none _
      | refine LeO.ite ?_ ?_
      | refine LeO.bind ?_ (fun _ => ?_)
    · intro y0 y1 y2 y3 y4
      unfold wristbandlaw07_GfPowers.j1
      repeat' first
      | (with_reducible exact ih0 _ _ _)
      | (with_reducible exact ih1 _ _ _ _ _)
      | (with_reducible exact gf_Exp.mono _ _)
      | (with_reducible exact gf_Log.mono _ _)
      | (with_reducible exact gf_Mul.mono _ _ _)
      | (with_reducible exact gf_Pow.mono _ _ _)
      | (with_reducible exact wristbandlaw07_awake.mono _)
      | (with_reducible exact LeO.refl _)
      | (with_reducible exact LeO.none _)
      | (with_reducible refine LeO.ite ?_ ?_)
      | (with_reducible refine LeO.bind ?_ (fun _ => ?_))
      | exact ih0 _ _ _
      | exact ih1 _ _ _ _ _
      | exact gf_Exp.mono _ _
      | exact gf_Log.mono _ _
      | exact gf_Mul.mono _ _ _
      | exact gf_Pow.mono _ _ _
      | exact wristbandlaw07_awake.mono _
      | exact LeO.none _
      | refine LeO.ite ?_ ?_
      | refine LeO.bind ?_ (fun _ => ?_)
theorem wristbandlaw07_GfPowers.mono : ∀ a0 a1 a2 a3 k, LeO (wristbandlaw07_GfPowers.f k a0 a1 a2 a3) (wristbandlaw07_GfPowers.f (k + 1) a0 a1 a2 a3) := by
  intro a0 a1 a2 a3 k
  obtain ⟨ih0, ih1⟩ := wristbandlaw07_GfPowers.mono_l k
  unfold wristbandlaw07_GfPowers.f
  repeat' first
      | (with_reducible exact ih0 _ _ _)
      | (with_reducible exact ih1 _ _ _ _ _)
      | (with_reducible exact gf_Exp.mono _ _)
      | (with_reducible exact gf_Log.mono _ _)
      | (with_reducible exact gf_Mul.mono _ _ _)
      | (with_reducible exact gf_Pow.mono _ _ _)
      | (with_reducible exact wristbandlaw07_awake.mono _)
      | (with_reducible exact LeO.refl _)
      | (with_reducible exact LeO.none _)
      | (with_reducible refine LeO.ite ?_ ?_)
      | (with_reducible refine LeO.bind ?_ (fun _ => ?_))
      | exact ih0 _ _ _
      | exact ih1 _ _ _ _ _
      | exact gf_Exp.mono _ _
      | exact gf_Log.mono _ _
      | exact gf_Mul.mono _ _ _
      | exact gf_Pow.mono _ _ _
      | exact wristbandlaw07_awake.mono _
      | exact LeO.none _
      | refine LeO.ite ?_ ?_
      | refine LeO.bind ?_ (fun _ => ?_)
set_option maxHeartbeats 8000000 in
set_option maxRecDepth 100000 in
theorem wristbandlaw07_GfPowers.calls (k : Nat) (a0 : Int) (a1 : Int) (a2 : Int) (a3 : Int) (r : Bool) (w : World) (h : wristbandlaw07_GfPowers.f k a0 a1 a2 a3 = some r) :
    Calls Try.prog 8 #[.int .u8 a0, .int .u8 a1, .int .i16 a2, .int .i16 a3] w fun e w' => e = .returned (.bool r) ∧ Drawn0 w w' := by
  have H : ((wristbandlaw07_awake.f k).bind fun t120 => (if t120 = true then (if a0 = 0 then ((gf_Add.f a0 a1).bind fun t121 => ((gf_Pow.f k t121 2).bind fun t122 => ((gf_Pow.f k a0 2).bind fun t123 => ((gf_Pow.f k a1 2).bind fun t124 => ((gf_Add.f t123 t124).bind fun t125 => (wristbandlaw07_GfPowers.j0 k a0 a1 (t122 != t125))))))) else ((gf_Pow.f k a0 (wrap64 (a2))).bind fun t126 => ((gf_Pow.f k a0 (wrap64 (a3))).bind fun t127 => ((gf_Mul.f k t126 t127).bind fun t128 => ((gf_Pow.f k a0 (wrap64 ((wrap64 (a2)) + (wrap64 (a3))))).bind fun t129 => (if t128 = t129 then ((gf_Add.f a0 a1).bind fun t130 => ((gf_Pow.f k t130 2).bind fun t131 => ((gf_Pow.f k a0 2).bind fun t132 => ((gf_Pow.f k a1 2).bind fun t133 => ((gf_Add.f t132 t133).bind fun t134 => (wristbandlaw07_GfPowers.j0 k a0 a1 (t131 != t134))))))) else (wristbandlaw07_GfPowers.j0 k a0 a1 true))))))) else (some false))) = some r := h
  clear h
  replace H := Option.bind_eq_some_iff.mp H
  obtain ⟨t120, A50, H⟩ := H
  replace H : (if t120 = true then (if a0 = 0 then ((gf_Add.f a0 a1).bind fun t121 => ((gf_Pow.f k t121 2).bind fun t122 => ((gf_Pow.f k a0 2).bind fun t123 => ((gf_Pow.f k a1 2).bind fun t124 => ((gf_Add.f t123 t124).bind fun t125 => (wristbandlaw07_GfPowers.j0 k a0 a1 (t122 != t125))))))) else ((gf_Pow.f k a0 (wrap64 (a2))).bind fun t126 => ((gf_Pow.f k a0 (wrap64 (a3))).bind fun t127 => ((gf_Mul.f k t126 t127).bind fun t128 => ((gf_Pow.f k a0 (wrap64 ((wrap64 (a2)) + (wrap64 (a3))))).bind fun t129 => (if t128 = t129 then ((gf_Add.f a0 a1).bind fun t130 => ((gf_Pow.f k t130 2).bind fun t131 => ((gf_Pow.f k a0 2).bind fun t132 => ((gf_Pow.f k a1 2).bind fun t133 => ((gf_Add.f t132 t133).bind fun t134 => (wristbandlaw07_GfPowers.j0 k a0 a1 (t131 != t134))))))) else (wristbandlaw07_GfPowers.j0 k a0 a1 true))))))) else (some false)) = some r := H
  have A5 := Aside0.mk A50
  clear A50
  by_cases c6 : t120 = true
  · subst c6
    have H1 : (if a0 = 0 then ((gf_Add.f a0 a1).bind fun t121 => ((gf_Pow.f k t121 2).bind fun t122 => ((gf_Pow.f k a0 2).bind fun t123 => ((gf_Pow.f k a1 2).bind fun t124 => ((gf_Add.f t123 t124).bind fun t125 => (wristbandlaw07_GfPowers.j0 k a0 a1 (t122 != t125))))))) else ((gf_Pow.f k a0 (wrap64 (a2))).bind fun t126 => ((gf_Pow.f k a0 (wrap64 (a3))).bind fun t127 => ((gf_Mul.f k t126 t127).bind fun t128 => ((gf_Pow.f k a0 (wrap64 ((wrap64 (a2)) + (wrap64 (a3))))).bind fun t129 => (if t128 = t129 then ((gf_Add.f a0 a1).bind fun t130 => ((gf_Pow.f k t130 2).bind fun t131 => ((gf_Pow.f k a0 2).bind fun t132 => ((gf_Pow.f k a1 2).bind fun t133 => ((gf_Add.f t132 t133).bind fun t134 => (wristbandlaw07_GfPowers.j0 k a0 a1 (t131 != t134))))))) else (wristbandlaw07_GfPowers.j0 k a0 a1 true))))))) = some r := by rw [if_pos rfl] at H; exact H
    clear H
    have H := H1
    clear H1
    have HC7 := Aside0.mk H
    clear H
    go_enter Try.func8, Try.ntmps8
    go_upto_region 3 with (first | ((with_reducible refine gate_callee (f := 20) rfl ?_); refine goesL_ (some 15) rfl rfl Try.func20 (by kernel_rfl) rfl #[] rfl (by (try simp only [List.map_toArray, List.map_cons, List.map_nil]); first | done | rfl | (simp only [List.length_drop, List.length_take]; rfl)) ?_; (with_reducible refine (wristbandlaw07_awake.calls k  true _ A5.out).mono ?_); rintro e w' ⟨rfl, ⟨nd, rfl⟩⟩; refine ⟨_, rfl, ?_⟩))
    (try simp only [Act.put, List.setIfInBounds_toArray, List.set_cons_zero, List.set_cons_succ])
    go_cut [49] (fun v49 wc => ∃ (kq : Nat) (x49_6 : Bool), v49 = .bool x49_6 ∧ Aside0 (wristbandlaw07_GfPowers.j0 kq a0 a1 x49_6 = some r) ∧ Aside0 (kq ≤ k) ∧ Drawn0 w wc)
    case first =>
      have H := HC7.out
      clear HC7
      by_cases c8 : a0 = 0
      · rw [if_pos c8] at H
        have c8b0 : (a0 == 0) = true := beq_iff_eq.mpr c8
        have c8b1 : (a0 != 0) = false := bne_eq_false_iff_eq.mpr c8
        clear c8
        (first | rw [c8b0] | (simp only [i64_w, i32_w]; rw [c8b0]) | skip)
        replace H := Option.bind_eq_some_iff.mp H
        obtain ⟨t121, A90, H⟩ := H
        replace H : ((gf_Pow.f k t121 2).bind fun t122 => ((gf_Pow.f k a0 2).bind fun t123 => ((gf_Pow.f k a1 2).bind fun t124 => ((gf_Add.f t123 t124).bind fun t125 => (wristbandlaw07_GfPowers.j0 k a0 a1 (t122 != t125)))))) = some r := H
        have A9 := Aside0.mk A90
        clear A90
        replace H := Option.bind_eq_some_iff.mp H
        obtain ⟨t122, A100, H⟩ := H
        replace H : ((gf_Pow.f k a0 2).bind fun t123 => ((gf_Pow.f k a1 2).bind fun t124 => ((gf_Add.f t123 t124).bind fun t125 => (wristbandlaw07_GfPowers.j0 k a0 a1 (t122 != t125))))) = some r := H
        have A10 := Aside0.mk A100
        clear A100
        replace H := Option.bind_eq_some_iff.mp H
        obtain ⟨t123, A110, H⟩ := H
        replace H : ((gf_Pow.f k a1 2).bind fun t124 => ((gf_Add.f t123 t124).bind fun t125 => (wristbandlaw07_GfPowers.j0 k a0 a1 (t122 != t125)))) = some r := H
        have A11 := Aside0.mk A110
        clear A110
        replace H := Option.bind_eq_some_iff.mp H
        obtain ⟨t124, A120, H⟩ := H
        replace H : ((gf_Add.f t123 t124).bind fun t125 => (wristbandlaw07_GfPowers.j0 k a0 a1 (t122 != t125))) = some r := H
        have A12 := Aside0.mk A120
        clear A120
        replace H := Option.bind_eq_some_iff.mp H
        obtain ⟨t125, A130, H⟩ := H
        replace H : (wristbandlaw07_GfPowers.j0 k a0 a1 (t122 != t125)) = some r := H
        have A13 := Aside0.mk A130
        clear A130
        have H' := Aside0.mk H
        clear H
        go_wp2_with (first | (go_at_call 25; (with_reducible refine (gf_Add.calls a0 a1 t121 _ A9.out).mono ?_); rintro e w' ⟨rfl, ⟨nd, rfl⟩⟩) | (go_at_call 28; (with_reducible refine (gf_Pow.calls k t121 2 t122 _ A10.out).mono ?_); rintro e w' ⟨rfl, ⟨nd, rfl⟩⟩) | (go_at_call 28; (with_reducible refine (gf_Pow.calls k a0 2 t123 _ A11.out).mono ?_); rintro e w' ⟨rfl, ⟨nd, rfl⟩⟩) | (go_at_call 28; (with_reducible refine (gf_Pow.calls k a1 2 t124 _ A12.out).mono ?_); rintro e w' ⟨rfl, ⟨nd, rfl⟩⟩) | (go_at_call 25; (with_reducible refine (gf_Add.calls t123 t124 t125 _ A13.out).mono ?_); rintro e w' ⟨rfl, ⟨nd, rfl⟩⟩))
        go_meet
        case rel => exact ⟨_, ((t122 != t125)), (by first | rfl | (simp; done) | (simp [*]; done)), H', ⟨by first | omega | exact Nat.le_refl _⟩, by repeat (first | exact Drawn0.refl _ | apply Drawn0.step)⟩
      · rw [if_neg c8] at H
        have c8b0 : (a0 == 0) = false := beq_eq_false_iff_ne.mpr c8
        have c8b1 : (a0 != 0) = true := bne_iff_ne.mpr c8
        (first | rw [c8b0] | (simp only [i64_w, i32_w]; rw [c8b0]) | skip)
        replace H := Option.bind_eq_some_iff.mp H
        obtain ⟨t126, A140, H⟩ := H
        replace H : ((gf_Pow.f k a0 (wrap64 (a3))).bind fun t127 => ((gf_Mul.f k t126 t127).bind fun t128 => ((gf_Pow.f k a0 (wrap64 ((wrap64 (a2)) + (wrap64 (a3))))).bind fun t129 => (if t128 = t129 then ((gf_Add.f a0 a1).bind fun t130 => ((gf_Pow.f k t130 2).bind fun t131 => ((gf_Pow.f k a0 2).bind fun t132 => ((gf_Pow.f k a1 2).bind fun t133 => ((gf_Add.f t132 t133).bind fun t134 => (wristbandlaw07_GfPowers.j0 k a0 a1 (t131 != t134))))))) else (wristbandlaw07_GfPowers.j0 k a0 a1 true))))) = some r := H
        have A14 := Aside0.mk A140
        clear A140
        replace H := Option.bind_eq_some_iff.mp H
        obtain ⟨t127, A150, H⟩ := H
        replace H : ((gf_Mul.f k t126 t127).bind fun t128 => ((gf_Pow.f k a0 (wrap64 ((wrap64 (a2)) + (wrap64 (a3))))).bind fun t129 => (if t128 = t129 then ((gf_Add.f a0 a1).bind fun t130 => ((gf_Pow.f k t130 2).bind fun t131 => ((gf_Pow.f k a0 2).bind fun t132 => ((gf_Pow.f k a1 2).bind fun t133 => ((gf_Add.f t132 t133).bind fun t134 => (wristbandlaw07_GfPowers.j0 k a0 a1 (t131 != t134))))))) else (wristbandlaw07_GfPowers.j0 k a0 a1 true)))) = some r := H
        have A15 := Aside0.mk A150
        clear A150
        replace H := Option.bind_eq_some_iff.mp H
        obtain ⟨t128, A160, H⟩ := H
        replace H : ((gf_Pow.f k a0 (wrap64 ((wrap64 (a2)) + (wrap64 (a3))))).bind fun t129 => (if t128 = t129 then ((gf_Add.f a0 a1).bind fun t130 => ((gf_Pow.f k t130 2).bind fun t131 => ((gf_Pow.f k a0 2).bind fun t132 => ((gf_Pow.f k a1 2).bind fun t133 => ((gf_Add.f t132 t133).bind fun t134 => (wristbandlaw07_GfPowers.j0 k a0 a1 (t131 != t134))))))) else (wristbandlaw07_GfPowers.j0 k a0 a1 true))) = some r := H
        have A16 := Aside0.mk A160
        clear A160
        replace H := Option.bind_eq_some_iff.mp H
        obtain ⟨t129, A170, H⟩ := H
        replace H : (if t128 = t129 then ((gf_Add.f a0 a1).bind fun t130 => ((gf_Pow.f k t130 2).bind fun t131 => ((gf_Pow.f k a0 2).bind fun t132 => ((gf_Pow.f k a1 2).bind fun t133 => ((gf_Add.f t132 t133).bind fun t134 => (wristbandlaw07_GfPowers.j0 k a0 a1 (t131 != t134))))))) else (wristbandlaw07_GfPowers.j0 k a0 a1 true)) = some r := H
        have A17 := Aside0.mk A170
        clear A170
        by_cases c18 : t128 = t129
        · rw [if_pos c18] at H
          have c18b0 : (t128 == t129) = true := beq_iff_eq.mpr c18
          have c18b1 : (t128 != t129) = false := bne_eq_false_iff_eq.mpr c18
          clear c18
          replace H := Option.bind_eq_some_iff.mp H
          obtain ⟨t130, A190, H⟩ := H
          replace H : ((gf_Pow.f k t130 2).bind fun t131 => ((gf_Pow.f k a0 2).bind fun t132 => ((gf_Pow.f k a1 2).bind fun t133 => ((gf_Add.f t132 t133).bind fun t134 => (wristbandlaw07_GfPowers.j0 k a0 a1 (t131 != t134)))))) = some r := H
          have A19 := Aside0.mk A190
          clear A190
          replace H := Option.bind_eq_some_iff.mp H
          obtain ⟨t131, A200, H⟩ := H
          replace H : ((gf_Pow.f k a0 2).bind fun t132 => ((gf_Pow.f k a1 2).bind fun t133 => ((gf_Add.f t132 t133).bind fun t134 => (wristbandlaw07_GfPowers.j0 k a0 a1 (t131 != t134))))) = some r := H
          have A20 := Aside0.mk A200
          clear A200
          replace H := Option.bind_eq_some_iff.mp H
          obtain ⟨t132, A210, H⟩ := H
          replace H : ((gf_Pow.f k a1 2).bind fun t133 => ((gf_Add.f t132 t133).bind fun t134 => (wristbandlaw07_GfPowers.j0 k a0 a1 (t131 != t134)))) = some r := H
          have A21 := Aside0.mk A210
          clear A210
          replace H := Option.bind_eq_some_iff.mp H
          obtain ⟨t133, A220, H⟩ := H
          replace H : ((gf_Add.f t132 t133).bind fun t134 => (wristbandlaw07_GfPowers.j0 k a0 a1 (t131 != t134))) = some r := H
          have A22 := Aside0.mk A220
          clear A220
          replace H := Option.bind_eq_some_iff.mp H
          obtain ⟨t134, A230, H⟩ := H
          replace H : (wristbandlaw07_GfPowers.j0 k a0 a1 (t131 != t134)) = some r := H
          have A23 := Aside0.mk A230
          clear A230
          have H' := Aside0.mk H
          clear H
          go_wp2_with (first | (go_at_call 28; (with_reducible refine (gf_Pow.calls k a0 (wrap64 (a2)) t126 _ A14.out).mono ?_); rintro e w' ⟨rfl, ⟨nd, rfl⟩⟩) | (go_at_call 28; (with_reducible refine (gf_Pow.calls k a0 (wrap64 (a3)) t127 _ A15.out).mono ?_); rintro e w' ⟨rfl, ⟨nd, rfl⟩⟩) | (go_at_call 26; (with_reducible refine (gf_Mul.calls k t126 t127 t128 _ A16.out).mono ?_); rintro e w' ⟨rfl, ⟨nd, rfl⟩⟩) | (go_at_call 28; (with_reducible refine (gf_Pow.calls k a0 (wrap64 ((wrap64 (a2)) + (wrap64 (a3)))) t129 _ A17.out).mono ?_); rintro e w' ⟨rfl, ⟨nd, rfl⟩⟩) | (go_at_call 25; (with_reducible refine (gf_Add.calls a0 a1 t130 _ A19.out).mono ?_); rintro e w' ⟨rfl, ⟨nd, rfl⟩⟩) | (go_at_call 28; (with_reducible refine (gf_Pow.calls k t130 2 t131 _ A20.out).mono ?_); rintro e w' ⟨rfl, ⟨nd, rfl⟩⟩) | (go_at_call 28; (with_reducible refine (gf_Pow.calls k a0 2 t132 _ A21.out).mono ?_); rintro e w' ⟨rfl, ⟨nd, rfl⟩⟩) | (go_at_call 28; (with_reducible refine (gf_Pow.calls k a1 2 t133 _ A22.out).mono ?_); rintro e w' ⟨rfl, ⟨nd, rfl⟩⟩) | (go_at_call 25; (with_reducible refine (gf_Add.calls t132 t133 t134 _ A23.out).mono ?_); rintro e w' ⟨rfl, ⟨nd, rfl⟩⟩))
          go_meet
          case rel => exact ⟨_, ((t131 != t134)), (by first | rfl | (simp; done) | (simp [*]; done)), H', ⟨by first | omega | exact Nat.le_refl _⟩, by repeat (first | exact Drawn0.refl _ | apply Drawn0.step)⟩
        · rw [if_neg c18] at H
          have c18b0 : (t128 == t129) = false := beq_eq_false_iff_ne.mpr c18
          have c18b1 : (t128 != t129) = true := bne_iff_ne.mpr c18
          have H' := Aside0.mk H
          clear H
          go_wp2_with (first | (go_at_call 28; (with_reducible refine (gf_Pow.calls k a0 (wrap64 (a2)) t126 _ A14.out).mono ?_); rintro e w' ⟨rfl, ⟨nd, rfl⟩⟩) | (go_at_call 28; (with_reducible refine (gf_Pow.calls k a0 (wrap64 (a3)) t127 _ A15.out).mono ?_); rintro e w' ⟨rfl, ⟨nd, rfl⟩⟩) | (go_at_call 26; (with_reducible refine (gf_Mul.calls k t126 t127 t128 _ A16.out).mono ?_); rintro e w' ⟨rfl, ⟨nd, rfl⟩⟩) | (go_at_call 28; (with_reducible refine (gf_Pow.calls k a0 (wrap64 ((wrap64 (a2)) + (wrap64 (a3)))) t129 _ A17.out).mono ?_); rintro e w' ⟨rfl, ⟨nd, rfl⟩⟩))
          go_meet
          case rel => exact ⟨_, (true), (by first | rfl | (simp; done) | (simp [*]; done)), H', ⟨by first | omega | exact Nat.le_refl _⟩, by repeat (first | exact Drawn0.refl _ | apply Drawn0.step)⟩
    case rest =>
      clear HC7
      try clear c1
      try clear c2
      try clear p2
      try clear c6
      try clear p6
      try clear c8
      try clear c8b0
      try clear c8b1
      try clear c18
      try clear c18b0
      try clear c18b1
      try clear c20
      obtain ⟨kq, x49_6, rfl, HA, HJ6, ⟨mc6, rfl⟩⟩ := hcut
      cases kq with
      | zero => exact absurd HA.out (by simp [wristbandlaw07_GfPowers.j0])
      | succ kj6 =>
        have H := HA.out
        clear HA
        simp only [wristbandlaw07_GfPowers.j0] at H
        by_cases c24 : x49_6 = true
        · subst c24
          have H1 : (some false) = some r := by rw [if_pos rfl] at H; exact H
          clear H
          have H := H1
          clear H1
          obtain rfl := Option.some.inj H
          go_wp2
          go_ret
          exact ⟨by first | rfl | (simp; done) | (simp [*]; done), by repeat (first | exact Drawn0.refl _ | apply Drawn0.step)⟩
        · replace c24 := Bool.eq_false_iff.mpr c24
          subst c24
          have H1 : ((gf_Log.f kj6 a0).bind fun bt135 => ((gf_Log.f kj6 a1).bind fun bt137 => (if bt135.2 = 0 then (wristbandlaw07_GfPowers.j1 kj6 a0 a1 bt135.1 bt137.1 (bt137.2 != 0)) else (wristbandlaw07_GfPowers.j1 kj6 a0 a1 bt135.1 bt137.1 true)))) = some r := by rw [if_neg (show ¬ (false = true) by decide)] at H; exact H
          clear H
          have H := H1
          clear H1
          replace H := Option.bind_eq_some_iff.mp H
          obtain ⟨⟨t135, t136⟩, A250, H⟩ := H
          replace H : ((gf_Log.f kj6 a1).bind fun bt137 => (if t136 = 0 then (wristbandlaw07_GfPowers.j1 kj6 a0 a1 t135 bt137.1 (bt137.2 != 0)) else (wristbandlaw07_GfPowers.j1 kj6 a0 a1 t135 bt137.1 true))) = some r := H
          have A25 := Aside0.mk A250
          clear A250
          replace H := Option.bind_eq_some_iff.mp H
          obtain ⟨⟨t137, t138⟩, A260, H⟩ := H
          replace H : (if t136 = 0 then (wristbandlaw07_GfPowers.j1 kj6 a0 a1 t135 t137 (t138 != 0)) else (wristbandlaw07_GfPowers.j1 kj6 a0 a1 t135 t137 true)) = some r := H
          have A26 := Aside0.mk A260
          clear A260
          have HC27 := Aside0.mk H
          clear H
          go_upto_region 7 with (first | ((with_reducible refine gate_callee (f := 22) rfl ?_); refine goesL_ (some 52) rfl rfl Try.func22 (by kernel_rfl) rfl #[.int .u8 a0] rfl (by (try simp only [List.map_toArray, List.map_cons, List.map_nil]); first | done | rfl | (simp only [List.length_drop, List.length_take]; rfl)) ?_; (with_reducible refine (gf_Log.calls kj6 a0 t135 t136 _ A25.out).mono ?_); rintro e w' ⟨rfl, ⟨nd, rfl⟩⟩; refine ⟨_, rfl, ?_⟩) | ((with_reducible refine gate_callee (f := 22) rfl ?_); refine goesL_ (some 57) rfl rfl Try.func22 (by kernel_rfl) rfl #[.int .u8 a1] rfl (by (try simp only [List.map_toArray, List.map_cons, List.map_nil]); first | done | rfl | (simp only [List.length_drop, List.length_take]; rfl)) ?_; (with_reducible refine (gf_Log.calls kj6 a1 t137 t138 _ A26.out).mono ?_); rintro e w' ⟨rfl, ⟨nd, rfl⟩⟩; refine ⟨_, rfl, ?_⟩))
          (try simp only [Act.put, List.setIfInBounds_toArray, List.set_cons_zero, List.set_cons_succ])
          go_cut [65] (fun v65 wc => ∃ (kq : Nat) (x65_26 : Bool), v65 = .bool x65_26 ∧ Aside0 (wristbandlaw07_GfPowers.j1 kq a0 a1 t135 t137 x65_26 = some r) ∧ Aside0 (kq ≤ kj6) ∧ Drawn0 w wc)
          case first =>
            have H := HC27.out
            clear HC27
            by_cases c28 : t136 = 0
            · rw [if_pos c28] at H
              have c28b0 : (t136 == 0) = true := beq_iff_eq.mpr c28
              have c28b1 : (t136 != 0) = false := bne_eq_false_iff_eq.mpr c28
              clear c28
              (first | rw [c28b0] | (simp only [i64_w, i32_w]; rw [c28b0]) | skip)
              have H' := Aside0.mk H
              clear H
              go_wp2
              go_meet
              case rel => exact ⟨_, ((t138 != 0)), (by first | rfl | (simp; done) | (simp [*]; done)), H', ⟨by have := HJ6.out; first | omega | exact Nat.le_refl _⟩, by repeat (first | exact Drawn0.refl _ | apply Drawn0.step)⟩
            · rw [if_neg c28] at H
              have c28b0 : (t136 == 0) = false := beq_eq_false_iff_ne.mpr c28
              have c28b1 : (t136 != 0) = true := bne_iff_ne.mpr c28
              (first | rw [c28b0] | (simp only [i64_w, i32_w]; rw [c28b0]) | skip)
              have H' := Aside0.mk H
              clear H
              go_wp2
              go_meet
              case rel => exact ⟨_, (true), (by first | rfl | (simp; done) | (simp [*]; done)), H', ⟨by have := HJ6.out; first | omega | exact Nat.le_refl _⟩, by repeat (first | exact Drawn0.refl _ | apply Drawn0.step)⟩
          case rest =>
            clear HC27
            try clear c1
            try clear c2
            try clear p2
            try clear c6
            try clear p6
            try clear c8
            try clear c8b0
            try clear c8b1
            try clear c18
            try clear c18b0
            try clear c18b1
            try clear c20
            try clear c22
            try clear c24
            try clear c28
            try clear c28b0
            try clear c28b1
            try clear p2
            try clear p6
            obtain ⟨kq, x65_26, rfl, HA, HJ26, ⟨mc26, rfl⟩⟩ := hcut
            cases kq with
            | zero => exact absurd HA.out (by simp [wristbandlaw07_GfPowers.j1])
            | succ kj26 =>
              have H := HA.out
              clear HA
              simp only [wristbandlaw07_GfPowers.j1] at H
              by_cases c29 : x65_26 = true
              · subst c29
                have H1 : (if a0 = 0 then (some true) else (some (a1 == 0))) = some r := by rw [if_pos rfl] at H; exact H
                clear H
                have H := H1
                clear H1
                by_cases c30 : a0 = 0
                · rw [if_pos c30] at H
                  have c30b0 : (a0 == 0) = true := beq_iff_eq.mpr c30
                  have c30b1 : (a0 != 0) = false := bne_eq_false_iff_eq.mpr c30
                  clear c30
                  obtain rfl := Option.some.inj H
                  go_wp2
                  go_ret
                  exact ⟨by first | rfl | (simp; done) | (simp [*]; done), by repeat (first | exact Drawn0.refl _ | apply Drawn0.step)⟩
                · rw [if_neg c30] at H
                  have c30b0 : (a0 == 0) = false := beq_eq_false_iff_ne.mpr c30
                  have c30b1 : (a0 != 0) = true := bne_iff_ne.mpr c30
                  obtain rfl := Option.some.inj H
                  go_wp2
                  go_ret
                  exact ⟨by first | rfl | (simp; done) | (simp [*]; done), by repeat (first | exact Drawn0.refl _ | apply Drawn0.step)⟩
              · replace c29 := Bool.eq_false_iff.mpr c29
                subst c29
                have H1 : ((gf_Mul.f kj26 a0 a1).bind fun t139 => ((gf_Log.f kj26 t139).bind fun bt140 => (if bt140.2 = 0 then ((gf_Exp.f kj26 t135).bind fun t142 => (if t142 = a0 then (if t135 ≥ 0 then (if t135 < 255 then (some (bt140.1 == (Int.tmod (wrap64 (t135 + t137)) 255))) else (some false)) else (some false)) else (some false))) else (some false)))) = some r := by rw [if_neg (show ¬ (false = true) by decide)] at H; exact H
                clear H
                have H := H1
                clear H1
                replace H := Option.bind_eq_some_iff.mp H
                obtain ⟨t139, A310, H⟩ := H
                replace H : ((gf_Log.f kj26 t139).bind fun bt140 => (if bt140.2 = 0 then ((gf_Exp.f kj26 t135).bind fun t142 => (if t142 = a0 then (if t135 ≥ 0 then (if t135 < 255 then (some (bt140.1 == (Int.tmod (wrap64 (t135 + t137)) 255))) else (some false)) else (some false)) else (some false))) else (some false))) = some r := H
                have A31 := Aside0.mk A310
                clear A310
                replace H := Option.bind_eq_some_iff.mp H
                obtain ⟨⟨t140, t141⟩, A320, H⟩ := H
                replace H : (if t141 = 0 then ((gf_Exp.f kj26 t135).bind fun t142 => (if t142 = a0 then (if t135 ≥ 0 then (if t135 < 255 then (some (t140 == (Int.tmod (wrap64 (t135 + t137)) 255))) else (some false)) else (some false)) else (some false))) else (some false)) = some r := H
                have A32 := Aside0.mk A320
                clear A320
                by_cases c33 : t141 = 0
                · rw [if_pos c33] at H
                  have c33b0 : (t141 == 0) = true := beq_iff_eq.mpr c33
                  have c33b1 : (t141 != 0) = false := bne_eq_false_iff_eq.mpr c33
                  clear c33
                  replace H := Option.bind_eq_some_iff.mp H
                  obtain ⟨t142, A340, H⟩ := H
                  replace H : (if t142 = a0 then (if t135 ≥ 0 then (if t135 < 255 then (some (t140 == (Int.tmod (wrap64 (t135 + t137)) 255))) else (some false)) else (some false)) else (some false)) = some r := H
                  have A34 := Aside0.mk A340
                  clear A340
                  by_cases c35 : t142 = a0
                  · rw [if_pos c35] at H
                    have c35b0 : (t142 == a0) = true := beq_iff_eq.mpr c35
                    have c35b1 : (t142 != a0) = false := bne_eq_false_iff_eq.mpr c35
                    clear c35
                    by_cases c36 : t135 ≥ 0
                    · rw [if_pos c36] at H
                      have c36b0 : decide (0 ≤ t135) = true := decide_eq_true c36
                      clear c36
                      by_cases c37 : t135 < 255
                      · rw [if_pos c37] at H
                        have c37b0 : decide (t135 < 255) = true := decide_eq_true c37
                        clear c37
                        obtain rfl := Option.some.inj H
                        go_wp2_with (first | ((with_reducible refine gate_callee (f := 26) rfl ?_); refine goesL_ (some 75) rfl rfl Try.func26 (by kernel_rfl) rfl #[.int .u8 a0, .int .u8 a1] rfl (by (try simp only [List.map_toArray, List.map_cons, List.map_nil]); first | done | rfl | (simp only [List.length_drop, List.length_take]; rfl)) ?_; (with_reducible refine (gf_Mul.calls kj26 a0 a1 t139 _ A31.out).mono ?_); rintro e w' ⟨rfl, ⟨nd, rfl⟩⟩; refine ⟨_, rfl, ?_⟩) | ((with_reducible refine gate_callee (f := 22) rfl ?_); refine goesL_ (some 76) rfl rfl Try.func22 (by kernel_rfl) rfl #[.int .u8 t139] rfl (by (try simp only [List.map_toArray, List.map_cons, List.map_nil]); first | done | rfl | (simp only [List.length_drop, List.length_take]; rfl)) ?_; (with_reducible refine (gf_Log.calls kj26 t139 t140 t141 _ A32.out).mono ?_); rintro e w' ⟨rfl, ⟨nd, rfl⟩⟩; refine ⟨_, rfl, ?_⟩) | (go_at_call 30; (with_reducible refine (gf_Exp.calls kj26 t135 t142 _ A34.out).mono ?_); rintro e w' ⟨rfl, ⟨nd, rfl⟩⟩))
                        go_ret
                        exact ⟨by first | rfl | (simp; done) | (simp [*]; done), by repeat (first | exact Drawn0.refl _ | apply Drawn0.step)⟩
                      · rw [if_neg c37] at H
                        have c37b0 : decide (t135 < 255) = false := decide_eq_false c37
                        clear c37
                        obtain rfl := Option.some.inj H
                        go_wp2_with (first | ((with_reducible refine gate_callee (f := 26) rfl ?_); refine goesL_ (some 75) rfl rfl Try.func26 (by kernel_rfl) rfl #[.int .u8 a0, .int .u8 a1] rfl (by (try simp only [List.map_toArray, List.map_cons, List.map_nil]); first | done | rfl | (simp only [List.length_drop, List.length_take]; rfl)) ?_; (with_reducible refine (gf_Mul.calls kj26 a0 a1 t139 _ A31.out).mono ?_); rintro e w' ⟨rfl, ⟨nd, rfl⟩⟩; refine ⟨_, rfl, ?_⟩) | ((with_reducible refine gate_callee (f := 22) rfl ?_); refine goesL_ (some 76) rfl rfl Try.func22 (by kernel_rfl) rfl #[.int .u8 t139] rfl (by (try simp only [List.map_toArray, List.map_cons, List.map_nil]); first | done | rfl | (simp only [List.length_drop, List.length_take]; rfl)) ?_; (with_reducible refine (gf_Log.calls kj26 t139 t140 t141 _ A32.out).mono ?_); rintro e w' ⟨rfl, ⟨nd, rfl⟩⟩; refine ⟨_, rfl, ?_⟩) | (go_at_call 30; (with_reducible refine (gf_Exp.calls kj26 t135 t142 _ A34.out).mono ?_); rintro e w' ⟨rfl, ⟨nd, rfl⟩⟩))
                        go_ret
                        exact ⟨by first | rfl | (simp; done) | (simp [*]; done), by repeat (first | exact Drawn0.refl _ | apply Drawn0.step)⟩
                    · rw [if_neg c36] at H
                      have c36b0 : decide (0 ≤ t135) = false := decide_eq_false c36
                      clear c36
                      obtain rfl := Option.some.inj H
                      go_wp2_with (first | ((with_reducible refine gate_callee (f := 26) rfl ?_); refine goesL_ (some 75) rfl rfl Try.func26 (by kernel_rfl) rfl #[.int .u8 a0, .int .u8 a1] rfl (by (try simp only [List.map_toArray, List.map_cons, List.map_nil]); first | done | rfl | (simp only [List.length_drop, List.length_take]; rfl)) ?_; (with_reducible refine (gf_Mul.calls kj26 a0 a1 t139 _ A31.out).mono ?_); rintro e w' ⟨rfl, ⟨nd, rfl⟩⟩; refine ⟨_, rfl, ?_⟩) | ((with_reducible refine gate_callee (f := 22) rfl ?_); refine goesL_ (some 76) rfl rfl Try.func22 (by kernel_rfl) rfl #[.int .u8 t139] rfl (by (try simp only [List.map_toArray, List.map_cons, List.map_nil]); first | done | rfl | (simp only [List.length_drop, List.length_take]; rfl)) ?_; (with_reducible refine (gf_Log.calls kj26 t139 t140 t141 _ A32.out).mono ?_); rintro e w' ⟨rfl, ⟨nd, rfl⟩⟩; refine ⟨_, rfl, ?_⟩) | (go_at_call 30; (with_reducible refine (gf_Exp.calls kj26 t135 t142 _ A34.out).mono ?_); rintro e w' ⟨rfl, ⟨nd, rfl⟩⟩))
                      go_ret
                      exact ⟨by first | rfl | (simp; done) | (simp [*]; done), by repeat (first | exact Drawn0.refl _ | apply Drawn0.step)⟩
                  · rw [if_neg c35] at H
                    have c35b0 : (t142 == a0) = false := beq_eq_false_iff_ne.mpr c35
                    have c35b1 : (t142 != a0) = true := bne_iff_ne.mpr c35
                    obtain rfl := Option.some.inj H
                    go_wp2_with (first | ((with_reducible refine gate_callee (f := 26) rfl ?_); refine goesL_ (some 75) rfl rfl Try.func26 (by kernel_rfl) rfl #[.int .u8 a0, .int .u8 a1] rfl (by (try simp only [List.map_toArray, List.map_cons, List.map_nil]); first | done | rfl | (simp only [List.length_drop, List.length_take]; rfl)) ?_; (with_reducible refine (gf_Mul.calls kj26 a0 a1 t139 _ A31.out).mono ?_); rintro e w' ⟨rfl, ⟨nd, rfl⟩⟩; refine ⟨_, rfl, ?_⟩) | ((with_reducible refine gate_callee (f := 22) rfl ?_); refine goesL_ (some 76) rfl rfl Try.func22 (by kernel_rfl) rfl #[.int .u8 t139] rfl (by (try simp only [List.map_toArray, List.map_cons, List.map_nil]); first | done | rfl | (simp only [List.length_drop, List.length_take]; rfl)) ?_; (with_reducible refine (gf_Log.calls kj26 t139 t140 t141 _ A32.out).mono ?_); rintro e w' ⟨rfl, ⟨nd, rfl⟩⟩; refine ⟨_, rfl, ?_⟩) | (go_at_call 30; (with_reducible refine (gf_Exp.calls kj26 t135 t142 _ A34.out).mono ?_); rintro e w' ⟨rfl, ⟨nd, rfl⟩⟩))
                    go_ret
                    exact ⟨by first | rfl | (simp; done) | (simp [*]; done), by repeat (first | exact Drawn0.refl _ | apply Drawn0.step)⟩
                · rw [if_neg c33] at H
                  have c33b0 : (t141 == 0) = false := beq_eq_false_iff_ne.mpr c33
                  have c33b1 : (t141 != 0) = true := bne_iff_ne.mpr c33
                  obtain rfl := Option.some.inj H
                  go_wp2_with (first | ((with_reducible refine gate_callee (f := 26) rfl ?_); refine goesL_ (some 75) rfl rfl Try.func26 (by kernel_rfl) rfl #[.int .u8 a0, .int .u8 a1] rfl (by (try simp only [List.map_toArray, List.map_cons, List.map_nil]); first | done | rfl | (simp only [List.length_drop, List.length_take]; rfl)) ?_; (with_reducible refine (gf_Mul.calls kj26 a0 a1 t139 _ A31.out).mono ?_); rintro e w' ⟨rfl, ⟨nd, rfl⟩⟩; refine ⟨_, rfl, ?_⟩) | ((with_reducible refine gate_callee (f := 22) rfl ?_); refine goesL_ (some 76) rfl rfl Try.func22 (by kernel_rfl) rfl #[.int .u8 t139] rfl (by (try simp only [List.map_toArray, List.map_cons, List.map_nil]); first | done | rfl | (simp only [List.length_drop, List.length_take]; rfl)) ?_; (with_reducible refine (gf_Log.calls kj26 t139 t140 t141 _ A32.out).mono ?_); rintro e w' ⟨rfl, ⟨nd, rfl⟩⟩; refine ⟨_, rfl, ?_⟩))
                  go_ret
                  exact ⟨by first | rfl | (simp; done) | (simp [*]; done), by repeat (first | exact Drawn0.refl _ | apply Drawn0.step)⟩
  · replace c6 := Bool.eq_false_iff.mpr c6
    subst c6
    have H1 : (some false) = some r := by rw [if_neg (show ¬ (false = true) by decide)] at H; exact H
    clear H
    have H := H1
    clear H1
    obtain rfl := Option.some.inj H
    go_enter Try.func8, Try.ntmps8
    go_wp2_with (first | ((with_reducible refine gate_callee (f := 20) rfl ?_); refine goesL_ (some 15) rfl rfl Try.func20 (by kernel_rfl) rfl #[] rfl (by (try simp only [List.map_toArray, List.map_cons, List.map_nil]); first | done | rfl | (simp only [List.length_drop, List.length_take]; rfl)) ?_; (with_reducible refine (wristbandlaw07_awake.calls k  false _ A5.out).mono ?_); rintro e w' ⟨rfl, ⟨nd, rfl⟩⟩; refine ⟨_, rfl, ?_⟩))
    go_ret
    exact ⟨by first | rfl | (simp; done) | (simp [*]; done), by repeat (first | exact Drawn0.refl _ | apply Drawn0.step)⟩

/-- THE ONE PURE STATEMENT of wristbandlaw07_GfPowers: yours. -/
def wristbandlaw07_GfPowers.Pure : Prop := ∀ (a0 : Int) (a1 : Int) (a2 : Int) (a3 : Int), (Lit.int .u8 a0).wf = true → (Lit.int .u8 a1).wf = true → (Lit.int .i16 a2).wf = true → (Lit.int .i16 a3).wf = true → ∃ k, wristbandlaw07_GfPowers.f k a0 a1 a2 a3 = some true
theorem wristbandlaw07_GfPowers.walk (P : wristbandlaw07_GfPowers.Pure) (a0 : Int) (a1 : Int) (a2 : Int) (a3 : Int) (w : World) (w0 : (Lit.int .u8 a0).wf = true) (w1 : (Lit.int .u8 a1).wf = true) (w2 : (Lit.int .i16 a2).wf = true) (w3 : (Lit.int .i16 a3).wf = true) :
    Calls Try.prog 8 #[.int .u8 a0, .int .u8 a1, .int .i16 a2, .int .i16 a3] w fun e w' => e = .returned (.bool true) ∧ Below w.heap.size w w' := by
  obtain ⟨k, h⟩ := P a0 a1 a2 a3 w0 w1 w2 w3
  refine (wristbandlaw07_GfPowers.calls k a0 a1 a2 a3 true w h).mono ?_
  rintro e w' ⟨rfl, hd⟩
  exact ⟨rfl, hd.below⟩

end Go.Proofs.Ytofmhbhcpojglaa.PGfPowers
