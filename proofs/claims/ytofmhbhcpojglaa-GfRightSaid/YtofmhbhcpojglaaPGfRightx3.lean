-- PRINTED BY print.sh 35421559b90ae4d0a3588c463048766b98c2df88dd9212a6774a882060cdf62d: not written by this session
import Derived.Test.YtofmhbhcpojglaaPGfRightx0
import Derived.Test.YtofmhbhcpojglaaPGfRightx1
import Derived.Test.YtofmhbhcpojglaaPGfRightx2
namespace Go.Proofs.Ytofmhbhcpojglaa.PGfRight
open Go.RowKit Go.Proofs.YtofmhbhcpojglaaW.PrintWords Go.Proofs.YtofmhbhcpojglaaW.PrintLast Go.Proofs.YtofmhbhcpojglaaW.PrintMore
attribute [local go_sem] max2_int min2_int max_two min_two max_three min_three max_four min_four   -- for this text's walks alone
set_option linter.unusedVariables false
set_option linter.unusedSimpArgs false

/-! ### wristbandlaw07_GfRight: function 6 -/
def wristbandlaw07_GfRight.j0 : Nat → Int → Int → Int → Bool → Option (Bool)
  | 0, _, _, _, _ => none
  | k + 1, x0, x1, x2, x66 => if x66 = true then (some false) else ((gf_Add.f x0 x1).bind fun t135 => (if t135 = (Go.bits .xor .u8 x0 x1) then ((gf_Mul.f k x0 x1).bind fun t136 => ((wristbandref07_Mul.f k x0 x1).bind fun t137 => (if t136 = t137 then ((gf_Pow.f k x0 x2).bind fun t138 => ((wristbandref07_Pow.f k x0 x2).bind fun t139 => (if t138 = t139 then ((gf_Exp.f k x2).bind fun t140 => ((wristbandref07_Exp.f k x2).bind fun t141 => (some (t140 == t141)))) else (some false)))) else (some false)))) else (some false)))
def wristbandlaw07_GfRight.f (k : Nat) (a0 : Int) (a1 : Int) (a2 : Int) : Option (Bool) := (wristbandlaw07_awake.f k).bind fun t128 => (if t128 = true then ((gf_Inv.f k a0).bind fun bt129 => ((gf_Log.f k a0).bind fun bt131 => ((wristbandref07_Log.f k a0).bind fun t133 => (if a0 = 0 then (if bt129.2 = 1 then (if bt131.2 = 1 then (if bt129.1 = 0 then (if bt131.1 = 0 then (wristbandlaw07_GfRight.j0 k a0 a1 a2 false) else (wristbandlaw07_GfRight.j0 k a0 a1 a2 true)) else (wristbandlaw07_GfRight.j0 k a0 a1 a2 true)) else (wristbandlaw07_GfRight.j0 k a0 a1 a2 true)) else (wristbandlaw07_GfRight.j0 k a0 a1 a2 true)) else (if bt129.2 = 0 then (if bt131.2 = 0 then ((wristbandref07_Inv.f k a0).bind fun t134 => (if bt129.1 = t134 then (wristbandlaw07_GfRight.j0 k a0 a1 a2 (bt131.1 != t133)) else (wristbandlaw07_GfRight.j0 k a0 a1 a2 true))) else (wristbandlaw07_GfRight.j0 k a0 a1 a2 true)) else (wristbandlaw07_GfRight.j0 k a0 a1 a2 true)))))) else (some false))
theorem wristbandlaw07_GfRight.mono_l : ∀ k, (∀ y0 y1 y2 y3, LeO (wristbandlaw07_GfRight.j0 k y0 y1 y2 y3) (wristbandlaw07_GfRight.j0 (k + 1) y0 y1 y2 y3))
  | 0 => fun _ _ _ _ r h => by simp [wristbandlaw07_GfRight.j0] at h
  | k + 1 => by
    have ih0 := wristbandlaw07_GfRight.mono_l k
    · intro y0 y1 y2 y3
      unfold wristbandlaw07_GfRight.j0
      repeat' first
      | (with_reducible exact ih0 _ _ _ _)
      | (with_reducible exact gf_Exp.mono _ _)
      | (with_reducible exact gf_Inv.mono _ _)
      | (with_reducible exact gf_Log.mono _ _)
      | (with_reducible exact gf_Mul.mono _ _ _)
      | (with_reducible exact gf_Pow.mono _ _ _)
      | (with_reducible exact wristbandlaw07_awake.mono _)
      | (with_reducible exact wristbandref07_Exp.mono _ _)
      | (with_reducible exact wristbandref07_Inv.mono _ _)
      | (with_reducible exact wristbandref07_Log.mono _ _)
      | (with_reducible exact wristbandref07_Mul.mono _ _ _)
      | (with_reducible exact wristbandref07_Pow.mono _ _ _)
      | (with_reducible exact LeO.refl _)
      | (with_reducible exact LeO.none _)
      | (with_reducible refine LeO.ite ?_ ?_)
      | (with_reducible refine LeO.bind ?_ (fun _ => ?_))
      | exact ih0 _ _ _ _
      | exact gf_Exp.mono _ _
      | exact gf_Inv.mono _ _
      | exact gf_Log.mono _ _
      | exact gf_Mul.mono _ _ _
      | exact gf_Pow.mono _ _ _
      | exact wristbandlaw07_awake.mono _
      | exact wristbandref07_Exp.mono _ _
      | exact wristbandref07_Inv.mono _ _
      | exact wristbandref07_Log.mono _ _
      | exact wristbandref07_Mul.mono _ _ _
      | exact wristbandref07_Pow.mono _ _ _
      | exact LeO.none _
      | refine LeO.ite ?_ ?_
      | refine LeO.bind ?_ (fun _ => ?_)
theorem wristbandlaw07_GfRight.mono : ∀ a0 a1 a2 k, LeO (wristbandlaw07_GfRight.f k a0 a1 a2) (wristbandlaw07_GfRight.f (k + 1) a0 a1 a2) := by
  intro a0 a1 a2 k
  have ih0 := wristbandlaw07_GfRight.mono_l k
  unfold wristbandlaw07_GfRight.f
  repeat' first
      | (with_reducible exact ih0 _ _ _ _)
      | (with_reducible exact gf_Exp.mono _ _)
      | (with_reducible exact gf_Inv.mono _ _)
      | (with_reducible exact gf_Log.mono _ _)
      | (with_reducible exact gf_Mul.mono _ _ _)
      | (with_reducible exact gf_Pow.mono _ _ _)
      | (with_reducible exact wristbandlaw07_awake.mono _)
      | (with_reducible exact wristbandref07_Exp.mono _ _)
      | (with_reducible exact wristbandref07_Inv.mono _ _)
      | (with_reducible exact wristbandref07_Log.mono _ _)
      | (with_reducible exact wristbandref07_Mul.mono _ _ _)
      | (with_reducible exact wristbandref07_Pow.mono _ _ _)
      | (with_reducible exact LeO.refl _)
      | (with_reducible exact LeO.none _)
      | (with_reducible refine LeO.ite ?_ ?_)
      | (with_reducible refine LeO.bind ?_ (fun _ => ?_))
      | exact ih0 _ _ _ _
      | exact gf_Exp.mono _ _
      | exact gf_Inv.mono _ _
      | exact gf_Log.mono _ _
      | exact gf_Mul.mono _ _ _
      | exact gf_Pow.mono _ _ _
      | exact wristbandlaw07_awake.mono _
      | exact wristbandref07_Exp.mono _ _
      | exact wristbandref07_Inv.mono _ _
      | exact wristbandref07_Log.mono _ _
      | exact wristbandref07_Mul.mono _ _ _
      | exact wristbandref07_Pow.mono _ _ _
      | exact LeO.none _
      | refine LeO.ite ?_ ?_
      | refine LeO.bind ?_ (fun _ => ?_)
set_option maxHeartbeats 8000000 in
set_option maxRecDepth 100000 in
theorem wristbandlaw07_GfRight.calls (k : Nat) (a0 : Int) (a1 : Int) (a2 : Int) (r : Bool) (w : World) (h : wristbandlaw07_GfRight.f k a0 a1 a2 = some r) :
    Calls Try.prog 6 #[.int .u8 a0, .int .u8 a1, .int .i64 a2] w fun e w' => e = .returned (.bool r) ∧ Drawn0 w w' := by
  have H : ((wristbandlaw07_awake.f k).bind fun t128 => (if t128 = true then ((gf_Inv.f k a0).bind fun bt129 => ((gf_Log.f k a0).bind fun bt131 => ((wristbandref07_Log.f k a0).bind fun t133 => (if a0 = 0 then (if bt129.2 = 1 then (if bt131.2 = 1 then (if bt129.1 = 0 then (if bt131.1 = 0 then (wristbandlaw07_GfRight.j0 k a0 a1 a2 false) else (wristbandlaw07_GfRight.j0 k a0 a1 a2 true)) else (wristbandlaw07_GfRight.j0 k a0 a1 a2 true)) else (wristbandlaw07_GfRight.j0 k a0 a1 a2 true)) else (wristbandlaw07_GfRight.j0 k a0 a1 a2 true)) else (if bt129.2 = 0 then (if bt131.2 = 0 then ((wristbandref07_Inv.f k a0).bind fun t134 => (if bt129.1 = t134 then (wristbandlaw07_GfRight.j0 k a0 a1 a2 (bt131.1 != t133)) else (wristbandlaw07_GfRight.j0 k a0 a1 a2 true))) else (wristbandlaw07_GfRight.j0 k a0 a1 a2 true)) else (wristbandlaw07_GfRight.j0 k a0 a1 a2 true)))))) else (some false))) = some r := h
  clear h
  replace H := Option.bind_eq_some_iff.mp H
  obtain ⟨t128, A40, H⟩ := H
  replace H : (if t128 = true then ((gf_Inv.f k a0).bind fun bt129 => ((gf_Log.f k a0).bind fun bt131 => ((wristbandref07_Log.f k a0).bind fun t133 => (if a0 = 0 then (if bt129.2 = 1 then (if bt131.2 = 1 then (if bt129.1 = 0 then (if bt131.1 = 0 then (wristbandlaw07_GfRight.j0 k a0 a1 a2 false) else (wristbandlaw07_GfRight.j0 k a0 a1 a2 true)) else (wristbandlaw07_GfRight.j0 k a0 a1 a2 true)) else (wristbandlaw07_GfRight.j0 k a0 a1 a2 true)) else (wristbandlaw07_GfRight.j0 k a0 a1 a2 true)) else (if bt129.2 = 0 then (if bt131.2 = 0 then ((wristbandref07_Inv.f k a0).bind fun t134 => (if bt129.1 = t134 then (wristbandlaw07_GfRight.j0 k a0 a1 a2 (bt131.1 != t133)) else (wristbandlaw07_GfRight.j0 k a0 a1 a2 true))) else (wristbandlaw07_GfRight.j0 k a0 a1 a2 true)) else (wristbandlaw07_GfRight.j0 k a0 a1 a2 true)))))) else (some false)) = some r := H
  have A4 := Aside0.mk A40
  clear A40
  by_cases c5 : t128 = true
  · subst c5
    have H1 : ((gf_Inv.f k a0).bind fun bt129 => ((gf_Log.f k a0).bind fun bt131 => ((wristbandref07_Log.f k a0).bind fun t133 => (if a0 = 0 then (if bt129.2 = 1 then (if bt131.2 = 1 then (if bt129.1 = 0 then (if bt131.1 = 0 then (wristbandlaw07_GfRight.j0 k a0 a1 a2 false) else (wristbandlaw07_GfRight.j0 k a0 a1 a2 true)) else (wristbandlaw07_GfRight.j0 k a0 a1 a2 true)) else (wristbandlaw07_GfRight.j0 k a0 a1 a2 true)) else (wristbandlaw07_GfRight.j0 k a0 a1 a2 true)) else (if bt129.2 = 0 then (if bt131.2 = 0 then ((wristbandref07_Inv.f k a0).bind fun t134 => (if bt129.1 = t134 then (wristbandlaw07_GfRight.j0 k a0 a1 a2 (bt131.1 != t133)) else (wristbandlaw07_GfRight.j0 k a0 a1 a2 true))) else (wristbandlaw07_GfRight.j0 k a0 a1 a2 true)) else (wristbandlaw07_GfRight.j0 k a0 a1 a2 true)))))) = some r := by rw [if_pos rfl] at H; exact H
    clear H
    have H := H1
    clear H1
    replace H := Option.bind_eq_some_iff.mp H
    obtain ⟨⟨t129, t130⟩, A60, H⟩ := H
    replace H : ((gf_Log.f k a0).bind fun bt131 => ((wristbandref07_Log.f k a0).bind fun t133 => (if a0 = 0 then (if t130 = 1 then (if bt131.2 = 1 then (if t129 = 0 then (if bt131.1 = 0 then (wristbandlaw07_GfRight.j0 k a0 a1 a2 false) else (wristbandlaw07_GfRight.j0 k a0 a1 a2 true)) else (wristbandlaw07_GfRight.j0 k a0 a1 a2 true)) else (wristbandlaw07_GfRight.j0 k a0 a1 a2 true)) else (wristbandlaw07_GfRight.j0 k a0 a1 a2 true)) else (if t130 = 0 then (if bt131.2 = 0 then ((wristbandref07_Inv.f k a0).bind fun t134 => (if t129 = t134 then (wristbandlaw07_GfRight.j0 k a0 a1 a2 (bt131.1 != t133)) else (wristbandlaw07_GfRight.j0 k a0 a1 a2 true))) else (wristbandlaw07_GfRight.j0 k a0 a1 a2 true)) else (wristbandlaw07_GfRight.j0 k a0 a1 a2 true))))) = some r := H
    have A6 := Aside0.mk A60
    clear A60
    replace H := Option.bind_eq_some_iff.mp H
    obtain ⟨⟨t131, t132⟩, A70, H⟩ := H
    replace H : ((wristbandref07_Log.f k a0).bind fun t133 => (if a0 = 0 then (if t130 = 1 then (if t132 = 1 then (if t129 = 0 then (if t131 = 0 then (wristbandlaw07_GfRight.j0 k a0 a1 a2 false) else (wristbandlaw07_GfRight.j0 k a0 a1 a2 true)) else (wristbandlaw07_GfRight.j0 k a0 a1 a2 true)) else (wristbandlaw07_GfRight.j0 k a0 a1 a2 true)) else (wristbandlaw07_GfRight.j0 k a0 a1 a2 true)) else (if t130 = 0 then (if t132 = 0 then ((wristbandref07_Inv.f k a0).bind fun t134 => (if t129 = t134 then (wristbandlaw07_GfRight.j0 k a0 a1 a2 (t131 != t133)) else (wristbandlaw07_GfRight.j0 k a0 a1 a2 true))) else (wristbandlaw07_GfRight.j0 k a0 a1 a2 true)) else (wristbandlaw07_GfRight.j0 k a0 a1 a2 true)))) = some r := H
    have A7 := Aside0.mk A70
    clear A70
    replace H := Option.bind_eq_some_iff.mp H
    obtain ⟨t133, A80, H⟩ := H
    replace H : (if a0 = 0 then (if t130 = 1 then (if t132 = 1 then (if t129 = 0 then (if t131 = 0 then (wristbandlaw07_GfRight.j0 k a0 a1 a2 false) else (wristbandlaw07_GfRight.j0 k a0 a1 a2 true)) else (wristbandlaw07_GfRight.j0 k a0 a1 a2 true)) else (wristbandlaw07_GfRight.j0 k a0 a1 a2 true)) else (wristbandlaw07_GfRight.j0 k a0 a1 a2 true)) else (if t130 = 0 then (if t132 = 0 then ((wristbandref07_Inv.f k a0).bind fun t134 => (if t129 = t134 then (wristbandlaw07_GfRight.j0 k a0 a1 a2 (t131 != t133)) else (wristbandlaw07_GfRight.j0 k a0 a1 a2 true))) else (wristbandlaw07_GfRight.j0 k a0 a1 a2 true)) else (wristbandlaw07_GfRight.j0 k a0 a1 a2 true))) = some r := H
    have A8 := Aside0.mk A80
    clear A80
    have HC9 := Aside0.mk H
    clear H
    go_enter Try.func6, Try.ntmps6
    go_upto_region 6 with (first | ((with_reducible refine gate_callee (f := 20) rfl ?_); refine goesL_ (some 12) rfl rfl Try.func20 (by kernel_rfl) rfl #[] rfl (by (try simp only [List.map_toArray, List.map_cons, List.map_nil]); first | done | rfl | (simp only [List.length_drop, List.length_take]; rfl)) ?_; (with_reducible refine (wristbandlaw07_awake.calls k  true _ A4.out).mono ?_); rintro e w' ⟨rfl, ⟨nd, rfl⟩⟩; refine ⟨_, rfl, ?_⟩) | ((with_reducible refine gate_callee (f := 21) rfl ?_); refine goesL_ (some 16) rfl rfl Try.func21 (by kernel_rfl) rfl #[.int .u8 a0] rfl (by (try simp only [List.map_toArray, List.map_cons, List.map_nil]); first | done | rfl | (simp only [List.length_drop, List.length_take]; rfl)) ?_; (with_reducible refine (gf_Inv.calls k a0 t129 t130 _ A6.out).mono ?_); rintro e w' ⟨rfl, ⟨nd, rfl⟩⟩; refine ⟨_, rfl, ?_⟩) | ((with_reducible refine gate_callee (f := 22) rfl ?_); refine goesL_ (some 21) rfl rfl Try.func22 (by kernel_rfl) rfl #[.int .u8 a0] rfl (by (try simp only [List.map_toArray, List.map_cons, List.map_nil]); first | done | rfl | (simp only [List.length_drop, List.length_take]; rfl)) ?_; (with_reducible refine (gf_Log.calls k a0 t131 t132 _ A7.out).mono ?_); rintro e w' ⟨rfl, ⟨nd, rfl⟩⟩; refine ⟨_, rfl, ?_⟩) | ((with_reducible refine gate_callee (f := 23) rfl ?_); refine goesL_ (some 25) rfl rfl Try.func23 (by kernel_rfl) rfl #[.int .u8 a0] rfl (by (try simp only [List.map_toArray, List.map_cons, List.map_nil]); first | done | rfl | (simp only [List.length_drop, List.length_take]; rfl)) ?_; (with_reducible refine (wristbandref07_Log.calls k a0 t133 _ A8.out).mono ?_); rintro e w' ⟨rfl, ⟨nd, rfl⟩⟩; refine ⟨_, rfl, ?_⟩))
    (try simp only [Act.put, List.setIfInBounds_toArray, List.set_cons_zero, List.set_cons_succ])
    go_cut [66] (fun v66 wc => ∃ (kq : Nat) (x66_8 : Bool), v66 = .bool x66_8 ∧ Aside0 (wristbandlaw07_GfRight.j0 kq a0 a1 a2 x66_8 = some r) ∧ Aside0 (kq ≤ k) ∧ Drawn0 w wc)
    case first =>
      have H := HC9.out
      clear HC9
      by_cases c10 : a0 = 0
      · rw [if_pos c10] at H
        have c10b0 : (a0 == 0) = true := beq_iff_eq.mpr c10
        have c10b1 : (a0 != 0) = false := bne_eq_false_iff_eq.mpr c10
        clear c10
        (first | rw [c10b0] | (simp only [i64_w, i32_w]; rw [c10b0]) | skip)
        by_cases c11 : t130 = 1
        · rw [if_pos c11] at H
          have c11b0 : (t130 == 1) = true := beq_iff_eq.mpr c11
          have c11b1 : (t130 != 1) = false := bne_eq_false_iff_eq.mpr c11
          clear c11
          by_cases c12 : t132 = 1
          · rw [if_pos c12] at H
            have c12b0 : (t132 == 1) = true := beq_iff_eq.mpr c12
            have c12b1 : (t132 != 1) = false := bne_eq_false_iff_eq.mpr c12
            clear c12
            by_cases c13 : t129 = 0
            · rw [if_pos c13] at H
              have c13b0 : (t129 == 0) = true := beq_iff_eq.mpr c13
              have c13b1 : (t129 != 0) = false := bne_eq_false_iff_eq.mpr c13
              clear c13
              by_cases c14 : t131 = 0
              · rw [if_pos c14] at H
                have c14b0 : (t131 == 0) = true := beq_iff_eq.mpr c14
                have c14b1 : (t131 != 0) = false := bne_eq_false_iff_eq.mpr c14
                clear c14
                have H' := Aside0.mk H
                clear H
                go_wp2
                go_meet
                case rel => exact ⟨_, (false), (by first | rfl | (simp; done) | (simp [*]; done)), H', ⟨by first | omega | exact Nat.le_refl _⟩, by repeat (first | exact Drawn0.refl _ | apply Drawn0.step)⟩
              · rw [if_neg c14] at H
                have c14b0 : (t131 == 0) = false := beq_eq_false_iff_ne.mpr c14
                have c14b1 : (t131 != 0) = true := bne_iff_ne.mpr c14
                have H' := Aside0.mk H
                clear H
                go_wp2
                go_meet
                case rel => exact ⟨_, (true), (by first | rfl | (simp; done) | (simp [*]; done)), H', ⟨by first | omega | exact Nat.le_refl _⟩, by repeat (first | exact Drawn0.refl _ | apply Drawn0.step)⟩
            · rw [if_neg c13] at H
              have c13b0 : (t129 == 0) = false := beq_eq_false_iff_ne.mpr c13
              have c13b1 : (t129 != 0) = true := bne_iff_ne.mpr c13
              have H' := Aside0.mk H
              clear H
              go_wp2
              go_meet
              case rel => exact ⟨_, (true), (by first | rfl | (simp; done) | (simp [*]; done)), H', ⟨by first | omega | exact Nat.le_refl _⟩, by repeat (first | exact Drawn0.refl _ | apply Drawn0.step)⟩
          · rw [if_neg c12] at H
            have c12b0 : (t132 == 1) = false := beq_eq_false_iff_ne.mpr c12
            have c12b1 : (t132 != 1) = true := bne_iff_ne.mpr c12
            have H' := Aside0.mk H
            clear H
            go_wp2
            go_meet
            case rel => exact ⟨_, (true), (by first | rfl | (simp; done) | (simp [*]; done)), H', ⟨by first | omega | exact Nat.le_refl _⟩, by repeat (first | exact Drawn0.refl _ | apply Drawn0.step)⟩
        · rw [if_neg c11] at H
          have c11b0 : (t130 == 1) = false := beq_eq_false_iff_ne.mpr c11
          have c11b1 : (t130 != 1) = true := bne_iff_ne.mpr c11
          have H' := Aside0.mk H
          clear H
          go_wp2
          go_meet
          case rel => exact ⟨_, (true), (by first | rfl | (simp; done) | (simp [*]; done)), H', ⟨by first | omega | exact Nat.le_refl _⟩, by repeat (first | exact Drawn0.refl _ | apply Drawn0.step)⟩
      · rw [if_neg c10] at H
        have c10b0 : (a0 == 0) = false := beq_eq_false_iff_ne.mpr c10
        have c10b1 : (a0 != 0) = true := bne_iff_ne.mpr c10
        (first | rw [c10b0] | (simp only [i64_w, i32_w]; rw [c10b0]) | skip)
        by_cases c15 : t130 = 0
        · rw [if_pos c15] at H
          have c15b0 : (t130 == 0) = true := beq_iff_eq.mpr c15
          have c15b1 : (t130 != 0) = false := bne_eq_false_iff_eq.mpr c15
          clear c15
          by_cases c16 : t132 = 0
          · rw [if_pos c16] at H
            have c16b0 : (t132 == 0) = true := beq_iff_eq.mpr c16
            have c16b1 : (t132 != 0) = false := bne_eq_false_iff_eq.mpr c16
            clear c16
            replace H := Option.bind_eq_some_iff.mp H
            obtain ⟨t134, A170, H⟩ := H
            replace H : (if t129 = t134 then (wristbandlaw07_GfRight.j0 k a0 a1 a2 (t131 != t133)) else (wristbandlaw07_GfRight.j0 k a0 a1 a2 true)) = some r := H
            have A17 := Aside0.mk A170
            clear A170
            by_cases c18 : t129 = t134
            · rw [if_pos c18] at H
              have c18b0 : (t129 == t134) = true := beq_iff_eq.mpr c18
              have c18b1 : (t129 != t134) = false := bne_eq_false_iff_eq.mpr c18
              clear c18
              have H' := Aside0.mk H
              clear H
              go_wp2_with (first | (go_at_call 24; (with_reducible refine (wristbandref07_Inv.calls k a0 t134 _ A17.out).mono ?_); rintro e w' ⟨rfl, ⟨nd, rfl⟩⟩))
              go_meet
              case rel => exact ⟨_, ((t131 != t133)), (by first | rfl | (simp; done) | (simp [*]; done)), H', ⟨by first | omega | exact Nat.le_refl _⟩, by repeat (first | exact Drawn0.refl _ | apply Drawn0.step)⟩
            · rw [if_neg c18] at H
              have c18b0 : (t129 == t134) = false := beq_eq_false_iff_ne.mpr c18
              have c18b1 : (t129 != t134) = true := bne_iff_ne.mpr c18
              have H' := Aside0.mk H
              clear H
              go_wp2_with (first | (go_at_call 24; (with_reducible refine (wristbandref07_Inv.calls k a0 t134 _ A17.out).mono ?_); rintro e w' ⟨rfl, ⟨nd, rfl⟩⟩))
              go_meet
              case rel => exact ⟨_, (true), (by first | rfl | (simp; done) | (simp [*]; done)), H', ⟨by first | omega | exact Nat.le_refl _⟩, by repeat (first | exact Drawn0.refl _ | apply Drawn0.step)⟩
          · rw [if_neg c16] at H
            have c16b0 : (t132 == 0) = false := beq_eq_false_iff_ne.mpr c16
            have c16b1 : (t132 != 0) = true := bne_iff_ne.mpr c16
            have H' := Aside0.mk H
            clear H
            go_wp2
            go_meet
            case rel => exact ⟨_, (true), (by first | rfl | (simp; done) | (simp [*]; done)), H', ⟨by first | omega | exact Nat.le_refl _⟩, by repeat (first | exact Drawn0.refl _ | apply Drawn0.step)⟩
        · rw [if_neg c15] at H
          have c15b0 : (t130 == 0) = false := beq_eq_false_iff_ne.mpr c15
          have c15b1 : (t130 != 0) = true := bne_iff_ne.mpr c15
          have H' := Aside0.mk H
          clear H
          go_wp2
          go_meet
          case rel => exact ⟨_, (true), (by first | rfl | (simp; done) | (simp [*]; done)), H', ⟨by first | omega | exact Nat.le_refl _⟩, by repeat (first | exact Drawn0.refl _ | apply Drawn0.step)⟩
    case rest =>
      clear HC9
      try clear c1
      try clear c2
      try clear p2
      try clear c5
      try clear c6
      try clear c10
      try clear c10b0
      try clear c10b1
      try clear c11
      try clear c11b0
      try clear c11b1
      try clear c12
      try clear c12b0
      try clear c12b1
      try clear c13
      try clear c13b0
      try clear c13b1
      try clear c14
      try clear c14b0
      try clear c14b1
      try clear c15
      try clear c15b0
      try clear c15b1
      try clear c16
      try clear c16b0
      try clear c16b1
      try clear c18
      try clear c18b0
      try clear c18b1
      obtain ⟨kq, x66_8, rfl, HA, HJ8, ⟨mc8, rfl⟩⟩ := hcut
      cases kq with
      | zero => exact absurd HA.out (by simp [wristbandlaw07_GfRight.j0])
      | succ kj8 =>
        have H := HA.out
        clear HA
        simp only [wristbandlaw07_GfRight.j0] at H
        by_cases c19 : x66_8 = true
        · subst c19
          have H1 : (some false) = some r := by rw [if_pos rfl] at H; exact H
          clear H
          have H := H1
          clear H1
          obtain rfl := Option.some.inj H
          go_wp2
          go_ret
          exact ⟨by first | rfl | (simp; done) | (simp [*]; done), by repeat (first | exact Drawn0.refl _ | apply Drawn0.step)⟩
        · replace c19 := Bool.eq_false_iff.mpr c19
          subst c19
          have H1 : ((gf_Add.f a0 a1).bind fun t135 => (if t135 = (Go.bits .xor .u8 a0 a1) then ((gf_Mul.f kj8 a0 a1).bind fun t136 => ((wristbandref07_Mul.f kj8 a0 a1).bind fun t137 => (if t136 = t137 then ((gf_Pow.f kj8 a0 a2).bind fun t138 => ((wristbandref07_Pow.f kj8 a0 a2).bind fun t139 => (if t138 = t139 then ((gf_Exp.f kj8 a2).bind fun t140 => ((wristbandref07_Exp.f kj8 a2).bind fun t141 => (some (t140 == t141)))) else (some false)))) else (some false)))) else (some false))) = some r := by rw [if_neg (show ¬ (false = true) by decide)] at H; exact H
          clear H
          have H := H1
          clear H1
          replace H := Option.bind_eq_some_iff.mp H
          obtain ⟨t135, A200, H⟩ := H
          replace H : (if t135 = (Go.bits .xor .u8 a0 a1) then ((gf_Mul.f kj8 a0 a1).bind fun t136 => ((wristbandref07_Mul.f kj8 a0 a1).bind fun t137 => (if t136 = t137 then ((gf_Pow.f kj8 a0 a2).bind fun t138 => ((wristbandref07_Pow.f kj8 a0 a2).bind fun t139 => (if t138 = t139 then ((gf_Exp.f kj8 a2).bind fun t140 => ((wristbandref07_Exp.f kj8 a2).bind fun t141 => (some (t140 == t141)))) else (some false)))) else (some false)))) else (some false)) = some r := H
          have A20 := Aside0.mk A200
          clear A200
          by_cases c21 : t135 = (Go.bits .xor .u8 a0 a1)
          · rw [if_pos c21] at H
            have c21b0 : (t135 == (Go.bits .xor .u8 a0 a1)) = true := beq_iff_eq.mpr c21
            have c21b1 : (t135 != (Go.bits .xor .u8 a0 a1)) = false := bne_eq_false_iff_eq.mpr c21
            clear c21
            replace H := Option.bind_eq_some_iff.mp H
            obtain ⟨t136, A220, H⟩ := H
            replace H : ((wristbandref07_Mul.f kj8 a0 a1).bind fun t137 => (if t136 = t137 then ((gf_Pow.f kj8 a0 a2).bind fun t138 => ((wristbandref07_Pow.f kj8 a0 a2).bind fun t139 => (if t138 = t139 then ((gf_Exp.f kj8 a2).bind fun t140 => ((wristbandref07_Exp.f kj8 a2).bind fun t141 => (some (t140 == t141)))) else (some false)))) else (some false))) = some r := H
            have A22 := Aside0.mk A220
            clear A220
            replace H := Option.bind_eq_some_iff.mp H
            obtain ⟨t137, A230, H⟩ := H
            replace H : (if t136 = t137 then ((gf_Pow.f kj8 a0 a2).bind fun t138 => ((wristbandref07_Pow.f kj8 a0 a2).bind fun t139 => (if t138 = t139 then ((gf_Exp.f kj8 a2).bind fun t140 => ((wristbandref07_Exp.f kj8 a2).bind fun t141 => (some (t140 == t141)))) else (some false)))) else (some false)) = some r := H
            have A23 := Aside0.mk A230
            clear A230
            by_cases c24 : t136 = t137
            · rw [if_pos c24] at H
              have c24b0 : (t136 == t137) = true := beq_iff_eq.mpr c24
              have c24b1 : (t136 != t137) = false := bne_eq_false_iff_eq.mpr c24
              clear c24
              replace H := Option.bind_eq_some_iff.mp H
              obtain ⟨t138, A250, H⟩ := H
              replace H : ((wristbandref07_Pow.f kj8 a0 a2).bind fun t139 => (if t138 = t139 then ((gf_Exp.f kj8 a2).bind fun t140 => ((wristbandref07_Exp.f kj8 a2).bind fun t141 => (some (t140 == t141)))) else (some false))) = some r := H
              have A25 := Aside0.mk A250
              clear A250
              replace H := Option.bind_eq_some_iff.mp H
              obtain ⟨t139, A260, H⟩ := H
              replace H : (if t138 = t139 then ((gf_Exp.f kj8 a2).bind fun t140 => ((wristbandref07_Exp.f kj8 a2).bind fun t141 => (some (t140 == t141)))) else (some false)) = some r := H
              have A26 := Aside0.mk A260
              clear A260
              by_cases c27 : t138 = t139
              · rw [if_pos c27] at H
                have c27b0 : (t138 == t139) = true := beq_iff_eq.mpr c27
                have c27b1 : (t138 != t139) = false := bne_eq_false_iff_eq.mpr c27
                clear c27
                replace H := Option.bind_eq_some_iff.mp H
                obtain ⟨t140, A280, H⟩ := H
                replace H : ((wristbandref07_Exp.f kj8 a2).bind fun t141 => (some (t140 == t141))) = some r := H
                have A28 := Aside0.mk A280
                clear A280
                replace H := Option.bind_eq_some_iff.mp H
                obtain ⟨t141, A290, H⟩ := H
                replace H : (some (t140 == t141)) = some r := H
                have A29 := Aside0.mk A290
                clear A290
                obtain rfl := Option.some.inj H
                go_wp2_with (first | ((with_reducible refine gate_callee (f := 25) rfl ?_); refine goesL_ (some 69) rfl rfl Try.func25 (by kernel_rfl) rfl #[.int .u8 a0, .int .u8 a1] rfl (by (try simp only [List.map_toArray, List.map_cons, List.map_nil]); first | done | rfl | (simp only [List.length_drop, List.length_take]; rfl)) ?_; (with_reducible refine (gf_Add.calls a0 a1 t135 _ A20.out).mono ?_); rintro e w' ⟨rfl, ⟨nd, rfl⟩⟩; refine ⟨_, rfl, ?_⟩) | (go_at_call 26; (with_reducible refine (gf_Mul.calls kj8 a0 a1 t136 _ A22.out).mono ?_); rintro e w' ⟨rfl, ⟨nd, rfl⟩⟩) | (go_at_call 27; (with_reducible refine (wristbandref07_Mul.calls kj8 a0 a1 t137 _ A23.out).mono ?_); rintro e w' ⟨rfl, ⟨nd, rfl⟩⟩) | (go_at_call 28; (with_reducible refine (gf_Pow.calls kj8 a0 a2 t138 _ A25.out).mono ?_); rintro e w' ⟨rfl, ⟨nd, rfl⟩⟩) | (go_at_call 29; (with_reducible refine (wristbandref07_Pow.calls kj8 a0 a2 t139 _ A26.out).mono ?_); rintro e w' ⟨rfl, ⟨nd, rfl⟩⟩) | (go_at_call 30; (with_reducible refine (gf_Exp.calls kj8 a2 t140 _ A28.out).mono ?_); rintro e w' ⟨rfl, ⟨nd, rfl⟩⟩) | (go_at_call 31; (with_reducible refine (wristbandref07_Exp.calls kj8 a2 t141 _ A29.out).mono ?_); rintro e w' ⟨rfl, ⟨nd, rfl⟩⟩))
                go_ret
                exact ⟨by first | rfl | (simp; done) | (simp [*]; done), by repeat (first | exact Drawn0.refl _ | apply Drawn0.step)⟩
              · rw [if_neg c27] at H
                have c27b0 : (t138 == t139) = false := beq_eq_false_iff_ne.mpr c27
                have c27b1 : (t138 != t139) = true := bne_iff_ne.mpr c27
                obtain rfl := Option.some.inj H
                go_wp2_with (first | ((with_reducible refine gate_callee (f := 25) rfl ?_); refine goesL_ (some 69) rfl rfl Try.func25 (by kernel_rfl) rfl #[.int .u8 a0, .int .u8 a1] rfl (by (try simp only [List.map_toArray, List.map_cons, List.map_nil]); first | done | rfl | (simp only [List.length_drop, List.length_take]; rfl)) ?_; (with_reducible refine (gf_Add.calls a0 a1 t135 _ A20.out).mono ?_); rintro e w' ⟨rfl, ⟨nd, rfl⟩⟩; refine ⟨_, rfl, ?_⟩) | (go_at_call 26; (with_reducible refine (gf_Mul.calls kj8 a0 a1 t136 _ A22.out).mono ?_); rintro e w' ⟨rfl, ⟨nd, rfl⟩⟩) | (go_at_call 27; (with_reducible refine (wristbandref07_Mul.calls kj8 a0 a1 t137 _ A23.out).mono ?_); rintro e w' ⟨rfl, ⟨nd, rfl⟩⟩) | (go_at_call 28; (with_reducible refine (gf_Pow.calls kj8 a0 a2 t138 _ A25.out).mono ?_); rintro e w' ⟨rfl, ⟨nd, rfl⟩⟩) | (go_at_call 29; (with_reducible refine (wristbandref07_Pow.calls kj8 a0 a2 t139 _ A26.out).mono ?_); rintro e w' ⟨rfl, ⟨nd, rfl⟩⟩))
                go_ret
                exact ⟨by first | rfl | (simp; done) | (simp [*]; done), by repeat (first | exact Drawn0.refl _ | apply Drawn0.step)⟩
            · rw [if_neg c24] at H
              have c24b0 : (t136 == t137) = false := beq_eq_false_iff_ne.mpr c24
              have c24b1 : (t136 != t137) = true := bne_iff_ne.mpr c24
              obtain rfl := Option.some.inj H
              go_wp2_with (first | ((with_reducible refine gate_callee (f := 25) rfl ?_); refine goesL_ (some 69) rfl rfl Try.func25 (by kernel_rfl) rfl #[.int .u8 a0, .int .u8 a1] rfl (by (try simp only [List.map_toArray, List.map_cons, List.map_nil]); first | done | rfl | (simp only [List.length_drop, List.length_take]; rfl)) ?_; (with_reducible refine (gf_Add.calls a0 a1 t135 _ A20.out).mono ?_); rintro e w' ⟨rfl, ⟨nd, rfl⟩⟩; refine ⟨_, rfl, ?_⟩) | (go_at_call 26; (with_reducible refine (gf_Mul.calls kj8 a0 a1 t136 _ A22.out).mono ?_); rintro e w' ⟨rfl, ⟨nd, rfl⟩⟩) | (go_at_call 27; (with_reducible refine (wristbandref07_Mul.calls kj8 a0 a1 t137 _ A23.out).mono ?_); rintro e w' ⟨rfl, ⟨nd, rfl⟩⟩))
              go_ret
              exact ⟨by first | rfl | (simp; done) | (simp [*]; done), by repeat (first | exact Drawn0.refl _ | apply Drawn0.step)⟩
          · rw [if_neg c21] at H
            have c21b0 : (t135 == (Go.bits .xor .u8 a0 a1)) = false := beq_eq_false_iff_ne.mpr c21
            have c21b1 : (t135 != (Go.bits .xor .u8 a0 a1)) = true := bne_iff_ne.mpr c21
            obtain rfl := Option.some.inj H
            go_wp2_with (first | ((with_reducible refine gate_callee (f := 25) rfl ?_); refine goesL_ (some 69) rfl rfl Try.func25 (by kernel_rfl) rfl #[.int .u8 a0, .int .u8 a1] rfl (by (try simp only [List.map_toArray, List.map_cons, List.map_nil]); first | done | rfl | (simp only [List.length_drop, List.length_take]; rfl)) ?_; (with_reducible refine (gf_Add.calls a0 a1 t135 _ A20.out).mono ?_); rintro e w' ⟨rfl, ⟨nd, rfl⟩⟩; refine ⟨_, rfl, ?_⟩))
            go_ret
            exact ⟨by first | rfl | (simp; done) | (simp [*]; done), by repeat (first | exact Drawn0.refl _ | apply Drawn0.step)⟩
  · replace c5 := Bool.eq_false_iff.mpr c5
    subst c5
    have H1 : (some false) = some r := by rw [if_neg (show ¬ (false = true) by decide)] at H; exact H
    clear H
    have H := H1
    clear H1
    obtain rfl := Option.some.inj H
    go_enter Try.func6, Try.ntmps6
    go_wp2_with (first | ((with_reducible refine gate_callee (f := 20) rfl ?_); refine goesL_ (some 12) rfl rfl Try.func20 (by kernel_rfl) rfl #[] rfl (by (try simp only [List.map_toArray, List.map_cons, List.map_nil]); first | done | rfl | (simp only [List.length_drop, List.length_take]; rfl)) ?_; (with_reducible refine (wristbandlaw07_awake.calls k  false _ A4.out).mono ?_); rintro e w' ⟨rfl, ⟨nd, rfl⟩⟩; refine ⟨_, rfl, ?_⟩))
    go_ret
    exact ⟨by first | rfl | (simp; done) | (simp [*]; done), by repeat (first | exact Drawn0.refl _ | apply Drawn0.step)⟩

/-- THE ONE PURE STATEMENT of wristbandlaw07_GfRight: yours. -/
def wristbandlaw07_GfRight.Pure : Prop := ∀ (a0 : Int) (a1 : Int) (a2 : Int), (Lit.int .u8 a0).wf = true → (Lit.int .u8 a1).wf = true → (Lit.int .i64 a2).wf = true → ∃ k, wristbandlaw07_GfRight.f k a0 a1 a2 = some true
theorem wristbandlaw07_GfRight.walk (P : wristbandlaw07_GfRight.Pure) (a0 : Int) (a1 : Int) (a2 : Int) (w : World) (w0 : (Lit.int .u8 a0).wf = true) (w1 : (Lit.int .u8 a1).wf = true) (w2 : (Lit.int .i64 a2).wf = true) :
    Calls Try.prog 6 #[.int .u8 a0, .int .u8 a1, .int .i64 a2] w fun e w' => e = .returned (.bool true) ∧ Below w.heap.size w w' := by
  obtain ⟨k, h⟩ := P a0 a1 a2 w0 w1 w2
  refine (wristbandlaw07_GfRight.calls k a0 a1 a2 true w h).mono ?_
  rintro e w' ⟨rfl, hd⟩
  exact ⟨rfl, hd.below⟩

end Go.Proofs.Ytofmhbhcpojglaa.PGfRight
