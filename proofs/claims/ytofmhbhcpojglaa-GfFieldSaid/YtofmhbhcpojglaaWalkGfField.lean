/- The walk of the law GfField: what the translated program answers is what the Lean function answers. No conditions. -/
import Derived.Test.YtofmhbhcpojglaaPGfFieldx0
import Derived.Test.YtofmhbhcpojglaaPGfFieldx1
namespace Go.Proofs.Ytofmhbhcpojglaa.PGfField
open Go.RowKit Go.Proofs.YtofmhbhcpojglaaW.PrintWords Go.Proofs.YtofmhbhcpojglaaW.PrintLast Go.Proofs.YtofmhbhcpojglaaW.PrintMore
attribute [local go_sem] max2_int min2_int max_two min_two max_three min_three max_four min_four   -- for this text's walks alone
set_option linter.unusedVariables false
set_option linter.unusedSimpArgs false

/-! ### wristbandlaw07_GfField: function 7 -/
def wristbandlaw07_GfField.j0 : Nat → Int → Int → Bool → Option (Bool)
  | 0, _, _, _ => none
  | k + 1, x0, x1, x68 => if x68 = true then (some false) else ((gf_Inv.f k x0).bind fun bt136 => ((gf_Mul.f k x0 x1).bind fun t138 => (if x0 = 0 then (if ((t138 == 0) == true) = true then (if ((bt136.2 == 0) == (x0 != 0)) = true then (some true) else (some false)) else (some false)) else (if ((t138 == 0) == (x1 == 0)) = true then (if ((bt136.2 == 0) == (x0 != 0)) = true then ((gf_Mul.f k x0 bt136.1).bind fun t139 => (some (t139 == 1))) else (some false)) else (some false)))))
def wristbandlaw07_GfField.f (k : Nat) (a0 : Int) (a1 : Int) (a2 : Int) : Option (Bool) := (wristbandlaw07_awake.f k).bind fun t120 => (if t120 = true then ((gf_Mul.f k a0 a1).bind fun t121 => ((gf_Mul.f k a1 a0).bind fun t122 => (if t121 = t122 then ((gf_Mul.f k a1 a2).bind fun t123 => ((gf_Mul.f k a0 t123).bind fun t124 => ((gf_Mul.f k a0 a1).bind fun t125 => ((gf_Mul.f k t125 a2).bind fun t126 => (if t124 = t126 then ((gf_Add.f a1 a2).bind fun t127 => ((gf_Mul.f k a0 t127).bind fun t128 => ((gf_Mul.f k a0 a1).bind fun t129 => ((gf_Mul.f k a0 a2).bind fun t130 => ((gf_Add.f t129 t130).bind fun t131 => (if t128 = t131 then ((gf_Mul.f k a0 1).bind fun t132 => (if t132 = a0 then ((gf_Mul.f k a0 0).bind fun t133 => (if t133 = 0 then ((gf_Add.f a0 a0).bind fun t134 => (if t134 = 0 then ((gf_Add.f a0 0).bind fun t135 => (wristbandlaw07_GfField.j0 k a0 a1 (t135 != a0))) else (wristbandlaw07_GfField.j0 k a0 a1 true))) else (wristbandlaw07_GfField.j0 k a0 a1 true))) else (wristbandlaw07_GfField.j0 k a0 a1 true))) else (wristbandlaw07_GfField.j0 k a0 a1 true))))))) else (wristbandlaw07_GfField.j0 k a0 a1 true)))))) else (wristbandlaw07_GfField.j0 k a0 a1 true)))) else (some false))
theorem wristbandlaw07_GfField.mono_l : ∀ k, (∀ y0 y1 y2, LeO (wristbandlaw07_GfField.j0 k y0 y1 y2) (wristbandlaw07_GfField.j0 (k + 1) y0 y1 y2))
  | 0 => fun _ _ _ r h => by simp [wristbandlaw07_GfField.j0] at h
  | k + 1 => by
    have ih0 := wristbandlaw07_GfField.mono_l k
    · intro y0 y1 y2
      unfold wristbandlaw07_GfField.j0
      repeat' first
      | (with_reducible exact ih0 _ _ _)
      | (with_reducible exact gf_Inv.mono _ _)
      | (with_reducible exact gf_Mul.mono _ _ _)
      | (with_reducible exact wristbandlaw07_awake.mono _)
      | (with_reducible exact LeO.refl _)
      | (with_reducible exact LeO.none _)
      | (with_reducible refine LeO.ite ?_ ?_)
      | (with_reducible refine LeO.bind ?_ (fun _ => ?_))
      | exact ih0 _ _ _
      | exact gf_Inv.mono _ _
      | exact gf_Mul.mono _ _ _
      | exact wristbandlaw07_awake.mono _
      | exact LeO.none _
      | refine LeO.ite ?_ ?_
      | refine LeO.bind ?_ (fun _ => ?_)
theorem wristbandlaw07_GfField.mono : ∀ a0 a1 a2 k, LeO (wristbandlaw07_GfField.f k a0 a1 a2) (wristbandlaw07_GfField.f (k + 1) a0 a1 a2) := by
  intro a0 a1 a2 k
  have ih0 := wristbandlaw07_GfField.mono_l k
  unfold wristbandlaw07_GfField.f
  repeat' first
      | (with_reducible exact ih0 _ _ _)
      | (with_reducible exact gf_Inv.mono _ _)
      | (with_reducible exact gf_Mul.mono _ _ _)
      | (with_reducible exact wristbandlaw07_awake.mono _)
      | (with_reducible exact LeO.refl _)
      | (with_reducible exact LeO.none _)
      | (with_reducible refine LeO.ite ?_ ?_)
      | (with_reducible refine LeO.bind ?_ (fun _ => ?_))
      | exact ih0 _ _ _
      | exact gf_Inv.mono _ _
      | exact gf_Mul.mono _ _ _
      | exact wristbandlaw07_awake.mono _
      | exact LeO.none _
      | refine LeO.ite ?_ ?_
      | refine LeO.bind ?_ (fun _ => ?_)
set_option maxHeartbeats 8000000 in
set_option maxRecDepth 100000 in
theorem wristbandlaw07_GfField.calls (k : Nat) (a0 : Int) (a1 : Int) (a2 : Int) (r : Bool) (w : World) (h : wristbandlaw07_GfField.f k a0 a1 a2 = some r) :
    Calls Try.prog 7 #[.int .u8 a0, .int .u8 a1, .int .u8 a2] w fun e w' => e = .returned (.bool r) ∧ Drawn0 w w' := by
  have H : ((wristbandlaw07_awake.f k).bind fun t120 => (if t120 = true then ((gf_Mul.f k a0 a1).bind fun t121 => ((gf_Mul.f k a1 a0).bind fun t122 => (if t121 = t122 then ((gf_Mul.f k a1 a2).bind fun t123 => ((gf_Mul.f k a0 t123).bind fun t124 => ((gf_Mul.f k a0 a1).bind fun t125 => ((gf_Mul.f k t125 a2).bind fun t126 => (if t124 = t126 then ((gf_Add.f a1 a2).bind fun t127 => ((gf_Mul.f k a0 t127).bind fun t128 => ((gf_Mul.f k a0 a1).bind fun t129 => ((gf_Mul.f k a0 a2).bind fun t130 => ((gf_Add.f t129 t130).bind fun t131 => (if t128 = t131 then ((gf_Mul.f k a0 1).bind fun t132 => (if t132 = a0 then ((gf_Mul.f k a0 0).bind fun t133 => (if t133 = 0 then ((gf_Add.f a0 a0).bind fun t134 => (if t134 = 0 then ((gf_Add.f a0 0).bind fun t135 => (wristbandlaw07_GfField.j0 k a0 a1 (t135 != a0))) else (wristbandlaw07_GfField.j0 k a0 a1 true))) else (wristbandlaw07_GfField.j0 k a0 a1 true))) else (wristbandlaw07_GfField.j0 k a0 a1 true))) else (wristbandlaw07_GfField.j0 k a0 a1 true))))))) else (wristbandlaw07_GfField.j0 k a0 a1 true)))))) else (wristbandlaw07_GfField.j0 k a0 a1 true)))) else (some false))) = some r := h
  clear h
  replace H := Option.bind_eq_some_iff.mp H
  obtain ⟨t120, A40, H⟩ := H
  replace H : (if t120 = true then ((gf_Mul.f k a0 a1).bind fun t121 => ((gf_Mul.f k a1 a0).bind fun t122 => (if t121 = t122 then ((gf_Mul.f k a1 a2).bind fun t123 => ((gf_Mul.f k a0 t123).bind fun t124 => ((gf_Mul.f k a0 a1).bind fun t125 => ((gf_Mul.f k t125 a2).bind fun t126 => (if t124 = t126 then ((gf_Add.f a1 a2).bind fun t127 => ((gf_Mul.f k a0 t127).bind fun t128 => ((gf_Mul.f k a0 a1).bind fun t129 => ((gf_Mul.f k a0 a2).bind fun t130 => ((gf_Add.f t129 t130).bind fun t131 => (if t128 = t131 then ((gf_Mul.f k a0 1).bind fun t132 => (if t132 = a0 then ((gf_Mul.f k a0 0).bind fun t133 => (if t133 = 0 then ((gf_Add.f a0 a0).bind fun t134 => (if t134 = 0 then ((gf_Add.f a0 0).bind fun t135 => (wristbandlaw07_GfField.j0 k a0 a1 (t135 != a0))) else (wristbandlaw07_GfField.j0 k a0 a1 true))) else (wristbandlaw07_GfField.j0 k a0 a1 true))) else (wristbandlaw07_GfField.j0 k a0 a1 true))) else (wristbandlaw07_GfField.j0 k a0 a1 true))))))) else (wristbandlaw07_GfField.j0 k a0 a1 true)))))) else (wristbandlaw07_GfField.j0 k a0 a1 true)))) else (some false)) = some r := H
  have A4 := Aside0.mk A40
  clear A40
  by_cases c5 : t120 = true
  · subst c5
    have H1 : ((gf_Mul.f k a0 a1).bind fun t121 => ((gf_Mul.f k a1 a0).bind fun t122 => (if t121 = t122 then ((gf_Mul.f k a1 a2).bind fun t123 => ((gf_Mul.f k a0 t123).bind fun t124 => ((gf_Mul.f k a0 a1).bind fun t125 => ((gf_Mul.f k t125 a2).bind fun t126 => (if t124 = t126 then ((gf_Add.f a1 a2).bind fun t127 => ((gf_Mul.f k a0 t127).bind fun t128 => ((gf_Mul.f k a0 a1).bind fun t129 => ((gf_Mul.f k a0 a2).bind fun t130 => ((gf_Add.f t129 t130).bind fun t131 => (if t128 = t131 then ((gf_Mul.f k a0 1).bind fun t132 => (if t132 = a0 then ((gf_Mul.f k a0 0).bind fun t133 => (if t133 = 0 then ((gf_Add.f a0 a0).bind fun t134 => (if t134 = 0 then ((gf_Add.f a0 0).bind fun t135 => (wristbandlaw07_GfField.j0 k a0 a1 (t135 != a0))) else (wristbandlaw07_GfField.j0 k a0 a1 true))) else (wristbandlaw07_GfField.j0 k a0 a1 true))) else (wristbandlaw07_GfField.j0 k a0 a1 true))) else (wristbandlaw07_GfField.j0 k a0 a1 true))))))) else (wristbandlaw07_GfField.j0 k a0 a1 true)))))) else (wristbandlaw07_GfField.j0 k a0 a1 true)))) = some r := by rw [if_pos rfl] at H; exact H
    clear H
    have H := H1
    clear H1
    have HC6 := Aside0.mk H
    clear H
    go_enter Try.func7, Try.ntmps7
    go_upto_region 3 with (first | ((with_reducible refine gate_callee (f := 20) rfl ?_); refine goesL_ (some 9) rfl rfl Try.func20 (by kernel_rfl) rfl #[] rfl (by (try simp only [List.map_toArray, List.map_cons, List.map_nil]); first | done | rfl | (simp only [List.length_drop, List.length_take]; rfl)) ?_; (with_reducible refine (wristbandlaw07_awake.calls k  true _ A4.out).mono ?_); rintro e w' ⟨rfl, ⟨nd, rfl⟩⟩; refine ⟨_, rfl, ?_⟩))
    (try simp only [Act.put, List.setIfInBounds_toArray, List.set_cons_zero, List.set_cons_succ])
    go_cut [68] (fun v68 wc => ∃ (kq : Nat) (x68_5 : Bool), v68 = .bool x68_5 ∧ Aside0 (wristbandlaw07_GfField.j0 kq a0 a1 x68_5 = some r) ∧ Aside0 (kq ≤ k) ∧ Drawn0 w wc)
    case first =>
      have H := HC6.out
      clear HC6
      replace H := Option.bind_eq_some_iff.mp H
      obtain ⟨t121, A70, H⟩ := H
      replace H : ((gf_Mul.f k a1 a0).bind fun t122 => (if t121 = t122 then ((gf_Mul.f k a1 a2).bind fun t123 => ((gf_Mul.f k a0 t123).bind fun t124 => ((gf_Mul.f k a0 a1).bind fun t125 => ((gf_Mul.f k t125 a2).bind fun t126 => (if t124 = t126 then ((gf_Add.f a1 a2).bind fun t127 => ((gf_Mul.f k a0 t127).bind fun t128 => ((gf_Mul.f k a0 a1).bind fun t129 => ((gf_Mul.f k a0 a2).bind fun t130 => ((gf_Add.f t129 t130).bind fun t131 => (if t128 = t131 then ((gf_Mul.f k a0 1).bind fun t132 => (if t132 = a0 then ((gf_Mul.f k a0 0).bind fun t133 => (if t133 = 0 then ((gf_Add.f a0 a0).bind fun t134 => (if t134 = 0 then ((gf_Add.f a0 0).bind fun t135 => (wristbandlaw07_GfField.j0 k a0 a1 (t135 != a0))) else (wristbandlaw07_GfField.j0 k a0 a1 true))) else (wristbandlaw07_GfField.j0 k a0 a1 true))) else (wristbandlaw07_GfField.j0 k a0 a1 true))) else (wristbandlaw07_GfField.j0 k a0 a1 true))))))) else (wristbandlaw07_GfField.j0 k a0 a1 true)))))) else (wristbandlaw07_GfField.j0 k a0 a1 true))) = some r := H
      have A7 := Aside0.mk A70
      clear A70
      replace H := Option.bind_eq_some_iff.mp H
      obtain ⟨t122, A80, H⟩ := H
      replace H : (if t121 = t122 then ((gf_Mul.f k a1 a2).bind fun t123 => ((gf_Mul.f k a0 t123).bind fun t124 => ((gf_Mul.f k a0 a1).bind fun t125 => ((gf_Mul.f k t125 a2).bind fun t126 => (if t124 = t126 then ((gf_Add.f a1 a2).bind fun t127 => ((gf_Mul.f k a0 t127).bind fun t128 => ((gf_Mul.f k a0 a1).bind fun t129 => ((gf_Mul.f k a0 a2).bind fun t130 => ((gf_Add.f t129 t130).bind fun t131 => (if t128 = t131 then ((gf_Mul.f k a0 1).bind fun t132 => (if t132 = a0 then ((gf_Mul.f k a0 0).bind fun t133 => (if t133 = 0 then ((gf_Add.f a0 a0).bind fun t134 => (if t134 = 0 then ((gf_Add.f a0 0).bind fun t135 => (wristbandlaw07_GfField.j0 k a0 a1 (t135 != a0))) else (wristbandlaw07_GfField.j0 k a0 a1 true))) else (wristbandlaw07_GfField.j0 k a0 a1 true))) else (wristbandlaw07_GfField.j0 k a0 a1 true))) else (wristbandlaw07_GfField.j0 k a0 a1 true))))))) else (wristbandlaw07_GfField.j0 k a0 a1 true)))))) else (wristbandlaw07_GfField.j0 k a0 a1 true)) = some r := H
      have A8 := Aside0.mk A80
      clear A80
      by_cases c9 : t121 = t122
      · rw [if_pos c9] at H
        have c9b0 : (t121 == t122) = true := beq_iff_eq.mpr c9
        have c9b1 : (t121 != t122) = false := bne_eq_false_iff_eq.mpr c9
        clear c9
        (first | rw [c9b0] | (simp only [i64_w, i32_w]; rw [c9b0]) | skip)
        replace H := Option.bind_eq_some_iff.mp H
        obtain ⟨t123, A100, H⟩ := H
        replace H : ((gf_Mul.f k a0 t123).bind fun t124 => ((gf_Mul.f k a0 a1).bind fun t125 => ((gf_Mul.f k t125 a2).bind fun t126 => (if t124 = t126 then ((gf_Add.f a1 a2).bind fun t127 => ((gf_Mul.f k a0 t127).bind fun t128 => ((gf_Mul.f k a0 a1).bind fun t129 => ((gf_Mul.f k a0 a2).bind fun t130 => ((gf_Add.f t129 t130).bind fun t131 => (if t128 = t131 then ((gf_Mul.f k a0 1).bind fun t132 => (if t132 = a0 then ((gf_Mul.f k a0 0).bind fun t133 => (if t133 = 0 then ((gf_Add.f a0 a0).bind fun t134 => (if t134 = 0 then ((gf_Add.f a0 0).bind fun t135 => (wristbandlaw07_GfField.j0 k a0 a1 (t135 != a0))) else (wristbandlaw07_GfField.j0 k a0 a1 true))) else (wristbandlaw07_GfField.j0 k a0 a1 true))) else (wristbandlaw07_GfField.j0 k a0 a1 true))) else (wristbandlaw07_GfField.j0 k a0 a1 true))))))) else (wristbandlaw07_GfField.j0 k a0 a1 true))))) = some r := H
        have A10 := Aside0.mk A100
        clear A100
        replace H := Option.bind_eq_some_iff.mp H
        obtain ⟨t124, A110, H⟩ := H
        replace H : ((gf_Mul.f k a0 a1).bind fun t125 => ((gf_Mul.f k t125 a2).bind fun t126 => (if t124 = t126 then ((gf_Add.f a1 a2).bind fun t127 => ((gf_Mul.f k a0 t127).bind fun t128 => ((gf_Mul.f k a0 a1).bind fun t129 => ((gf_Mul.f k a0 a2).bind fun t130 => ((gf_Add.f t129 t130).bind fun t131 => (if t128 = t131 then ((gf_Mul.f k a0 1).bind fun t132 => (if t132 = a0 then ((gf_Mul.f k a0 0).bind fun t133 => (if t133 = 0 then ((gf_Add.f a0 a0).bind fun t134 => (if t134 = 0 then ((gf_Add.f a0 0).bind fun t135 => (wristbandlaw07_GfField.j0 k a0 a1 (t135 != a0))) else (wristbandlaw07_GfField.j0 k a0 a1 true))) else (wristbandlaw07_GfField.j0 k a0 a1 true))) else (wristbandlaw07_GfField.j0 k a0 a1 true))) else (wristbandlaw07_GfField.j0 k a0 a1 true))))))) else (wristbandlaw07_GfField.j0 k a0 a1 true)))) = some r := H
        have A11 := Aside0.mk A110
        clear A110
        replace H := Option.bind_eq_some_iff.mp H
        obtain ⟨t125, A120, H⟩ := H
        replace H : ((gf_Mul.f k t125 a2).bind fun t126 => (if t124 = t126 then ((gf_Add.f a1 a2).bind fun t127 => ((gf_Mul.f k a0 t127).bind fun t128 => ((gf_Mul.f k a0 a1).bind fun t129 => ((gf_Mul.f k a0 a2).bind fun t130 => ((gf_Add.f t129 t130).bind fun t131 => (if t128 = t131 then ((gf_Mul.f k a0 1).bind fun t132 => (if t132 = a0 then ((gf_Mul.f k a0 0).bind fun t133 => (if t133 = 0 then ((gf_Add.f a0 a0).bind fun t134 => (if t134 = 0 then ((gf_Add.f a0 0).bind fun t135 => (wristbandlaw07_GfField.j0 k a0 a1 (t135 != a0))) else (wristbandlaw07_GfField.j0 k a0 a1 true))) else (wristbandlaw07_GfField.j0 k a0 a1 true))) else (wristbandlaw07_GfField.j0 k a0 a1 true))) else (wristbandlaw07_GfField.j0 k a0 a1 true))))))) else (wristbandlaw07_GfField.j0 k a0 a1 true))) = some r := H
        have A12 := Aside0.mk A120
        clear A120
        replace H := Option.bind_eq_some_iff.mp H
        obtain ⟨t126, A130, H⟩ := H
        replace H : (if t124 = t126 then ((gf_Add.f a1 a2).bind fun t127 => ((gf_Mul.f k a0 t127).bind fun t128 => ((gf_Mul.f k a0 a1).bind fun t129 => ((gf_Mul.f k a0 a2).bind fun t130 => ((gf_Add.f t129 t130).bind fun t131 => (if t128 = t131 then ((gf_Mul.f k a0 1).bind fun t132 => (if t132 = a0 then ((gf_Mul.f k a0 0).bind fun t133 => (if t133 = 0 then ((gf_Add.f a0 a0).bind fun t134 => (if t134 = 0 then ((gf_Add.f a0 0).bind fun t135 => (wristbandlaw07_GfField.j0 k a0 a1 (t135 != a0))) else (wristbandlaw07_GfField.j0 k a0 a1 true))) else (wristbandlaw07_GfField.j0 k a0 a1 true))) else (wristbandlaw07_GfField.j0 k a0 a1 true))) else (wristbandlaw07_GfField.j0 k a0 a1 true))))))) else (wristbandlaw07_GfField.j0 k a0 a1 true)) = some r := H
        have A13 := Aside0.mk A130
        clear A130
        by_cases c14 : t124 = t126
        · rw [if_pos c14] at H
          have c14b0 : (t124 == t126) = true := beq_iff_eq.mpr c14
          have c14b1 : (t124 != t126) = false := bne_eq_false_iff_eq.mpr c14
          clear c14
          replace H := Option.bind_eq_some_iff.mp H
          obtain ⟨t127, A150, H⟩ := H
          replace H : ((gf_Mul.f k a0 t127).bind fun t128 => ((gf_Mul.f k a0 a1).bind fun t129 => ((gf_Mul.f k a0 a2).bind fun t130 => ((gf_Add.f t129 t130).bind fun t131 => (if t128 = t131 then ((gf_Mul.f k a0 1).bind fun t132 => (if t132 = a0 then ((gf_Mul.f k a0 0).bind fun t133 => (if t133 = 0 then ((gf_Add.f a0 a0).bind fun t134 => (if t134 = 0 then ((gf_Add.f a0 0).bind fun t135 => (wristbandlaw07_GfField.j0 k a0 a1 (t135 != a0))) else (wristbandlaw07_GfField.j0 k a0 a1 true))) else (wristbandlaw07_GfField.j0 k a0 a1 true))) else (wristbandlaw07_GfField.j0 k a0 a1 true))) else (wristbandlaw07_GfField.j0 k a0 a1 true)))))) = some r := H
          have A15 := Aside0.mk A150
          clear A150
          replace H := Option.bind_eq_some_iff.mp H
          obtain ⟨t128, A160, H⟩ := H
          replace H : ((gf_Mul.f k a0 a1).bind fun t129 => ((gf_Mul.f k a0 a2).bind fun t130 => ((gf_Add.f t129 t130).bind fun t131 => (if t128 = t131 then ((gf_Mul.f k a0 1).bind fun t132 => (if t132 = a0 then ((gf_Mul.f k a0 0).bind fun t133 => (if t133 = 0 then ((gf_Add.f a0 a0).bind fun t134 => (if t134 = 0 then ((gf_Add.f a0 0).bind fun t135 => (wristbandlaw07_GfField.j0 k a0 a1 (t135 != a0))) else (wristbandlaw07_GfField.j0 k a0 a1 true))) else (wristbandlaw07_GfField.j0 k a0 a1 true))) else (wristbandlaw07_GfField.j0 k a0 a1 true))) else (wristbandlaw07_GfField.j0 k a0 a1 true))))) = some r := H
          have A16 := Aside0.mk A160
          clear A160
          replace H := Option.bind_eq_some_iff.mp H
          obtain ⟨t129, A170, H⟩ := H
          obtain rfl : t125 = t129 := Option.some.inj (A12.out.symm.trans A170)
          replace H : ((gf_Mul.f k a0 a2).bind fun t130 => ((gf_Add.f t125 t130).bind fun t131 => (if t128 = t131 then ((gf_Mul.f k a0 1).bind fun t132 => (if t132 = a0 then ((gf_Mul.f k a0 0).bind fun t133 => (if t133 = 0 then ((gf_Add.f a0 a0).bind fun t134 => (if t134 = 0 then ((gf_Add.f a0 0).bind fun t135 => (wristbandlaw07_GfField.j0 k a0 a1 (t135 != a0))) else (wristbandlaw07_GfField.j0 k a0 a1 true))) else (wristbandlaw07_GfField.j0 k a0 a1 true))) else (wristbandlaw07_GfField.j0 k a0 a1 true))) else (wristbandlaw07_GfField.j0 k a0 a1 true)))) = some r := H
          have A17 := Aside0.mk A170
          clear A170
          replace H := Option.bind_eq_some_iff.mp H
          obtain ⟨t130, A180, H⟩ := H
          replace H : ((gf_Add.f t125 t130).bind fun t131 => (if t128 = t131 then ((gf_Mul.f k a0 1).bind fun t132 => (if t132 = a0 then ((gf_Mul.f k a0 0).bind fun t133 => (if t133 = 0 then ((gf_Add.f a0 a0).bind fun t134 => (if t134 = 0 then ((gf_Add.f a0 0).bind fun t135 => (wristbandlaw07_GfField.j0 k a0 a1 (t135 != a0))) else (wristbandlaw07_GfField.j0 k a0 a1 true))) else (wristbandlaw07_GfField.j0 k a0 a1 true))) else (wristbandlaw07_GfField.j0 k a0 a1 true))) else (wristbandlaw07_GfField.j0 k a0 a1 true))) = some r := H
          have A18 := Aside0.mk A180
          clear A180
          replace H := Option.bind_eq_some_iff.mp H
          obtain ⟨t131, A190, H⟩ := H
          replace H : (if t128 = t131 then ((gf_Mul.f k a0 1).bind fun t132 => (if t132 = a0 then ((gf_Mul.f k a0 0).bind fun t133 => (if t133 = 0 then ((gf_Add.f a0 a0).bind fun t134 => (if t134 = 0 then ((gf_Add.f a0 0).bind fun t135 => (wristbandlaw07_GfField.j0 k a0 a1 (t135 != a0))) else (wristbandlaw07_GfField.j0 k a0 a1 true))) else (wristbandlaw07_GfField.j0 k a0 a1 true))) else (wristbandlaw07_GfField.j0 k a0 a1 true))) else (wristbandlaw07_GfField.j0 k a0 a1 true)) = some r := H
          have A19 := Aside0.mk A190
          clear A190
          by_cases c20 : t128 = t131
          · rw [if_pos c20] at H
            have c20b0 : (t128 == t131) = true := beq_iff_eq.mpr c20
            have c20b1 : (t128 != t131) = false := bne_eq_false_iff_eq.mpr c20
            clear c20
            replace H := Option.bind_eq_some_iff.mp H
            obtain ⟨t132, A210, H⟩ := H
            replace H : (if t132 = a0 then ((gf_Mul.f k a0 0).bind fun t133 => (if t133 = 0 then ((gf_Add.f a0 a0).bind fun t134 => (if t134 = 0 then ((gf_Add.f a0 0).bind fun t135 => (wristbandlaw07_GfField.j0 k a0 a1 (t135 != a0))) else (wristbandlaw07_GfField.j0 k a0 a1 true))) else (wristbandlaw07_GfField.j0 k a0 a1 true))) else (wristbandlaw07_GfField.j0 k a0 a1 true)) = some r := H
            have A21 := Aside0.mk A210
            clear A210
            by_cases c22 : t132 = a0
            · rw [if_pos c22] at H
              have c22b0 : (t132 == a0) = true := beq_iff_eq.mpr c22
              have c22b1 : (t132 != a0) = false := bne_eq_false_iff_eq.mpr c22
              clear c22
              replace H := Option.bind_eq_some_iff.mp H
              obtain ⟨t133, A230, H⟩ := H
              replace H : (if t133 = 0 then ((gf_Add.f a0 a0).bind fun t134 => (if t134 = 0 then ((gf_Add.f a0 0).bind fun t135 => (wristbandlaw07_GfField.j0 k a0 a1 (t135 != a0))) else (wristbandlaw07_GfField.j0 k a0 a1 true))) else (wristbandlaw07_GfField.j0 k a0 a1 true)) = some r := H
              have A23 := Aside0.mk A230
              clear A230
              by_cases c24 : t133 = 0
              · rw [if_pos c24] at H
                have c24b0 : (t133 == 0) = true := beq_iff_eq.mpr c24
                have c24b1 : (t133 != 0) = false := bne_eq_false_iff_eq.mpr c24
                clear c24
                replace H := Option.bind_eq_some_iff.mp H
                obtain ⟨t134, A250, H⟩ := H
                replace H : (if t134 = 0 then ((gf_Add.f a0 0).bind fun t135 => (wristbandlaw07_GfField.j0 k a0 a1 (t135 != a0))) else (wristbandlaw07_GfField.j0 k a0 a1 true)) = some r := H
                have A25 := Aside0.mk A250
                clear A250
                by_cases c26 : t134 = 0
                · rw [if_pos c26] at H
                  have c26b0 : (t134 == 0) = true := beq_iff_eq.mpr c26
                  have c26b1 : (t134 != 0) = false := bne_eq_false_iff_eq.mpr c26
                  clear c26
                  replace H := Option.bind_eq_some_iff.mp H
                  obtain ⟨t135, A270, H⟩ := H
                  replace H : (wristbandlaw07_GfField.j0 k a0 a1 (t135 != a0)) = some r := H
                  have A27 := Aside0.mk A270
                  clear A270
                  have H' := Aside0.mk H
                  clear H
                  go_wp2_with (first | ((with_reducible refine gate_callee (f := 26) rfl ?_); refine goesL_ (some 13) rfl rfl Try.func26 (by kernel_rfl) rfl #[.int .u8 a0, .int .u8 a1] rfl (by (try simp only [List.map_toArray, List.map_cons, List.map_nil]); first | done | rfl | (simp only [List.length_drop, List.length_take]; rfl)) ?_; (with_reducible refine (gf_Mul.calls k a0 a1 t121 _ A7.out).mono ?_); rintro e w' ⟨rfl, ⟨nd, rfl⟩⟩; refine ⟨_, rfl, ?_⟩) | ((with_reducible refine gate_callee (f := 26) rfl ?_); refine goesL_ (some 16) rfl rfl Try.func26 (by kernel_rfl) rfl #[.int .u8 a1, .int .u8 a0] rfl (by (try simp only [List.map_toArray, List.map_cons, List.map_nil]); first | done | rfl | (simp only [List.length_drop, List.length_take]; rfl)) ?_; (with_reducible refine (gf_Mul.calls k a1 a0 t122 _ A8.out).mono ?_); rintro e w' ⟨rfl, ⟨nd, rfl⟩⟩; refine ⟨_, rfl, ?_⟩) | (go_at_call 26; (with_reducible refine (gf_Mul.calls k a1 a2 t123 _ A10.out).mono ?_); rintro e w' ⟨rfl, ⟨nd, rfl⟩⟩) | (go_at_call 26; (with_reducible refine (gf_Mul.calls k a0 t123 t124 _ A11.out).mono ?_); rintro e w' ⟨rfl, ⟨nd, rfl⟩⟩) | (go_at_call 26; (with_reducible refine (gf_Mul.calls k a0 a1 t125 _ A12.out).mono ?_); rintro e w' ⟨rfl, ⟨nd, rfl⟩⟩) | (go_at_call 26; (with_reducible refine (gf_Mul.calls k t125 a2 t126 _ A13.out).mono ?_); rintro e w' ⟨rfl, ⟨nd, rfl⟩⟩) | (go_at_call 25; (with_reducible refine (gf_Add.calls a1 a2 t127 _ A15.out).mono ?_); rintro e w' ⟨rfl, ⟨nd, rfl⟩⟩) | (go_at_call 26; (with_reducible refine (gf_Mul.calls k a0 t127 t128 _ A16.out).mono ?_); rintro e w' ⟨rfl, ⟨nd, rfl⟩⟩) | (go_at_call 26; (with_reducible refine (gf_Mul.calls k a0 a1 t125 _ A17.out).mono ?_); rintro e w' ⟨rfl, ⟨nd, rfl⟩⟩) | (go_at_call 26; (with_reducible refine (gf_Mul.calls k a0 a2 t130 _ A18.out).mono ?_); rintro e w' ⟨rfl, ⟨nd, rfl⟩⟩) | (go_at_call 25; (with_reducible refine (gf_Add.calls t125 t130 t131 _ A19.out).mono ?_); rintro e w' ⟨rfl, ⟨nd, rfl⟩⟩) | (go_at_call 26; (with_reducible refine (gf_Mul.calls k a0 1 t132 _ A21.out).mono ?_); rintro e w' ⟨rfl, ⟨nd, rfl⟩⟩) | (go_at_call 26; (with_reducible refine (gf_Mul.calls k a0 0 t133 _ A23.out).mono ?_); rintro e w' ⟨rfl, ⟨nd, rfl⟩⟩) | (go_at_call 25; (with_reducible refine (gf_Add.calls a0 a0 t134 _ A25.out).mono ?_); rintro e w' ⟨rfl, ⟨nd, rfl⟩⟩) | (go_at_call 25; (with_reducible refine (gf_Add.calls a0 0 t135 _ A27.out).mono ?_); rintro e w' ⟨rfl, ⟨nd, rfl⟩⟩))
                  go_meet
                  case rel => exact ⟨_, ((t135 != a0)), (by first | rfl | (simp; done) | (simp [*]; done)), H', ⟨by first | omega | exact Nat.le_refl _⟩, by repeat (first | exact Drawn0.refl _ | apply Drawn0.step)⟩
                · rw [if_neg c26] at H
                  have c26b0 : (t134 == 0) = false := beq_eq_false_iff_ne.mpr c26
                  have c26b1 : (t134 != 0) = true := bne_iff_ne.mpr c26
                  have H' := Aside0.mk H
                  clear H
                  go_wp2_with (first | ((with_reducible refine gate_callee (f := 26) rfl ?_); refine goesL_ (some 13) rfl rfl Try.func26 (by kernel_rfl) rfl #[.int .u8 a0, .int .u8 a1] rfl (by (try simp only [List.map_toArray, List.map_cons, List.map_nil]); first | done | rfl | (simp only [List.length_drop, List.length_take]; rfl)) ?_; (with_reducible refine (gf_Mul.calls k a0 a1 t121 _ A7.out).mono ?_); rintro e w' ⟨rfl, ⟨nd, rfl⟩⟩; refine ⟨_, rfl, ?_⟩) | ((with_reducible refine gate_callee (f := 26) rfl ?_); refine goesL_ (some 16) rfl rfl Try.func26 (by kernel_rfl) rfl #[.int .u8 a1, .int .u8 a0] rfl (by (try simp only [List.map_toArray, List.map_cons, List.map_nil]); first | done | rfl | (simp only [List.length_drop, List.length_take]; rfl)) ?_; (with_reducible refine (gf_Mul.calls k a1 a0 t122 _ A8.out).mono ?_); rintro e w' ⟨rfl, ⟨nd, rfl⟩⟩; refine ⟨_, rfl, ?_⟩) | (go_at_call 26; (with_reducible refine (gf_Mul.calls k a1 a2 t123 _ A10.out).mono ?_); rintro e w' ⟨rfl, ⟨nd, rfl⟩⟩) | (go_at_call 26; (with_reducible refine (gf_Mul.calls k a0 t123 t124 _ A11.out).mono ?_); rintro e w' ⟨rfl, ⟨nd, rfl⟩⟩) | (go_at_call 26; (with_reducible refine (gf_Mul.calls k a0 a1 t125 _ A12.out).mono ?_); rintro e w' ⟨rfl, ⟨nd, rfl⟩⟩) | (go_at_call 26; (with_reducible refine (gf_Mul.calls k t125 a2 t126 _ A13.out).mono ?_); rintro e w' ⟨rfl, ⟨nd, rfl⟩⟩) | (go_at_call 25; (with_reducible refine (gf_Add.calls a1 a2 t127 _ A15.out).mono ?_); rintro e w' ⟨rfl, ⟨nd, rfl⟩⟩) | (go_at_call 26; (with_reducible refine (gf_Mul.calls k a0 t127 t128 _ A16.out).mono ?_); rintro e w' ⟨rfl, ⟨nd, rfl⟩⟩) | (go_at_call 26; (with_reducible refine (gf_Mul.calls k a0 a1 t125 _ A17.out).mono ?_); rintro e w' ⟨rfl, ⟨nd, rfl⟩⟩) | (go_at_call 26; (with_reducible refine (gf_Mul.calls k a0 a2 t130 _ A18.out).mono ?_); rintro e w' ⟨rfl, ⟨nd, rfl⟩⟩) | (go_at_call 25; (with_reducible refine (gf_Add.calls t125 t130 t131 _ A19.out).mono ?_); rintro e w' ⟨rfl, ⟨nd, rfl⟩⟩) | (go_at_call 26; (with_reducible refine (gf_Mul.calls k a0 1 t132 _ A21.out).mono ?_); rintro e w' ⟨rfl, ⟨nd, rfl⟩⟩) | (go_at_call 26; (with_reducible refine (gf_Mul.calls k a0 0 t133 _ A23.out).mono ?_); rintro e w' ⟨rfl, ⟨nd, rfl⟩⟩) | (go_at_call 25; (with_reducible refine (gf_Add.calls a0 a0 t134 _ A25.out).mono ?_); rintro e w' ⟨rfl, ⟨nd, rfl⟩⟩))
                  go_meet
                  case rel => exact ⟨_, (true), (by first | rfl | (simp; done) | (simp [*]; done)), H', ⟨by first | omega | exact Nat.le_refl _⟩, by repeat (first | exact Drawn0.refl _ | apply Drawn0.step)⟩
              · rw [if_neg c24] at H
                have c24b0 : (t133 == 0) = false := beq_eq_false_iff_ne.mpr c24
                have c24b1 : (t133 != 0) = true := bne_iff_ne.mpr c24
                have H' := Aside0.mk H
                clear H
                go_wp2_with (first | ((with_reducible refine gate_callee (f := 26) rfl ?_); refine goesL_ (some 13) rfl rfl Try.func26 (by kernel_rfl) rfl #[.int .u8 a0, .int .u8 a1] rfl (by (try simp only [List.map_toArray, List.map_cons, List.map_nil]); first | done | rfl | (simp only [List.length_drop, List.length_take]; rfl)) ?_; (with_reducible refine (gf_Mul.calls k a0 a1 t121 _ A7.out).mono ?_); rintro e w' ⟨rfl, ⟨nd, rfl⟩⟩; refine ⟨_, rfl, ?_⟩) | ((with_reducible refine gate_callee (f := 26) rfl ?_); refine goesL_ (some 16) rfl rfl Try.func26 (by kernel_rfl) rfl #[.int .u8 a1, .int .u8 a0] rfl (by (try simp only [List.map_toArray, List.map_cons, List.map_nil]); first | done | rfl | (simp only [List.length_drop, List.length_take]; rfl)) ?_; (with_reducible refine (gf_Mul.calls k a1 a0 t122 _ A8.out).mono ?_); rintro e w' ⟨rfl, ⟨nd, rfl⟩⟩; refine ⟨_, rfl, ?_⟩) | (go_at_call 26; (with_reducible refine (gf_Mul.calls k a1 a2 t123 _ A10.out).mono ?_); rintro e w' ⟨rfl, ⟨nd, rfl⟩⟩) | (go_at_call 26; (with_reducible refine (gf_Mul.calls k a0 t123 t124 _ A11.out).mono ?_); rintro e w' ⟨rfl, ⟨nd, rfl⟩⟩) | (go_at_call 26; (with_reducible refine (gf_Mul.calls k a0 a1 t125 _ A12.out).mono ?_); rintro e w' ⟨rfl, ⟨nd, rfl⟩⟩) | (go_at_call 26; (with_reducible refine (gf_Mul.calls k t125 a2 t126 _ A13.out).mono ?_); rintro e w' ⟨rfl, ⟨nd, rfl⟩⟩) | (go_at_call 25; (with_reducible refine (gf_Add.calls a1 a2 t127 _ A15.out).mono ?_); rintro e w' ⟨rfl, ⟨nd, rfl⟩⟩) | (go_at_call 26; (with_reducible refine (gf_Mul.calls k a0 t127 t128 _ A16.out).mono ?_); rintro e w' ⟨rfl, ⟨nd, rfl⟩⟩) | (go_at_call 26; (with_reducible refine (gf_Mul.calls k a0 a1 t125 _ A17.out).mono ?_); rintro e w' ⟨rfl, ⟨nd, rfl⟩⟩) | (go_at_call 26; (with_reducible refine (gf_Mul.calls k a0 a2 t130 _ A18.out).mono ?_); rintro e w' ⟨rfl, ⟨nd, rfl⟩⟩) | (go_at_call 25; (with_reducible refine (gf_Add.calls t125 t130 t131 _ A19.out).mono ?_); rintro e w' ⟨rfl, ⟨nd, rfl⟩⟩) | (go_at_call 26; (with_reducible refine (gf_Mul.calls k a0 1 t132 _ A21.out).mono ?_); rintro e w' ⟨rfl, ⟨nd, rfl⟩⟩) | (go_at_call 26; (with_reducible refine (gf_Mul.calls k a0 0 t133 _ A23.out).mono ?_); rintro e w' ⟨rfl, ⟨nd, rfl⟩⟩))
                go_meet
                case rel => exact ⟨_, (true), (by first | rfl | (simp; done) | (simp [*]; done)), H', ⟨by first | omega | exact Nat.le_refl _⟩, by repeat (first | exact Drawn0.refl _ | apply Drawn0.step)⟩
            · rw [if_neg c22] at H
              have c22b0 : (t132 == a0) = false := beq_eq_false_iff_ne.mpr c22
              have c22b1 : (t132 != a0) = true := bne_iff_ne.mpr c22
              have H' := Aside0.mk H
              clear H
              go_wp2_with (first | ((with_reducible refine gate_callee (f := 26) rfl ?_); refine goesL_ (some 13) rfl rfl Try.func26 (by kernel_rfl) rfl #[.int .u8 a0, .int .u8 a1] rfl (by (try simp only [List.map_toArray, List.map_cons, List.map_nil]); first | done | rfl | (simp only [List.length_drop, List.length_take]; rfl)) ?_; (with_reducible refine (gf_Mul.calls k a0 a1 t121 _ A7.out).mono ?_); rintro e w' ⟨rfl, ⟨nd, rfl⟩⟩; refine ⟨_, rfl, ?_⟩) | ((with_reducible refine gate_callee (f := 26) rfl ?_); refine goesL_ (some 16) rfl rfl Try.func26 (by kernel_rfl) rfl #[.int .u8 a1, .int .u8 a0] rfl (by (try simp only [List.map_toArray, List.map_cons, List.map_nil]); first | done | rfl | (simp only [List.length_drop, List.length_take]; rfl)) ?_; (with_reducible refine (gf_Mul.calls k a1 a0 t122 _ A8.out).mono ?_); rintro e w' ⟨rfl, ⟨nd, rfl⟩⟩; refine ⟨_, rfl, ?_⟩) | (go_at_call 26; (with_reducible refine (gf_Mul.calls k a1 a2 t123 _ A10.out).mono ?_); rintro e w' ⟨rfl, ⟨nd, rfl⟩⟩) | (go_at_call 26; (with_reducible refine (gf_Mul.calls k a0 t123 t124 _ A11.out).mono ?_); rintro e w' ⟨rfl, ⟨nd, rfl⟩⟩) | (go_at_call 26; (with_reducible refine (gf_Mul.calls k a0 a1 t125 _ A12.out).mono ?_); rintro e w' ⟨rfl, ⟨nd, rfl⟩⟩) | (go_at_call 26; (with_reducible refine (gf_Mul.calls k t125 a2 t126 _ A13.out).mono ?_); rintro e w' ⟨rfl, ⟨nd, rfl⟩⟩) | (go_at_call 25; (with_reducible refine (gf_Add.calls a1 a2 t127 _ A15.out).mono ?_); rintro e w' ⟨rfl, ⟨nd, rfl⟩⟩) | (go_at_call 26; (with_reducible refine (gf_Mul.calls k a0 t127 t128 _ A16.out).mono ?_); rintro e w' ⟨rfl, ⟨nd, rfl⟩⟩) | (go_at_call 26; (with_reducible refine (gf_Mul.calls k a0 a1 t125 _ A17.out).mono ?_); rintro e w' ⟨rfl, ⟨nd, rfl⟩⟩) | (go_at_call 26; (with_reducible refine (gf_Mul.calls k a0 a2 t130 _ A18.out).mono ?_); rintro e w' ⟨rfl, ⟨nd, rfl⟩⟩) | (go_at_call 25; (with_reducible refine (gf_Add.calls t125 t130 t131 _ A19.out).mono ?_); rintro e w' ⟨rfl, ⟨nd, rfl⟩⟩) | (go_at_call 26; (with_reducible refine (gf_Mul.calls k a0 1 t132 _ A21.out).mono ?_); rintro e w' ⟨rfl, ⟨nd, rfl⟩⟩))
              go_meet
              case rel => exact ⟨_, (true), (by first | rfl | (simp; done) | (simp [*]; done)), H', ⟨by first | omega | exact Nat.le_refl _⟩, by repeat (first | exact Drawn0.refl _ | apply Drawn0.step)⟩
          · rw [if_neg c20] at H
            have c20b0 : (t128 == t131) = false := beq_eq_false_iff_ne.mpr c20
            have c20b1 : (t128 != t131) = true := bne_iff_ne.mpr c20
            have H' := Aside0.mk H
            clear H
            go_wp2_with (first | ((with_reducible refine gate_callee (f := 26) rfl ?_); refine goesL_ (some 13) rfl rfl Try.func26 (by kernel_rfl) rfl #[.int .u8 a0, .int .u8 a1] rfl (by (try simp only [List.map_toArray, List.map_cons, List.map_nil]); first | done | rfl | (simp only [List.length_drop, List.length_take]; rfl)) ?_; (with_reducible refine (gf_Mul.calls k a0 a1 t121 _ A7.out).mono ?_); rintro e w' ⟨rfl, ⟨nd, rfl⟩⟩; refine ⟨_, rfl, ?_⟩) | ((with_reducible refine gate_callee (f := 26) rfl ?_); refine goesL_ (some 16) rfl rfl Try.func26 (by kernel_rfl) rfl #[.int .u8 a1, .int .u8 a0] rfl (by (try simp only [List.map_toArray, List.map_cons, List.map_nil]); first | done | rfl | (simp only [List.length_drop, List.length_take]; rfl)) ?_; (with_reducible refine (gf_Mul.calls k a1 a0 t122 _ A8.out).mono ?_); rintro e w' ⟨rfl, ⟨nd, rfl⟩⟩; refine ⟨_, rfl, ?_⟩) | (go_at_call 26; (with_reducible refine (gf_Mul.calls k a1 a2 t123 _ A10.out).mono ?_); rintro e w' ⟨rfl, ⟨nd, rfl⟩⟩) | (go_at_call 26; (with_reducible refine (gf_Mul.calls k a0 t123 t124 _ A11.out).mono ?_); rintro e w' ⟨rfl, ⟨nd, rfl⟩⟩) | (go_at_call 26; (with_reducible refine (gf_Mul.calls k a0 a1 t125 _ A12.out).mono ?_); rintro e w' ⟨rfl, ⟨nd, rfl⟩⟩) | (go_at_call 26; (with_reducible refine (gf_Mul.calls k t125 a2 t126 _ A13.out).mono ?_); rintro e w' ⟨rfl, ⟨nd, rfl⟩⟩) | (go_at_call 25; (with_reducible refine (gf_Add.calls a1 a2 t127 _ A15.out).mono ?_); rintro e w' ⟨rfl, ⟨nd, rfl⟩⟩) | (go_at_call 26; (with_reducible refine (gf_Mul.calls k a0 t127 t128 _ A16.out).mono ?_); rintro e w' ⟨rfl, ⟨nd, rfl⟩⟩) | (go_at_call 26; (with_reducible refine (gf_Mul.calls k a0 a1 t125 _ A17.out).mono ?_); rintro e w' ⟨rfl, ⟨nd, rfl⟩⟩) | (go_at_call 26; (with_reducible refine (gf_Mul.calls k a0 a2 t130 _ A18.out).mono ?_); rintro e w' ⟨rfl, ⟨nd, rfl⟩⟩) | (go_at_call 25; (with_reducible refine (gf_Add.calls t125 t130 t131 _ A19.out).mono ?_); rintro e w' ⟨rfl, ⟨nd, rfl⟩⟩))
            go_meet
            case rel => exact ⟨_, (true), (by first | rfl | (simp; done) | (simp [*]; done)), H', ⟨by first | omega | exact Nat.le_refl _⟩, by repeat (first | exact Drawn0.refl _ | apply Drawn0.step)⟩
        · rw [if_neg c14] at H
          have c14b0 : (t124 == t126) = false := beq_eq_false_iff_ne.mpr c14
          have c14b1 : (t124 != t126) = true := bne_iff_ne.mpr c14
          have H' := Aside0.mk H
          clear H
          go_wp2_with (first | ((with_reducible refine gate_callee (f := 26) rfl ?_); refine goesL_ (some 13) rfl rfl Try.func26 (by kernel_rfl) rfl #[.int .u8 a0, .int .u8 a1] rfl (by (try simp only [List.map_toArray, List.map_cons, List.map_nil]); first | done | rfl | (simp only [List.length_drop, List.length_take]; rfl)) ?_; (with_reducible refine (gf_Mul.calls k a0 a1 t121 _ A7.out).mono ?_); rintro e w' ⟨rfl, ⟨nd, rfl⟩⟩; refine ⟨_, rfl, ?_⟩) | ((with_reducible refine gate_callee (f := 26) rfl ?_); refine goesL_ (some 16) rfl rfl Try.func26 (by kernel_rfl) rfl #[.int .u8 a1, .int .u8 a0] rfl (by (try simp only [List.map_toArray, List.map_cons, List.map_nil]); first | done | rfl | (simp only [List.length_drop, List.length_take]; rfl)) ?_; (with_reducible refine (gf_Mul.calls k a1 a0 t122 _ A8.out).mono ?_); rintro e w' ⟨rfl, ⟨nd, rfl⟩⟩; refine ⟨_, rfl, ?_⟩) | (go_at_call 26; (with_reducible refine (gf_Mul.calls k a1 a2 t123 _ A10.out).mono ?_); rintro e w' ⟨rfl, ⟨nd, rfl⟩⟩) | (go_at_call 26; (with_reducible refine (gf_Mul.calls k a0 t123 t124 _ A11.out).mono ?_); rintro e w' ⟨rfl, ⟨nd, rfl⟩⟩) | (go_at_call 26; (with_reducible refine (gf_Mul.calls k a0 a1 t125 _ A12.out).mono ?_); rintro e w' ⟨rfl, ⟨nd, rfl⟩⟩) | (go_at_call 26; (with_reducible refine (gf_Mul.calls k t125 a2 t126 _ A13.out).mono ?_); rintro e w' ⟨rfl, ⟨nd, rfl⟩⟩))
          go_meet
          case rel => exact ⟨_, (true), (by first | rfl | (simp; done) | (simp [*]; done)), H', ⟨by first | omega | exact Nat.le_refl _⟩, by repeat (first | exact Drawn0.refl _ | apply Drawn0.step)⟩
      · rw [if_neg c9] at H
        have c9b0 : (t121 == t122) = false := beq_eq_false_iff_ne.mpr c9
        have c9b1 : (t121 != t122) = true := bne_iff_ne.mpr c9
        (first | rw [c9b0] | (simp only [i64_w, i32_w]; rw [c9b0]) | skip)
        have H' := Aside0.mk H
        clear H
        go_wp2_with (first | ((with_reducible refine gate_callee (f := 26) rfl ?_); refine goesL_ (some 13) rfl rfl Try.func26 (by kernel_rfl) rfl #[.int .u8 a0, .int .u8 a1] rfl (by (try simp only [List.map_toArray, List.map_cons, List.map_nil]); first | done | rfl | (simp only [List.length_drop, List.length_take]; rfl)) ?_; (with_reducible refine (gf_Mul.calls k a0 a1 t121 _ A7.out).mono ?_); rintro e w' ⟨rfl, ⟨nd, rfl⟩⟩; refine ⟨_, rfl, ?_⟩) | ((with_reducible refine gate_callee (f := 26) rfl ?_); refine goesL_ (some 16) rfl rfl Try.func26 (by kernel_rfl) rfl #[.int .u8 a1, .int .u8 a0] rfl (by (try simp only [List.map_toArray, List.map_cons, List.map_nil]); first | done | rfl | (simp only [List.length_drop, List.length_take]; rfl)) ?_; (with_reducible refine (gf_Mul.calls k a1 a0 t122 _ A8.out).mono ?_); rintro e w' ⟨rfl, ⟨nd, rfl⟩⟩; refine ⟨_, rfl, ?_⟩))
        go_meet
        case rel => exact ⟨_, (true), (by first | rfl | (simp; done) | (simp [*]; done)), H', ⟨by first | omega | exact Nat.le_refl _⟩, by repeat (first | exact Drawn0.refl _ | apply Drawn0.step)⟩
    case rest =>
      clear HC6
      try clear c1
      try clear c2
      try clear p2
      try clear c5
      try clear c7
      try clear c9
      try clear c9b0
      try clear c9b1
      try clear c14
      try clear c14b0
      try clear c14b1
      try clear c20
      try clear c20b0
      try clear c20b1
      try clear c22
      try clear c22b0
      try clear c22b1
      try clear c24
      try clear c24b0
      try clear c24b1
      try clear c26
      try clear c26b0
      try clear c26b1
      obtain ⟨kq, x68_5, rfl, HA, HJ5, ⟨mc5, rfl⟩⟩ := hcut
      cases kq with
      | zero => exact absurd HA.out (by simp [wristbandlaw07_GfField.j0])
      | succ kj5 =>
        have H := HA.out
        clear HA
        simp only [wristbandlaw07_GfField.j0] at H
        by_cases c28 : x68_5 = true
        · subst c28
          have H1 : (some false) = some r := by rw [if_pos rfl] at H; exact H
          clear H
          have H := H1
          clear H1
          obtain rfl := Option.some.inj H
          go_wp2
          go_ret
          exact ⟨by first | rfl | (simp; done) | (simp [*]; done), by repeat (first | exact Drawn0.refl _ | apply Drawn0.step)⟩
        · replace c28 := Bool.eq_false_iff.mpr c28
          subst c28
          have H1 : ((gf_Inv.f kj5 a0).bind fun bt136 => ((gf_Mul.f kj5 a0 a1).bind fun t138 => (if a0 = 0 then (if ((t138 == 0) == true) = true then (if ((bt136.2 == 0) == (a0 != 0)) = true then (some true) else (some false)) else (some false)) else (if ((t138 == 0) == (a1 == 0)) = true then (if ((bt136.2 == 0) == (a0 != 0)) = true then ((gf_Mul.f kj5 a0 bt136.1).bind fun t139 => (some (t139 == 1))) else (some false)) else (some false))))) = some r := by rw [if_neg (show ¬ (false = true) by decide)] at H; exact H
          clear H
          have H := H1
          clear H1
          replace H := Option.bind_eq_some_iff.mp H
          obtain ⟨⟨t136, t137⟩, A290, H⟩ := H
          replace H : ((gf_Mul.f kj5 a0 a1).bind fun t138 => (if a0 = 0 then (if ((t138 == 0) == true) = true then (if ((t137 == 0) == (a0 != 0)) = true then (some true) else (some false)) else (some false)) else (if ((t138 == 0) == (a1 == 0)) = true then (if ((t137 == 0) == (a0 != 0)) = true then ((gf_Mul.f kj5 a0 t136).bind fun t139 => (some (t139 == 1))) else (some false)) else (some false)))) = some r := H
          have A29 := Aside0.mk A290
          clear A290
          replace H := Option.bind_eq_some_iff.mp H
          obtain ⟨t138, A300, H⟩ := H
          replace H : (if a0 = 0 then (if ((t138 == 0) == true) = true then (if ((t137 == 0) == (a0 != 0)) = true then (some true) else (some false)) else (some false)) else (if ((t138 == 0) == (a1 == 0)) = true then (if ((t137 == 0) == (a0 != 0)) = true then ((gf_Mul.f kj5 a0 t136).bind fun t139 => (some (t139 == 1))) else (some false)) else (some false))) = some r := H
          have A30 := Aside0.mk A300
          clear A300
          by_cases c31 : a0 = 0
          · rw [if_pos c31] at H
            have c31b0 : (a0 == 0) = true := beq_iff_eq.mpr c31
            have c31b1 : (a0 != 0) = false := bne_eq_false_iff_eq.mpr c31
            clear c31
            by_cases c32 : ((t138 == 0) == true) = true
            · rw [if_pos c32] at H
              have c32b0 : ((t138 == 0) == true) = true := c32
              (try (have c32b1 : decide ((t138 == 0) = true) = true := by simpa using c32))
              (try (have c32b2 : ((t138 == 0) == true) = true := by simpa using c32))
              clear c32
              by_cases c33 : ((t137 == 0) == (a0 != 0)) = true
              · rw [if_pos c33] at H
                have c33b0 : ((t137 == 0) == (a0 != 0)) = true := c33
                have z33 : (t137 == 0) = false := by have q := c33b0; rw [c31b1] at q; revert q; cases (t137 == 0) <;> decide
                have z33n : ¬ t137 = 0 := by simpa using z33
                (try (have c33b1 : decide ((t137 == 0) = (a0 != 0)) = true := by simpa using c33))
                (try (have c33b2 : ((t137 == 0) == (a0 != 0)) = true := by simpa using c33))
                clear c33
                obtain rfl := Option.some.inj H
                go_wp2_with (first | ((with_reducible refine gate_callee (f := 21) rfl ?_); refine goesL_ (some 71) rfl rfl Try.func21 (by kernel_rfl) rfl #[.int .u8 a0] rfl (by (try simp only [List.map_toArray, List.map_cons, List.map_nil]); first | done | rfl | (simp only [List.length_drop, List.length_take]; rfl)) ?_; (with_reducible refine (gf_Inv.calls kj5 a0 t136 t137 _ A29.out).mono ?_); rintro e w' ⟨rfl, ⟨nd, rfl⟩⟩; refine ⟨_, rfl, ?_⟩) | ((with_reducible refine gate_callee (f := 26) rfl ?_); refine goesL_ (some 76) rfl rfl Try.func26 (by kernel_rfl) rfl #[.int .u8 a0, .int .u8 a1] rfl (by (try simp only [List.map_toArray, List.map_cons, List.map_nil]); first | done | rfl | (simp only [List.length_drop, List.length_take]; rfl)) ?_; (with_reducible refine (gf_Mul.calls kj5 a0 a1 t138 _ A30.out).mono ?_); rintro e w' ⟨rfl, ⟨nd, rfl⟩⟩; refine ⟨_, rfl, ?_⟩))
                go_ret
                exact ⟨by first | rfl | (simp; done) | (simp [*]; done), by repeat (first | exact Drawn0.refl _ | apply Drawn0.step)⟩
              · rw [if_neg c33] at H
                have c33b0 : ((t137 == 0) == (a0 != 0)) = false := by simpa using c33
                have z33 : (t137 == 0) = true := by have q := c33b0; rw [c31b1] at q; revert q; cases (t137 == 0) <;> decide
                have z33n : t137 = 0 := by simpa using z33
                (try (have c33b1 : decide ((t137 == 0) = (a0 != 0)) = false := by simpa using c33))
                (try (have c33b2 : ((t137 == 0) == (a0 != 0)) = false := by simpa using c33))
                (try (have c33b3 : ¬ ((t137 == 0) = (a0 != 0)) := by simpa using c33))
                clear c33
                obtain rfl := Option.some.inj H
                go_wp2_with (first | ((with_reducible refine gate_callee (f := 21) rfl ?_); refine goesL_ (some 71) rfl rfl Try.func21 (by kernel_rfl) rfl #[.int .u8 a0] rfl (by (try simp only [List.map_toArray, List.map_cons, List.map_nil]); first | done | rfl | (simp only [List.length_drop, List.length_take]; rfl)) ?_; (with_reducible refine (gf_Inv.calls kj5 a0 t136 t137 _ A29.out).mono ?_); rintro e w' ⟨rfl, ⟨nd, rfl⟩⟩; refine ⟨_, rfl, ?_⟩) | ((with_reducible refine gate_callee (f := 26) rfl ?_); refine goesL_ (some 76) rfl rfl Try.func26 (by kernel_rfl) rfl #[.int .u8 a0, .int .u8 a1] rfl (by (try simp only [List.map_toArray, List.map_cons, List.map_nil]); first | done | rfl | (simp only [List.length_drop, List.length_take]; rfl)) ?_; (with_reducible refine (gf_Mul.calls kj5 a0 a1 t138 _ A30.out).mono ?_); rintro e w' ⟨rfl, ⟨nd, rfl⟩⟩; refine ⟨_, rfl, ?_⟩))
                go_ret
                exact ⟨by first | rfl | (simp; done) | (simp [*]; done), by repeat (first | exact Drawn0.refl _ | apply Drawn0.step)⟩
            · rw [if_neg c32] at H
              have c32b0 : ((t138 == 0) == true) = false := by simpa using c32
              (try (have c32b1 : decide ((t138 == 0) = true) = false := by simpa using c32))
              (try (have c32b2 : ((t138 == 0) == true) = false := by simpa using c32))
              (try (have c32b3 : ¬ ((t138 == 0) = true) := by simpa using c32))
              clear c32
              obtain rfl := Option.some.inj H
              go_wp2_with (first | ((with_reducible refine gate_callee (f := 21) rfl ?_); refine goesL_ (some 71) rfl rfl Try.func21 (by kernel_rfl) rfl #[.int .u8 a0] rfl (by (try simp only [List.map_toArray, List.map_cons, List.map_nil]); first | done | rfl | (simp only [List.length_drop, List.length_take]; rfl)) ?_; (with_reducible refine (gf_Inv.calls kj5 a0 t136 t137 _ A29.out).mono ?_); rintro e w' ⟨rfl, ⟨nd, rfl⟩⟩; refine ⟨_, rfl, ?_⟩) | ((with_reducible refine gate_callee (f := 26) rfl ?_); refine goesL_ (some 76) rfl rfl Try.func26 (by kernel_rfl) rfl #[.int .u8 a0, .int .u8 a1] rfl (by (try simp only [List.map_toArray, List.map_cons, List.map_nil]); first | done | rfl | (simp only [List.length_drop, List.length_take]; rfl)) ?_; (with_reducible refine (gf_Mul.calls kj5 a0 a1 t138 _ A30.out).mono ?_); rintro e w' ⟨rfl, ⟨nd, rfl⟩⟩; refine ⟨_, rfl, ?_⟩))
              go_ret
              exact ⟨by first | rfl | (simp; done) | (simp [*]; done), by repeat (first | exact Drawn0.refl _ | apply Drawn0.step)⟩
          · rw [if_neg c31] at H
            have c31b0 : (a0 == 0) = false := beq_eq_false_iff_ne.mpr c31
            have c31b1 : (a0 != 0) = true := bne_iff_ne.mpr c31
            by_cases c34 : ((t138 == 0) == (a1 == 0)) = true
            · rw [if_pos c34] at H
              have c34b0 : ((t138 == 0) == (a1 == 0)) = true := c34
              (try (have c34b1 : decide ((t138 == 0) = (a1 == 0)) = true := by simpa using c34))
              (try (have c34b2 : ((t138 == 0) == (a1 == 0)) = true := by simpa using c34))
              clear c34
              by_cases c35 : ((t137 == 0) == (a0 != 0)) = true
              · rw [if_pos c35] at H
                have c35b0 : ((t137 == 0) == (a0 != 0)) = true := c35
                have z33 : (t137 == 0) = true := by have q := c35b0; rw [c31b1] at q; revert q; cases (t137 == 0) <;> decide
                have z33n : t137 = 0 := by simpa using z33
                (try (have c35b1 : decide ((t137 == 0) = (a0 != 0)) = true := by simpa using c35))
                (try (have c35b2 : ((t137 == 0) == (a0 != 0)) = true := by simpa using c35))
                clear c35
                replace H := Option.bind_eq_some_iff.mp H
                obtain ⟨t139, A360, H⟩ := H
                replace H : (some (t139 == 1)) = some r := H
                have A36 := Aside0.mk A360
                clear A360
                obtain rfl := Option.some.inj H
                go_wp2_with (first | ((with_reducible refine gate_callee (f := 21) rfl ?_); refine goesL_ (some 71) rfl rfl Try.func21 (by kernel_rfl) rfl #[.int .u8 a0] rfl (by (try simp only [List.map_toArray, List.map_cons, List.map_nil]); first | done | rfl | (simp only [List.length_drop, List.length_take]; rfl)) ?_; (with_reducible refine (gf_Inv.calls kj5 a0 t136 t137 _ A29.out).mono ?_); rintro e w' ⟨rfl, ⟨nd, rfl⟩⟩; refine ⟨_, rfl, ?_⟩) | ((with_reducible refine gate_callee (f := 26) rfl ?_); refine goesL_ (some 76) rfl rfl Try.func26 (by kernel_rfl) rfl #[.int .u8 a0, .int .u8 a1] rfl (by (try simp only [List.map_toArray, List.map_cons, List.map_nil]); first | done | rfl | (simp only [List.length_drop, List.length_take]; rfl)) ?_; (with_reducible refine (gf_Mul.calls kj5 a0 a1 t138 _ A30.out).mono ?_); rintro e w' ⟨rfl, ⟨nd, rfl⟩⟩; refine ⟨_, rfl, ?_⟩) | (go_at_call 26; (with_reducible refine (gf_Mul.calls kj5 a0 t136 t139 _ A36.out).mono ?_); rintro e w' ⟨rfl, ⟨nd, rfl⟩⟩))
                go_ret
                exact ⟨by first | rfl | (simp; done) | (simp [*]; done), by repeat (first | exact Drawn0.refl _ | apply Drawn0.step)⟩
              · rw [if_neg c35] at H
                have c35b0 : ((t137 == 0) == (a0 != 0)) = false := by simpa using c35
                have z33 : (t137 == 0) = false := by have q := c35b0; rw [c31b1] at q; revert q; cases (t137 == 0) <;> decide
                have z33n : ¬ t137 = 0 := by simpa using z33
                (try (have c35b1 : decide ((t137 == 0) = (a0 != 0)) = false := by simpa using c35))
                (try (have c35b2 : ((t137 == 0) == (a0 != 0)) = false := by simpa using c35))
                (try (have c35b3 : ¬ ((t137 == 0) = (a0 != 0)) := by simpa using c35))
                clear c35
                obtain rfl := Option.some.inj H
                go_wp2_with (first | ((with_reducible refine gate_callee (f := 21) rfl ?_); refine goesL_ (some 71) rfl rfl Try.func21 (by kernel_rfl) rfl #[.int .u8 a0] rfl (by (try simp only [List.map_toArray, List.map_cons, List.map_nil]); first | done | rfl | (simp only [List.length_drop, List.length_take]; rfl)) ?_; (with_reducible refine (gf_Inv.calls kj5 a0 t136 t137 _ A29.out).mono ?_); rintro e w' ⟨rfl, ⟨nd, rfl⟩⟩; refine ⟨_, rfl, ?_⟩) | ((with_reducible refine gate_callee (f := 26) rfl ?_); refine goesL_ (some 76) rfl rfl Try.func26 (by kernel_rfl) rfl #[.int .u8 a0, .int .u8 a1] rfl (by (try simp only [List.map_toArray, List.map_cons, List.map_nil]); first | done | rfl | (simp only [List.length_drop, List.length_take]; rfl)) ?_; (with_reducible refine (gf_Mul.calls kj5 a0 a1 t138 _ A30.out).mono ?_); rintro e w' ⟨rfl, ⟨nd, rfl⟩⟩; refine ⟨_, rfl, ?_⟩))
                go_ret
                exact ⟨by first | rfl | (simp; done) | (simp [*]; done), by repeat (first | exact Drawn0.refl _ | apply Drawn0.step)⟩
            · rw [if_neg c34] at H
              have c34b0 : ((t138 == 0) == (a1 == 0)) = false := by simpa using c34
              (try (have c34b1 : decide ((t138 == 0) = (a1 == 0)) = false := by simpa using c34))
              (try (have c34b2 : ((t138 == 0) == (a1 == 0)) = false := by simpa using c34))
              (try (have c34b3 : ¬ ((t138 == 0) = (a1 == 0)) := by simpa using c34))
              clear c34
              obtain rfl := Option.some.inj H
              go_wp2_with (first | ((with_reducible refine gate_callee (f := 21) rfl ?_); refine goesL_ (some 71) rfl rfl Try.func21 (by kernel_rfl) rfl #[.int .u8 a0] rfl (by (try simp only [List.map_toArray, List.map_cons, List.map_nil]); first | done | rfl | (simp only [List.length_drop, List.length_take]; rfl)) ?_; (with_reducible refine (gf_Inv.calls kj5 a0 t136 t137 _ A29.out).mono ?_); rintro e w' ⟨rfl, ⟨nd, rfl⟩⟩; refine ⟨_, rfl, ?_⟩) | ((with_reducible refine gate_callee (f := 26) rfl ?_); refine goesL_ (some 76) rfl rfl Try.func26 (by kernel_rfl) rfl #[.int .u8 a0, .int .u8 a1] rfl (by (try simp only [List.map_toArray, List.map_cons, List.map_nil]); first | done | rfl | (simp only [List.length_drop, List.length_take]; rfl)) ?_; (with_reducible refine (gf_Mul.calls kj5 a0 a1 t138 _ A30.out).mono ?_); rintro e w' ⟨rfl, ⟨nd, rfl⟩⟩; refine ⟨_, rfl, ?_⟩))
              go_ret
              exact ⟨by first | rfl | (simp; done) | (simp [*]; done), by repeat (first | exact Drawn0.refl _ | apply Drawn0.step)⟩
  · replace c5 := Bool.eq_false_iff.mpr c5
    subst c5
    have H1 : (some false) = some r := by rw [if_neg (show ¬ (false = true) by decide)] at H; exact H
    clear H
    have H := H1
    clear H1
    obtain rfl := Option.some.inj H
    go_enter Try.func7, Try.ntmps7
    go_wp2_with (first | ((with_reducible refine gate_callee (f := 20) rfl ?_); refine goesL_ (some 9) rfl rfl Try.func20 (by kernel_rfl) rfl #[] rfl (by (try simp only [List.map_toArray, List.map_cons, List.map_nil]); first | done | rfl | (simp only [List.length_drop, List.length_take]; rfl)) ?_; (with_reducible refine (wristbandlaw07_awake.calls k  false _ A4.out).mono ?_); rintro e w' ⟨rfl, ⟨nd, rfl⟩⟩; refine ⟨_, rfl, ?_⟩))
    go_ret
    exact ⟨by first | rfl | (simp; done) | (simp [*]; done), by repeat (first | exact Drawn0.refl _ | apply Drawn0.step)⟩

/-- THE ONE PURE STATEMENT of wristbandlaw07_GfField: yours. -/
def wristbandlaw07_GfField.Pure : Prop := ∀ (a0 : Int) (a1 : Int) (a2 : Int), (Lit.int .u8 a0).wf = true → (Lit.int .u8 a1).wf = true → (Lit.int .u8 a2).wf = true → ∃ k, wristbandlaw07_GfField.f k a0 a1 a2 = some true
theorem wristbandlaw07_GfField.walk (P : wristbandlaw07_GfField.Pure) (a0 : Int) (a1 : Int) (a2 : Int) (w : World) (w0 : (Lit.int .u8 a0).wf = true) (w1 : (Lit.int .u8 a1).wf = true) (w2 : (Lit.int .u8 a2).wf = true) :
    Calls Try.prog 7 #[.int .u8 a0, .int .u8 a1, .int .u8 a2] w fun e w' => e = .returned (.bool true) ∧ Below w.heap.size w w' := by
  obtain ⟨k, h⟩ := P a0 a1 a2 w0 w1 w2
  refine (wristbandlaw07_GfField.calls k a0 a1 a2 true w h).mono ?_
  rintro e w' ⟨rfl, hd⟩
  exact ⟨rfl, hd.below⟩

end Go.Proofs.Ytofmhbhcpojglaa.PGfField
