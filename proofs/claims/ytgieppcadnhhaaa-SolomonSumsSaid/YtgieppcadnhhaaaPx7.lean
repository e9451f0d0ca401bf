-- Written by a program of this session (its own contracts laid into the walks). Lean checks it.
import Derived.Test.YtgieppcadnhhaaaPx0
import Derived.Shelf.Spec.SlicesGrow
namespace Go.Proofs.Ytgieppcadnhhaaa.P
open Go.RowKit Go.Proofs.YtgieppcadnhhaaaW.PrintWords Go.Proofs.YtgieppcadnhhaaaW.PrintLast Go.Proofs.YtgieppcadnhhaaaW.PrintMore
attribute [local go_sem] max2_int min2_int max_two min_two max_three min_three max_four min_four   -- for this text's walks alone
set_option linter.unusedVariables false
set_option linter.unusedSimpArgs false

/-! ### slices_Grow_byte_byte: function 54 -/
-- IMPORTS Derived.Shelf.Spec.SlicesGrow
/-- The shelf's numbering of slices.Grow, at this program. -/
def slices_Grow_byte_byte.ren : Go.Shelf.Ren := ⟨fun x => if x = 4 then 54 else x, fun x => if x = 25 then 5 else if x = 22 then 22 else x, fun x => x⟩
theorem slices_Grow_byte_byte.lays : Lays8.n4 Try.prog slices_Grow_byte_byte.ren where
 mixed := by kernel_rfl
 f4 := ⟨Try.f54.name, by decide, by kernel_rfl⟩
 t0 := by kernel_rfl
 a0 := fun _ => by rfl
 z0 := fun _ => by rfl
 v0 := fun _ => by rfl
 t3 := by kernel_rfl
 a3 := fun _ => by rfl
 z3 := fun _ => by rfl
 v3 := fun _ => by rfl
 t4 := by kernel_rfl
 a4 := fun _ => by rfl
 z4 := fun _ => by rfl
 v4 := fun _ => by rfl
 t9 := by kernel_rfl
 a9 := fun _ => by rfl
 z9 := fun _ => by rfl
 v9 := fun _ => by rfl
 t20 := by kernel_rfl
 a20 := fun _ => by rfl
 z20 := fun _ => by rfl
 v20 := fun _ => by rfl
 t22 := by kernel_rfl
 a22 := fun _ => by rfl
 z22 := fun _ => by rfl
 v22 := fun _ => by rfl
/-- slices.Grow of the nil slice: a row of the call's own, of no elements. -/
theorem slices_Grow_byte_byte.nil (n : Nat) (hn : n * 1 ≤ 140737488355328) (hn2 : n ≤ 4611686018427387904) (w : World) : Calls Try.prog 54 #[.slice none 0 0, .int .i64 n] w fun e w' => ∃ v0_ : Value, e = .returned v0_ ∧ Kd.R (Kd.int .u8) 5 w' w.heap.size (fun _ => True) v0_ [] ∧ Below w.heap.size w w' := by
 by_cases h0 : n = 0
 ·subst h0
  refine Calls.mono (Any8.slices_Grow_room slices_Grow_byte_byte.lays none 0 0 0 w (Nat.le_refl _) (by omega) (by omega) (by omega)) ?_
  rintro e w' ⟨rfl, rfl⟩
  exact ⟨_, rfl, Kd.R_nil _ _ _ _ _, Below.refl _ _⟩
 ·obtain ⟨i0, hi0, hi1⟩ : ∃ i, Try.prog.info? 5 = some i ∧ (i.zero, i.size, i.bytes) = (some ((.int .u8 0)), 1, 1) := ⟨_, by rfl, by rfl⟩
  simp only [Prod.mk.injEq] at hi1
  obtain ⟨hz, hs, hb⟩ := hi1
  refine Calls.mono (Any8.slices_Grow_grow slices_Grow_byte_byte.lays i0 ((.int .u8 0)) hi0 hz (by omega) none 0 0 n [] w (Nat.le_refl _) (by omega) (by rw [hb]; omega) (by omega) (by simp) (fun _ => rfl) (fun a h => by cases h)) ?_
  rintro e w' ⟨rfl, rfl⟩
  have hcap := grownCap_le_maxLen w (0 + n) 0 (slices_Grow_byte_byte.ren.t 25) (by unfold maxLen; omega)
  have hge := grownCap_ge w (0 + n) 0 (slices_Grow_byte_byte.ren.t 25)
  refine ⟨_, rfl, Kd.R_of_own (xs := ([] : List Int)) ?_ (fun _ _ => trivial), below_alloc (below_drew1 (Below.refl _ _)) _⟩
  refine ⟨rfl, .inr ⟨w.heap.size, _, _, rfl, Nat.le_refl _, heap_alloc_new _ _, Nat.zero_le _, hcap, ?_, rfl⟩⟩
  have hc : ((.int .u8 0) : Value).cells.size = 1 := rfl
  have hk : ((Kd.int .u8)).sz = 1 := rfl
  simp only [Array.size_append, size_zeroCells, hc, Nat.mul_one, List.size_toArray, List.length_nil]
  omega

end Go.Proofs.Ytgieppcadnhhaaa.P
