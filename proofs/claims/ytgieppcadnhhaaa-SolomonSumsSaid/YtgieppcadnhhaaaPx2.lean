-- Written by a program of this session (its own contracts laid into the walks). Lean checks it.
import Derived.Test.YtgieppcadnhhaaaPx0
import Derived.Test.YtgieppcadnhhaaaPx1
import Derived.RangeFuncNested
import Derived.RangeFuncBound
import Derived.RangeFuncCalls
import Derived.RangeFuncLeaves
import Derived.RangeFuncBox
import Derived.Shelf.Abstract
import Derived.OwnWalkIn
import Derived.TacticsInMore
import Derived.LoopNIn
import Derived.LoopIn
namespace Go.Proofs.Ytgieppcadnhhaaa.P
open Go.RowKit Go.Proofs.YtgieppcadnhhaaaW.PrintWords Go.Proofs.YtgieppcadnhhaaaW.PrintLast Go.Proofs.YtgieppcadnhhaaaW.PrintMore
attribute [local go_sem] max2_int min2_int max_two min_two max_three min_three max_four min_four   -- for this text's walks alone
set_option linter.unusedVariables false
set_option linter.unusedSimpArgs false

/-! ### poly_Degree: function 12 -/
-- IMPORTS Derived.RangeFuncNested Derived.RangeFuncBound Derived.RangeFuncCalls Derived.RangeFuncLeaves Derived.RangeFuncBox Derived.Shelf.Abstract Derived.OwnWalkIn Derived.TacticsInMore Derived.LoopNIn Derived.LoopIn
open Go.Shelf
attribute [local go_sem] Oper.semAt_some
/-- the place of the last coefficient that isn't 0 among the first k, or -1 -/
def poly_Degree.top (l : List Int) : Nat → Int
 | 0 => -1
 | k + 1 => if l[k]?.getD 0 = 0 then poly_Degree.top l k else (k : Int)
def poly_Degree.f (l0 : List Int) : Option Int := if l0.length ≤ 140737488355328 then some (poly_Degree.top l0 l0.length) else none
theorem poly_Degree.top_all (l : List Int) (n : Nat) : ∀ k, k ≤ n → (∀ j, j < k → l[n - 1 - j]?.getD 0 = 0) → poly_Degree.top l n = poly_Degree.top l (n - k) := by
 intro k
 induction k with
 | zero => intro _ _; rfl
 | succ k ih =>
  intro hk h
  rw [ih (by omega) (fun j hj => h j (by omega)), show n - k = (n - (k + 1)) + 1 by omega]
  have := h k (by omega)
  rw [show n - 1 - k = n - (k + 1) by omega] at this
  simp only [poly_Degree.top]; rw [if_pos this]
set_option maxRecDepth 100000 in
set_option maxHeartbeats 8000000 in
theorem poly_Degree.calls (A0 : Option Addr) (c0 : Nat) (l0 : List Int) (r : Int) (w : World) (hr0 : Kd.C (Kd.int .u8) w A0 l0.length l0) (hc0 : l0.length ≤ c0) (h : poly_Degree.f l0 = some r) :
  Calls Try.prog 12 #[.slice A0 l0.length c0] w fun e w' => e = .returned (.int .i64 r) ∧ Below w.heap.size w w' := by
 have hl : l0.length ≤ 140737488355328 := by
  refine Decidable.byContradiction fun hn => ?_
  rw [poly_Degree.f, if_neg hn] at h; cases h
 obtain rfl : poly_Degree.top l0 l0.length = r := by rw [poly_Degree.f, if_pos hl] at h; exact Option.some.inj h
 clear h
 refine (callsIn_wide (n := 6)).1 ?_
 obtain ⟨F, hF⟩ : ∃ F, F = Fence.wide := ⟨_, rfl⟩
 have h3 : F.fn 12 := by rw [hF]; trivial
 have h4 : F.fn 38 := by rw [hF]; trivial
 have h5 : F.fn 50 := by rw [hF]; trivial
 have hro : F.round = none := by rw [hF]; rfl
 rw [← hF]
 clear hF
 refine callsIn_of_wp_marks Try.func12 rfl h3 ?_ hro
 simp only [Try.ntmps12, List.size_toArray, List.length_cons, List.length_nil, Nat.reduceAdd, Nat.reduceSub, Array.replicate_succ, Array.replicate_zero, List.push_toArray, List.append_toArray, List.nil_append, List.cons_append]
 gi_wp2_with (gi_at_call 38; refine (back_in F 5 h4 hro _ _ _ _).mono ?_; rintro e w' ⟨rfl, rfl⟩)
 have bR := Boxed.new w 3 (.int .i64 0)
 have bN := Boxed.new (w.alloc (.cells #[.int .i64 0] 3)) 22 (.slice A0 l0.length c0)
 rw [World.size_alloc] at bN
 have hB0 : Below w.heap.size w ((w.alloc (.cells #[.int .i64 0] 3)).alloc (.cells #[.slice A0 l0.length c0] 22)) := ((Below.refl _ w).alloc (Nat.le_refl _) _).alloc (by simp) _
 refine wpIn_rangeFunc_ownG hro (by omega) (gf := 50) (lb := #[.pointer (some ⟨w.heap.size + 1, 0, none⟩)]) rfl h5 (enters_of Try.func50 (by kernel_rfl) rfl)
  (back_stops (fun x : Nat × Int => #[Value.int .i64 (x.1 : Int), Value.int .u8 x.2]) (fun j => (l0.length - 1 - j, l0[l0.length - 1 - j]?.getD 0)) F 5 h5 hro (by omega) (w.heap.size + 1) w A0 c0 l0 (by omega) hr0 (fun j hj => by rw [show ((l0.length - 1 - j : Nat) : Int) = (l0.length : Int) - 1 - (j : Int) by omega]) _ (by simp) hB0 bN.cell) backK_t (BackK.putObj (by simp; omega) (by simp)) (Below.refl _ _) (fun _ => rfl)
  (fun pre W => ((∀ p ∈ pre, p.2 = 0) ∧ W.cell? ⟨w.heap.size, 0, none⟩ = some (.int .i64 0) ∧ W.frozen? ⟨w.heap.size, 0, none⟩ = false) ∧ Below w.heap.size w W)
  (fun c pre W => (c = .ret ∧ ∃ ini last, pre = ini ++ [last] ∧ (∀ p ∈ ini, p.2 = 0) ∧ last.2 ≠ 0 ∧ W.cell? ⟨w.heap.size, 0, none⟩ = some (.int .i64 (last.1 : Int))) ∧ Below w.heap.size w W)
  (OwnFrom.and (Own.from (fun s A B row hs hg hr => ⟨hs.1, cell_kept hs.2.1 hg hr, (frozen_kept hs.2.1 hg hr).trans hs.2.2⟩) _) (ownFrom_below (Nat.le_refl _) (by simp; omega)))
  (fun c => OwnFrom.and (Own.from (fun s A B row hs hg hr => by obtain ⟨hc, ini, last, e1, e2, e3, e4⟩ := hs; exact ⟨hc, ini, last, e1, e2, e3, cell_kept e4 hg hr⟩) _) (ownFrom_below (Nat.le_refl _) (by simp; omega)))
  ⟨⟨by simp, (bR.alloc _).cell, (bR.alloc _).frozen⟩, hB0⟩
  (fun x => { tmps := #[.slice A0 l0.length c0, undef, .pointer (some ⟨w.heap.size, 0, none⟩), .int .i64 (x.1 : Int), .int .u8 x.2, .slice A0 l0.length c0, .func (.func 50) #[] #[.pointer (some ⟨w.heap.size + 1, 0, none⟩)], .int .i64 (x.1 : Int), .int .u8 x.2, undef, undef, undef], defers := [] }) ?assign ?body ?done ?stop
 case assign =>
  intro l x W K hK
  gi_wp2
  exact hK
 case body =>
  rintro l pre x W ⟨⟨hp, hcr, hfr⟩, hB⟩ _
  by_cases hx : x.2 = 0
  ·have hx' : (x.2 != 0) = false := by simp [hx]
   clear hx
   gi_wp2
   exact ⟨KeepsFrom.refl _ _, BackK.refl _ _ _, ⟨fun p hp' => (List.mem_append.1 hp').elim (hp p) (fun e => by simp at e; subst e; simpa using hx'), hcr, hfr⟩, hB⟩
  ·have hx' : (x.2 != 0) = true := by simp [hx]
   gi_wp2
   exact ⟨(KeepsOthers.setCell _ _ _).from _, ⟨rfl, pre, x, rfl, hp, hx, World.cell?_setCell_same' _ _ _ (by rw [hcr]; rfl)⟩, hB.setCell (p := ⟨w.heap.size, 0, none⟩) (Nat.le_refl _) _⟩
 case done =>
  rintro D ys W hD rfl ⟨⟨hne, hcr, hfr⟩, hB⟩ hK
  have hne' : poly_Degree.top l0 l0.length = -1 := by
   rw [poly_Degree.top_all l0 l0.length l0.length (Nat.le_refl _) (fun j hj => hne (l0.length - 1 - j, l0[l0.length - 1 - j]?.getD 0) (by simp only [BackUp, List.mem_map, List.mem_range]; exact ⟨j, hj, rfl⟩)), Nat.sub_self]; rfl
  have HN := Aside0.mk hne'
  clear hne hne'
  gi_wp2
  have hK' := (KeepsOthers.setCell W ⟨w.heap.size, 0, none⟩ (.int .i64 (-1))).same D _ hK rfl
  refine ⟨by simp, .inl ⟨_, _, rfl, run_takeDeferred hK', ?_⟩⟩
  have hc5 := cell_kept (World.cell?_setCell_same' W ⟨w.heap.size, 0, none⟩ (.int .i64 (-1)) (by rw [hcr]; rfl)) (grownBy_putObj' _ D (.deferred none)) (fun r e => by cases e; exact ⟨_, hK', rfl⟩)
  refine ⟨.int .i64 (-1), ?_, by rw [HN.out], (hB.setCell (p := ⟨w.heap.size, 0, none⟩) (Nat.le_refl _) _).trans (belowK_b (w := w) (Nat.le_refl _) _ D _ _ (by simp at hD; omega) hK' rfl rfl)⟩
  simp [results, Try.f12, go_sem, hc5]
 case stop =>
  rintro D c pre W hD ⟨k, hk, rfl⟩ ⟨⟨rfl, ini, last, e1, e2, e3, hcr⟩, hB⟩ hK
  gi_wp2
  refine ⟨by simp, .inl ⟨_, _, rfl, run_takeDeferred hK, ?_⟩⟩
  have hc5 := cell_kept hcr (grownBy_putObj' _ D (.deferred none)) (fun r e => by cases e; exact ⟨_, hK, rfl⟩)
  obtain ⟨k', rfl⟩ : ∃ k', k = k' + 1 := by
   cases k with
   | zero => simp [BackUp] at e1
   | succ k' => exact ⟨k', rfl⟩
  rw [BackUp_succ] at e1
  obtain ⟨rfl, e5⟩ := List.append_inj' e1 rfl
  obtain rfl : (l0.length - 1 - k', l0[l0.length - 1 - k']?.getD 0) = last := by simpa using e5
  have hat : poly_Degree.top l0 l0.length = ((l0.length - 1 - k' : Nat) : Int) := by
   rw [poly_Degree.top_all l0 l0.length k' (by omega) (fun j hj => e2 (l0.length - 1 - j, l0[l0.length - 1 - j]?.getD 0) (by simp only [BackUp, List.mem_map, List.mem_range]; exact ⟨j, hj, rfl⟩)), show l0.length - k' = (l0.length - 1 - k') + 1 by omega]
   simp only [poly_Degree.top]; rw [if_neg e3]
  refine ⟨.int .i64 ((l0.length - 1 - k' : Nat) : Int), ?_, by rw [hat], hB.trans (belowK_b (w := w) (Nat.le_refl _) W D _ _ (by simp at hD; omega) hK rfl rfl)⟩
  simp [results, Try.f12, go_sem, hc5]


end Go.Proofs.Ytgieppcadnhhaaa.P
