-- Written by a program of this session (its own contracts laid into the walks). Lean checks it.
import Derived.Test.YtgieppcadnhhaaaPx0
import Derived.Test.YtgieppcadnhhaaaPx1
import Derived.Test.YtgieppcadnhhaaaPx3
import Derived.RangeFuncNested
import Derived.RangeFuncBound
import Derived.RangeFuncCalls
import Derived.RangeFuncLeaves
import Derived.RangeFuncBox
import Derived.Shelf.Abstract
import Derived.OwnWalkIn
import Derived.TacticsInMore
import Derived.LoopNIn
import Derived.LoopIn
namespace Go.Proofs.Ytgieppcadnhhaaa.P
open Go.RowKit Go.Proofs.YtgieppcadnhhaaaW.PrintWords Go.Proofs.YtgieppcadnhhaaaW.PrintLast Go.Proofs.YtgieppcadnhhaaaW.PrintMore
attribute [local go_sem] max2_int min2_int max_two min_two max_three min_three max_four min_four   -- for this text's walks alone
set_option linter.unusedVariables false
set_option linter.unusedSimpArgs false

/-! ### poly_Eval: function 19 -/
-- IMPORTS Derived.RangeFuncNested Derived.RangeFuncBound Derived.RangeFuncCalls Derived.RangeFuncLeaves Derived.RangeFuncBox Derived.Shelf.Abstract Derived.OwnWalkIn Derived.TacticsInMore Derived.LoopNIn Derived.LoopIn
open Go.Shelf
attribute [local go_sem] Oper.semAt_some
/-- every product by x is a byte -/
def poly_Eval.ok (k : Nat) (x : Int) : Bool := (List.range 256).all fun u => match gf_Mul.f k (u : Int) x with | some t => decide (0 ≤ t) && decide (t ≤ 255) | none => false
theorem poly_Eval.ok_at {k : Nat} {x : Int} (h : poly_Eval.ok k x = true) (u : Int) (h0 : 0 ≤ u) (h1 : u ≤ 255) : ∃ t, gf_Mul.f k u x = some t ∧ 0 ≤ t ∧ t ≤ 255 := by
 have := List.all_eq_true.1 h u.toNat (by simp; omega)
 rw [show ((u.toNat : Nat) : Int) = u by omega] at this
 cases e : gf_Mul.f k u x with
 | none => rw [e] at this; cases this
 | some t => rw [e] at this; simp at this; exact ⟨t, rfl, this.1, this.2⟩
theorem poly_Eval.ok_mono (k : Nat) (x : Int) (h : poly_Eval.ok k x = true) : poly_Eval.ok (k + 1) x = true := by
 refine List.all_eq_true.2 fun u hu => ?_
 obtain ⟨t, e, h0, h1⟩ := poly_Eval.ok_at h (u : Int) (by omega) (by simp at hu; omega)
 rw [gf_Mul.mono _ _ k t e]; simp [h0, h1]
def poly_Eval.go (k : Nat) (l : List Int) (x : Int) : Nat → Int → Option Int
 | 0, v => some v
 | n + 1, v => (gf_Mul.f k v x).bind fun t => (gf_Add.f t (l[n]?.getD 0)).bind fun u => poly_Eval.go k l x n u
theorem poly_Eval.go_mono (k : Nat) (l : List Int) (x : Int) : ∀ n v, LeO (poly_Eval.go k l x n v) (poly_Eval.go (k + 1) l x n v)
 | 0, v => LeO.refl _
 | n + 1, v => by
  simp only [poly_Eval.go]
  exact LeO.bind (gf_Mul.mono _ _ k) fun t => LeO.bind (LeO.refl _) fun u => poly_Eval.go_mono k l x n u
def poly_Eval.bytes (l : List Int) : Bool := l.all fun c => decide (0 ≤ c) && decide (c ≤ 255)
def poly_Eval.f (k : Nat) (l0 : List Int) (a1 : Int) : Option Int := if l0.length ≤ 140737488355328 then (if poly_Eval.ok k a1 = true then (if poly_Eval.bytes l0 = true then poly_Eval.go k l0 a1 l0.length 0 else none) else none) else none
theorem poly_Eval.mono : ∀ l0 a1 k, LeO (poly_Eval.f k l0 a1) (poly_Eval.f (k + 1) l0 a1) := by
 intro l0 a1 k r h
 unfold poly_Eval.f at h ⊢
 by_cases h1 : l0.length ≤ 140737488355328
 ·rw [if_pos h1] at h ⊢
  by_cases h2 : poly_Eval.ok k a1 = true
  ·rw [if_pos h2] at h
   rw [if_pos (poly_Eval.ok_mono k a1 h2)]
   by_cases h3 : poly_Eval.bytes l0 = true
   ·rw [if_pos h3] at h ⊢
    exact poly_Eval.go_mono k l0 a1 _ _ r h
   ·rw [if_neg h3] at h; cases h
  ·rw [if_neg h2] at h; cases h
 ·rw [if_neg h1] at h; cases h
theorem poly_Eval.add_byte (t y : Int) : ∃ u, gf_Add.f t y = some u ∧ 0 ≤ u ∧ u ≤ 255 := by
 refine ⟨_, rfl, ?_⟩
 show 0 ≤ IntKind.u8.wrap _ ∧ IntKind.u8.wrap _ ≤ 255
 rw [IntKind.wrap_u8]; omega
set_option maxRecDepth 100000 in
set_option maxHeartbeats 8000000 in
theorem poly_Eval.calls (k : Nat) (A0 : Option Addr) (c0 : Nat) (l0 : List Int) (a1 : Int) (r : Int) (w : World) (hr0 : Kd.C (Kd.int .u8) w A0 l0.length l0) (hc0 : l0.length ≤ c0) (h : poly_Eval.f k l0 a1 = some r) :
  Calls Try.prog 19 #[.slice A0 l0.length c0, .int .u8 a1] w fun e w' => e = .returned (.int .u8 r) ∧ Below w.heap.size w w' := by
 unfold poly_Eval.f at h
 by_cases hl : l0.length ≤ 140737488355328
 case neg => rw [if_neg hl] at h; cases h
 rw [if_pos hl] at h
 by_cases hok : poly_Eval.ok k a1 = true
 case neg => rw [if_neg hok] at h; cases h
 rw [if_pos hok] at h
 by_cases hby : poly_Eval.bytes l0 = true
 case neg => rw [if_neg hby] at h; cases h
 rw [if_pos hby] at h
 have HF := Aside0.mk h
 have HOK := Aside0.mk hok
 have HBY : Aside0 (∀ j : Nat, 0 ≤ l0[j]?.getD 0 ∧ l0[j]?.getD 0 ≤ 255) := ⟨fun j => by
  by_cases hj : j < l0.length
  ·have := List.all_eq_true.1 hby l0[j] (List.getElem_mem hj)
   rw [List.getElem?_eq_getElem hj]; simpa using this
  ·rw [List.getElem?_eq_none (by omega)]; simp⟩
 clear h hok hby
 refine (callsIn_wide (n := 6)).1 ?_
 have h3 : Fence.wide.fn 19 := trivial
 have h4 : Fence.wide.fn 38 := trivial
 have h5 : Fence.wide.fn 50 := trivial
 have hro : Fence.wide.round = none := rfl
 refine callsIn_of_wp_marks Try.func19 rfl h3 ?_ hro
 simp only [Try.ntmps19, List.size_toArray, List.length_cons, List.length_nil, Nat.reduceAdd, Nat.reduceSub, Array.replicate_succ, Array.replicate_zero, List.push_toArray, List.append_toArray, List.nil_append, List.cons_append]
 gi_wp2_with (gi_at_call 38; refine (back_in Fence.wide 5 h4 hro _ _ _ _).mono ?_; rintro e w' ⟨rfl, rfl⟩)
 have bX := ((Boxed.new w 5 (.int .u8 a1)).alloc (.cells #[.int .u8 0] 5)).alloc (.cells #[.slice A0 l0.length c0] 22)
 have bV := (Boxed.new (w.alloc (.cells #[.int .u8 a1] 5)) 5 (.int .u8 0)).alloc (.cells #[.slice A0 l0.length c0] 22)
 have bN := Boxed.new ((w.alloc (.cells #[.int .u8 a1] 5)).alloc (.cells #[.int .u8 0] 5)) 22 (.slice A0 l0.length c0)
 rw [World.size_alloc] at bV bN
 rw [World.size_alloc] at bN
 have hB0 : Below w.heap.size w (((w.alloc (.cells #[.int .u8 a1] 5)).alloc (.cells #[.int .u8 0] 5)).alloc (.cells #[.slice A0 l0.length c0] 22)) := (((Below.refl _ w).alloc (Nat.le_refl _) _).alloc (by simp) _).alloc (by simp; omega) _
 have bxo : ∀ (B : Nat) (t : TypeId) (v : Value) (X Y : World) (row : Option Nat), Boxed X B t v → X.grownBy Y row → (∀ r, row = some r → ∃ o : Obj, X.heap[r]? = some o ∧ o.isCells = false) → Boxed Y B t v :=
  fun B t v X Y row h hg hr => boxed_own (β := Unit) B t (fun _ => v) () X Y row h hg hr
 refine wpIn_rangeFunc_ownG hro (by omega) (gf := 50) (lb := #[.pointer (some ⟨w.heap.size + 1 + 1, 0, none⟩)]) rfl h5 (enters_of Try.func50 (by kernel_rfl) rfl)
  (back_stops (fun x : { p : Nat × Int // 0 ≤ p.2 ∧ p.2 ≤ 255 } => #[Value.int .i64 (x.1.1 : Int), Value.int .u8 x.1.2]) (fun j => ⟨(l0.length - 1 - j, l0[l0.length - 1 - j]?.getD 0), HBY.out _⟩) Fence.wide 5 h5 hro (by omega) (w.heap.size + 1 + 1) w A0 c0 l0 (by omega) hr0 (fun j hj => by rw [show ((l0.length - 1 - j : Nat) : Int) = (l0.length : Int) - 1 - (j : Int) by omega]) _ (by simp) hB0 bN.cell) backK_t (BackK.putObj (by simp; omega) (by simp)) (Below.refl _ _) (fun _ => rfl)
  (fun pre W => (∃ u : Int, 0 ≤ u ∧ u ≤ 255 ∧ Boxed W (w.heap.size + 1) 5 (.int .u8 u) ∧ Boxed W w.heap.size 5 (.int .u8 a1) ∧ Boxed W (w.heap.size + 1 + 1) 22 (.slice A0 l0.length c0) ∧
   (pre = BackUp (fun j => ⟨(l0.length - 1 - j, l0[l0.length - 1 - j]?.getD 0), HBY.out _⟩) pre.length → poly_Eval.go k l0 a1 (l0.length - pre.length) u = some r)) ∧ Below w.heap.size w W)
  (fun _ _ _ => False)
  (OwnFrom.and (Own.from (fun s X Y row hs hg hr => by obtain ⟨u, g0, g1, g2, g3, g4, g5⟩ := hs; exact ⟨u, g0, g1, bxo _ _ _ _ _ _ g2 hg hr, bxo _ _ _ _ _ _ g3 hg hr, bxo _ _ _ _ _ _ g4 hg hr, g5⟩) _) (ownFrom_below (Nat.le_refl _) (by simp; omega)))
  (fun _ _ _ _ _ hs _ _ => hs)
  ⟨⟨0, by omega, by omega, bV, bX, bN, fun _ => HF.out⟩, hB0⟩
  (fun x => { tmps := #[.slice A0 l0.length c0, .int .u8 a1, undef, .pointer (some ⟨w.heap.size, 0, none⟩), .int .u8 0, .pointer (some ⟨w.heap.size + 1, 0, none⟩), undef, .int .u8 x.1.2, .slice A0 l0.length c0, .func (.func 50) #[] #[.pointer (some ⟨w.heap.size + 1 + 1, 0, none⟩)], .int .i64 (x.1.1 : Int), .int .u8 x.1.2, undef, undef, undef, undef, undef, undef], defers := [] }) ?assign ?body ?done ?stop
 case assign =>
  intro l x W K hK
  gi_wp2
  exact hK
 case body =>
  rintro l pre x W ⟨⟨u, g0, g1, g2, g3, g4, g5⟩, hB⟩ hlen
  have HL := Aside0.mk hlen
  have G5 := Aside0.mk g5
  clear hlen g5
  obtain ⟨t, ht, ht0, ht1⟩ := poly_Eval.ok_at HOK.out u g0 g1
  obtain ⟨v, hv, hv0, hv1⟩ := poly_Eval.add_byte t x.1.2
  have HT := Aside0.mk ht
  have HV := Aside0.mk hv
  have G2 := Aside0.mk g2
  have G3 := Aside0.mk g3
  have G4 := Aside0.mk g4
  have c2 := g2.cell
  have f2 := g2.frozen
  have c3 := g3.cell
  clear ht hv g2 g3 g4
  gi_wp2_with (first | (refine ⟨trivial, ?_⟩; gi_at_call 26; refine (CallsIn.inRound l (callsIn_wide.2 (gf_Mul.calls k u a1 t _ HT.out))).mono ?_; rintro e w' ⟨rfl, ⟨n1, rfl⟩⟩) | (refine ⟨trivial, ?_⟩; gi_at_call 25; refine (CallsIn.inRound l (callsIn_wide.2 (gf_Add.calls t x.1.2 v _ HV.out))).mono ?_; rintro e w' ⟨rfl, ⟨n2, rfl⟩⟩))
  have hd : ∀ n, Below w.heap.size W (W.drewN n) := fun n => ⟨rfl, rfl, rfl, Nat.le_refl _, fun _ _ => rfl⟩
  have hset := fun n => (hd n).setCell (p := ⟨w.heap.size + 1, 0, none⟩) (by simp) (.int .u8 v)
  refine ⟨((⟨Nat.le_refl _, fun _ _ h _ => h⟩ : KeepsOthers W (W.drewN _)).trans (KeepsOthers.setCell _ _ _)).from _, ⟨hset _, ((show Boxed (W.drewN _) _ _ _ from G4.out).other (by omega) _).cell.trans G4.out.cell.symm⟩,
   ⟨v, hv0, hv1, (show Boxed (W.drewN _) _ _ _ from G2.out).set _, (show Boxed (W.drewN _) _ _ _ from G3.out).other (by omega) _, (show Boxed (W.drewN _) _ _ _ from G4.out).other (by omega) _, fun hp => ?_⟩, hB.trans (hset _)⟩
  have hlen := HL.out
  rw [List.length_append, List.length_singleton, BackUp_succ] at hp
  obtain ⟨hp1, hp2⟩ := List.append_inj' hp rfl
  have hx : x.1.2 = l0[l0.length - 1 - pre.length]?.getD 0 := by
   have := (List.cons.inj hp2).1
   rw [this]
  have hg := G5.out hp1
  rw [show l0.length - pre.length = (l0.length - (pre.length + 1)) + 1 by omega] at hg
  simp only [poly_Eval.go] at hg
  rw [HT.out, Option.bind_some, show l0.length - (pre.length + 1) = l0.length - 1 - pre.length by omega, ← hx, HV.out, Option.bind_some] at hg
  rw [List.length_append, List.length_singleton, show l0.length - (pre.length + 1) = l0.length - 1 - pre.length by omega]
  exact hg
 case done =>
  rintro D ys W hD rfl ⟨⟨u, g0, g1, g2, g3, g4, g5⟩, hB⟩ hK
  have hu : u = r := by
   have := g5 (by rw [BackUp_length])
   rw [BackUp_length, Nat.sub_self] at this
   exact Option.some.inj this
  subst hu
  have c2 := g2.cell
  clear g0 g1 g2 g3 g4 g5
  gi_wp2
  refine ⟨by simp, .inl ⟨_, _, rfl, run_takeDeferred hK, ?_⟩⟩
  exact ⟨_, results_tmp rfl _ _ _, rfl, hB.trans (belowK_b (w := w) (Nat.le_refl _) W D _ _ (by simp at hD; omega) hK rfl rfl)⟩
 case stop =>
  rintro D c pre W hD _ h _
  exact h.elim

end Go.Proofs.Ytgieppcadnhhaaa.P
