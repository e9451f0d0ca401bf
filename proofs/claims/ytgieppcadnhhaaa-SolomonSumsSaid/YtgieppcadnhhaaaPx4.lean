-- Written by a program of this session (its own contracts laid into the walks). Lean checks it.
import Derived.Test.YtgieppcadnhhaaaPx0
import Derived.Test.YtgieppcadnhhaaaPx1
import Derived.Test.YtgieppcadnhhaaaPx2
import Derived.Test.YtgieppcadnhhaaaPx3
import Derived.Test.YtgieppcadnhhaaaPx10
import Derived.Shelf.RegionOpen
import Derived.RangeFuncNested
import Derived.RangeFuncBound
import Derived.RangeFuncCalls
import Derived.RangeFuncLeaves
import Derived.RangeFuncBox
import Derived.Shelf.Abstract
import Derived.OwnWalkIn
import Derived.TacticsInMore
import Derived.LoopNIn
import Derived.LoopIn
namespace Go.Proofs.Ytgieppcadnhhaaa.P
open Go.RowKit Go.Proofs.YtgieppcadnhhaaaW.PrintWords Go.Proofs.YtgieppcadnhhaaaW.PrintLast Go.Proofs.YtgieppcadnhhaaaW.PrintMore
attribute [local go_sem] max2_int min2_int max_two min_two max_three min_three max_four min_four   -- for this text's walks alone
set_option linter.unusedVariables false
set_option linter.unusedSimpArgs false

/-! ### poly_Quo: function 23 -/
-- IMPORTS Derived.Shelf.RegionOpen Derived.RangeFuncNested Derived.RangeFuncBound Derived.RangeFuncCalls Derived.RangeFuncLeaves Derived.RangeFuncBox Derived.Shelf.Abstract Derived.OwnWalkIn Derived.TacticsInMore Derived.LoopNIn Derived.LoopIn
open Go.Shelf
attribute [local go_sem] Oper.semAt_some
def poly_Quo.okAll (k : Nat) : Bool := (List.range 256).all fun v => poly_Eval.ok k (v : Int)
theorem poly_Quo.okAll_at {k : Nat} (h : poly_Quo.okAll k = true) (u v : Int) (h0 : 0 ≤ u) (h1 : u ≤ 255) (g0 : 0 ≤ v) (g1 : v ≤ 255) : ∃ t, gf_Mul.f k u v = some t ∧ 0 ≤ t ∧ t ≤ 255 := by
 have := List.all_eq_true.1 h v.toNat (by simp; omega)
 rw [show ((v.toNat : Nat) : Int) = v by omega] at this
 exact poly_Eval.ok_at this u h0 h1
theorem poly_Quo.okAll_mono (k : Nat) (h : poly_Quo.okAll k = true) : poly_Quo.okAll (k + 1) = true :=
 List.all_eq_true.2 fun v hv => poly_Eval.ok_mono k _ (List.all_eq_true.1 h v hv)
/-- a row less a times the divisor, from place i on -/
def poly_Quo.inner (k : Nat) (q : List Int) (a : Int) (i : Nat) : Nat → Nat → List Int → Option (List Int)
 | 0, _, lf => some lf
 | m + 1, j, lf => (gf_Mul.f k a (rd q j)).bind fun t => (gf_Add.f (rd lf (i + j : Nat)) t).bind fun u => poly_Quo.inner k q a i m (j + 1) (lf.set (i + j) u)
def poly_Quo.outer (k : Nat) (q : List Int) (d : Nat) (inv : Int) : Nat → List Int → List Int → Option (List Int × List Int)
 | 0, lf, of => some (lf, of)
 | n + 1, lf, of => (gf_Mul.f k (rd lf (n + d : Nat)) inv).bind fun a => (poly_Quo.inner k q a n (d + 1) 0 lf).bind fun lf' => poly_Quo.outer k q d inv n lf' (of.set n a)
theorem poly_Quo.inner_mono (k : Nat) (q : List Int) (a : Int) (i : Nat) : ∀ m j lf, LeO (poly_Quo.inner k q a i m j lf) (poly_Quo.inner (k + 1) q a i m j lf)
 | 0, _, _ => LeO.refl _
 | m + 1, j, lf => by
  simp only [poly_Quo.inner]
  exact LeO.bind (gf_Mul.mono _ _ k) fun t => LeO.bind (LeO.refl _) fun u => poly_Quo.inner_mono k q a i m (j + 1) _
theorem poly_Quo.outer_mono (k : Nat) (q : List Int) (d : Nat) (inv : Int) : ∀ n lf of, LeO (poly_Quo.outer k q d inv n lf of) (poly_Quo.outer (k + 1) q d inv n lf of)
 | 0, _, _ => LeO.refl _
 | n + 1, lf, of => by
  simp only [poly_Quo.outer]
  exact LeO.bind (gf_Mul.mono _ _ k) fun a => LeO.bind (poly_Quo.inner_mono k q a n _ _ _) fun lf' => poly_Quo.outer_mono k q d inv n lf' _
def poly_Quo.rest (k : Nat) (q : List Int) (d : Int) (inv : Int) (lf : List Int) : Option (List Int × List Int × Int) :=
 if poly_Quo.okAll k = true ∧ poly_Eval.bytes q = true ∧ poly_Eval.bytes lf = true ∧ 0 ≤ inv ∧ inv ≤ 255 ∧ lf.length < 140737488355328 ∧ q.length < 140737488355328 then
  (poly_Quo.outer k q d.toNat inv (lf.length - d.toNat) lf (List.replicate (lf.length - d.toNat) 0)).bind fun b =>
   (poly_Plain.f b.2).bind fun x => (poly_Plain.f b.1).bind fun y => some (x, y, 0)
 else none
theorem poly_Quo.rest_mono (k : Nat) (q : List Int) (d : Int) (inv : Int) (lf : List Int) : LeO (poly_Quo.rest k q d inv lf) (poly_Quo.rest (k + 1) q d inv lf) := by
 intro r h
 unfold poly_Quo.rest at h ⊢
 split at h
 ·next hc =>
  rw [if_pos ⟨poly_Quo.okAll_mono k hc.1, hc.2⟩]
  exact LeO.bind (poly_Quo.outer_mono k q _ inv _ _ _) (fun _ => LeO.refl _) r h
 ·cases h
def poly_Quo.f (k : Nat) (l0 l1 : List Int) : Option (List Int × List Int × Int) :=
 (poly_Degree.f l1).bind fun d => if d < 0 then some ([], [], 1) else if d < (l1.length : Int) then
  (gf_Inv.f k (rd l1 d)).bind fun i => (poly_Plain.f l0).bind fun lf => poly_Quo.rest k l1 d i.1 lf else none
theorem poly_Quo.mono : ∀ l0 l1 k, LeO (poly_Quo.f k l0 l1) (poly_Quo.f (k + 1) l0 l1) := by
 intro l0 l1 k
 unfold poly_Quo.f
 refine LeO.bind (LeO.refl _) fun d => LeO.ite (LeO.refl _) (LeO.ite ?_ (LeO.refl _))
 exact LeO.bind (gf_Inv.mono _ k) fun i => LeO.bind (LeO.refl _) fun lf => poly_Quo.rest_mono k l1 d i.1 lf
theorem poly_Quo.inner_len (k : Nat) (q : List Int) (a : Int) (i : Nat) : ∀ m j lf r, poly_Quo.inner k q a i m j lf = some r → r.length = lf.length
 | 0, _, _, r, h => by cases h; rfl
 | m + 1, j, lf, r, h => by
  simp only [poly_Quo.inner] at h
  obtain ⟨t, _, h⟩ := Option.bind_eq_some_iff.1 h
  obtain ⟨u, _, h⟩ := Option.bind_eq_some_iff.1 h
  rw [poly_Quo.inner_len k q a i m (j + 1) _ r h, List.length_set]
theorem poly_Quo.r_own {W W' : World} {row : Option Nat} {e base : Nat} {ok : Nat → Prop} {v : Value} {xs : List Int} (h : Kd.R (Kd.int .u8) e W base ok v xs) (hg : W.grownBy W' row) (hr : ∀ r, row = some r → ∃ o : Obj, W.heap[r]? = some o ∧ o.isCells = false) : Kd.R (Kd.int .u8) e W' base ok v xs := by
 obtain ⟨h0, _⟩ := Kd.R_bound h
 refine Kd.R_of_own (own_move (Kd.own_of_R h) (fun k hk => ?_)) h.1
 obtain ⟨_, _, hlt, q, _, cells, hc⟩ := h0 k hk
 exact hg.block k hlt (fun e => by obtain ⟨o, ho, hn⟩ := hr k e.symm; rw [hc] at ho; cases ho; cases hn)
theorem poly_Quo.b_own {B : Nat} {t : TypeId} {v : Value} {X Y : World} {row : Option Nat} (h : Boxed X B t v) (hg : X.grownBy Y row) (hr : ∀ r, row = some r → ∃ o : Obj, X.heap[r]? = some o ∧ o.isCells = false) : Boxed Y B t v :=
 boxed_own (β := Unit) B t (fun _ => v) () X Y row h hg hr
/-- bytes all of them -/
def poly_Quo.By (l : List Int) : Prop := ∀ j : Nat, 0 ≤ l[j]?.getD 0 ∧ l[j]?.getD 0 ≤ 255
theorem poly_Quo.By.set {l : List Int} (h : poly_Quo.By l) (i : Nat) (u : Int) (h0 : 0 ≤ u) (h1 : u ≤ 255) : poly_Quo.By (l.set i u) := fun j => by
 rw [List.getElem?_set]
 split
 ·split
  ·simpa using ⟨h0, h1⟩
  ·simp
 ·exact h j
theorem poly_Quo.By.of {l : List Int} (h : poly_Eval.bytes l = true) : poly_Quo.By l := fun j => by
 by_cases hj : j < l.length
 ·have := List.all_eq_true.1 h l[j] (List.getElem_mem hj)
  rw [List.getElem?_eq_getElem hj]; simpa using this
 ·rw [List.getElem?_eq_none (by omega)]; simp
theorem poly_Quo.By.rd {l : List Int} (h : poly_Quo.By l) (i : Int) : 0 ≤ rd l i ∧ rd l i ≤ 255 := h i.toNat
/-- what holds between two rounds: the rows as they stand, and all boxes -/
structure poly_Quo.Now (k N dn len : Nat) (q : List Int) (inv : Int) (A1 : Option Addr) (c1 sq sd sl so sb g : Nat) (AL : Option Addr) (cL : Nat) (lf of : List Int) (W : World) : Prop where
 elen : lf.length = len
 ecnt : of.length = N
 byl : poly_Quo.By lf
 byo : poly_Quo.By of
 bq : Boxed W sq 22 (.slice A1 q.length c1)
 bd : Boxed W sd 3 (.int .i64 (dn : Int))
 bi : Boxed W (sd + 1) 5 (.int .u8 inv)
 bl : Boxed W sl 22 (.slice AL len cL)
 bo : Boxed W so 22 (.slice (some ⟨g, 0, none⟩) N N)
 bb : Boxed W sb 22 (.slice (some ⟨g, 0, none⟩) N N)
 rl : Kd.R (Kd.int .u8) 5 W (sd + 2) (fun k => (Value.slice AL len cL).ownBlock = some k ∧ sd + 2 ≤ k ∧ k < sl) (.slice AL len cL) lf
 ro : Kd.R (Kd.int .u8) 5 W (sd + 2) (fun k => k = g) (.slice (some ⟨g, 0, none⟩) N N) of
theorem poly_Quo.Now.own {k N dn len : Nat} {q : List Int} {inv : Int} {A1 : Option Addr} {c1 sq sd sl so sb g : Nat} {AL : Option Addr} {cL : Nat} {lf of : List Int} {W W' : World} {row : Option Nat}
  (h : poly_Quo.Now k N dn len q inv A1 c1 sq sd sl so sb g AL cL lf of W) (hg : W.grownBy W' row) (hr : ∀ r, row = some r → ∃ o : Obj, W.heap[r]? = some o ∧ o.isCells = false) : poly_Quo.Now k N dn len q inv A1 c1 sq sd sl so sb g AL cL lf of W' :=
 ⟨h.elen, h.ecnt, h.byl, h.byo, poly_Quo.b_own h.bq hg hr, poly_Quo.b_own h.bd hg hr, poly_Quo.b_own h.bi hg hr, poly_Quo.b_own h.bl hg hr, poly_Quo.b_own h.bo hg hr, poly_Quo.b_own h.bb hg hr, poly_Quo.r_own h.rl hg hr, poly_Quo.r_own h.ro hg hr⟩
theorem poly_Quo.Now.drewN {k N dn len : Nat} {q : List Int} {inv : Int} {A1 : Option Addr} {c1 sq sd sl so sb g : Nat} {AL : Option Addr} {cL : Nat} {lf of : List Int} {W : World} (h : poly_Quo.Now k N dn len q inv A1 c1 sq sd sl so sb g AL cL lf of W) (m : Nat) : poly_Quo.Now k N dn len q inv A1 c1 sq sd sl so sb g AL cL lf of (W.drewN m) :=
 ⟨h.elen, h.ecnt, h.byl, h.byo, h.bq, h.bd, h.bi, h.bl, h.bo, h.bb, Kd.R_drewN h.rl m, Kd.R_drewN h.ro m⟩
theorem poly_Quo.Now.setO {k N dn len : Nat} {q : List Int} {inv : Int} {A1 : Option Addr} {c1 sq sd sl so sb g : Nat} {AL : Option Addr} {cL : Nat} {lf of : List Int} {W : World} (h : poly_Quo.Now k N dn len q inv A1 c1 sq sd sl so sb g AL cL lf of W) (i : Nat) (a : Int) (a0 : 0 ≤ a) (a1 : a ≤ 255) (h1 : sq < g) (h2 : sd + 1 < g) (h3 : sl < g) (h4 : g < so) (h5 : g < sb) :
  poly_Quo.Now k N dn len q inv A1 c1 sq sd sl so sb g AL cL lf (of.set i a) (W.setCell ⟨g, i, none⟩ (.int .u8 a)) := by
 have ho := Kd.R_putn h.ro (i : Int) a
 rw [Int.toNat_natCast] at ho
 have hg : W.grownBy (W.setCell ⟨g, i, none⟩ (.int .u8 a)) (some g) := (Kd.R_putg h.ro (i : Int) a).2
 exact ⟨h.elen, by rw [List.length_set]; exact h.ecnt, h.byl, h.byo.set i a a0 a1, h.bq.kept hg (by simp; omega), h.bd.kept hg (by simp; omega), h.bi.kept hg (by simp; omega), h.bl.kept hg (by simp; omega), h.bo.kept hg (by simp; omega), h.bb.kept hg (by simp; omega),
  Kd.R_grown h.rl hg (fun k hk e => by simp at e; omega), ho⟩
theorem poly_Quo.Now.setL {k N dn len : Nat} {q : List Int} {inv : Int} {A1 : Option Addr} {c1 sq sd sl so sb g : Nat} {AL : Option Addr} {cL : Nat} {lf of : List Int} {W : World} {gL : Nat} (h : poly_Quo.Now k N dn len q inv A1 c1 sq sd sl so sb g AL cL lf of W) (e : AL = some ⟨gL, 0, none⟩) (i : Nat) (a : Int) (a0 : 0 ≤ a) (a1 : a ≤ 255) (h1 : sq < sd + 2) (h3 : sl < g) (h4 : g < so) (h5 : g < sb) :
  poly_Quo.Now k N dn len q inv A1 c1 sq sd sl so sb g AL cL (lf.set i a) of (W.setCell ⟨gL, i, none⟩ (.int .u8 a)) := by
 subst e
 have hr := h.rl.1 gL rfl
 have ho := Kd.R_putn h.rl (i : Int) a
 rw [Int.toNat_natCast] at ho
 have hg : W.grownBy (W.setCell ⟨gL, i, none⟩ (.int .u8 a)) (some gL) := (Kd.R_putg h.rl (i : Int) a).2
 exact ⟨by rw [List.length_set]; exact h.elen, h.ecnt, h.byl.set i a a0 a1, h.byo, h.bq.kept hg (by simp; omega), h.bd.kept hg (by simp; omega), h.bi.kept hg (by simp; omega), h.bl.kept hg (by simp; omega), h.bo.kept hg (by simp; omega), h.bb.kept hg (by simp; omega),
  ho, Kd.R_grown h.ro hg (fun k hk e => by simp at e; omega)⟩
theorem poly_Quo.inner_some {k : Nat} (hok : poly_Quo.okAll k = true) {q : List Int} (hq : poly_Quo.By q) (a : Int) (a0 : 0 ≤ a) (a1 : a ≤ 255) (i : Nat) : ∀ m j lf, ∃ r, poly_Quo.inner k q a i m j lf = some r
 | 0, _, lf => ⟨lf, rfl⟩
 | m + 1, j, lf => by
  obtain ⟨t, ht, _⟩ := poly_Quo.okAll_at hok a (rd q j) a0 a1 (hq.rd _).1 (hq.rd _).2
  obtain ⟨u, hu, _⟩ := poly_Eval.add_byte (rd lf (i + j : Nat)) t
  obtain ⟨r, hr⟩ := poly_Quo.inner_some hok hq a a0 a1 i m (j + 1) (lf.set (i + j) u)
  exact ⟨r, by simp only [poly_Quo.inner]; rw [ht, Option.bind_some, hu, Option.bind_some, hr]⟩
set_option maxRecDepth 100000 in
set_option maxHeartbeats 8000000 in
theorem poly_Quo.calls (k : Nat) (A0 : Option Addr) (c0 : Nat) (l0 : List Int) (A1 : Option Addr) (c1 : Nat) (l1 : List Int) (r1 : List Int) (r2 : List Int) (r3 : Int) (w : World) (hr0 : Kd.C (Kd.int .u8) w A0 l0.length l0) (hc0 : l0.length ≤ c0) (hr1 : Kd.C (Kd.int .u8) w A1 l1.length l1) (hc1 : l1.length ≤ c1) (h : poly_Quo.f k l0 l1 = some (r1, r2, r3)) :
  Calls Try.prog 23 #[.slice A0 l0.length c0, .slice A1 l1.length c1] w fun e w' => ∃ v0_ v1_ : Value, e = .returned (.tuple #[v0_, v1_, .int .i64 r3]) ∧ Kd.R (Kd.int .u8) 5 w' w.heap.size (fun k_ => some k_ ≠ (v1_ : Value).ownBlock) v0_ r1 ∧ Kd.R (Kd.int .u8) 5 w' w.heap.size (fun k_ => some k_ ≠ (v0_ : Value).ownBlock) v1_ r2 ∧ Below w.heap.size w w' := by
 unfold poly_Quo.f at h
 replace h := Option.bind_eq_some_iff.1 h
 obtain ⟨d, hd, h⟩ := h
 have HD := Aside0.mk hd
 clear hd
 have hb1 : ∀ (W : World) (o : Obj), Kd.C (Kd.int .u8) (w.alloc o) A1 l1.length l1 := fun W o => Kd.C_alloc hr1 o
 by_cases d0 : d < 0
 ·rw [if_pos d0] at h
  obtain ⟨rfl, rfl, rfl⟩ : r1 = [] ∧ r2 = [] ∧ r3 = 1 := by
   have := Option.some.inj h; simp only [Prod.mk.injEq] at this; exact ⟨this.1.symm, this.2.1.symm, this.2.2.symm⟩
  have d0b : decide (d < 0) = true := decide_eq_true d0
  clear h d0
  have HC1 := Aside0.mk hr1
  have HCC := Aside0.mk hc1
  clear hr1 hc1 hr0 hc0 hb1
  go_enter Try.func23, Try.ntmps23
  go_wp2_with (go_at_call 12; refine (poly_Degree.calls A1 c1 l1 d _ (Kd.C_alloc HC1.out _) HCC.out HD.out).mono ?_; rintro e w1 ⟨rfl, hb⟩; have HB := Aside0.mk hb; clear hb)
  go_ret3
  exact ⟨_, _, rfl, Kd.R_nil _ _ _ _ _, Kd.R_nil _ _ _ _ _, by
   refine (((Below.refl _ w).alloc (Nat.le_refl _) _).trans (HB.out.mono (by simp))).trans ?_
   exact (((Below.refl w.heap.size w1).alloc (by have := HB.out.size; simp at this; omega) _)).trans (by first | exact Below.refl _ _ | exact (Below.refl _ _).setCell (by have := HB.out.size; simp at this; simp; omega) _)⟩
 ·rw [if_neg d0] at h
  by_cases d1 : d < (l1.length : Int)
  case neg => rw [if_neg d1] at h; cases h
  rw [if_pos d1] at h
  replace h := Option.bind_eq_some_iff.1 h
  obtain ⟨⟨inv, ie⟩, hinv, h⟩ := h
  replace h := Option.bind_eq_some_iff.1 h
  obtain ⟨lf, hlf, h⟩ := h
  dsimp only at h
  obtain ⟨dn, rfl⟩ : ∃ dn : Nat, d = (dn : Int) := ⟨d.toNat, by omega⟩
  have HINV := Aside0.mk hinv
  have HLF := Aside0.mk hlf
  have HREST := Aside0.mk h
  have HD1 := Aside0.mk d1
  have d0b : decide ((dn : Int) < 0) = false := decide_eq_false d0
  have HR0 := Aside0.mk hr0
  have HC0 := Aside0.mk hc0
  have HR1 := Aside0.mk hr1
  have HC1 := Aside0.mk hc1
  clear h hinv hlf d0 d1 hr0 hc0 hr1 hc1 hb1
  refine (callsIn_wide (n := 6)).1 ?_
  have h3 : Fence.wide.fn 23 := trivial
  have h4 : Fence.wide.fn 38 := trivial
  have h5 : Fence.wide.fn 50 := trivial
  have hro : Fence.wide.round = none := rfl
  refine callsIn_of_wp_marks Try.func23 rfl h3 ?_ hro
  simp only [Try.ntmps23, List.size_toArray, List.length_cons, List.length_nil, Nat.reduceAdd, Nat.reduceSub, Array.replicate_succ, Array.replicate_zero, List.push_toArray, List.append_toArray, List.nil_append, List.cons_append]
  have hd1 : dn < l1.length := by have := HD1.out; omega
  obtain ⟨ad1, rfl, hq1⟩ := back_cell HR1.out dn hd1
  have hq1b : (ad1.add dn).block < w.heap.size := World.block_lt_of_cell? w (ad1.add dn) hq1
  have HQ1 := Aside0.mk hq1
  clear hq1
  gi_wp2_with fail
  refine ⟨trivial, ?_⟩
  refine (callsIn_wide.2 (poly_Degree.calls (some ad1) c1 l1 (dn : Int) _ (Kd.C_alloc HR1.out _) HC1.out HD.out)).mono ?_
  rintro e w1 ⟨rfl, hb⟩
  have hB1 : Below w.heap.size w w1 := ((Below.refl _ w).alloc (Nat.le_refl _) _).trans (hb.mono (by simp))
  have bQ : Boxed w1 w.heap.size 22 (.slice (some ad1) l1.length c1) := (hb.block _ (by simp)).trans (Boxed.new w 22 (.slice (some ad1) l1.length c1))
  have hz1 : w.heap.size < w1.heap.size := by have := hb.size; simp at this; omega
  have cq := bQ.cell
  have ca : (w1.alloc (.cells #[.int .i64 (dn : Int)] 3)).cell? (ad1.add dn) = some (.int .u8 (rd l1 (dn : Int))) := by
   rw [((Below.refl w1.heap.size w1).alloc (Nat.le_refl _) _).cell (p := ad1.add dn) (by omega), hB1.cell (p := ad1.add dn) hq1b, HQ1.out]; simp [rd]
  have HB1 := Aside0.mk hB1
  have BQ := Aside0.mk bQ
  clear hb hB1 bQ
  gi_wp2_with fail
  refine ⟨trivial, ?_⟩
  refine (callsIn_wide.2 (gf_Inv.calls k (rd l1 (dn : Int)) inv ie _ HINV.out)).mono ?_
  rintro e w2 ⟨rfl, ⟨n1, rfl⟩⟩
  clear cq ca
  gi_wp2_with fail
  refine ⟨trivial, ?_⟩
  refine (callsIn_wide.2 (poly_Plain.calls A0 c0 l0 lf _ (Kd.C_alloc (Kd.C_drewN (Kd.C_alloc (Kd.C_below HR0.out HB1.out) _) _) _) HC0.out HLF.out)).mono ?_
  rintro e w2 ⟨vL, rfl, hRL, hb⟩
  have hs2 : w1.heap.size + 1 < w2.heap.size := by have := hb.size; simp at this; omega
  have hB2 : Below w.heap.size w w2 := HB1.out.trans ((((((Below.refl w1.heap.size w1).alloc (Nat.le_refl _) (.cells #[.int .i64 (dn : Int)] 3)).trans (c := (w1.alloc (.cells #[.int .i64 (dn : Int)] 3)).drewN n1) ⟨rfl, rfl, rfl, Nat.le_refl _, fun _ _ => rfl⟩).alloc (by simp) (.cells #[.int .u8 inv] 5)).trans (hb.mono (by simp; omega))).mono (by omega))
  have bQ2 : Boxed w2 w.heap.size 22 (.slice (some ad1) l1.length c1) := (hb.block _ (by simp; omega)).trans (((show Boxed ((w1.alloc (.cells #[.int .i64 (dn : Int)] 3)).drewN n1) _ _ _ from BQ.out.alloc _)).alloc _)
  have bD2 : Boxed w2 w1.heap.size 3 (.int .i64 (dn : Int)) := (hb.block _ (by simp; omega)).trans (((show Boxed ((w1.alloc (.cells #[.int .i64 (dn : Int)] 3)).drewN n1) _ _ _ from Boxed.new w1 3 _)).alloc _)
  have bI2 : Boxed w2 (w1.heap.size + 1) 5 (.int .u8 inv) := (hb.block _ (by simp)).trans (by have := Boxed.new ((w1.alloc (.cells #[.int .i64 (dn : Int)] 3)).drewN n1) 5 (.int .u8 inv); rw [show ((w1.alloc (.cells #[.int .i64 (dn : Int)] 3)).drewN n1).heap.size = w1.heap.size + 1 by simp] at this; exact this)
  replace hRL := Kd.R_lower hRL (base' := w1.heap.size + 2) (by simp)
  obtain ⟨AL, cL, rfl, hcL, hCL⟩ := Kd.R_reads hRL
  have hlfm : lf.length < 140737488355328 := by
   have h := HREST.out
   unfold poly_Quo.rest at h
   split at h
   ·next hc => exact hc.2.2.2.2.2.1
   ·cases h
  obtain ⟨i0, hi0, hz0, hz1, hz2⟩ := info_parts info5
  obtain ⟨w3, hmk, hown3, hg3⟩ := run_make_full (P := Try.prog) (w2.alloc (.cells #[.slice AL lf.length cL] 22)) (w1.heap.size + 2) 22 5 i0 (.int .u8 0) 1 Try.underlying22 hi0 hz0 hz1 .i64 .i64 (lf.length - dn) (by rw [hz2]; omega) (by simp only [maxLen]; omega) (by simp; omega)
  have hM : (if (lf.length : Int) - (dn : Int) < 0 then (0 : Int) else (lf.length : Int) - (dn : Int)) = ((lf.length - dn : Nat) : Int) := by split <;> omega
  have hM2 : (if (lf.length : Int) < (dn : Int) then (0 : Int) else (lf.length : Int) - (dn : Int)) = ((lf.length - dn : Nat) : Int) := by split <;> omega
  have HRL := Aside0.mk hRL
  have HB2 := Aside0.mk hB2
  have BQ2 := Aside0.mk bQ2
  have BD2 := Aside0.mk bD2
  have BI2 := Aside0.mk bI2
  have HCL := Aside0.mk hCL
  have HOWN := Aside0.mk hown3
  have HG3 := Aside0.mk hg3
  have cd := bD2.cell
  have hs2' : w1.heap.size < w2.heap.size := by omega
  have hlfm2 : (lf.length : Int) ≤ 140737488355328 := by omega
  have hdn2 : (dn : Int) ≤ 140737488355328 := by
   have h := HREST.out
   unfold poly_Quo.rest at h
   split at h
   ·next hc => have := hc.2.2.2.2.2.2; omega
   ·cases h
  clear hRL hb hB2 bQ2 bD2 bI2 hCL hown3 hg3 hi0 hz0 hz1 hz2
  gi_wp2_with fail
  refine (back_in Fence.wide 5 h4 hro _ _ _ _).mono ?_
  rintro e w' ⟨rfl, rfl⟩
  gi_wp2_with fail
  -- what lies where the loop begins
  have hgo : w2.heap.size + 1 < w3.heap.size := by
   rcases HOWN.out.2 with ⟨h, _⟩ | ⟨g, cap, cur, h, _, hb, _⟩
   ·cases h
   ·injection h with h1 _ _; injection h1 with h1; injection h1 with h1 _
    simp at h1; rw [← h1] at hb; exact (Array.getElem?_eq_some_iff.1 hb).1
  obtain ⟨N, hN⟩ : ∃ N, lf.length - dn = N := ⟨_, rfl⟩
  obtain ⟨W4, hW4⟩ : ∃ W4, (w3.alloc (.cells #[.slice (some ⟨w2.heap.size + 1, 0, none⟩) (lf.length - dn) (lf.length - dn)] 22)).alloc (.cells #[.slice (some ⟨w2.heap.size + 1, 0, none⟩) (lf.length - dn) (lf.length - dn)] 22) = W4 := ⟨_, rfl⟩
  have hz4 : W4.heap.size = w3.heap.size + 2 := by rw [← hW4]; simp
  have hb4 : ∀ k, k < w3.heap.size → W4.heap[k]? = w3.heap[k]? := fun k hk => by
   rw [← hW4]; exact (((Below.refl w3.heap.size w3).alloc (Nat.le_refl _) _).alloc (by simp) _).block k hk
  have hb24 : ∀ k, k < w2.heap.size → W4.heap[k]? = w2.heap[k]? := fun k hk => by
   rw [hb4 k (by omega), HG3.out.block k (by simp; omega) (by simp)]
   exact ((Below.refl w2.heap.size w2).alloc (Nat.le_refl _) _).block k hk
  have hB4 : Below w.heap.size w W4 := by
   refine HB2.out.trans ?_
   refine (((Below.refl w2.heap.size w2).alloc (Nat.le_refl _) (.cells #[.slice AL lf.length cL] 22)).grown HG3.out (by simp) (fun k e => by cases e)).mono (by omega) |>.trans ?_
   rw [← hW4]; exact ((Below.refl w.heap.size w3).alloc (by omega) _).alloc (by simp; omega) _
  have bQ4 : Boxed W4 w.heap.size 22 (.slice (some ad1) l1.length c1) := (hb24 _ (by omega)).trans BQ2.out
  have bD4 : Boxed W4 w1.heap.size 3 (.int .i64 (dn : Int)) := (hb24 _ (by omega)).trans BD2.out
  have bI4 : Boxed W4 (w1.heap.size + 1) 5 (.int .u8 inv) := (hb24 _ (by omega)).trans BI2.out
  have bL4 : Boxed W4 w2.heap.size 22 (.slice AL lf.length cL) := by
   refine (hb4 _ (by omega)).trans ((HG3.out.block _ (by simp) (by simp)).trans (Boxed.new w2 22 _))
  have bO4 : Boxed W4 w3.heap.size 22 (.slice (some ⟨w2.heap.size + 1, 0, none⟩) N N) := by
   rw [← hW4, hN]; exact (Boxed.new w3 22 _).alloc _
  have bB4 : Boxed W4 (w3.heap.size + 1) 22 (.slice (some ⟨w2.heap.size + 1, 0, none⟩) N N) := by
   rw [← hW4, hN]
   have := Boxed.new (w3.alloc (.cells #[.slice (some ⟨w2.heap.size + 1, 0, none⟩) N N] 22)) 22 (.slice (some ⟨w2.heap.size + 1, 0, none⟩) N N)
   rw [World.size_alloc] at this; exact this
  have rL4 : Kd.R (Kd.int .u8) 5 W4 (w1.heap.size + 2) (fun k => (Value.slice AL lf.length cL).ownBlock = some k ∧ w1.heap.size + 2 ≤ k ∧ k < w2.heap.size) (.slice AL lf.length cL) lf := by
   obtain ⟨h0, _⟩ := Kd.R_bound HRL.out
   exact Kd.R_of_own (own_move (Kd.own_of_R HRL.out) (fun k hk => hb24 k (h0 k hk).2.2.1)) (fun k hk => ⟨hk, (h0 k hk).2.1, (h0 k hk).2.2.1⟩)
  have rO4 : Kd.R (Kd.int .u8) 5 W4 (w1.heap.size + 2) (fun k => k = w2.heap.size + 1) (.slice (some ⟨w2.heap.size + 1, 0, none⟩) N N) (List.replicate N 0) := by
   have h := HOWN.out
   rw [hN] at h
   have he : (madeCells ((.int .u8 0) : Value).cells (N * 1)).toList = encs (Value.int .u8) (List.replicate N 0) := by
    apply List.ext_getElem (by simp [encs, madeCells])
    intro j h1 h2
    simp [encs, madeCells, Value.cells, Nat.mod_one]
   rw [he] at h
   refine Kd.R_of_own (own_move (by rw [List.length_replicate]; simpa using h) (fun k hk => hb4 k ?_)) (fun k hk => ?_)
   ·simp [Value.ownBlock] at hk; omega
   ·simp [Value.ownBlock] at hk; omega
  rw [hN]
  rw [hN] at hW4
  rw [hW4]
  have hrest := HREST.out
  unfold poly_Quo.rest at hrest
  split at hrest
  case isFalse => cases hrest
  case isTrue hc =>
  replace hrest := Option.bind_eq_some_iff.1 hrest
  obtain ⟨fin, hfin, hpl⟩ := hrest
  rw [Int.toNat_natCast, hN] at hfin
  have n4 : poly_Quo.Now k N dn lf.length l1 inv (some ad1) c1 w.heap.size w1.heap.size w2.heap.size w3.heap.size (w3.heap.size + 1) (w2.heap.size + 1) AL cL lf (List.replicate N 0) W4 :=
   ⟨rfl, List.length_replicate, .of hc.2.2.1, fun j => by rw [List.getElem?_replicate]; split <;> simp, bQ4, bD4, bI4, bL4, bO4, bB4, rL4, rO4⟩
  have HPL := Aside0.mk hpl
  have HFIN := Aside0.mk hfin
  have HOKA := Aside0.mk hc.1
  have HBYQ : Aside0 (poly_Quo.By l1) := ⟨.of hc.2.1⟩
  have HIN := Aside0.mk hc.2.2.2
  have HN := Aside0.mk hN
  have HN4 := Aside0.mk n4
  have HB4 := Aside0.mk hB4
  have cB4 := bB4.cell
  clear hpl hfin hc hN n4 hB4 bQ4 bD4 bI4 bL4 bO4 rL4 rO4 hb4 hb24 hW4 hmk HG3 HOWN HRL HB2 BQ2 BD2 BI2 HCL cd hM hM2 bB4
  refine wpIn_rangeFunc_ownG hro (by omega) (gf := 50) (lb := #[.pointer (some ⟨w3.heap.size + 1, 0, none⟩)]) rfl h5 (enters_of Try.func50 (by kernel_rfl) rfl)
   (back2_stops Fence.wide 5 h5 hro (by omega) (w3.heap.size + 1) (w2.heap.size + 1) N N (by have := HN.out; omega) W4 (by omega) (by omega) cB4 ?cells) (fun h k => h.trans k) (BackV.putObj (by omega)) (Below.refl _ _) (fun _ => rfl)
   (fun pre W => (∃ lf' of', poly_Quo.Now k N dn lf.length l1 inv (some ad1) c1 w.heap.size w1.heap.size w2.heap.size w3.heap.size (w3.heap.size + 1) (w2.heap.size + 1) AL cL lf' of' W ∧
    (pre.map (fun x => x.1.1) = BackIdx N pre.length → poly_Quo.outer k l1 dn inv (N - pre.length) lf' of' = some fin)) ∧ Below w.heap.size w W)
   (fun _ _ _ => False)
   (OwnFrom.and (Own.from (fun s X Y row hs hg hr => by obtain ⟨lf', of', h1, h2⟩ := hs; exact ⟨lf', of', h1.own hg hr, h2⟩) _) (ownFrom_below (Nat.le_refl _) (by omega)))
   (fun _ _ _ _ _ hs _ _ => hs)
   ⟨⟨lf, List.replicate N 0, HN4.out, fun _ => HFIN.out⟩, HB4.out⟩
   (fun x => { tmps := #[.slice A0 l0.length c0, .slice (some ad1) l1.length c1, undef, .pointer (some ⟨w.heap.size, 0, none⟩), .slice none 0 0, .slice none 0 0, .int .i64 0, .pointer (some ⟨w1.heap.size, 0, none⟩), .pointer (some ⟨w1.heap.size + 1, 0, none⟩), .int .i64 ie, .pointer (some ⟨w2.heap.size, 0, none⟩), .pointer (some ⟨w3.heap.size, 0, none⟩), .int .i64 (x.1.1 : Int), undef, undef, .slice (some ad1) l1.length c1, .int .i64 (dn : Int), .int .i64 (dn : Int), .bool false, .tuple #[.int .u8 inv, .int .i64 ie], .slice (some ad1) l1.length c1, .int .i64 (dn : Int), .pointer (some (ad1.add dn)), .int .u8 (rd l1 (dn : Int)), .tuple #[.int .u8 inv, .int .i64 ie], .int .u8 inv, .int .i64 ie, .slice A0 l0.length c0, .slice AL lf.length cL, .slice AL lf.length cL, .int .i64 (lf.length : Int), .int .i64 (dn : Int), .int .i64 ((lf.length : Int) - (dn : Int)), .int .i64 (N : Int), .slice (some ⟨w2.heap.size + 1, 0, none⟩) N N, .slice (some ⟨w2.heap.size + 1, 0, none⟩) N N, .func (.func 50) #[] #[.pointer (some ⟨w3.heap.size + 1, 0, none⟩)], .int .i64 (x.1.1 : Int), .int .u8 x.1.2, undef, undef, undef, undef, undef, undef, undef, undef, undef, undef, undef, undef, undef, undef, undef, undef, undef, undef, undef, undef, undef, undef, undef, undef, undef, undef, undef, undef, undef, undef, undef, undef, undef, undef, undef, undef, undef, undef, undef, undef], defers := [] }) ?assign ?body ?done ?stop
  case cells =>
   intro j hj
   have := Kd.R_celln (d := (0 : Int)) HN4.out.ro (j : Int) (by omega) (by omega)
   exact ⟨_, (HN4.out.byo j).1, (HN4.out.byo j).2, by simpa [rdOf] using this.1⟩
  case assign =>
   intro l x W K hK
   gi_wp2
   exact hK
  case body =>
   rintro l pre ⟨⟨i, cx⟩, hi, hcx0, hcx1⟩ W ⟨⟨lf', of', hnow, hout⟩, hB⟩ hlen
   dsimp only at hi hcx0 hcx1 ⊢
   have hlen' : lf.length = N + dn := by have := HN.out; omega
   obtain ⟨gL, rfl⟩ : ∃ gL, AL = some ⟨gL, 0, none⟩ := by
    rcases (Kd.own_of_R hnow.rl).2 with ⟨_, h0⟩ | ⟨g, cap, cur, h, _⟩
    ·have := hnow.elen; omega
    ·injection h with h1 _ _; exact ⟨g, h1⟩
   have hgl := hnow.rl.1 gL rfl
   have hel := hnow.elen
   have hec := hnow.ecnt
   obtain ⟨hinv0, hinv1, _, _⟩ := HIN.out
   obtain ⟨a, ha, ha0, ha1⟩ := poly_Quo.okAll_at HOKA.out (rd lf' ((i + dn : Nat) : Int)) inv (hnow.byl.rd _).1 (hnow.byl.rd _).2 hinv0 hinv1
   obtain ⟨lfE, hE⟩ := poly_Quo.inner_some HOKA.out HBYQ.out a ha0 ha1 i (dn + 1) 0 lf'
   have cl := hnow.bl.cell
   have cd := hnow.bd.cell
   have ci := hnow.bi.cell
   have co := hnow.bo.cell
   have hie : (i : Int) + (dn : Int) < (lf.length : Int) := by omega
   have hie0 : 0 ≤ (i : Int) + (dn : Int) := by omega
   have hiN : (i : Int) < (N : Int) := by omega
   have hNm : (N : Int) ≤ 140737488355328 := by omega
   have ce : W.cell? ⟨gL, i + dn, none⟩ = some (.int .u8 (rd lf' ((i + dn : Nat) : Int))) := by
    have := (Kd.R_celln (d := (0 : Int)) hnow.rl ((i + dn : Nat) : Int) (by omega) (by omega)).1
    rw [show ((i + dn : Nat) : Int).toNat = i + dn from rfl] at this; exact this
   have cw := Kd.R_celln (d := (0 : Int)) hnow.ro (i : Int) (by omega) (by omega)
   have cw1 : W.cell? ⟨w2.heap.size + 1, i, none⟩ = some (.int .u8 (rd of' (i : Int))) := by simpa [rd, rdOf] using cw.1
   have cw2 : W.frozen? ⟨w2.heap.size + 1, i, none⟩ = false := by simpa using cw.2
   have HNOW := Aside0.mk hnow
   have HOUT := Aside0.mk hout
   have HA := Aside0.mk ha
   have HE := Aside0.mk hE
   have HGL := Aside0.mk hgl
   have HEL := Aside0.mk hel
   have HEC := Aside0.mk hec
   have HL := Aside0.mk hlen
   have HL' := Aside0.mk hlen'
   have hmx : Try.prog.follows .mixedOrders = true := by kernel_rfl
   clear hnow hout ha hE hgl hel hec hlen hlen' cw
   gi_wp2
   have hs3 : ((i : Int) + (dn : Int)).toNat = i + dn := by omega
   have hs4 : -9223372036854775808 ≤ (i : Int) + (dn : Int) ∧ (i : Int) + (dn : Int) ≤ 9223372036854775807 := by omega
   have hs2 := IntWalk.i64_in _ hs4
   have hs1 := (i64_w _).symm.trans hs2
   clear hs4
   refine start_round (n := 9) (S := fun w' => w'.cell? ⟨w2.heap.size, 0, none⟩ = some (.slice (some ⟨gL, 0, none⟩) lf.length cL) ∧ w'.cell? ⟨w1.heap.size, 0, none⟩ = some (.int .i64 (dn : Int)) ∧ w'.cell? ⟨w1.heap.size + 1, 0, none⟩ = some (.int .u8 inv) ∧ w'.cell? ⟨gL, i + dn, none⟩ = some (.int .u8 (rd lf' ((i + dn : Nat) : Int)))) (ds := []) #[false, false, false, false, false, false, false, false, false] (by kernel_rfl) rfl rfl ⟨cl, cd, ci, ce⟩ (by kernel_rfl) (by rintro ⟨a, w, h⟩; exact h) (fun hHeld => ?_)
   refine pure_ (i := 1) (N := some 40) (v := ?_) (a' := ?_) #[false, true, false, false, false, false, false, false, false] rfl rfl (by kernel_rfl) (fun _ _ _ h => h) (Or.inl ⟨by rfl, ?_⟩) ?_ ?_
   rotate_left
   ·intro w'
    go_simp
    with_reducible rfl
   rotate_left
   ·simp only [Act.put, List.setIfInBounds_toArray, List.set_cons_zero, List.set_cons_succ, i64_w, i32_w]
    rfl
   refine take_ (i := 0) (N := some 39) (v := ?_) (a' := ?_) #[true, true, false, false, false, false, false, false, false] rfl rfl (by kernel_rfl) (fun _ _ _ h => h) (Or.inl ⟨by rfl, ?_⟩) hHeld ?_ ?_
   rotate_left
   ·rintro w' ⟨s0, s1, s2, s3⟩
    go_simp
    with_reducible rfl
   rotate_left
   ·simp only [Act.put, List.setIfInBounds_toArray, List.set_cons_zero, List.set_cons_succ, i64_w, i32_w]
    rfl
   refine take_ (i := 2) (N := some 41) (v := ?_) (a' := ?_) #[true, true, true, false, false, false, false, false, false] rfl rfl (by kernel_rfl) (fun _ _ _ h => h) (Or.inl ⟨by rfl, ?_⟩) hHeld ?_ ?_
   rotate_left
   ·rintro w' ⟨s0, s1, s2, s3⟩
    go_simp
    with_reducible rfl
   rotate_left
   ·simp only [Act.put, List.setIfInBounds_toArray, List.set_cons_zero, List.set_cons_succ, i64_w, i32_w]
    rfl
   refine pure_ (i := 3) (N := some 42) (v := ?_) (a' := ?_) #[true, true, true, true, false, false, false, false, false] rfl rfl (by kernel_rfl) (fun _ _ _ h => h) (Or.inl ⟨by rfl, ?_⟩) ?_ ?_
   rotate_left
   ·intro w'
    go_simp
    with_reducible rfl
   rotate_left
   ·simp only [Act.put, List.setIfInBounds_toArray, List.set_cons_zero, List.set_cons_succ, i64_w, i32_w]
    rfl
   refine pure_ (i := 4) (N := some 43) (v := ?_) (a' := ?_) #[true, true, true, true, true, false, false, false, false] rfl rfl (by kernel_rfl) (fun _ _ _ h => h) (Or.inl ⟨by rfl, ?_⟩) ?_ ?_
   rotate_left
   ·intro w'
    go_simp
    with_reducible rfl
   rotate_left
   ·simp only [Act.put, List.setIfInBounds_toArray, List.set_cons_zero, List.set_cons_succ, i64_w, i32_w]
    rfl
   refine take_ (i := 5) (N := some 44) (v := ?_) (a' := ?_) #[true, true, true, true, true, true, false, false, false] rfl rfl (by kernel_rfl) (fun _ _ _ h => h) (Or.inl ⟨by rfl, ?_⟩) hHeld ?_ ?_
   rotate_left
   ·rintro w' ⟨s0, s1, s2, s3⟩
    go_simp
    with_reducible rfl
   rotate_left
   ·simp only [Act.put, List.setIfInBounds_toArray, List.set_cons_zero, List.set_cons_succ, i64_w, i32_w]
    rfl
   refine take_ (i := 6) (N := some 45) (v := ?_) (a' := ?_) #[true, true, true, true, true, true, true, false, false] rfl rfl (by kernel_rfl) (fun _ _ _ h => h) (Or.inl ⟨by rfl, ?_⟩) hHeld ?_ ?_
   rotate_left
   ·rintro w' ⟨s0, s1, s2, s3⟩
    go_simp
    with_reducible rfl
   rotate_left
   ·simp only [Act.put, List.setIfInBounds_toArray, List.set_cons_zero, List.set_cons_succ, i64_w, i32_w]
    rfl
   refine one_ (i := 7) (N := some 46) #[true, true, true, true, true, true, true, true, false] rfl rfl (by kernel_rfl) (by decide) (fun K hK => ?_)
   refine goes_ Try.func26 (by kernel_rfl) rfl #[.int .u8 (rd lf' ((i + dn : Nat) : Int)), .int .u8 inv] (by rfl) rfl rfl (by simp only [List.map_toArray, List.map_cons, List.map_nil]; rfl) ?_
   with_reducible refine (gf_Mul.calls k (rd lf' ((i + dn : Nat) : Int)) inv a _ HA.out).mono ?_
   rintro e w3 ⟨rfl, ⟨n1, rfl⟩⟩
   refine ⟨_, rfl, ?_⟩
   refine hK.out _ _ ⟨hHeld.1, hHeld.2.1, hHeld.2.2.1, hHeld.2.2.2⟩ (fun hHeld => ?_)
   clear hK K
   refine norm_ (a' := ?_) ?_ ?_
   rotate_left
   ·show Act.put _ (some 46) _ = _
    simp only [Act.put, List.setIfInBounds_toArray, List.set_cons_zero, List.set_cons_succ, i64_w, i32_w]
    rfl
   refine pure_ (i := 8) (N := some 13) (v := ?_) (a' := ?_) #[true, true, true, true, true, true, true, true, true] rfl rfl (by kernel_rfl) (fun _ _ _ h => h) (Or.inl ⟨by rfl, ?_⟩) ?_ ?_
   rotate_left
   ·intro w'
    go_simp
    with_reducible rfl
   rotate_left
   ·simp only [Act.put, List.setIfInBounds_toArray, List.set_cons_zero, List.set_cons_succ, i64_w, i32_w]
    rfl
   refine done_ (by kernel_rfl) ?_
   clear hs1 hs2 hs3 hHeld
   gi_wp2
   clear cl cd ci co ce cw1 cw2 hie hie0 hiN
   have hkd : ∀ n, KeepsOthers W (W.drewN n) := fun n => ⟨Nat.le_refl _, fun _ _ h _ => h⟩
   have hbd : ∀ n, Below w.heap.size W (W.drewN n) := fun n => ⟨rfl, rfl, rfl, Nat.le_refl _, fun _ _ => rfl⟩
   have n5 := (HNOW.out.drewN (1 + n1)).setO i a ha0 ha1 (by omega) (by omega) (by omega) (by omega) (by omega)
   have k5 := (hkd (1 + n1)).trans (KeepsOthers.setCell _ ⟨w2.heap.size + 1, i, none⟩ (.int .u8 a))
   have b5 := hB.trans ((hbd (1 + n1)).setCell (p := ⟨w2.heap.size + 1, i, none⟩) (by simp; omega) (.int .u8 a))
   have N5 := Aside0.mk n5
   have K5 := Aside0.mk k5
   have B5 := Aside0.mk b5
   clear hkd hbd n5 k5 b5
   gi_loopw [53] (fun c wr => ∃ (j : Nat) (lf1 : List Int), j ≤ dn + 1 ∧ c = .int .i64 (j : Int) ∧ Aside0 (poly_Quo.Now k N dn lf.length l1 inv (some ad1) c1 w.heap.size w1.heap.size w2.heap.size w3.heap.size (w3.heap.size + 1) (w2.heap.size + 1) (some ⟨gL, 0, none⟩) cL lf1 (of'.set i a) wr) ∧
    Aside0 (poly_Quo.inner k l1 a i (dn + 1 - j) j lf1 = some lfE) ∧ Aside0 (KeepsOthers W wr) ∧ Aside0 (Below w.heap.size w wr)) (fun c _ => dn + 1 - (intOf c).toNat)
   case atStart => exact ⟨0, lf', by omega, rfl, N5, HE, K5, B5⟩
   case round =>
    obtain ⟨j, lf1, hj, rfl, HN1, HI1, HK1, HB1'⟩ := hrel
    by_cases hlt : j < dn + 1
    ·obtain ⟨t, ht, ht0, ht1⟩ := poly_Quo.okAll_at HOKA.out a (rd l1 ((j : Nat) : Int)) ha0 ha1 (HBYQ.out.rd _).1 (HBYQ.out.rd _).2
     obtain ⟨u, hu, hu0, hu1⟩ := poly_Eval.add_byte (rd lf1 ((i + j : Nat) : Int)) t
     have hin : poly_Quo.inner k l1 a i (dn + 1 - (j + 1)) (j + 1) (lf1.set (i + j) u) = some lfE := by
      have h := HI1.out
      rw [show dn + 1 - j = (dn + 1 - (j + 1)) + 1 by omega] at h
      simp only [poly_Quo.inner] at h
      rw [ht, Option.bind_some, hu, Option.bind_some] at h
      exact h
     have hij : i + j < lf.length := by have := HL'.out; omega
     have hjq : j < l1.length := by omega
     have hel1 := HN1.out.elen
     have cl2 := HN1.out.bl.cell
     have cq2 := HN1.out.bq.cell
     have ca2 : wr.cell? (ad1.add j) = some (.int .u8 (rd l1 ((j : Nat) : Int))) := by
      obtain ⟨ad, e, hc⟩ := back_cell HR1.out j hjq
      cases e
      rw [HB1'.out.cell (p := ad1.add j) (World.block_lt_of_cell? w (ad1.add j) hc), hc]; simp [rd]
     have ce3 := Kd.R_celln (d := (0 : Int)) HN1.out.rl ((i + j : Nat) : Int) (by omega) (by omega)
     rw [show ((i + j : Nat) : Int).toNat = i + j from rfl] at ce3
     have ce2 : wr.cell? ⟨gL, i + j, none⟩ = some (.int .u8 (rd lf1 ((i + j : Nat) : Int))) := ce3.1
     have cf2 := ce3.2
     have HT := Aside0.mk ht
     have HU := Aside0.mk hu
     have HINN := Aside0.mk hin
     have hnd : ∀ n, KeepsOthers wr (wr.drewN n) := fun n => ⟨Nat.le_refl _, fun _ _ h _ => h⟩
     have hbd : ∀ n, Below w.heap.size wr (wr.drewN n) := fun n => ⟨rfl, rfl, rfl, Nat.le_refl _, fun _ _ => rfl⟩
     have hend : ∀ n, Aside0 (poly_Quo.Now k N dn lf.length l1 inv (some ad1) c1 w.heap.size w1.heap.size w2.heap.size w3.heap.size (w3.heap.size + 1) (w2.heap.size + 1) (some ⟨gL, 0, none⟩) cL (lf1.set (i + j) u) (of'.set i a) ((wr.drewN n).setCell ⟨gL, i + j, none⟩ (.int .u8 u))) ∧
       Aside0 (KeepsOthers W ((wr.drewN n).setCell ⟨gL, i + j, none⟩ (.int .u8 u))) ∧ Aside0 (Below w.heap.size w ((wr.drewN n).setCell ⟨gL, i + j, none⟩ (.int .u8 u))) := fun n =>
      ⟨⟨(HN1.out.drewN n).setL rfl (i + j) u hu0 hu1 (by omega) (by omega) (by omega) (by omega)⟩, ⟨HK1.out.trans ((hnd n).trans (KeepsOthers.setCell _ _ _))⟩, ⟨HB1'.out.trans ((hbd n).setCell (p := ⟨gL, i + j, none⟩) (by have := HGL.out; simp; omega) _)⟩⟩
     have HEND := Aside0.mk hend
     have hij1 : (i : Int) + (j : Int) < (lf.length : Int) := by omega
     have hij0 : 0 ≤ (i : Int) + (j : Int) := by omega
     have hjl : (j : Int) < (l1.length : Int) := by omega
     have hjd : (j : Int) < (dn : Int) + 1 := by omega
     have hjm : (j : Int) ≤ 140737488355328 := by omega
     clear ht hu hin hel1 ce3 hend hnd hbd
     gi_wp2
     have hs3 : ((i : Int) + (j : Int)).toNat = i + j := by omega
     have hs4 : -9223372036854775808 ≤ (i : Int) + (j : Int) ∧ (i : Int) + (j : Int) ≤ 9223372036854775807 := by omega
     have hs2 := IntWalk.i64_in _ hs4
     have hs1 := (i64_w _).symm.trans hs2
     clear hs4
     refine start_round (n := 19) (S := fun w' => w'.cell? ⟨w2.heap.size, 0, none⟩ = some (.slice (some ⟨gL, 0, none⟩) lf.length cL) ∧ w'.cell? ⟨w.heap.size, 0, none⟩ = some (.slice (some ad1) l1.length c1) ∧ w'.cell? (ad1.add j) = some (.int .u8 (rd l1 ((j : Nat) : Int))) ∧ w'.cell? ⟨gL, i + j, none⟩ = some (.int .u8 (rd lf1 ((i + j : Nat) : Int))) ∧ w'.frozen? ⟨gL, i + j, none⟩ = false) (ds := [18]) #[false, false, false, false, false, false, false, false, false, false, false, false, false, false, false, false, false, false, false] (by kernel_rfl) rfl rfl ⟨cl2, cq2, ca2, ce2, cf2⟩ (by kernel_rfl) (by rintro ⟨a, w, h⟩; exact h) (fun hHeld => ?_)
     refine pure_ (i := 1) (N := some 57) (v := ?_) (a' := ?_) #[false, true, false, false, false, false, false, false, false, false, false, false, false, false, false, false, false, false, false] rfl rfl (by kernel_rfl) (fun _ _ _ h => h) (Or.inl ⟨by rfl, ?_⟩) ?_ ?_
     rotate_left
     ·intro w'
      go_simp
      with_reducible rfl
     rotate_left
     ·simp only [Act.put, List.setIfInBounds_toArray, List.set_cons_zero, List.set_cons_succ, i64_w, i32_w]
      rfl
     refine pure_ (i := 2) (N := some 58) (v := ?_) (a' := ?_) #[false, true, true, false, false, false, false, false, false, false, false, false, false, false, false, false, false, false, false] rfl rfl (by kernel_rfl) (fun _ _ _ h => h) (Or.inl ⟨by rfl, ?_⟩) ?_ ?_
     rotate_left
     ·intro w'
      go_simp
      with_reducible rfl
     rotate_left
     ·simp only [Act.put, List.setIfInBounds_toArray, List.set_cons_zero, List.set_cons_succ, i64_w, i32_w]
      rfl
     refine pure_ (i := 3) (N := some 59) (v := ?_) (a' := ?_) #[false, true, true, true, false, false, false, false, false, false, false, false, false, false, false, false, false, false, false] rfl rfl (by kernel_rfl) (fun _ _ _ h => h) (Or.inl ⟨by rfl, ?_⟩) ?_ ?_
     rotate_left
     ·intro w'
      go_simp
      with_reducible rfl
     rotate_left
     ·simp only [Act.put, List.setIfInBounds_toArray, List.set_cons_zero, List.set_cons_succ, i64_w, i32_w]
      rfl
     refine pure_ (i := 5) (N := some 61) (v := ?_) (a' := ?_) #[false, true, true, true, false, true, false, false, false, false, false, false, false, false, false, false, false, false, false] rfl rfl (by kernel_rfl) (fun _ _ _ h => h) (Or.inl ⟨by rfl, ?_⟩) ?_ ?_
     rotate_left
     ·intro w'
      go_simp
      with_reducible rfl
     rotate_left
     ·simp only [Act.put, List.setIfInBounds_toArray, List.set_cons_zero, List.set_cons_succ, i64_w, i32_w]
      rfl
     refine pure_ (i := 6) (N := some 62) (v := ?_) (a' := ?_) #[false, true, true, true, false, true, true, false, false, false, false, false, false, false, false, false, false, false, false] rfl rfl (by kernel_rfl) (fun _ _ _ h => h) (Or.inl ⟨by rfl, ?_⟩) ?_ ?_
     rotate_left
     ·intro w'
      go_simp
      with_reducible rfl
     rotate_left
     ·simp only [Act.put, List.setIfInBounds_toArray, List.set_cons_zero, List.set_cons_succ, i64_w, i32_w]
      rfl
     refine pure_ (i := 7) (N := some 63) (v := ?_) (a' := ?_) #[false, true, true, true, false, true, true, true, false, false, false, false, false, false, false, false, false, false, false] rfl rfl (by kernel_rfl) (fun _ _ _ h => h) (Or.inl ⟨by rfl, ?_⟩) ?_ ?_
     rotate_left
     ·intro w'
      go_simp
      with_reducible rfl
     rotate_left
     ·simp only [Act.put, List.setIfInBounds_toArray, List.set_cons_zero, List.set_cons_succ, i64_w, i32_w]
      rfl
     refine pure_ (i := 10) (N := some 66) (v := ?_) (a' := ?_) #[false, true, true, true, false, true, true, true, false, false, true, false, false, false, false, false, false, false, false] rfl rfl (by kernel_rfl) (fun _ _ _ h => h) (Or.inl ⟨by rfl, ?_⟩) ?_ ?_
     rotate_left
     ·intro w'
      go_simp
      with_reducible rfl
     rotate_left
     ·simp only [Act.put, List.setIfInBounds_toArray, List.set_cons_zero, List.set_cons_succ, i64_w, i32_w]
      rfl
     refine pure_ (i := 12) (N := some 68) (v := ?_) (a' := ?_) #[false, true, true, true, false, true, true, true, false, false, true, false, true, false, false, false, false, false, false] rfl rfl (by kernel_rfl) (fun _ _ _ h => h) (Or.inl ⟨by rfl, ?_⟩) ?_ ?_
     rotate_left
     ·intro w'
      go_simp
      with_reducible rfl
     rotate_left
     ·simp only [Act.put, List.setIfInBounds_toArray, List.set_cons_zero, List.set_cons_succ, i64_w, i32_w]
      rfl
     refine take_ (i := 0) (N := some 56) (v := ?_) (a' := ?_) #[true, true, true, true, false, true, true, true, false, false, true, false, true, false, false, false, false, false, false] rfl rfl (by kernel_rfl) (fun _ _ _ h => h) (Or.inl ⟨by rfl, ?_⟩) hHeld ?_ ?_
     rotate_left
     ·rintro w' ⟨s0, s1, s2, s3, s4⟩
      go_simp
      with_reducible rfl
     rotate_left
     ·simp only [Act.put, List.setIfInBounds_toArray, List.set_cons_zero, List.set_cons_succ, i64_w, i32_w]
      rfl
     refine take_ (i := 4) (N := some 60) (v := ?_) (a' := ?_) #[true, true, true, true, true, true, true, true, false, false, true, false, true, false, false, false, false, false, false] rfl rfl (by kernel_rfl) (fun _ _ _ h => h) (Or.inl ⟨by rfl, ?_⟩) hHeld ?_ ?_
     rotate_left
     ·rintro w' ⟨s0, s1, s2, s3, s4⟩
      go_simp
      with_reducible rfl
     rotate_left
     ·simp only [Act.put, List.setIfInBounds_toArray, List.set_cons_zero, List.set_cons_succ, i64_w, i32_w]
      rfl
     refine pure_ (i := 8) (N := some 64) (v := ?_) (a' := ?_) #[true, true, true, true, true, true, true, true, true, false, true, false, true, false, false, false, false, false, false] rfl rfl (by kernel_rfl) (fun _ _ _ h => h) (Or.inl ⟨by rfl, ?_⟩) ?_ ?_
     rotate_left
     ·intro w'
      go_simp
      with_reducible rfl
     rotate_left
     ·simp only [Act.put, List.setIfInBounds_toArray, List.set_cons_zero, List.set_cons_succ, i64_w, i32_w]
      rfl
     refine take_ (i := 9) (N := some 65) (v := ?_) (a' := ?_) #[true, true, true, true, true, true, true, true, true, true, true, false, true, false, false, false, false, false, false] rfl rfl (by kernel_rfl) (fun _ _ _ h => h) (Or.inl ⟨by rfl, ?_⟩) hHeld ?_ ?_
     rotate_left
     ·rintro w' ⟨s0, s1, s2, s3, s4⟩
      go_simp
      with_reducible rfl
     rotate_left
     ·simp only [Act.put, List.setIfInBounds_toArray, List.set_cons_zero, List.set_cons_succ, i64_w, i32_w]
      rfl
     refine take_ (i := 11) (N := some 67) (v := ?_) (a' := ?_) #[true, true, true, true, true, true, true, true, true, true, true, true, true, false, false, false, false, false, false] rfl rfl (by kernel_rfl) (fun _ _ _ h => h) (Or.inl ⟨by rfl, ?_⟩) hHeld ?_ ?_
     rotate_left
     ·rintro w' ⟨s0, s1, s2, s3, s4⟩
      go_simp
      with_reducible rfl
     rotate_left
     ·simp only [Act.put, List.setIfInBounds_toArray, List.set_cons_zero, List.set_cons_succ, i64_w, i32_w]
      rfl
     refine pure_ (i := 13) (N := some 69) (v := ?_) (a' := ?_) #[true, true, true, true, true, true, true, true, true, true, true, true, true, true, false, false, false, false, false] rfl rfl (by kernel_rfl) (fun _ _ _ h => h) (Or.inl ⟨by rfl, ?_⟩) ?_ ?_
     rotate_left
     ·intro w'
      go_simp
      with_reducible rfl
     rotate_left
     ·simp only [Act.put, List.setIfInBounds_toArray, List.set_cons_zero, List.set_cons_succ, i64_w, i32_w]
      rfl
     refine take_ (i := 14) (N := some 70) (v := ?_) (a' := ?_) #[true, true, true, true, true, true, true, true, true, true, true, true, true, true, true, false, false, false, false] rfl rfl (by kernel_rfl) (fun _ _ _ h => h) (Or.inl ⟨by rfl, ?_⟩) hHeld ?_ ?_
     rotate_left
     ·rintro w' ⟨s0, s1, s2, s3, s4⟩
      go_simp
      with_reducible rfl
     rotate_left
     ·simp only [Act.put, List.setIfInBounds_toArray, List.set_cons_zero, List.set_cons_succ, i64_w, i32_w]
      rfl
     refine one_ (i := 15) (N := some 71) #[true, true, true, true, true, true, true, true, true, true, true, true, true, true, true, true, false, false, false] rfl rfl (by kernel_rfl) (by decide) (fun K hK => ?_)
     refine goes_ Try.func26 (by kernel_rfl) rfl #[.int .u8 a, .int .u8 (rd l1 ((j : Nat) : Int))] (by rfl) rfl rfl (by simp only [List.map_toArray, List.map_cons, List.map_nil]; rfl) ?_
     with_reducible refine (gf_Mul.calls k a (rd l1 ((j : Nat) : Int)) t _ HT.out).mono ?_
     rintro e w3 ⟨rfl, ⟨n2, rfl⟩⟩
     refine ⟨_, rfl, ?_⟩
     refine hK.out _ _ ⟨hHeld.1, hHeld.2.1, hHeld.2.2.1, hHeld.2.2.2.1, hHeld.2.2.2.2⟩ (fun hHeld => ?_)
     clear hK K
     refine norm_ (a' := ?_) ?_ ?_
     rotate_left
     ·show Act.put _ (some 71) _ = _
      simp only [Act.put, List.setIfInBounds_toArray, List.set_cons_zero, List.set_cons_succ, i64_w, i32_w]
      rfl
     refine one_ (i := 16) (N := some 72) #[true, true, true, true, true, true, true, true, true, true, true, true, true, true, true, true, true, false, false] rfl rfl (by kernel_rfl) (by decide) (fun K hK => ?_)
     refine goes_ Try.func25 (by kernel_rfl) rfl #[.int .u8 (rd lf1 ((i + j : Nat) : Int)), .int .u8 t] (by rfl) rfl rfl (by simp only [List.map_toArray, List.map_cons, List.map_nil]; rfl) ?_
     with_reducible refine (gf_Add.calls (rd lf1 ((i + j : Nat) : Int)) t u _ HU.out).mono ?_
     rintro e w3 ⟨rfl, ⟨n3, rfl⟩⟩
     refine ⟨_, rfl, ?_⟩
     refine hK.out _ _ ⟨hHeld.1, hHeld.2.1, hHeld.2.2.1, hHeld.2.2.2.1, hHeld.2.2.2.2⟩ (fun hHeld => ?_)
     clear hK K
     refine norm_ (a' := ?_) ?_ ?_
     rotate_left
     ·show Act.put _ (some 72) _ = _
      simp only [Act.put, List.setIfInBounds_toArray, List.set_cons_zero, List.set_cons_succ, i64_w, i32_w]
      rfl
     refine pure_ (i := 17) (N := some 73) (v := ?_) (a' := ?_) #[true, true, true, true, true, true, true, true, true, true, true, true, true, true, true, true, true, true, false] rfl rfl (by kernel_rfl) (fun _ _ _ h => h) (Or.inl ⟨by rfl, ?_⟩) ?_ ?_
     rotate_left
     ·intro w'
      go_simp
      with_reducible rfl
     rotate_left
     ·simp only [Act.put, List.setIfInBounds_toArray, List.set_cons_zero, List.set_cons_succ, i64_w, i32_w]
      rfl
     refine last_ (i := 18) (N := none) #[true, true, true, true, true, true, true, true, true, true, true, true, true, true, true, true, true, true, true] rfl rfl (by kernel_rfl) (by decide) (fun K hK => ?_)
     have hHs := hHeld.2.2.2.1
     have hHf := hHeld.2.2.2.2
     refine skip_ (w1 := ?_) (by rfl) rfl ?_ ?_
     rotate_left
     ·go_simp
      rfl
     refine hK.out _ _ ?_
     clear hK K
     refine done_ (by kernel_rfl) ?_
     clear hs1 hs2 hs3 hHeld
     gi_wp2
     go_roundw
     case rel => exact ⟨j + 1, lf1.set (i + j) u, by omega, by go_num, (HEND.out _).1, HINN, (HEND.out _).2.1, (HEND.out _).2.2⟩
     case measure => simp [intOf]; omega
    ·obtain rfl : j = dn + 1 := by omega
     obtain rfl : lf1 = lfE := by
      have h := HI1.out
      rw [Nat.sub_self] at h
      exact Option.some.inj h
     gi_wp2
     refine ⟨HK1.out.from _, ⟨HN1.out.bb.cell.trans HNOW.out.bb.cell.symm, fun _ j hj => ?_⟩, ⟨lf1, of'.set i a, HN1.out, fun hp => ?_⟩, HB1'.out⟩
     ·have := Kd.R_celln (d := (0 : Int)) HN1.out.ro (j : Int) (by omega) (by omega)
      exact ⟨_, (HN1.out.byo j).1, (HN1.out.byo j).2, by simpa [rdOf] using this.1⟩
     ·have hlen := HL.out
      rw [List.length_append] at hp ⊢
      change (pre ++ _).map _ = BackIdx N (pre.length + 1) at hp
      change poly_Quo.outer k l1 dn inv (N - (pre.length + 1)) _ _ = _
      rw [List.map_append, BackIdx_succ] at hp
      obtain ⟨hp1, hp2⟩ := List.append_inj' hp rfl
      have hi2 : i = N - 1 - pre.length := (List.cons.inj hp2).1
      have hg := HOUT.out hp1
      rw [show N - pre.length = i + 1 by omega] at hg
      simp only [poly_Quo.outer] at hg
      rw [HA.out, Option.bind_some, HE.out, Option.bind_some] at hg
      rw [show N - (pre.length + 1) = i by omega]
      exact hg
  case stop =>
   rintro D c pre W hD _ h _
   exact h.elim
  case done =>
   rintro D ys W hD hys ⟨⟨lf', of', hnow, hout⟩, hB⟩ hK
   have hyl : ys.length = N := by have := congrArg List.length hys; rwa [List.length_map, BackIdx_length] at this
   have hf : fin = (lf', of') := by
    have h := hout (by rw [hyl]; exact hys)
    rw [hyl, Nat.sub_self] at h
    exact (Option.some.inj h).symm
   have hpl := HPL.out
   rw [hf] at hpl
   replace hpl := Option.bind_eq_some_iff.1 hpl
   obtain ⟨x, hx, hpl⟩ := hpl
   replace hpl := Option.bind_eq_some_iff.1 hpl
   obtain ⟨y, hy, hpl⟩ := hpl
   obtain ⟨rfl, rfl, rfl⟩ : x = r1 ∧ y = r2 ∧ r3 = 0 := by
    have := Option.some.inj hpl; simp only [Prod.mk.injEq] at this; exact ⟨this.1, this.2.1, this.2.2.symm⟩
   have HX := Aside0.mk hx
   have HY := Aside0.mk hy
   have HNOW := Aside0.mk hnow
   have HB := Aside0.mk hB
   have HK := Aside0.mk hK
   have HD' := Aside0.mk hD
   have hel := hnow.elen
   have hec := hnow.ecnt
   have hP1 : ∀ W', Kd.C (Kd.int .u8) W' (some ⟨w2.heap.size + 1, 0, none⟩) of'.length of' → Calls Try.prog 10 #[.slice (some ⟨w2.heap.size + 1, 0, none⟩) N N] W' fun e w'' => ∃ v0_ : Value, e = .returned (v0_) ∧ Kd.R (Kd.int .u8) 5 w'' W'.heap.size (fun _ => True) v0_ x ∧ Below W'.heap.size W' w'' := by
    intro W' hC
    have := poly_Plain.calls (some ⟨w2.heap.size + 1, 0, none⟩) N of' x W' hC (by omega) hx
    rwa [hec] at this
   have hP2 : ∀ W', Kd.C (Kd.int .u8) W' AL lf'.length lf' → Calls Try.prog 10 #[.slice AL lf.length cL] W' fun e w'' => ∃ v0_ : Value, e = .returned (v0_) ∧ Kd.R (Kd.int .u8) 5 w'' W'.heap.size (fun _ => True) v0_ y ∧ Below W'.heap.size W' w'' := by
    intro W' hC
    have hc := (Kd.R_reads' hnow.rl).2.1
    have := poly_Plain.calls AL cL lf' y W' hC (by omega) hy
    rwa [hel] at this
   have hCO := (Kd.R_reads' hnow.ro).2.2
   have hCL := (Kd.R_reads' hnow.rl).2.2
   have P1 := Aside0.mk hP1
   have P2 := Aside0.mk hP2
   have CO := Aside0.mk (Kd.C_drew hCO)
   have CL := Aside0.mk (Kd.C_drew hCL)
   have hso := hnow.bo.lt
   have hsl := hnow.bl.lt
   have co := hnow.bo.cell
   have cl := hnow.bl.cell
   clear hx hy hpl hf hyl hys hout hnow hB hK hD hel hec hP1 hP2 hCO hCL
   gi_wp2_with fail
   refine wpIn_of_normal (wpIn_wide.2 ?_)
   refine start_ (n := 7) (S := fun w' => w'.cell? ⟨w3.heap.size, 0, none⟩ = some (.slice (some ⟨w2.heap.size + 1, 0, none⟩) N N) ∧ w'.cell? ⟨w2.heap.size, 0, none⟩ = some (.slice AL lf.length cL)) (ds := []) #[false, false, false, false, false, false, false] (by kernel_rfl) rfl rfl ⟨co, cl⟩ (fun hHeld => ?_)
   refine take_ (i := 0) (N := some 75) (v := ?_) (a' := ?_) #[true, false, false, false, false, false, false] rfl rfl (by kernel_rfl) (fun _ _ _ h => h) (Or.inl ⟨by rfl, ?_⟩) hHeld ?_ ?_
   rotate_left
   ·rintro w' ⟨s0, s1⟩
    go_simp
    with_reducible rfl
   rotate_left
   ·simp only [Act.put, List.setIfInBounds_toArray, List.set_cons_zero, List.set_cons_succ, i64_w, i32_w]
    rfl
   refine take_ (i := 2) (N := some 77) (v := ?_) (a' := ?_) #[true, false, true, false, false, false, false] rfl rfl (by kernel_rfl) (fun _ _ _ h => h) (Or.inl ⟨by rfl, ?_⟩) hHeld ?_ ?_
   rotate_left
   ·rintro w' ⟨s0, s1⟩
    go_simp
    with_reducible rfl
   rotate_left
   ·simp only [Act.put, List.setIfInBounds_toArray, List.set_cons_zero, List.set_cons_succ, i64_w, i32_w]
    rfl
   refine one_ (i := 1) (N := some 76) #[true, true, true, false, false, false, false] rfl rfl (by kernel_rfl) (by decide) (fun K hK => ?_)
   refine goes_ Try.func10 (by kernel_rfl) rfl #[.slice (some ⟨w2.heap.size + 1, 0, none⟩) N N] (by rfl) rfl rfl (by simp only [List.map_toArray, List.map_cons, List.map_nil]; rfl) ?_
   with_reducible refine (P1.out _ CO.out).mono ?_
   rintro e w5 ⟨vX, rfl, hRX, hbX⟩
   refine ⟨_, rfl, ?_⟩
   have hsz5 := hbX.size
   refine hK.out _ _ ⟨(hbX.cell (p := ⟨w3.heap.size, 0, none⟩) hso).trans hHeld.1, (hbX.cell (p := ⟨w2.heap.size, 0, none⟩) hsl).trans hHeld.2⟩ (fun hHeld => ?_)
   clear hK K
   refine norm_ (a' := ?_) ?_ ?_
   rotate_left
   ·show Act.put _ (some 76) _ = _
    simp only [Act.put, List.setIfInBounds_toArray, List.set_cons_zero, List.set_cons_succ, i64_w, i32_w]
    rfl
   refine one_ (i := 3) (N := some 78) #[true, true, true, true, false, false, false] rfl rfl (by kernel_rfl) (by decide) (fun K hK => ?_)
   refine goes_ Try.func10 (by kernel_rfl) rfl #[.slice AL lf.length cL] (by rfl) rfl rfl (by simp only [List.map_toArray, List.map_cons, List.map_nil]; rfl) ?_
   with_reducible refine (P2.out _ (Kd.C_below CL.out hbX)).mono ?_
   rintro e w6 ⟨vY, rfl, hRY, hbY⟩
   refine ⟨_, rfl, ?_⟩
   refine hK.out _ _ ⟨(hbY.cell (p := ⟨w3.heap.size, 0, none⟩) (Nat.lt_of_lt_of_le hso hsz5)).trans hHeld.1, (hbY.cell (p := ⟨w2.heap.size, 0, none⟩) (Nat.lt_of_lt_of_le hsl hsz5)).trans hHeld.2⟩ (fun hHeld => ?_)
   clear hK K
   refine norm_ (a' := ?_) ?_ ?_
   rotate_left
   ·show Act.put _ (some 78) _ = _
    simp only [Act.put, List.setIfInBounds_toArray, List.set_cons_zero, List.set_cons_succ, i64_w, i32_w]
    rfl
   refine pure_ (i := 4) (N := some 4) (v := ?_) (a' := ?_) #[true, true, true, true, true, false, false] rfl rfl (by kernel_rfl) (fun _ _ _ h => h) (Or.inl ⟨by rfl, ?_⟩) ?_ ?_
   rotate_left
   ·intro w'
    go_simp
    with_reducible rfl
   rotate_left
   ·simp only [Act.put, List.setIfInBounds_toArray, List.set_cons_zero, List.set_cons_succ, i64_w, i32_w]
    rfl
   refine pure_ (i := 5) (N := some 5) (v := ?_) (a' := ?_) #[true, true, true, true, true, true, false] rfl rfl (by kernel_rfl) (fun _ _ _ h => h) (Or.inl ⟨by rfl, ?_⟩) ?_ ?_
   rotate_left
   ·intro w'
    go_simp
    with_reducible rfl
   rotate_left
   ·simp only [Act.put, List.setIfInBounds_toArray, List.set_cons_zero, List.set_cons_succ, i64_w, i32_w]
    rfl
   refine pure_ (i := 6) (N := some 6) (v := ?_) (a' := ?_) #[true, true, true, true, true, true, true] rfl rfl (by kernel_rfl) (fun _ _ _ h => h) (Or.inl ⟨by rfl, ?_⟩) ?_ ?_
   rotate_left
   ·intro w'
    go_simp
    with_reducible rfl
   rotate_left
   ·simp only [Act.put, List.setIfInBounds_toArray, List.set_cons_zero, List.set_cons_succ, i64_w, i32_w]
    rfl
   refine done_ (by kernel_rfl) ?_
   gi_wp2
   have hK6 : w6.heap[D]? = some (.deferred (some [])) := by
    have hlt := (Array.getElem?_eq_some_iff.1 HK.out).1
    rw [hbY.block D (by have := hbX.size; simp at this; omega), hbX.block D (by simpa using hlt)]; exact HK.out
   refine ⟨by simp, .inl ⟨_, _, rfl, run_takeDeferred hK6, ?_⟩⟩
   have hsz : w.heap.size ≤ W.heap.size := HB.out.size
   have hXb := (Kd.R_bound hRX).1
   have hYb := (Kd.R_bound hRY).1
   have rX : Kd.R (Kd.int .u8) 5 w6 w.heap.size (fun k => some k ≠ vY.ownBlock) vX x := Kd.R_of_own (Kd.own_of_R (Kd.R_lower (Kd.R_below hRX hbY) (base' := w.heap.size) (by simpa using hsz))) (fun k hk e => by have h1 := (hXb k hk).2.2.1; have h2 := (hYb k e.symm).2.1; omega)
   have rY : Kd.R (Kd.int .u8) 5 w6 w.heap.size (fun k => some k ≠ vX.ownBlock) vY y := Kd.R_of_own (Kd.own_of_R (Kd.R_lower hRY (base' := w.heap.size) (by have := hbX.size; simp at this; omega))) (fun k hk e => by have h1 := (hXb k e.symm).2.2.1; have h2 := (hYb k hk).2.1; omega)
   refine ⟨.tuple #[vX, vY, .int .i64 0], by simp [results, Try.f23, go_sem], vX, vY, rfl, poly_Quo.r_own rX (grownBy_putObj' w6 D _) (fun r e => by cases e; exact ⟨_, hK6, rfl⟩), poly_Quo.r_own rY (grownBy_putObj' w6 D _) (fun r e => by cases e; exact ⟨_, hK6, rfl⟩), ?_⟩
   refine ((HB.out.trans ((below_drew1 (Below.refl _ _)).trans (hbX.mono (by simpa using hsz)))).trans (hbY.mono (by have := hbX.size; simp at this; omega))).trans ?_
   exact belowK_b (w := w) (Nat.le_refl _) w6 D _ _ (by have := HD'.out; have := HB4.out.size; omega) hK6 rfl rfl

end Go.Proofs.Ytgieppcadnhhaaa.P
