-- Written by a program of this session (its own contracts laid into the walks). Lean checks it.
import Derived.Test.YtgieppcadnhhaaaPx0
import Derived.RangeFuncNested
import Derived.RangeFuncBound
import Derived.RangeFuncCalls
import Derived.RangeFuncLeaves
import Derived.RangeFuncBox
import Derived.Shelf.Abstract
import Derived.OwnWalkIn
import Derived.TacticsInMore
import Derived.LoopNIn
import Derived.LoopIn
namespace Go.Proofs.Ytgieppcadnhhaaa.P
open Go.RowKit Go.Proofs.YtgieppcadnhhaaaW.PrintWords Go.Proofs.YtgieppcadnhhaaaW.PrintLast Go.Proofs.YtgieppcadnhhaaaW.PrintMore
attribute [local go_sem] max2_int min2_int max_two min_two max_three min_three max_four min_four   -- for this text's walks alone
set_option linter.unusedVariables false
set_option linter.unusedSimpArgs false

/-! ### slices_Backward_byte_byte: function 38 -/
-- IMPORTS Derived.RangeFuncNested Derived.RangeFuncBound Derived.RangeFuncCalls Derived.RangeFuncLeaves Derived.RangeFuncBox Derived.Shelf.Abstract Derived.OwnWalkIn Derived.TacticsInMore Derived.LoopNIn Derived.LoopIn
open Go.Shelf
attribute [local go_sem] Oper.semAt_some
section
variable {P : Program} {md : Region.Mode} {ops : Array Oper} {Q : Exit → Act → World → Prop}
/-- In a round of a range over a function each operation but 'defer' is carried out as everywhere: so is a region. -/
theorem op_round {l m i : Nat} {K K' : Act → World → Prop} {a : Act} {w : World} (hops : ∀ (j : Nat) (o : Oper), ops[j]? = some o → ∀ c, o.op ≠ .defer c) (hQ : ¬ LetsOut Q) (hK : ∀ a w, K a w → K' a w)
  (h : wpOp P ops Q i K a w) : wpOpIn (Fence.wide.inRound l) m P ops Q i K' a w := by
 unfold wpOp at h
 unfold wpOpIn
 cases ho : ops[i]? with
 | none => rw [ho] at h; exact hK _ _ h
 | some o =>
  rw [ho] at h
  simp only at h ⊢
  by_cases hw : Region.wanted o (yielded ops a.tmps) = true
  ·rw [if_pos hw] at h ⊢
   rcases h with h | ⟨_, h⟩
   ·refine ⟨fun _ _ => trivial, ?_⟩
    rw [Oper.semAt_eq _ _ _ (hops i o ho)]
    unfold Oper.wp at h
    generalize (execOp a.eval o).run P w = r at h
    cases r with
    | ok n w' =>
     cases n with
     | value v => exact hK _ _ h
     | skip => exact hK _ _ h
     | defer d => exact hK _ _ h
     | enter f args =>
      refine ⟨fun hd => (by cases hd), CallsIn.inRound l (callsIn_wide.2 (Calls.mono h ?_))⟩
      intro e w1 h1
      cases e with
      | returned v => exact hK _ _ h1
      | panicked c => exact h1
      | outgrown => exact h1
     | row row args =>
      refine ⟨fun hd => (by cases hd), fun c cs _ => ?_⟩
      obtain ⟨v, w1, h1, h2⟩ := h c cs
      exact ⟨v, w1, hK _ _ h1, stepsIn_wide.2 h2⟩
     | _ => exact h.elim
    | halt x w' => cases x <;> first | exact h | exact h.elim
   ·exact absurd h hQ
  ·rw [if_neg hw] at h ⊢
   exact ⟨fun _ _ => trivial, hK _ _ h⟩
theorem any_round {l m : Nat} (hops : ∀ (j : Nat) (o : Oper), ops[j]? = some o → ∀ c, o.op ≠ .defer c) (hQ : ¬ LetsOut Q) : ∀ (fuel : Nat) (listed : Array Bool) (a : Act) (w : World), wpAny P md ops Q fuel listed a w → wpAnyIn (Fence.wide.inRound l) m P md ops Q fuel listed a w
 | 0, _, _, _, h => h
 | fuel + 1, _, _, _, h => ⟨h.1, fun i hi => op_round hops hQ (fun a w h' => any_round hops hQ fuel _ a w h') (h.2 i hi)⟩
theorem wpIn_of_normal {F : Fence} {n : Nat} {c : Code} {K : Act → World → Prop} {a : Act} {w : World} (h : c.wpIn F n P (Exit.then K (fun _ _ _ => False)) a w) : c.wpIn F n P (Exit.then K Q) a w :=
 wpIn_mono h (fun e a w h => by cases e <;> first | exact h | exact h.elim)
def noDefer (ops : Array Oper) : Bool := ops.all fun o => match o.op with | .defer _ => false | _ => true
theorem noDefer_at {ops : Array Oper} (h : noDefer ops = true) (j : Nat) (o : Oper) (ho : ops[j]? = some o) (c) : o.op ≠ .defer c := by
 have := Array.all_eq_true'.1 h o (Array.mem_of_getElem? ho)
 intro e; rw [e] at this; cases this
theorem start_round {S : World → Prop} {ds : List Nat} {id n l m : Nat} {a : Act} {w : World} (la : Array Bool) (hm : P.follows .mixedOrders = true) (hn : ops.size = n) (hl : Array.replicate n false = la) (hS : S w.drew) (hops : noDefer ops = true) (hQ : ¬ LetsOut Q)
  (h : S w.drew → wpAnyLast P .any ops Q S ds n la a w.drew) : (Code.region id ops true).wpIn (Fence.wide.inRound l) m P Q a w := by
 subst hn
 subst hl
 exact wpIn_region_any hm (any_round (noDefer_at hops) hQ _ _ _ _ (wpAny_of_last _ _ _ _ (h hS)))
end
/-- What a range has brought in k rounds. -/
def BackUp {α : Type} (el : Nat → α) (k : Nat) : List α := (List.range k).map el
theorem BackUp_succ {α : Type} (el : Nat → α) (k : Nat) : BackUp el (k + 1) = BackUp el k ++ [el k] := by simp [BackUp, List.range_succ]
theorem BackUp_length {α : Type} (el : Nat → α) (k : Nat) : (BackUp el k).length = k := by simp [BackUp]
theorem back_cell {w : World} {A : Option Addr} {zs : List Int} (h : Kd.C (Kd.int .u8) w A zs.length zs) (i : Nat) (hi : i < zs.length) :
  ∃ ad, A = some ad ∧ w.cell? (ad.add i) = some (.int .u8 (zs[i]?.getD 0)) := by
 obtain ⟨ad, e, hc⟩ := Kd.at_int h (i : Int) (by omega) (by omega)
 exact ⟨ad, e, by simpa [rd] using hc⟩
set_option maxRecDepth 100000 in
set_option maxHeartbeats 2000000 in
/-- What a round that goes on keeps: all that lay below n₀, and the box of the slice. -/
structure BackK (n₀ Bs : Nat) (W W' : World) : Prop where
 below : Below n₀ W W'
 box : W'.cell? ⟨Bs, 0, none⟩ = W.cell? ⟨Bs, 0, none⟩
theorem BackK.refl (n₀ Bs : Nat) (W : World) : BackK n₀ Bs W W := ⟨Below.refl _ _, rfl⟩
theorem BackK.trans {n₀ Bs : Nat} {A B C : World} (h : BackK n₀ Bs A B) (k : BackK n₀ Bs B C) : BackK n₀ Bs A C := ⟨h.below.trans k.below, k.box.trans h.box⟩
theorem BackK.putObj {n₀ Bs : Nat} {w : World} (hn : n₀ ≤ w.heap.size) (hb : Bs < w.heap.size) (W : World) (l : Nat) (o o' : Obj) (hl : w.heap.size ≤ l) (h : W.heap[l]? = some o) (hc : o.isCells = false) (hk : o.isWalk = false) : BackK n₀ Bs W (W.putObj l o') :=
 ⟨belowK_b hn W l o o' hl h hc hk, (belowK_b (n₀ := w.heap.size) (Nat.le_refl _) W l o o' hl h hc hk).cell (p := ⟨Bs, 0, none⟩) hb⟩
/-- slices.Backward's closure over bytes, for every loop body that keeps what lay below n₀. -/
theorem back1_in {α : Type} (encs : α → Array Value) (el : Nat → α) (F : Fence) (n : Nat) (hF : F.fn 50) (hro : F.round = none) (hn : 1 ≤ n) (l Bs : Nat) (w₀ : World) (A : Option Addr) (cap : Nat) (zs : List Int)
  (hm : zs.length ≤ 9223372036854775807) (hI : Kd.C (Kd.int .u8) w₀ A zs.length zs)
  (hel : ∀ j, j < zs.length → encs (el j) = #[.int .i64 ((zs.length : Int) - 1 - (j : Int)), .int .u8 (zs[zs.length - 1 - j]?.getD 0)]) (J Jx : List α → World → Prop)
  (hY : ∀ pre x W, J pre W → pre.length < zs.length → YieldAt F (n - 1) Try.prog l (encs x) W fun e W' =>
   (e = .returned (.bool true) ∧ J (pre ++ [x]) W' ∧ BackK w₀.heap.size Bs W W') ∨ (e = .returned (.bool false) ∧ Jx (pre ++ [x]) W'))
  (W : World) (hBs : W.cell? ⟨Bs, 0, none⟩ = some (.slice A zs.length cap)) (hW0 : Below w₀.heap.size w₀ W) (h0 : J [] W) :
  CallsIn F n Try.prog 50 #[.func (.yield l) #[] #[], .pointer (some ⟨Bs, 0, none⟩)] W fun e W' => (∃ v, e = .returned v) ∧
   ((∃ ys, ys = BackUp el zs.length ∧ J ys W') ∨ (∃ pre, (∃ k, k ≤ zs.length ∧ pre = BackUp el k) ∧ Jx pre W')) := by
 refine callsIn_of_wp Try.func50 rfl hF ?_ hro
 simp only [Try.ntmps50, List.size_toArray, List.length_cons, List.length_nil, Nat.reduceAdd, Nat.reduceSub, Array.replicate_succ, Array.replicate_zero, List.push_toArray, List.append_toArray, List.nil_append, List.cons_append]
 gi_wp2
 gi_loopw [3] (fun i wr => ∃ k : Nat, k ≤ zs.length ∧ i = .int .i64 ((zs.length : Int) - 1 - (k : Int)) ∧ J (BackUp el k) wr ∧ BackK w₀.heap.size Bs W wr)
  (fun i _ => (intOf i + 1).toNat)
 case atStart => exact ⟨0, Nat.zero_le _, by simp, h0, BackK.refl _ _ _⟩
 case round =>
  obtain ⟨k, hk', rfl, hJs, hnx⟩ := hrel
  have hBs' := hnx.box.trans hBs
  by_cases hlt : k < zs.length
  ·obtain ⟨fn, tmps, assign, body, hy, hR⟩ := hY _ (el k) wr hJs (by rw [BackUp_length]; exact hlt)
   obtain ⟨ad, rfl, hcx⟩ := back_cell (Kd.C_below hI (hW0.trans hnx.below)) (zs.length - 1 - k) (by omega)
   rw [hel k hlt] at hy
   have hz1 : 0 ≤ (zs.length : Int) - 1 - (k : Int) := by omega
   have hz2 : (zs.length : Int) - 1 - (k : Int) < (zs.length : Int) := by omega
   have hz3 : ((zs.length : Int) - 1 - (k : Int)).toNat = zs.length - 1 - k := by omega
   gi_wp2
   refine hR.mono ?_
   rintro e W3 (⟨rfl, hJ3, hk3⟩ | ⟨rfl, hJx3⟩)
   ·gi_wp2
    go_roundw
    case rel => exact ⟨k + 1, by omega, by go_num, by rw [BackUp_succ]; exact hJ3, hnx.trans hk3⟩
    case measure => simp [intOf]; omega
   ·gi_wp2
    refine bodyPost_ret (results_none rfl _ _ _) rfl ?_
    exact ⟨⟨_, rfl⟩, .inr ⟨_, ⟨k + 1, by omega, (BackUp_succ _ _).symm⟩, hJx3⟩⟩
  ·obtain rfl : k = zs.length := by omega
   gi_wp2
   go_end0
   exact ⟨⟨_, rfl⟩, .inl ⟨_, rfl, hJs⟩⟩

set_option maxHeartbeats 1000000 in
/-- slices.Backward: the slice is boxed; the function value captures the box. -/
theorem back_in (F : Fence) (n : Nat) (hF : F.fn 38) (hro : F.round = none) (A : Option Addr) (len cap : Nat) (w : World) :
  CallsIn F n Try.prog 38 #[.slice A len cap] w fun e w' => e = .returned (.func (.func 50) #[] #[.pointer (some ⟨w.heap.size, 0, none⟩)]) ∧ w' = w.alloc (.cells #[.slice A len cap] 22) := by
 refine callsIn_of_wp Try.func38 rfl hF ?_ hro
 simp only [Try.ntmps38, List.size_toArray, List.length_cons, List.length_nil, Nat.reduceAdd, Nat.reduceSub, Array.replicate_succ, Array.replicate_zero, List.push_toArray, List.append_toArray, List.nil_append, List.cons_append]
 gi_wp2
 go_ret
 exact ⟨rfl, rfl⟩
theorem back_stops {α : Type} (encs : α → Array Value) (el : Nat → α) (F : Fence) (n : Nat) (hF : F.fn 50) (hro : F.round = none) (hn : 1 ≤ n) (Bs : Nat) (w₀ : World) (A : Option Addr) (cap : Nat) (zs : List Int)
  (hm : zs.length ≤ 9223372036854775807) (hI : Kd.C (Kd.int .u8) w₀ A zs.length zs)
  (hel : ∀ j, j < zs.length → encs (el j) = #[.int .i64 ((zs.length : Int) - 1 - (j : Int)), .int .u8 (zs[zs.length - 1 - j]?.getD 0)]) (w : World) (hBs : Bs < w.heap.size) (hw : Below w₀.heap.size w₀ w) (hc : w.cell? ⟨Bs, 0, none⟩ = some (.slice A zs.length cap)) :
  SeqStopsK F n Try.prog 50 #[.pointer (some ⟨Bs, 0, none⟩)] encs (BackK w₀.heap.size Bs)
   (fun ys => ys = BackUp el zs.length) (fun pre => ∃ k, k ≤ zs.length ∧ pre = BackUp el k) zs.length w := fun l J Jx W hW _ _ hY h0 =>
 back1_in encs el F n hF hro hn l Bs w₀ A cap zs hm hI hel J Jx hY W ((hW.cell (p := ⟨Bs, 0, none⟩) hBs).trans hc) (hw.trans (hW.mono hw.size)) h0
/-- What is owed at a range over it. -/
theorem backK_t {n₀ Bs : Nat} {A B C : World} (h : BackK n₀ Bs A B) (k : BackK n₀ Bs B C) : BackK n₀ Bs A C := h.trans k

/-- What a round keeps where the body writes the slice's own bytes: the box of the slice, and that its cells hold bytes. -/
structure BackV (Bs g n : Nat) (W W' : World) : Prop where
 box : W'.cell? ⟨Bs, 0, none⟩ = W.cell? ⟨Bs, 0, none⟩
 cells : (∀ j, j < n → ∃ c : Int, 0 ≤ c ∧ c ≤ 255 ∧ W.cell? ⟨g, j, none⟩ = some (.int .u8 c)) → ∀ j, j < n → ∃ c : Int, 0 ≤ c ∧ c ≤ 255 ∧ W'.cell? ⟨g, j, none⟩ = some (.int .u8 c)
theorem BackV.refl (Bs g n : Nat) (W : World) : BackV Bs g n W W := ⟨rfl, fun h => h⟩
theorem BackV.trans {Bs g n : Nat} {A B C : World} (h : BackV Bs g n A B) (k : BackV Bs g n B C) : BackV Bs g n A C := ⟨k.box.trans h.box, fun z => k.cells (h.cells z)⟩
theorem BackV.putObj {Bs g n : Nat} {w : World} (hb : Bs < w.heap.size) (W : World) (l : Nat) (o o' : Obj) (hl : w.heap.size ≤ l) (h : W.heap[l]? = some o) (hc : o.isCells = false) (hk : o.isWalk = false) : BackV Bs g n W (W.putObj l o') :=
 ⟨(belowK_b (n₀ := w.heap.size) (Nat.le_refl _) W l o o' hl h hc hk).cell (p := ⟨Bs, 0, none⟩) hb, fun z j hj => by
  obtain ⟨c, c0, c1, hcell⟩ := z j hj
  exact ⟨c, c0, c1, cell_kept hcell (grownBy_putObj' W l o') (fun r e => by cases e; exact ⟨o, h, hc⟩)⟩⟩
/-- An index below n, and a byte. -/
def BackEl (n : Nat) : Type := { p : Nat × Int // p.1 < n ∧ 0 ≤ p.2 ∧ p.2 ≤ 255 }
def BackIdx (n k : Nat) : List Nat := (List.range k).map fun j => n - 1 - j
theorem BackIdx_succ (n k : Nat) : BackIdx n (k + 1) = BackIdx n k ++ [n - 1 - k] := by simp [BackIdx, List.range_succ]
theorem BackIdx_length (n k : Nat) : (BackIdx n k).length = k := by simp [BackIdx]
set_option maxRecDepth 100000 in
set_option maxHeartbeats 2000000 in
theorem back2_stops (F : Fence) (n : Nat) (hF : F.fn 50) (hro : F.round = none) (hn : 1 ≤ n) (Bs g N cap : Nat) (hm : N ≤ 9223372036854775807)
  (w : World) (hBs : Bs < w.heap.size) (hg : g < w.heap.size) (hc : w.cell? ⟨Bs, 0, none⟩ = some (.slice (some ⟨g, 0, none⟩) N cap))
  (hI : ∀ j, j < N → ∃ c : Int, 0 ≤ c ∧ c ≤ 255 ∧ w.cell? ⟨g, j, none⟩ = some (.int .u8 c)) :
  SeqStopsK F n Try.prog 50 #[.pointer (some ⟨Bs, 0, none⟩)] (fun x : BackEl N => #[Value.int .i64 (x.1.1 : Int), Value.int .u8 x.1.2]) (BackV Bs g N)
   (fun ys => ys.map (fun x => x.1.1) = BackIdx N N) (fun pre => ∃ k, k ≤ N ∧ pre.map (fun x => x.1.1) = BackIdx N k) N w := by
 intro l J Jx W hW _ _ hY h0
 have hBs0 := (hW.cell (p := ⟨Bs, 0, none⟩) hBs).trans hc
 have hI0 : ∀ j, j < N → ∃ c : Int, 0 ≤ c ∧ c ≤ 255 ∧ W.cell? ⟨g, j, none⟩ = some (.int .u8 c) := fun j hj => by
  obtain ⟨c, c0, c1, h⟩ := hI j hj
  exact ⟨c, c0, c1, (hW.cell (p := ⟨g, j, none⟩) hg).trans h⟩
 refine callsIn_of_wp Try.func50 rfl hF ?_ hro
 simp only [Try.ntmps50, List.size_toArray, List.length_cons, List.length_nil, Nat.reduceAdd, Nat.reduceSub, Array.replicate_succ, Array.replicate_zero, List.push_toArray, List.append_toArray, List.nil_append, List.cons_append]
 gi_wp2
 gi_loopw [3] (fun i wr => ∃ k : Nat, k ≤ N ∧ i = .int .i64 ((N : Int) - 1 - (k : Int)) ∧ (∃ pre, pre.map (fun x => x.1.1) = BackIdx N k ∧ J pre wr) ∧ BackV Bs g N W wr)
  (fun i _ => (intOf i + 1).toNat)
 case atStart => exact ⟨0, Nat.zero_le _, by simp, ⟨[], rfl, h0⟩, BackV.refl _ _ _ _⟩
 case round =>
  obtain ⟨k, hk', rfl, ⟨pre, hpre, hJs⟩, hnx⟩ := hrel
  have hBs' := hnx.box.trans hBs0
  by_cases hlt : k < N
  ·obtain ⟨c, c0, c1, hcx⟩ := hnx.cells hI0 (N - 1 - k) (by omega)
   have hpl : pre.length < N := by have := congrArg List.length hpre; rw [List.length_map, BackIdx_length] at this; omega
   obtain ⟨fn, tmps, assign, body, hy, hR⟩ := hY pre ⟨(N - 1 - k, c), by omega, c0, c1⟩ wr hJs hpl
   dsimp only at hy
   rw [show ((N - 1 - k : Nat) : Int) = (N : Int) - 1 - (k : Int) by omega] at hy
   have hz1 : 0 ≤ (N : Int) - 1 - (k : Int) := by omega
   have hz2 : (N : Int) - 1 - (k : Int) < (N : Int) := by omega
   have hz3 : ((N : Int) - 1 - (k : Int)).toNat = N - 1 - k := by omega
   have HPRE := Aside0.mk hpre
   clear hpre
   gi_wp2
   refine hR.mono ?_
   rintro e W3 (⟨rfl, hJ3, hk3⟩ | ⟨rfl, hJx3⟩)
   ·gi_wp2
    go_roundw
    case rel => exact ⟨k + 1, by omega, by go_num, ⟨_, by rw [List.map_append, HPRE.out, BackIdx_succ]; rfl, hJ3⟩, hnx.trans hk3⟩
    case measure => simp [intOf]; omega
   ·gi_wp2
    refine bodyPost_ret (results_none rfl _ _ _) rfl ?_
    exact ⟨⟨_, rfl⟩, .inr ⟨_, ⟨k + 1, by omega, by rw [List.map_append, HPRE.out, BackIdx_succ]; rfl⟩, hJx3⟩⟩
  ·obtain rfl : k = N := by omega
   gi_wp2
   go_end0
   exact ⟨⟨_, rfl⟩, .inl ⟨pre, hpre, hJs⟩⟩


end Go.Proofs.Ytgieppcadnhhaaa.P
