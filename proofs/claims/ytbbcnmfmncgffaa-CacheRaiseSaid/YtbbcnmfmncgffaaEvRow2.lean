/-
  Rows: made, stored into, appended to.
  Written by hand for this claim's session.
-/
import Derived.Test.YtbbcnmfmncgffaaEvRow
import Derived.Laws.CopyRow
namespace Go.YtbbcnmfmncgffaaE
open Go.RowKit
set_option linter.unusedVariables false
set_option linter.unusedSimpArgs false
def fitsB (sz : Nat) (x : T) : Bool := Nat.beq x.cells.length sz && x.cells.all T.one
theorem fitsB_fits {sz : Nat} {x : T} (h : fitsB sz x = true) : x.fits sz := by
  simp only [fitsB, Bool.and_eq_true] at h
  exact ⟨Nat.eq_of_beq_eq_true h.1, List.all_eq_true.1 h.2⟩
def mkT : List T → T
  | [x] => x
  | l => .agg l
theorem mkT_cells {l : List T} (h1 : ∀ y ∈ l, y.one = true) : (mkT l).cells = l := by
  match l with
  | [] => rfl
  | [x] =>
    have := h1 x (by simp)
    cases x <;> first | rfl | cases this
  | x :: y :: l => rfl
theorem cellsA_t (x : T) : cellsA (.t x) = x.cells.map .t := by cases x <;> rfl
/-- A tree's cells and a value's. -/
theorem T.cells_told {w : World} {O : Nat → Prop} {x : T} {v : Value} (h : HT w O x v) (h1 : ∀ y ∈ x.cells, y.one = true) :
    ∃ vs : List Value, v.cells = vs.toArray ∧ vs.length = x.cells.length ∧ (∀ u ∈ vs, u.oneCell' = true) ∧ ∀ (i : Nat) y u, x.cells[i]? = some y → vs[i]? = some u → HT w O y u := by
  obtain ⟨vs, h2, h3, h4, h5⟩ := Go.YtbbcnmfmncgffaaE.cells_told (m := fun _ => none) (HA.t x v h) (fun y hy => by
    rw [cellsA_t] at hy
    obtain ⟨z, hz, rfl⟩ := List.mem_map.1 hy
    exact h1 z hz)
  rw [cellsA_t] at h3 h5
  refine ⟨vs, h2, by simpa using h3, h4, fun i y u hy hu => (h5 i (.t y) u (by rw [List.getElem?_map, hy]; rfl) hu).t_ht⟩
/-- Rows of equal elements, laid end to end. -/
theorem flat_get {α : Type} {sz : Nat} : ∀ (l : List (List α)), (∀ x ∈ l, x.length = sz) → ∀ (i j : Nat) (x : List α) (y : α), l[i]? = some x → x[j]? = some y → l.flatten[i * sz + j]? = some y
  | [], _, i, j, x, y, h, _ => by simp at h
  | a :: l, hl, i, j, x, y, hx, hy => by
    have ha : a.length = sz := hl a (by simp)
    rw [List.flatten_cons, List.getElem?_append]
    cases i with
    | zero =>
      simp at hx; subst hx
      have := (List.getElem?_eq_some_iff.1 hy).1
      rw [if_pos (by omega)]
      simpa using hy
    | succ i =>
      rw [if_neg (by rw [Nat.add_mul]; omega)]
      have := flat_get l (fun x hx => hl x (List.mem_cons_of_mem _ hx)) i j x y (by simpa using hx) hy
      rw [show (i + 1) * sz + j - a.length = i * sz + j by rw [Nat.add_mul]; omega]
      exact this
theorem flat_len {α : Type} {sz : Nat} : ∀ (l : List (List α)), (∀ x ∈ l, x.length = sz) → l.flatten.length = l.length * sz
  | [], _ => by simp
  | a :: l, hl => by
    rw [List.flatten_cons, List.length_append, flat_len l (fun x hx => hl x (List.mem_cons_of_mem _ hx)), hl a (by simp), List.length_cons, Nat.add_mul]; omega
section
variable {P : Program} {o : Oper} {tf : Nat → AV} {hf : Hp}
/-- Phase two of an operation that freezes first. -/
theorem loc_frz {R L : List Nat} {v : AV} {W F : Heap} {N : List Nat} (hF : F = frz hf L []) (hL : ∀ b ∈ L, b ∈ R) (hW : ∀ b ∈ ids W, b ∈ R ∨ b ∈ N)
    (h : ∀ tf' hf', (∀ t ∈ tmpsOf o, tf' t = tf t) → (∀ b ∈ R, hf' b = hf b) → ∀ (w0 : Bse) (X O0 D : Nat → Prop) (m : Nat → Option Value) (a : Act) (w : World) (Q : Exit → Act → World → Prop), Rel w0 X O0 D m tf' (upH hf' F) a w →
      (∀ (n : Nat) (x : AV) (t : T) (v : Value), toT hf n x = some t → (∀ b ∈ reach hf n x, b ∈ L) → HA m w (Own X m hf') x v → HT w (Own X m (upH hf' F)) t v) → Rel w0 X O0 D m tf' hf' a w → (∀ x, o.dst = some x → x < a.tmps.size) → (∀ n ∈ N, ¬ D n) →
      o.wp P a w (fun a' w' => ∃ u m', a' = a.put o.dst u ∧ Rel w0 X O0 (fun b => D b ∨ b ∈ N) m' (upT tf' o.dst v) (upH (upH hf' F) W) a' w') Q) : OpLoc P o R tf hf v (W ++ F) N := by
  refine ⟨fun b hb => ?_, fun tf' hf' ht hh w0 X O0 D m a w Q hR hd hN => ?_⟩
  · rcases (ids_append W F b).1 hb with hb | hb
    · exact hW b hb
    · rw [hF] at hb
      exact .inl (hL b ((frz_spec (hf := hf) L []).1 b hb).1)
  · have hF' : F = frz hf' L [] := by
      rw [hF]
      have key : ∀ (l seen : List Nat), (∀ b ∈ l, hf' b = hf b) → frz hf l seen = frz hf' l seen := by
        intro l
        induction l with
        | nil => intro seen _; rfl
        | cons b r ih =>
          intro seen hb
          unfold frz
          rw [hb b (by simp), ih seen (fun b' hb' => hb b' (by simp [hb'])), ih (b :: seen) (fun b' hb' => hb b' (by simp [hb']))]
      exact key L [] (fun b hb => hh b (hL b hb))
    obtain ⟨hR1, hv⟩ := hR.view hF'
    rw [← upH_append]
    refine h tf' hf' ht hh w0 X O0 D m a w Q hR1 (fun n x t v h1 h2 h3 => ?_) hR hd hN
    obtain ⟨h4, h5⟩ := toT_congr (hf := hf) (hf' := hf') n x (fun b hb => hh b (hL b (h2 b hb)))
    exact hv n x t v (by rw [h4]; exact h1) (by rw [h5]; exact h2) h3
/-! ### rows that are made -/
theorem HB.row_new {m' : Nat → Option Value} {w' : World} {O' : Nat → Prop} {n e sz : Nat} {l : List T} {v : Value} {xs : List (List Value)} (hm : m' n = some v) (how : w'.ownsRow 0 e sz v l.length xs.flatten) (hf : ∀ x ∈ l, x.fits sz) (hxs : xs.length = l.length) (hl : ∀ x ∈ xs, x.length = sz)
    (hv : ∀ (i j : Nat) (x y : T) (vs : List Value) (u : Value), l[i]? = some x → x.cells[j]? = some y → xs[i]? = some vs → vs[j]? = some u → HT w' O' y u) : HB m' w' O' n (.row e sz l) := by
  refine ⟨v, xs.flatten, hm, how, hf, fun i j x y hx hy => ?_⟩
  have hi : i < xs.length := by have := (List.getElem?_eq_some_iff.1 hx).1; omega
  have hfit := hf x (List.mem_of_getElem? hx)
  have hj : j < sz := by have := (List.getElem?_eq_some_iff.1 hy).1; have := hfit.1; omega
  have hxi : xs[i]? = some xs[i] := List.getElem?_eq_getElem hi
  have hlen : (xs[i]).length = sz := hl _ (List.getElem_mem hi)
  have hju : (xs[i])[j]? = some (xs[i])[j] := List.getElem?_eq_getElem (by omega)
  exact ⟨_, flat_get xs hl i j _ _ hxi hju, hv i j x y _ _ hx hy hxi hju⟩
def evMake (P : Program) (t : TypeId) (l c : AV) (d : Option Tmp) (k : Kont) : Prop :=
  match P.underlying t with
  | some (.slice e) => match l, c, d with
    | .t (.v (.int _ n)), .t (.v (.int _ c)), some d => (match P.info? e with
      | some i => match i.zero with
        | some z => match Nat.beq z.cells.toList.length i.size && z.cells.toList.all Value.oneCell' with
          | true => 0 ≤ n ∧ n ≤ c ∧ (i.bytes : Int) * c ≤ 281474976710656 ∧ c ≤ 9223372036854775807 ∧ k (.own d) [(d, false, .row e i.size (List.replicate n.toNat (mkT (z.cells.toList.map .v))))] [] [d]
          | false => False
        | none => False
      | none => False)
    | _, _, _ => False
  | _ => False
theorem madeCells_flat (z : List Value) (c : Nat) : (madeCells z.toArray (c * z.length)).toList = (List.replicate c z).flatten := by
  apply List.ext_getElem?
  intro j
  have hlen : (List.replicate c z).flatten.length = c * z.length := by rw [flat_len (sz := z.length)]; simp; simp
  by_cases hj : j < c * z.length
  · have hz : 0 < z.length := by
      rcases Nat.eq_zero_or_pos z.length with h | h
      · rw [h] at hj; omega
      · exact h
    have hi : j / z.length < c := Nat.div_lt_of_lt_mul (by rw [Nat.mul_comm]; exact hj)
    have h1 : (List.replicate c z)[j / z.length]? = some z := by simp [hi]
    have h2 : z[j % z.length]? = some (z[j % z.length]'(Nat.mod_lt _ hz)) := List.getElem?_eq_getElem (Nat.mod_lt _ hz)
    have h3 := flat_get (List.replicate c z) (sz := z.length) (fun x hx => by rw [(List.mem_replicate.1 hx).2]) (j / z.length) (j % z.length) z _ h1 h2
    rw [show j / z.length * z.length + j % z.length = j by rw [Nat.mul_comm]; exact Nat.div_add_mod _ _] at h3
    rw [h3]
    unfold madeCells
    simp [hj, Nat.mod_lt _ hz]
  · rw [List.getElem?_eq_none (by simp [size_madeCells]; omega), List.getElem?_eq_none (by omega)]
theorem ok_make {t : TypeId} {x y : Operand} {k : Kont} (ho : o.op = .makeSlice t x y) (h : evMake P t (opd tf x) (opd tf y) o.dst k) : ∃ v W N, OpLoc P o [] tf hf v W N ∧ k v W [] N := by
  have hop : ∀ tf', (∀ t ∈ tmpsOf o, tf' t = tf t) → ∀ z, z = x ∨ z = y → opd tf' z = opd tf z := fun tf' ht z hz => tmps_same ht (by rw [ho]; simp [Op.operands]; exact hz)
  unfold evMake at h
  split at h
  · rename_i e hu
    split at h
    · rename_i κ n κ' c d hx hy hd
      split at h
      · rename_i i hi
        split at h
        · rename_i z hz
          split at h
          · rename_i hb
            simp only [Bool.and_eq_true] at hb
            have hb1 := Nat.eq_of_beq_eq_true hb.1
            have hb2 := List.all_eq_true.1 hb.2
            obtain ⟨h0, h1, h2, h3, h⟩ := h
            have hone : ∀ y ∈ z.cells.toList.map T.v, y.one = true := by
              intro y hy
              obtain ⟨u, hu, rfl⟩ := List.mem_map.1 hy
              exact hb2 u hu
            have hmk := mkT_cells hone
            refine ⟨_, _, _, loc_new fun tf' hf' ht hh w0 X O0 D m a w hR => ?_, h⟩
            have e1 := opd_told hR x
            have e2 := opd_told hR y
            rw [hop tf' ht x (by simp), hx] at e1
            rw [hop tf' ht y (by simp), hy] at e2
            have hrun := run_make (P := P) w t e i z hu hi hz κ κ' n c h0 h1 h2 h3
            have how : (w.alloc (.cells (madeCells z.cells (c.toNat * i.size)) e)).ownsRow 0 e i.size (.slice (some ⟨w.heap.size, 0, none⟩) n.toNat c.toNat) n.toNat (List.replicate n.toNat z.cells.toList).flatten := by
              refine ⟨by rw [flat_len (sz := i.size)]; simp; intro x hx; rw [(List.mem_replicate.1 hx).2, hb1], .inr ⟨w.heap.size, c.toNat, _, rfl, Nat.zero_le _, heap_alloc_new w _, by omega, by unfold maxLen; omega, by rw [size_madeCells], ?_⟩⟩
              have e3 := madeCells_flat z.cells.toList c.toNat
              rw [hb1] at e3
              have e4 : (madeCells z.cells (c.toNat * i.size)).toList = (List.replicate c.toNat z.cells.toList).flatten := by simpa using e3
              rw [e4, show c.toNat = n.toNat + (c.toNat - n.toNat) by omega, ← List.replicate_append_replicate, List.flatten_append]
              rw [List.take_left']
              rw [flat_len (sz := i.size)]
              · simp
              · intro x hx; rw [(List.mem_replicate.1 hx).2, hb1]
            refine ⟨.slice (some ⟨w.heap.size, 0, none⟩) n.toNat c.toNat, .slice (some ⟨w.heap.size, 0, none⟩) n.toNat c.toNat, w.alloc (.cells (madeCells z.cells (c.toNat * i.size)) e), ?_, But.alloc w _ _, ?_, ?_, ?_⟩
            · unfold execOp
              rw [ho]
              refine run_value ?_
              rw [e1.v_eq, e2.v_eq]
              exact hrun
            · simp [blockOf]
            · intro m' O' hO hext hm
              refine HB.row_new (xs := List.replicate n.toNat z.cells.toList) hm (by simpa using how) ?_ (by simp) ?_ ?_
              · intro x hx
                rw [(List.mem_replicate.1 hx).2]
                exact ⟨by rw [hmk]; simp [← hb1], by rw [hmk]; exact hone⟩
              · intro x hx; rw [(List.mem_replicate.1 hx).2, hb1]
              · intro p q x y vs u hx hy hvs hu
                have hx' := (List.mem_replicate.1 (List.mem_of_getElem? hx)).2
                have hv' := (List.mem_replicate.1 (List.mem_of_getElem? hvs)).2
                subst hx'; subst hv'
                rw [hmk, List.getElem?_map, hu] at hy
                simp at hy
                subst hy
                exact .v _
            · intro m' O' hO hext hm
              exact .own _ _ hm rfl
          · exact h.elim
        · exact h.elim
      · exact h.elim
    · exact h.elim
  · exact h.elim
end
end Go.YtbbcnmfmncgffaaE
