/-
  Variables, aggregates and rows that are made.
  Written by hand for this claim's session.
-/
import Derived.Test.YtbbcnmfmncgffaaEvMem
namespace Go.YtbbcnmfmncgffaaE
open Go.RowKit
set_option linter.unusedVariables false
set_option linter.unusedSimpArgs false
def allOne (l : List AV) : Bool := l.all AV.one
theorem allOne_mem {l : List AV} (h : allOne l = true) : ∀ y ∈ l, y.one = true := List.all_eq_true.1 h
section
variable {P : Program} {o : Oper} {tf : Nat → AV} {hf : Hp}
/-- An operation that makes one block. -/
theorem loc_new {R : List Nat} {v : AV} {n : Nat} {k : Blk} (h : ∀ tf' hf', (∀ t ∈ tmpsOf o, tf' t = tf t) → (∀ b ∈ R, hf' b = hf b) → ∀ (w0 : Bse) (X O0 D : Nat → Prop) (m : Nat → Option Value) (a : Act) (w : World), Rel w0 X O0 D m tf' hf' a w →
    ∃ val bval w', (execOp a.eval o).run P w = .ok (.value val) w' ∧ But w (fun _ => False) w' ∧ (∀ c, blockOf bval = some c → w.heap.size ≤ c) ∧
      (∀ m' O', (∀ c, O' c → Own X m hf' c ∨ w.heap.size ≤ c) → (∀ b v, m b = some v → m' b = some v) → m' n = some bval → HB m' w' O' n k) ∧
      (∀ m' O', (∀ c, O' c → Own X m hf' c ∨ w.heap.size ≤ c) → (∀ b v, m b = some v → m' b = some v) → m' n = some bval → HA m' w' O' v val)) : OpLoc P o R tf hf v [(n, false, k)] [n] := by
  refine ⟨fun b hb => .inr (by simpa [ids] using hb), fun tf' hf' ht hh w0 X O0 D m a w Q hR hd hN => ?_⟩
  obtain ⟨val, bval, w', hrun, hw, hc, hb, hv⟩ := h tf' hf' ht hh w0 X O0 D m a w hR
  unfold Oper.wp
  rw [hrun]
  exact ⟨val, upM m n bval, rfl, hR.new hd (hN n (by simp)) hw hc hb hv⟩
theorem HB.box_new {m' : Nat → Option Value} {w' : World} {O' : Nat → Prop} {n g : Nat} {ty : TypeId} {l : List AV} {vs : List Value} (hm : m' n = some (.pointer (some ⟨g, 0, none⟩))) (hg : w'.heap[g]? = some (.cells vs.toArray ty (0, 0))) (hl : vs.length = l.length) (h1 : ∀ x ∈ l, x.one = true)
    (hv : ∀ (i : Nat) x y, l[i]? = some x → vs[i]? = some y → HA m' w' O' x y) : HB m' w' O' n (.box ty l) := ⟨g, vs, hm, hg, hl, h1, hv⟩
def evBox (t : TypeId) (l : List AV) (d : Option Tmp) (k : Kont) : Prop :=
  match d with
  | some d => plainL l fun l => match allOne l with
    | true => k (.ptr d 0) [(d, false, .box t l)] [] [d]
    | false => False
  | none => False
theorem ok_box {t : TypeId} {x : Operand} {k : Kont} (ho : o.op = .box t x) (h : evBox t (cellsA (opd tf x)) o.dst k) : ∃ v W N, OpLoc P o [] tf hf v W N ∧ k v W [] N := by
  have hop : ∀ tf', (∀ t ∈ tmpsOf o, tf' t = tf t) → opd tf' x = opd tf x := fun tf' ht => tmps_same ht (by rw [ho]; simp [Op.operands])
  unfold evBox at h
  split at h
  · rename_i d hd
    rw [plainL_iff] at h
    split at h
    · rename_i h1
      refine ⟨_, _, _, loc_new fun tf' hf' ht hh w0 X O0 D m a w hR => ?_, h⟩
      have h2 := opd_told hR x
      rw [hop tf' ht] at h2
      obtain ⟨vs, hvs, hl, ho1, hv⟩ := cells_told h2 (allOne_mem h1)
      refine ⟨.pointer (some ⟨w.heap.size, 0, none⟩), .pointer (some ⟨w.heap.size, 0, none⟩), w.alloc (.cells vs.toArray t), ?_, But.alloc _ _ _, by simp [blockOf], ?_, ?_⟩
      · unfold execOp
        rw [ho]
        refine run_value ?_
        simp [Instr.box, newVar, newRow, hvs]
      · intro m' O' hO hext hm
        exact .box_new hm (heap_alloc_new w _) hl (allOne_mem h1) (fun i x y hx hy => (hv i x y hx hy).mono ((But.alloc w _ (fun _ => False)).keep fun _ h => h.elim) hO hext)
      · intro m' O' hO hext hm
        exact .ptr _ _ _ hm
    · exact h.elim
  · exact h.elim
def zeroCells' (P : Program) (t : TypeId) : Option (List Value) :=
  match P.info? t with
  | some i => i.zero.map (·.cells.toList)
  | none => none
theorem zero_run {P : Program} {t : TypeId} {l : List Value} (h : zeroCells' P t = some l) (w : World) : ∃ z, (zeroValue t).run P w = .ok z w ∧ z.cells.toList = l := by
  unfold zeroCells' at h
  split at h
  · rename_i i hi
    obtain ⟨z, hz, h⟩ := Option.map_eq_some_iff.1 h
    exact ⟨z, by simp [zeroValue, typeInfo, hi, hz], h⟩
  · cases h
def evAlloc (P : Program) (t : TypeId) (d : Option Tmp) (k : Kont) : Prop :=
  match zeroCells' P t with
  | some l => evBox t (l.map fun x => .t (.v x)) d k
  | none => False
theorem ok_alloc {t : TypeId} {k : Kont} (ho : o.op = .alloc t) (h : evAlloc P t o.dst k) : ∃ v W N, OpLoc P o [] tf hf v W N ∧ k v W [] N := by
  unfold evAlloc at h
  split at h
  · rename_i l hz
    unfold evBox at h
    split at h
    · rename_i d hd
      rw [plainL_iff] at h
      split at h
      · rename_i h1
        refine ⟨_, _, _, loc_new fun tf' hf' ht hh w0 X O0 D m a w hR => ?_, h⟩
        obtain ⟨z, hzr, hzl⟩ := zero_run hz w
        refine ⟨.pointer (some ⟨w.heap.size, 0, none⟩), .pointer (some ⟨w.heap.size, 0, none⟩), w.alloc (.cells l.toArray t), ?_, But.alloc _ _ _, by simp [blockOf], ?_, ?_⟩
        · unfold execOp
          rw [ho]
          refine run_value ?_
          simp [Instr.alloc, newVar, newRow, hzr, ← hzl]
        · intro m' O' hO hext hm
          refine .box_new hm (heap_alloc_new w _) (by simp) (allOne_mem h1) (fun i x y hx hy => ?_)
          rw [List.getElem?_map] at hx
          rw [hy] at hx
          simp at hx
          subst hx
          exact .t _ _ (.v _)
        · intro m' O' hO hext hm
          exact .ptr _ _ _ hm
      · exact h.elim
    · exact h.elim
  · exact h.elim
/-! ### aggregates -/
theorem fold_set (off : Nat) : ∀ (vs : List Value) (k : Nat) (cs : Array Value), off + k + vs.length ≤ cs.size →
    (vs.zipIdx k).foldl (fun cs (p : Value × Nat) => cs.setIfInBounds (off + p.2) p.1) cs = (cs.toList.take (off + k) ++ vs ++ cs.toList.drop (off + k + vs.length)).toArray
  | [], k, cs, h => by simp
  | v :: vs, k, cs, h => by
    simp only [List.length_cons] at h
    rw [List.zipIdx_cons, List.foldl_cons, fold_set off vs (k + 1) _ (by simp; omega)]
    congr 1
    have hlt : off + k < cs.toList.length := by simp; omega
    simp only [Array.toList_setIfInBounds]
    apply List.ext_getElem?
    intro j
    simp only [List.append_assoc, List.getElem?_append, List.getElem?_take, List.getElem?_drop, List.getElem?_set, List.length_take, List.length_set, List.length_cons, Array.length_toList]
    have hsz : off + k < cs.size := by simpa using hlt
    by_cases h1 : j < off + k
    · simp [h1, show j < off + (k + 1) by omega, show min (off + (k + 1)) cs.size = off + (k + 1) by omega, show min (off + k) cs.size = off + k by omega, show ¬ off + k = j by omega]
    · by_cases h2 : j = off + k
      · subst h2
        simp [show min (off + (k + 1)) cs.size = off + (k + 1) by omega, show min (off + k) cs.size = off + k by omega, show off + k < off + (k + 1) by omega, hsz]
      · have e1 : min (off + (k + 1)) cs.size = off + (k + 1) := by omega
        have e2 : min (off + k) cs.size = off + k := by omega
        have h3 : ¬ j < off + (k + 1) := by omega
        rw [e1, e2]
        simp only [h1, h3, if_false]
        obtain ⟨r, hr⟩ : ∃ r, j - (off + k) = r + 1 := ⟨j - (off + k) - 1, by omega⟩
        have hr' : j - (off + (k + 1)) = r := by omega
        rw [hr, hr']
        simp only [Nat.add_lt_add_iff_right, List.getElem?_cons_succ]
        split
        · rfl
        · have : ¬ off + k = off + (k + 1) + vs.length + (r - vs.length) := by omega
          rw [if_neg this]
          congr 1
          omega
/-- A part laid into cells. -/
def evFill (place : Nat → Option (Nat × Nat)) (cells : List AV) (k : List AV → Prop) : List (Nat × AV) → Prop
  | [] => k cells
  | (i, x) :: r => match place i with
    | some (off, size) => match Nat.beq (cellsA x).length size && Nat.ble (off + size) cells.length && allOne (cellsA x) with
      | true => plainL (cells.take off ++ cellsA x ++ cells.drop (off + size)) fun cells => evFill place cells k r
      | false => False
    | none => False
def fillL (place : Nat → Option (Nat × Nat)) : List AV → List (Nat × AV) → Option (List AV)
  | cells, [] => some cells
  | cells, (i, x) :: r => match place i with
    | some (off, size) => match Nat.beq (cellsA x).length size && Nat.ble (off + size) cells.length && allOne (cellsA x) with
      | true => fillL place (cells.take off ++ cellsA x ++ cells.drop (off + size)) r
      | false => none
    | none => none
theorem evFill_fillL {place : Nat → Option (Nat × Nat)} {k : List AV → Prop} : ∀ (ps : List (Nat × AV)) (cells : List AV), evFill place cells k ps → ∃ c, fillL place cells ps = some c ∧ k c
  | [], cells, h => ⟨cells, rfl, h⟩
  | (i, x) :: r, cells, h => by
    unfold evFill at h
    unfold fillL
    split at h
    · rename_i off size hp
      split at h
      · rename_i hb
        rw [plainL_iff] at h
        obtain ⟨c, h1, h2⟩ := evFill_fillL r _ h
        exact ⟨c, h1, h2⟩
      · exact h.elim
    · exact h.elim
theorem fill_told {m : Nat → Option Value} {w : World} {O : Nat → Prop} (place : Nat → Option (Nat × Nat)) : ∀ (ps : List (Nat × AV)) (us : List (Nat × Value)) (cells cells' : List AV) (vs : List Value), us.map (·.1) = ps.map (·.1) → (∀ (i : Nat) x y, ps[i]? = some x → us[i]? = some y → HA m w O x.2 y.2) →
    vs.length = cells.length → (∀ (i : Nat) x y, cells[i]? = some x → vs[i]? = some y → HA m w O x y) → fillL place cells ps = some cells' → ∃ (vs' : List Value), Instr.fill place vs.toArray us = some vs'.toArray ∧ vs'.length = cells'.length ∧ (∀ (i : Nat) x y, cells'[i]? = some x → vs'[i]? = some y → HA m w O x y)
  | [], [], cells, cells', vs, _, _, hl, hv, h => by simp [fillL] at h; subst h; exact ⟨vs, rfl, hl, hv⟩
  | [], _ :: _, _, _, _, h, _, _, _, _ => by simp at h
  | _ :: _, [], _, _, _, h, _, _, _, _ => by simp at h
  | (i, x) :: ps, (j, y) :: us, cells, cells', vs, hij, hxy, hl, hv, h => by
    simp only [List.map_cons, List.cons.injEq] at hij
    obtain ⟨e, hij⟩ := hij
    subst e
    unfold fillL at h
    split at h
    · rename_i off size hp
      split at h
      · rename_i hb
        simp only [Bool.and_eq_true] at hb
        obtain ⟨⟨hb1, hb2⟩, hb3⟩ := hb
        have hb1 := Nat.eq_of_beq_eq_true hb1
        have hb2 := Nat.le_of_ble_eq_true hb2
        have hx : HA m w O x y := hxy 0 (j, x) (j, y) rfl rfl
        obtain ⟨ys, hys, hyl, _, hyv⟩ := cells_told hx (allOne_mem hb3)
        have hyl' : ys.length = size := by omega
        have hfold := fold_set off ys 0 vs.toArray (by simp; omega)
        simp only [Nat.add_zero] at hfold
        obtain ⟨vs', h1, h2, h3⟩ := fill_told place ps us _ cells' (vs.take off ++ ys ++ vs.drop (off + size)) hij (fun i x y hx hy => hxy (i + 1) x y hx hy) (by simp; omega) (by
          intro i' x' y' hx' hy'
          rw [List.append_assoc] at hx' hy'
          rw [List.getElem?_append, List.length_take] at hx' hy'
          by_cases c1 : i' < off
          · rw [if_pos (by omega), List.getElem?_take, if_pos c1] at hx' hy'
            exact hv i' x' y' hx' hy'
          · rw [if_neg (by omega), List.getElem?_append] at hx' hy'
            rw [show min off cells.length = off by omega] at hx'
            rw [show min off vs.length = off by omega] at hy'
            by_cases c2 : i' - off < size
            · rw [if_pos (by omega)] at hx' hy'
              exact hyv _ _ _ hx' hy'
            · rw [if_neg (by omega), List.getElem?_drop] at hx' hy'
              rw [hb1] at hx'
              rw [hyl'] at hy'
              exact hv _ _ _ hx' hy') h
        refine ⟨vs', ?_, h2, h3⟩
        unfold Instr.fill
        simp only [hp]
        rw [hys]
        have e1 : ((decide (ys.length ≠ size)) || decide (off + ys.length > vs.length)) = false := by simp; omega
        simp only [List.size_toArray, ne_eq, hyl', not_true_eq_false, decide_false, Bool.false_or, gt_iff_lt, decide_eq_true_eq] at e1 ⊢
        rw [if_neg (by omega)]
        have e2 : (Array.foldl (fun cs (x : Value × Nat) => cs.setIfInBounds (off + x.snd) x.fst) vs.toArray ys.toArray.zipIdx) = (vs.take off ++ ys ++ vs.drop (off + size)).toArray := by
          rw [← hyl']
          rw [← Array.foldl_toList]
          simpa using hfold
        have e3 := h1
        rw [← e2] at e3
        exact e3
      · cases h
    · cases h
def placesOf (P : Program) : List Field → Option (List (Nat × Nat))
  | [] => some []
  | f :: fs => match sizN P f.type, placesOf P fs with
    | some n, some l => some ((f.offset, n) :: l)
    | _, _ => none
def evBuild (P : Program) (t : TypeId) (ps : List (Nat × AV)) (k : Kont) : Prop :=
  match zeroCells' P t, P.underlying t with
  | some z, some (.struct fs) => (match placesOf P fs.toList with
    | some pl => evFill (fun i => pl[i]?) (z.map fun x => .t (.v x)) (fun l => aggK l fun v => k v [] [] []) ps
    | none => False)
  | some z, some (.array _ e) => (match sizN P e with
    | some n => evFill (fun i => some (i * n, n)) (z.map fun x => .t (.v x)) (fun l => aggK l fun v => k v [] [] []) ps
    | none => False)
  | _, _ => False
theorem places_run {P : Program} (w : World) : ∀ (fs : List Field) (pl : List (Nat × Nat)), placesOf P fs = some pl → (fs.mapM fun f => (Prod.mk f.offset <$> sizeOf f.type : Sem (Nat × Nat))).run P w = .ok pl w
  | [], pl, h => by simp [placesOf] at h; subst h; rfl
  | f :: fs, pl, h => by
    unfold placesOf at h
    split at h
    · rename_i n l hn hl
      simp at h
      subst h
      have := places_run w fs l hl
      simp [List.mapM_cons, sizN_run hn, this]
    · cases h
theorem parts_told {tf : Nat → AV} {hf : Hp} {w0 : Bse} {X O0 D : Nat → Prop} {m : Nat → Option Value} {a : Act} {w : World} (hR : Rel w0 X O0 D m tf hf a w) (l : List (Nat × Operand)) :
    (l.map fun p => (p.1, a.eval p.2)).map (·.1) = (l.map fun p => (p.1, opd tf p.2)).map (·.1) ∧ ∀ (i : Nat) x y, (l.map fun p => (p.1, opd tf p.2))[i]? = some x → (l.map fun p => (p.1, a.eval p.2))[i]? = some y → HA m w (Own X m hf) x.2 y.2 := by
  refine ⟨by simp, fun i x y hx hy => ?_⟩
  rw [List.getElem?_map] at hx hy
  cases h : l[i]? with
  | none => rw [h] at hx; cases hx
  | some z =>
    rw [h] at hx hy
    simp at hx hy
    subst hx; subst hy
    exact opd_told hR z.2
theorem parts_same {tf tf' : Nat → AV} {l : List (Nat × Operand)} (h : ∀ x ∈ l.map (·.2), opd tf' x = opd tf x) : (l.map fun p => (p.1, opd tf p.2)) = (l.map fun p => (p.1, opd tf' p.2)) :=
  List.map_congr_left fun p hp => by rw [h p.2 (List.mem_map.2 ⟨p, hp, rfl⟩)]
theorem ok_build {t : TypeId} {ps : Array (Nat × Operand)} {k : Kont} (ho : o.op = .build t ps) (h : evBuild P t (ps.toList.map fun p => (p.1, opd tf p.2)) k) : ∃ v, OpLoc P o [] tf hf v [] [] ∧ k v [] [] [] := by
  have hop : ∀ tf', (∀ t ∈ tmpsOf o, tf' t = tf t) → ∀ x ∈ ps.toList.map (·.2), opd tf' x = opd tf x := fun tf' ht x hx => tmps_same ht (by rw [ho]; simpa [Op.operands] using hx)
  have main : ∀ (place : Nat → Option (Nat × Nat)) (z : List Value), zeroCells' P t = some z → evFill place (z.map fun x => .t (.v x)) (fun l => aggK l fun v => k v [] [] []) (ps.toList.map fun p => (p.1, opd tf p.2)) →
      (∀ (w : World) (zv : Value) (us : Array (Nat × Value)) (cells : Array Value), (zeroValue t).run P w = .ok zv w → Instr.fill place zv.cells us.toList = some cells → (Instr.build t us).run P w = .ok (.agg cells) w) → ∃ v, OpLoc P o [] tf hf v [] [] ∧ k v [] [] [] := by
    intro place z hz hfill hrun
    obtain ⟨c, h1, h2⟩ := evFill_fillL _ _ hfill
    suffices hm : OpLoc P o [] tf hf (.agg c) [] [] ∧ ∀ r, c = r.map .t → OpLoc P o [] tf hf (.t (.agg r)) [] [] by
      rcases aggK_spec h2 with h2 | ⟨r, he, h2⟩
      · exact ⟨_, hm.1, h2⟩
      · exact ⟨_, hm.2 r he, h2⟩
    suffices hm : ∀ tf' hf', (∀ t ∈ tmpsOf o, tf' t = tf t) → ∀ (w0 : Bse) (X O0 D : Nat → Prop) (m : Nat → Option Value) (a : Act) (w : World), Rel w0 X O0 D m tf' hf' a w → ∃ u, (execOp a.eval o).run P w = .ok (.value u) w ∧ HA m w (Own X m hf') (.agg c) u by
      refine ⟨loc_val fun tf' hf' ht => .val fun w0 X O0 D m a w hR => hm tf' hf' ht w0 X O0 D m a w hR, fun r he => loc_val fun tf' hf' ht => .val fun w0 X O0 D m a w hR => ?_⟩
      obtain ⟨u, h3, h4⟩ := hm tf' hf' ht w0 X O0 D m a w hR
      rw [he] at h4
      exact ⟨u, h3, h4.norm⟩
    intro tf' hf' ht w0 X O0 D m a w hR
    rw [parts_same (hop tf' ht)] at h1
    obtain ⟨h3, h4⟩ := parts_told hR ps.toList
    obtain ⟨zv, hzr, hzl⟩ := zero_run hz w
    obtain ⟨vs', h5, h6, h7⟩ := fill_told place _ _ _ c z h3 h4 (by simp) (fun i x y hx hy => by
      rw [List.getElem?_map, hy] at hx
      simp at hx
      subst hx
      exact .t _ _ (.v _)) h1
    refine ⟨.agg vs'.toArray, ?_, .agg _ _ h6 h7⟩
    have h8 := hrun w zv (ps.map fun p => (p.1, a.eval p.2)) vs'.toArray hzr (by
      rw [show zv.cells = z.toArray by rw [← hzl]]
      simpa using h5)
    unfold execOp
    rw [ho]
    exact run_value h8
  unfold evBuild at h
  split at h
  · rename_i z fs hz hu
    split at h
    · rename_i pl hpl
      refine main _ z hz h ?_
      intro w zv us cells h1 h2
      have h3 := places_run (P := P) w fs.toList pl hpl
      unfold Instr.build
      simp only [Sem.run_bind, h1, Result.andThen_ok, run_underlying hu]
      have h4 : (fs.mapM fun f => (do pure (f.offset, ← sizeOf f.type) : Sem (Nat × Nat))).run P w = .ok pl.toArray w := by
        rw [Array.mapM_eq_mapM_toList]
        simp [h3]
      rw [h4]
      simp only [Result.andThen_ok]
      have h5 : Instr.fill (fun x => pl.toArray[x]?) zv.cells us.toList = some cells := by simpa using h2
      rw [h5]
      rfl
    · exact h.elim
  · rename_i z n e hz hu
    split at h
    · rename_i es hes
      refine main _ z hz h ?_
      intro w zv us cells h1 h2
      unfold Instr.build
      simp only [Sem.run_bind, h1, Result.andThen_ok, run_underlying hu, sizN_run hes]
      rw [h2]
      rfl
    · exact h.elim
  · exact h.elim
end
end Go.YtbbcnmfmncgffaaE
