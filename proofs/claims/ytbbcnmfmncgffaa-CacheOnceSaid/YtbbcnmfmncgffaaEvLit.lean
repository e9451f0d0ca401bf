/-
  Rows written out; strings and rows of bytes.
  Written by hand for this claim's session.
-/
import Derived.Test.YtbbcnmfmncgffaaEvAppend
namespace Go.YtbbcnmfmncgffaaE
open Go.RowKit
set_option linter.unusedVariables false
set_option linter.unusedSimpArgs false
def idxOk : Nat → List Nat → Bool
  | _, [] => true
  | k, i :: l => Nat.beq i k && idxOk (k + 1) l
theorem fill_seq (sz : Nat) : ∀ (us : List (Nat × Value)) (k : Nat) (cells : List Value), idxOk k (us.map (·.1)) = true → (∀ p ∈ us, p.2.cells.toList.length = sz) → cells.length = (k + us.length) * sz →
    Instr.fill (fun i => some (i * sz, sz)) cells.toArray us = some (cells.take (k * sz) ++ (us.map fun p => p.2.cells.toList).flatten).toArray
  | [], k, cells, _, _, hl => by
    simp only [List.length_nil, Nat.add_zero] at hl
    simp [Instr.fill, ← hl]
  | (i, u) :: us, k, cells, hi, hs, hl => by
    simp only [List.map_cons, idxOk, Bool.and_eq_true] at hi
    have := Nat.eq_of_beq_eq_true hi.1
    subst this
    have hu : u.cells.toList.length = sz := hs (i, u) (List.mem_cons_self ..)
    have hl' : i * sz + sz ≤ cells.length := by
      rw [hl, List.length_cons]
      calc i * sz + sz = (i + 1) * sz := by rw [Nat.add_mul]; omega
        _ ≤ (i + (us.length + 1)) * sz := Nat.mul_le_mul_right _ (by omega)
    have hf := fold_set (i * sz) u.cells.toList 0 cells.toArray (by rw [List.size_toArray, Nat.add_zero, hu]; exact hl')
    simp only [Nat.add_zero] at hf
    have ih := fill_seq sz us (i + 1) (cells.take (i * sz) ++ u.cells.toList ++ cells.drop (i * sz + sz)) hi.2 (fun p hp => hs p (List.mem_cons_of_mem _ hp)) (by
      rw [splice_len _ _ _ _ hu hl', hl, List.length_cons]; congr 1; omega)
    unfold Instr.fill
    simp only
    have hu' : u.cells.size = sz := by simpa using hu
    rw [if_neg (by rw [hu', List.size_toArray]; simp only [ne_eq, not_true_eq_false, decide_false, Bool.false_or, decide_eq_true_eq, gt_iff_lt]; omega)]
    have e2 : (Array.foldl (fun cs (x : Value × Nat) => cs.setIfInBounds (i * sz + x.snd) x.fst) cells.toArray u.cells.zipIdx) = (cells.take (i * sz) ++ u.cells.toList ++ cells.drop (i * sz + sz)).toArray := by
      rw [← Array.foldl_toList, Array.toList_zipIdx]
      rw [hf]
      simp only [hu]
    rw [e2, ih]
    congr 2
    rw [List.map_cons, List.flatten_cons, ← List.append_assoc]
    congr 1
    have : (i + 1) * sz = i * sz + sz := by rw [Nat.add_mul]; omega
    rw [this]
    rw [List.take_left']
    rw [List.length_append, List.length_take, hu]
    omega
def evBuildSlice (P : Program) (t : TypeId) (len : Nat) (ps : List (Nat × AV)) (H : Heap) (d : Option Tmp) (k : Kont) : Prop :=
  match P.underlying t, d with
  | some (.slice e), some d => (match sizN P e, zeroCells' P e, mapO (toT (lookH H) 30) (ps.map (·.2)) with
    | some sz, some _, some xs => (match idxOk 0 (ps.map (·.1)) && Nat.beq ps.length len && Nat.ble (len * sz) 16777216 && xs.all (fitsB sz) && Nat.blt 0 sz with
      | true => k (.own d) ((d, false, .row e sz xs) :: frz (lookH H) ((ps.map (·.2)).flatMap (reach (lookH H) 30)) []) ((ps.map (·.2)).flatMap (reach (lookH H) 30)) [d]
      | false => False)
    | _, _, _ => False)
  | _, _ => False
section
variable {P : Program} {o : Oper} {tf : Nat → AV} {hf : Hp}
theorem ok_buildSlice {t : TypeId} {len : Nat} {ps : Array (Nat × Operand)} {H : Heap} {k : Kont} (ho : o.op = .buildSlice t len ps) (h : evBuildSlice P t len (ps.toList.map fun p => (p.1, opd tf p.2)) H o.dst k) (hH : hf = lookH H) : ∃ v W R N, OpLoc P o R tf hf v W N ∧ k v W R N := by
  subst hH
  have hop : ∀ tf', (∀ t ∈ tmpsOf o, tf' t = tf t) → ∀ x ∈ ps.toList.map (·.2), opd tf' x = opd tf x := fun tf' ht x hx => tmps_same ht (by rw [ho]; simpa [Op.operands] using hx)
  unfold evBuildSlice at h
  split at h
  · rename_i e d hu hd
    split at h
    · rename_i sz zs xs hsz hzs hxs
      split at h
      · rename_i hc
        simp only [Bool.and_eq_true] at hc
        obtain ⟨⟨⟨⟨c1, c2⟩, c3⟩, c4⟩, c5⟩ := hc
        have c5 : 0 < sz := Nat.le_of_ble_eq_true c5
        have c2 := Nat.eq_of_beq_eq_true c2
        have c3 := Nat.le_of_ble_eq_true c3
        have c4 := List.all_eq_true.1 c4
        refine ⟨_, _, _, _, loc_frz (W := [(d, false, .row e sz xs)]) (L := ((ps.toList.map fun p => (p.1, opd tf p.2)).map (·.2)).flatMap (reach (lookH H) 30)) rfl (fun b hb => hb) (fun b hb => .inr (by simpa [ids] using hb)) ?_, h⟩
        intro tf' hf' ht hh w0 X O0 D m a w Q hR1 hview hR hdd hN
        obtain ⟨q1, q2⟩ := mapO_spec hxs
        obtain ⟨p1, p2⟩ := parts_told hR ps.toList
        rw [← parts_same (hop tf' ht)] at p1 p2
        -- the values, one by one
        have hval : ∀ (i : Nat) (x : T) (u : Value), xs[i]? = some x → ((ps.toList.map fun p => (p.1, a.eval p.2)).map (·.2))[i]? = some u → HT w (Own X m (upH hf' (frz (lookH H) (((ps.toList.map fun p => (p.1, opd tf p.2)).map (·.2)).flatMap (reach (lookH H) 30)) []))) x u := by
          intro i x u hx hu
          have hi : i < (ps.toList.map fun p => (p.1, opd tf p.2)).length := by have := (List.getElem?_eq_some_iff.1 hx).1; rw [q1, List.length_map] at this; exact this
          rw [List.getElem?_map] at hu
          obtain ⟨pu, hpu, rfl⟩ := Option.map_eq_some_iff.1 hu
          have hpx := List.getElem?_eq_getElem hi
          have hx2 : ((ps.toList.map fun p => (p.1, opd tf p.2)).map (·.2))[i]? = some ((ps.toList.map fun p => (p.1, opd tf p.2))[i]).2 := by rw [List.getElem?_map, hpx]; rfl
          exact hview 30 _ x _ (q2 i _ _ hx2 hx) (fun b hb => List.mem_flatMap.2 ⟨_, List.mem_of_getElem? hx2, hb⟩) (p2 i _ _ hpx hpu)
        have hlen : (ps.toList.map fun p => (p.1, a.eval p.2)).length = len := by rw [← c2]; simp
        have hxlen : xs.length = len := by rw [q1, List.length_map]; exact c2
        have hcells : ∀ (i : Nat) (x : T) (u : Value), xs[i]? = some x → ((ps.toList.map fun p => (p.1, a.eval p.2)).map (·.2))[i]? = some u → ∃ vs : List Value, u.cells = vs.toArray ∧ vs.length = sz ∧ (∀ y ∈ vs, y.oneCell' = true) ∧ ∀ (j : Nat) y z, x.cells[j]? = some y → vs[j]? = some z → HT w (Own X m (upH hf' (frz (lookH H) (((ps.toList.map fun p => (p.1, opd tf p.2)).map (·.2)).flatMap (reach (lookH H) 30)) []))) y z := by
          intro i x u hx hu
          have hfit := fitsB_fits (c4 x (List.mem_of_getElem? hx))
          obtain ⟨vs, h1, h2, h3, h4⟩ := T.cells_told (hval i x u hx hu) hfit.2
          exact ⟨vs, h1, by rw [h2]; exact hfit.1, h3, h4⟩
        have hszs : ∀ p ∈ (ps.toList.map fun p => (p.1, a.eval p.2)), p.2.cells.toList.length = sz := by
          intro p hp
          obtain ⟨i, hi, rfl⟩ := List.mem_iff_getElem.1 hp
          have hi' : i < xs.length := by omega
          obtain ⟨vs, h1, h2, _⟩ := hcells i _ _ (List.getElem?_eq_getElem hi') (by rw [List.getElem?_map, List.getElem?_eq_getElem hi]; rfl)
          rw [h1]; simpa using h2
        have hfill : ∀ cells : List Value, cells.length = len * sz → Instr.fill (fun i => some (i * sz, sz)) cells.toArray (ps.toList.map fun p => (p.1, a.eval p.2)) = some ((ps.toList.map fun p => (p.1, a.eval p.2)).map fun p => p.2.cells.toList).flatten.toArray := by
          intro cells hcl
          have := fill_seq sz (ps.toList.map fun p => (p.1, a.eval p.2)) 0 cells (by rw [p1]; exact c1) hszs (by rw [Nat.zero_add, hlen]; exact hcl)
          simpa using this
        have hrun : (execOp a.eval o).run P w = .ok (.value (.slice (some ⟨w.heap.size, 0, none⟩) len len)) (w.alloc (.cells ((ps.toList.map fun p => (p.1, a.eval p.2)).map fun p => p.2.cells.toList).flatten.toArray e)) := by
          obtain ⟨zv, hzr, hzl⟩ := zero_run hzs w
          unfold execOp
          rw [ho]
          refine run_value ?_
          have hps : (ps.map fun (i, x) => (i, a.eval x)).toList = (ps.toList.map fun p => (p.1, a.eval p.2)) := by simp
          unfold Instr.buildSlice
          simp only [Sem.run_bind, run_underlying hu, Result.andThen_ok, sizN_run hsz]
          rw [if_neg (by omega)]
          by_cases h0 : len * sz = 0
          · simp only [Sem.run_pure, Result.andThen_ok, h0, if_true, Sem.run_bind]
            have := hfill [] (by simp [h0])
            have e3 : (Array.map (fun x => (#[] : Array Value)[x % (#[] : Array Value).size]!) (Array.range 0)) = ([] : List Value).toArray := by simp
            rw [e3, hps, this]
            simp [newRow]
          · simp only [Sem.run_pure, Result.andThen_ok, h0, if_false, Sem.run_bind, hzr]
            have := hfill ((Array.range (len * sz)).map (zv.cells[· % zv.cells.size]!)).toList (by simp)
            rw [Array.toArray_toList] at this
            rw [hps, this]
            simp [newRow]
        unfold Oper.wp
        rw [hrun]
        refine ⟨_, upM m d (.slice (some ⟨w.heap.size, 0, none⟩) len len), rfl, ?_⟩
        refine hR1.new hdd (hN d (by simp)) (But.alloc w _ _) (by simp [blockOf]) ?_ ?_
        · intro m' O' hO hext hm
          have how := World.ownsRow_lit (base := 0) (e := e) (size := sz) w ((ps.toList.map fun p => (p.1, a.eval p.2)).map fun p => p.2.cells.toList).flatten.toArray len (Nat.zero_le _) (by
            have : len ≤ len * sz := Nat.le_mul_of_pos_right _ c5
            unfold maxLen; omega) (by
            simp only [List.size_toArray]
            rw [flat_len (sz := sz) _ (by intro x hx; obtain ⟨p, hp, rfl⟩ := List.mem_map.1 hx; exact hszs p hp), List.length_map, hlen])
          refine HB.row_new (xs := (ps.toList.map fun p => (p.1, a.eval p.2)).map fun p => p.2.cells.toList) hm (by rw [hxlen]; simpa using how) (fun x hx => fitsB_fits (c4 x hx)) (by simp [hxlen, ← c2]) (by intro x hx; obtain ⟨p, hp, rfl⟩ := List.mem_map.1 hx; exact hszs p hp) ?_
          intro i j x y vs u hx hy hvs hu'
          rw [List.getElem?_map] at hvs
          obtain ⟨pu, hpu, rfl⟩ := Option.map_eq_some_iff.1 hvs
          obtain ⟨vs', h1, h2, _, h4⟩ := hcells i x pu.2 hx (by rw [List.getElem?_map, hpu]; rfl)
          rw [h1] at hu'
          exact (h4 j y u hy (by simpa using hu')).mono ((But.alloc w _ (fun _ => False)).keep fun _ h => h.elim) hO
        · intro m' O' hO hext hm
          exact .own _ _ hm rfl
      · exact h.elim
    · exact h.elim
  · exact h.elim
/-! ### bytes and strings -/
def strOf (xs : List Int) : ByteArray := xs.foldl (fun r n => r.push (UInt8.ofNat n.toNat)) ByteArray.empty
def evStr (P : Program) (s d : TypeId) (x : AV) (H : Heap) (k : Kont) : Prop :=
  match P.underlying s, P.underlying d with
  | some (.slice e), some .string => (match P.underlying e with
    | some (.int .u8) => (match srcOf H 1 x with
      | some (l, R) => ∃ xs, l = xs.map (T.int .u8) ∧ k (.t (.v (.string (strOf xs)))) [] R []
      | none => False)
    | _ => False)
  | _, _ => False
theorem src_bytes {w : World} {O : Nat → Prop} {v : Value} {news : List Value} {xs : List Int} (h : Src w O 1 (xs.map (T.int .u8)) v news) : news = xs.map (Value.int .u8) := by
  apply List.ext_getElem?
  intro i
  rw [List.getElem?_map]
  cases hx : xs[i]? with
  | none =>
    have : news.length ≤ i := by rw [h.len]; have := List.getElem?_eq_none_iff.1 hx; simpa using this
    rw [List.getElem?_eq_none this]; rfl
  | some x =>
    obtain ⟨u, h1, h2⟩ := h.told i 0 (T.int .u8 x) (T.int .u8 x) (by rw [List.getElem?_map, hx]; rfl) rfl
    rw [Nat.mul_one, Nat.add_zero] at h1
    rw [h1]
    cases h2
    rfl
theorem run_str {P : Program} {w : World} {O : Nat → Prop} {v : Value} {news : List Value} {xs : List Int} (h : Src w O 1 (xs.map (T.int .u8)) v news) : (Conv.bytesToString v).run P w = .ok (.string (strOf xs)) w := by
  have hn := src_bytes h
  obtain ⟨A, c, rfl, hA⟩ := h.form
  rcases hA with h0 | ⟨b, o', rfl, hc⟩
  · have : xs = [] := by simpa using h0
    subst this
    cases A with
    | none => rfl
    | some a => exact run_bytesToString w a 0 c [] (by simp [loadCells, loadCellsFrom])
  · refine run_bytesToString w _ _ c xs ?_
    have := run_loadCells_list (P := P) w ⟨b, o', none⟩ (xs.map (Value.int .u8)) (fun j u hu => by rw [add_plain]; exact hc j u (by rw [hn]; exact hu))
    simpa using this
theorem ok_str {s d : TypeId} {x : Operand} {H : Heap} {k : Kont} (ho : o.op = .convert s d x) (h : evStr P s d (opd tf x) H k) (hH : hf = lookH H) : ∃ v R, OpLoc P o R tf hf v [] [] ∧ k v [] R [] := by
  subst hH
  have hop : ∀ tf', (∀ t ∈ tmpsOf o, tf' t = tf t) → opd tf' x = opd tf x := fun tf' ht => tmps_same ht (by rw [ho]; simp [Op.operands])
  unfold evStr at h
  split at h
  · rename_i e hs hd
    split at h
    · rename_i he
      split at h
      · rename_i l R hsr
        obtain ⟨xs, rfl, h⟩ := h
        refine ⟨_, R, loc_read fun tf' hf' ht hh w0 X O0 D m a w hR => ⟨.string (strOf xs), ?_, .t _ _ (.v _)⟩, h⟩
        have e2 := opd_told hR x
        rw [hop tf' ht] at e2
        obtain ⟨news, hsrc⟩ := src_told hsr hR hh e2
        have h1 := run_str (P := P) hsrc
        obtain ⟨A, c, hv, _⟩ := hsrc.form
        unfold execOp
        rw [ho]
        refine run_value ?_
        rw [hv] at h1 ⊢
        rw [List.length_map] at h1 ⊢
        simp [Go.convert, run_underlying hs, run_underlying hd, run_underlying he, h1]
      · exact h.elim
    · exact h.elim
  · exact h.elim
/-! ### a constant's row is marked: data from then on -/
def evMark (P : Program) (s d : TypeId) (x : AV) (H : Heap) (k : Kont) : Prop :=
  match P.underlying s, x with
  | some (.slice e), .own b => (match P.underlying e, Nat.beq s d, lookH H b with
    | some (.int .u8), true, (false, .row _ sz l) => match l with
      | [] => False
      | y :: l => k (.t (.sl sz (y :: l))) [(b, true, .dead)] [b] []
    | _, _, _ => False)
  | _, _ => False
theorem freeze_but (w : World) (g o' n : Nat) : But w (fun c => c = g) (w.freeze ⟨g, o', none⟩ n) := by
  unfold World.freeze
  split
  · exact But.refl _ _
  · exact ⟨rfl, rfl, rfl, by simp, fun c hc hn => by simp only [Array.getElem?_modify]; rw [if_neg (fun e => hn e.symm)]⟩
theorem freeze_cell (w : World) (g o' n b j : Nat) : (w.freeze ⟨g, o', none⟩ n).cell? ⟨b, j, none⟩ = w.cell? ⟨b, j, none⟩ := by
  unfold World.freeze
  split
  · rfl
  · unfold World.cell?
    simp only [Array.getElem?_modify]
    by_cases hgb : g = b
    · subst hgb
      rw [if_pos rfl]
      cases w.heap[g]? with
      | none => rfl
      | some x => cases x <;> rfl
    · rw [if_neg hgb]
theorem ok_mark {s d : TypeId} {x : Operand} {H : Heap} {k : Kont} (ho : o.op = .convert s d x) (h : evMark P s d (opd tf x) H k) (hH : hf = lookH H) : ∃ v W R, OpLoc P o R tf hf v W [] ∧ k v W R [] := by
  subst hH
  have hop : ∀ tf', (∀ t ∈ tmpsOf o, tf' t = tf t) → opd tf' x = opd tf x := fun tf' ht => tmps_same ht (by rw [ho]; simp [Op.operands])
  unfold evMark at h
  split at h
  · rename_i e b hs hx
    split at h
    · rename_i ty sz l he hsd hb
      have := Nat.eq_of_beq_eq_true hsd
      subst this
      split at h
      · exact h.elim
      · rename_i y l
        refine ⟨_, _, _, ⟨fun b' hb' => .inl (by simpa [ids] using hb'), fun tf' hf' ht hh w0 X O0 D m a w Q hR hdd hN => ?_⟩, h⟩
        have e1 := opd_told hR x
        rw [hop tf' ht, hx] at e1
        have hhb : hf' b = (false, .row ty sz (y :: l)) := by rw [hh b (by simp), hb]
        have h3 := hR.blk b
        rw [hhb] at h3
        have hmb := e1.own_eq
        obtain ⟨v, xs, hm', how, hfit, hcs⟩ := h3
        rw [hmb] at hm'
        simp at hm'
        rcases how.2 with ⟨_, hno⟩ | ⟨g, cap, cur, hv, _, hg, hcap, _, _, _⟩
        · cases hno
        rw [hv] at hm' how
        have hbk : bk m b = some g := by simp [bk, hmb, hm', blockOf]
        have hlive : (hf' b).1 = false ∧ (hf' b).2.live := by rw [hhb]; exact ⟨rfl, trivial⟩
        have hrun : (execOp a.eval o).run P w = .ok (.value (.slice (some ⟨g, 0, none⟩) (y :: l).length cap)) (w.freeze ⟨g, cur.size, none⟩ 1) := by
          unfold execOp
          rw [ho]
          refine run_value ?_
          rw [hm']
          have q1 : (Sem.shape g Sem.pure : Sem (Option (TypeId × Nat))).run P w = .ok (some (ty, cur.size)) w := by
            show Result.ok (w.shape? g) w = _
            unfold World.shape?
            rw [hg]
          simp only [Go.convert, Sem.run_bind, run_underlying hs, Result.andThen_ok, run_underlying he, markStringish, Go.shape, Go.freeze, beq_self_eq_true, q1, Sem.run_pure]
          rfl
        unfold Oper.wp
        rw [hrun]
        refine ⟨_, m, rfl, ?_⟩
        have hbut := freeze_but w g cur.size 1
        have := hR.write (w' := w.freeze ⟨g, cur.size, none⟩ 1) (W := [(b, true, .dead)]) (N := []) (fun c => c = g) (m' := m) (d := o.dst) (v := .t (.sl sz (y :: l))) (val := .slice (some ⟨g, 0, none⟩) (y :: l).length cap) hdd hbut (fun c hc => ⟨b, by simp [ids], hlive.1, hlive.2, by rw [hc]; exact hbk⟩) (fun _ _ => rfl) (by simp) (by simp) ?_ ?_ ?_
        · simpa using this
        · intro b' hb' O' hO hext _
          obtain rfl := ids1.1 hb'
          rw [lookH1]
          trivial
        · intro b' hb' hl c hbc
          obtain rfl := ids1.1 hb'
          rw [lookH1] at hl
          exact hl.elim
        · intro O' hO hext hiff
          have hOg : ∀ c, c = g → Own X m hf' c := fun c hc => .inr ⟨b, hlive.1, hlive.2, by rw [hc]; exact hbk⟩
          have hnot : ¬ O' g := by
            intro hx
            rcases (hiff g).1 hx with h | ⟨b2, hb1, hb2, hb3⟩
            · exact hR.xsep b g hlive.2 hbk h
            · by_cases e2 : b2 = b
              · subst e2
                rw [upH_in (by simp [ids]), lookH1] at hb1
                cases hb1
              · rw [upH_out (by simpa [ids] using e2)] at hb1 hb2
                exact hR.sep b2 b e2 hb1 hb2 hlive.2 g hb3 hbk
          refine .t _ _ (.sl sz (y :: l) g 0 cap (fun q => xs.getD q undef) hnot ?_ hcap hfit (fun i j hi hj => ?_) (fun i j x z hx' hz => ?_))
          · have := hbut.size; have := (Array.getElem?_eq_some_iff.1 hg).1; omega
          · rw [freeze_cell, how.cellAt _ (by rw [Nat.zero_add]; exact idx_lt hi hj)]
            have hlen : i * sz + j < xs.length := by rw [how.1]; exact idx_lt hi hj
            simp [List.getD, hlen]
          · obtain ⟨u, hu, ht'⟩ := hcs i j x z hx' hz
            simp only [List.getD, hu, Option.getD_some]
            exact ht'.mono (hbut.keep hOg) hO
    · exact h.elim
  · exact h.elim
end
end Go.YtbbcnmfmncgffaaE
