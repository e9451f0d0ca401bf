/-
  Stores.
  Written by hand for this claim's session.
-/
import Derived.Test.YtbbcnmfmncgffaaEvRow2
namespace Go.YtbbcnmfmncgffaaE
open Go.RowKit
set_option linter.unusedVariables false
set_option linter.unusedSimpArgs false
/-- An element with some cells told anew. -/
def newEl (e : T) (j n sz : Nat) (x : T) : T :=
  match Nat.beq n sz with
  | true => x
  | false => .agg (e.cells.take j ++ x.cells ++ e.cells.drop (j + n))
theorem newEl_cells {e x : T} {j n sz : Nat} (he : e.fits sz) (hn : x.cells.length = n) (hj : j + n ≤ sz) : (newEl e j n sz x).cells = e.cells.take j ++ x.cells ++ e.cells.drop (j + n) := by
  unfold newEl
  split
  · rename_i h
    have h := Nat.eq_of_beq_eq_true h
    have hj0 : j = 0 := by omega
    subst hj0
    rw [List.take_zero, List.nil_append, List.drop_of_length_le (by rw [he.1]; omega), List.append_nil]
  · rfl
theorem splice_get {α : Type} (l m : List α) (o n q : Nat) (hm : m.length = n) (ho : o + n ≤ l.length) : (l.take o ++ m ++ l.drop (o + n))[q]? = if q < o then l[q]? else if q < o + n then m[q - o]? else l[q]? := by
  rw [List.append_assoc, List.getElem?_append, List.length_take, Nat.min_eq_left (by omega)]
  by_cases h1 : q < o
  · rw [if_pos h1, if_pos h1, List.getElem?_take, if_pos h1]
  · rw [if_neg h1, if_neg h1, List.getElem?_append, hm]
    by_cases h2 : q < o + n
    · rw [if_pos h2, if_pos (by omega)]
    · rw [if_neg h2, if_neg (by omega), List.getElem?_drop]
      congr 1; omega
theorem splice_len {α : Type} (l m : List α) (o n : Nat) (hm : m.length = n) (ho : o + n ≤ l.length) : (l.take o ++ m ++ l.drop (o + n)).length = l.length := by
  simp; omega
def evStore (P : Program) (t : TypeId) (p x : AV) (H : Heap) (k : Kont) : Prop :=
  match sizN P t with
  | some n => (match p with
    | .ptr b off => match lookH H b with
      | (false, .box ty cells) => match Nat.beq (cellsA x).length n && Nat.ble (off + n) cells.length && allOne (cellsA x) with
        | true => plainL (cells.take off ++ cellsA x ++ cells.drop (off + n)) fun cells => k .un [(b, false, .box ty cells)] [b] []
        | false => False
      | _ => False
    | .rp b sz i j => match lookH H b with
      | (false, .row ty sz' l) => match toT (lookH H) 30 x with
        | some tx => match Nat.beq sz sz' && fitsB n tx && Nat.ble (j + n) sz && !(memN b (reach (lookH H) 30 x)) with
          | true => ∃ e, l[i]? = some e ∧ k .un ((b, false, .row ty sz (l.set i (newEl e j n sz tx))) :: frz (lookH H) (reach (lookH H) 30 x) []) (b :: reach (lookH H) 30 x) []
          | false => False
        | none => False
      | _ => False
    | _ => False)
  | none => False
theorem setRow_but (w : World) (g : Nat) (cs : Array Value) : But w (fun c => c = g) (w.setRow g cs) :=
  ⟨rfl, rfl, rfl, by simp [World.setRow], fun c hc hn => setRow_other w g c cs hn⟩
section
variable {P : Program} {o : Oper} {tf : Nat → AV} {hf : Hp}
theorem store_run {w : World} {t ty : TypeId} {g off n : Nat} {cur : List Value} {v : Value} {vs : List Value} (hn : sizN P t = some n) (hv : v.cells = vs.toArray) (hl : vs.length = n) (hg : w.heap[g]? = some (.cells cur.toArray ty (0, 0))) (hle : off + n ≤ cur.length) (h1 : ∀ u ∈ vs, u.oneCell' = true) :
    (storeVar t ⟨g, off, none⟩ v).run P w = .ok () (w.setRow g (cur.take off ++ vs ++ cur.drop (off + n)).toArray) := by
  have := run_storeCells_at P g off ty vs 0 cur.toArray w hg (by simp; omega) h1
  simp only [Nat.add_zero] at this
  unfold storeVar
  simp only [Sem.run_bind, sizN_run hn, Result.andThen_ok, hv, List.size_toArray, hl, ne_eq, not_true_eq_false, if_false]
  subst hl
  simpa using this
theorem ok_store {t : TypeId} {p x : Operand} {H : Heap} {k : Kont} (ho : o.op = .store t p x) (h : evStore P t (opd tf p) (opd tf x) H k) (hH : hf = lookH H) : ∃ v W R, OpLoc P o R tf hf v W [] ∧ k v W R [] := by
  have hop : ∀ tf', (∀ t ∈ tmpsOf o, tf' t = tf t) → ∀ z, z = p ∨ z = x → opd tf' z = opd tf z := fun tf' ht z hz => tmps_same ht (by rw [ho]; simp [Op.operands]; exact hz)
  have hrun : ∀ (a : Act) (w w' : World) (ad : Addr), a.eval p = .pointer (some ad) → (storeVar t ad (a.eval x)).run P w = .ok () w' → (execOp a.eval o).run P w = .ok .skip w' := by
    intro a w w' ad hp hu
    unfold execOp
    rw [ho]
    simp [Instr.storeAt, Instr.sureAddr, hp, hu]
  subst hH
  unfold evStore at h
  split at h
  · rename_i n hn
    split at h
    · rename_i b off hp
      split at h
      · rename_i ty cells hb
        split at h
        · rename_i hc
          simp only [Bool.and_eq_true] at hc
          obtain ⟨⟨c1, c2⟩, c3⟩ := hc
          have c1 := Nat.eq_of_beq_eq_true c1
          have c2 := Nat.le_of_ble_eq_true c2
          rw [plainL_iff] at h
          refine ⟨_, _, _, ⟨fun b' hb' => .inl (by simpa [ids] using hb'), fun tf' hf' ht hh w0 X O0 D m a w Q hR hd hN => ?_⟩, h⟩
          have e1 := opd_told hR p
          have e2 := opd_told hR x
          rw [hop tf' ht p (by simp), hp] at e1
          rw [hop tf' ht x (by simp)] at e2
          obtain ⟨g, hy, hm⟩ := e1.ptr_eq
          have hhb := hh b (by simp)
          have h3 := hR.blk b
          rw [hhb, hb] at h3
          obtain ⟨g', cur, hm', hg, hlen, h1, hv⟩ := h3
          rw [hm] at hm'
          simp at hm'
          subst hm'
          obtain ⟨vs, hvs, hvl, hv1, hvv⟩ := cells_told e2 (allOne_mem c3)
          have hst := store_run (P := P) (t := t) (off := off) hn hvs (by omega) hg (by omega) hv1
          have hr := hrun a w _ _ hy hst
          unfold Oper.wp
          rw [hr]
          have hbk : bk m b = some g := by simp [bk, hm, blockOf]
          have hlive : (hf' b).1 = false ∧ (hf' b).2.live := by rw [hhb, hb]; exact ⟨rfl, trivial⟩
          refine ⟨undef, m, rfl, ?_⟩
          have := hR.write (w' := w.setRow g (cur.take off ++ vs ++ cur.drop (off + n)).toArray) (W := [(b, false, .box ty (cells.take off ++ cellsA (opd tf x) ++ cells.drop (off + n)))]) (N := []) (fun c => c = g) (m' := m) (d := o.dst) (v := .un) (val := undef) hd (setRow_but w g _) (fun c hc => ⟨b, by simp [ids], hlive.1, hlive.2, by rw [hc]; exact hbk⟩) (fun _ _ => rfl) (by simp) (by simp) ?_ ?_ ?_
          · simpa using this
          · intro b' hb' O' hO hext _
            obtain rfl := ids1.1 hb'
            rw [lookH1]
            refine ⟨g, cur.take off ++ vs ++ cur.drop (off + n), hm, setRow_heap w g _ _ ty (0, 0) hg, ?_, ?_, ?_⟩
            · simp; omega
            · intro y hy
              simp only [List.mem_append] at hy
              rcases hy with (hy | hy) | hy
              · exact h1 y (List.mem_of_mem_take hy)
              · exact allOne_mem c3 y hy
              · exact h1 y (List.mem_of_mem_drop hy)
            · intro i y u hy hu
              have mono : ∀ y u, HA m w (Own X m hf') y u → HA m (w.setRow g (cur.take off ++ vs ++ cur.drop (off + n)).toArray) O' y u := fun y u hh => hh.mono ((setRow_but w g _).keep fun c hc => .inr ⟨b', hlive.1, hlive.2, by rw [hc]; exact hbk⟩) hO hext
              refine mono y u ?_
              rw [List.append_assoc] at hy hu
              rw [List.getElem?_append, List.length_take] at hy hu
              by_cases q1 : i < off
              · rw [if_pos (by omega), List.getElem?_take, if_pos q1] at hy hu
                exact hv i y u hy hu
              · rw [if_neg (by omega), List.getElem?_append] at hy hu
                rw [show min off cells.length = off by omega] at hy
                rw [show min off cur.length = off by omega] at hu
                by_cases q2 : i - off < n
                · rw [if_pos (by omega)] at hy hu
                  exact hvv _ _ _ hy hu
                · rw [if_neg (by omega), List.getElem?_drop] at hy hu
                  rw [c1] at hy
                  rw [show vs.length = n by omega] at hu
                  exact hv _ _ _ hy hu
          · intro b' hb' hl c hbc
            obtain rfl := ids1.1 hb'
            exact ⟨.inr ⟨b', by simp [ids], hlive.1, hlive.2, hbc⟩, fun b2 hb2 hne => absurd (ids1.1 hb2) hne⟩
          · intro O' hO hext _
            exact .un _
        · exact h.elim
      · exact h.elim
    · rename_i b sz i j hp
      split at h
      · rename_i ty sz' l hb
        split at h
        · rename_i tx htx
          split at h
          · rename_i hc
            simp only [Bool.and_eq_true] at hc
            obtain ⟨⟨⟨c1, c2⟩, c3⟩, c4⟩ := hc
            have c1 := Nat.eq_of_beq_eq_true c1
            subst c1
            have c2 := fitsB_fits c2
            have c3 := Nat.le_of_ble_eq_true c3
            have c4 : b ∉ reach (lookH H) 30 (opd tf x) := fun e => by rw [memN_iff.2 e] at c4; cases c4
            obtain ⟨e, he, h⟩ := h
            refine ⟨_, _, _, loc_frz (W := [(b, false, .row ty sz (l.set i (newEl e j n sz tx)))]) (L := reach (lookH H) 30 (opd tf x)) rfl (fun b hb => by simp [hb]) (fun b' hb' => .inl (by simp [ids] at hb'; simp [hb'])) ?_, h⟩
            intro tf' hf' ht hh w0 X O0 D m a w Q hR1 hview hR hd hN
            have e1 := opd_told hR p
            have e2 := opd_told hR x
            rw [hop tf' ht p (by simp), hp] at e1
            rw [hop tf' ht x (by simp)] at e2
            obtain ⟨g, n', c', hy, hm⟩ := e1.rp_eq
            have hhb := hh b (by simp)
            have htt := hview 30 (opd tf x) tx _ htx (fun b hb => hb) e2
            have hbF : b ∉ ids (frz (lookH H) (reach (lookH H) 30 (opd tf x)) []) := fun hh => c4 ((frz_spec (hf := lookH H) _ []).1 b hh).1
            have hb1 : upH hf' (frz (lookH H) (reach (lookH H) 30 (opd tf x)) []) b = (false, .row ty sz l) := by rw [upH_out hbF, hhb, hb]
            have h3 := hR1.blk b
            rw [hb1] at h3
            have hfit : e.fits sz := by obtain ⟨_, _, _, _, hf', _⟩ := h3; exact hf' e (List.mem_of_getElem? he)
            have hi : i < l.length := (List.getElem?_eq_some_iff.1 he).1
            obtain ⟨v, xs, hm', how, hfits, hcs⟩ := h3
            rw [hm] at hm'
            simp at hm'
            subst hm'
            rcases how.2 with ⟨hno, _⟩ | ⟨g', cap, cur, hv', _, hg, hcap, hcm, hcsz, htake⟩
            · cases hno
            simp only [Value.slice.injEq, Option.some.injEq, Addr.mk.injEq, and_true, true_and] at hv'
            obtain ⟨rfl, hn', hcc⟩ := hv'
            obtain ⟨vs, hvs, hvl, hv1, hvv⟩ := T.cells_told htt c2.2
            have hvl : vs.length = n := by rw [hvl]; exact c2.1
            have hoff : i * sz + j + n ≤ l.length * sz := by
              calc i * sz + j + n ≤ i * sz + sz := by omega
                _ = (i + 1) * sz := by rw [Nat.add_mul]; omega
                _ ≤ l.length * sz := Nat.mul_le_mul_right _ hi
            have hcurl : l.length * sz ≤ cur.toList.length := by
              have e1 : cur.toList.length = cap * sz := by simpa using hcsz
              have e2 : l.length * sz ≤ cap * sz := Nat.mul_le_mul_right _ hcap
              omega
            have hst := store_run (P := P) (t := t) (off := i * sz + j) (cur := cur.toList) hn hvs hvl (by simpa using hg) (by omega) hv1
            have hr := hrun a w _ _ hy hst
            unfold Oper.wp
            rw [hr]
            have hbk : bk m b = some g := by simp [bk, hm, blockOf]
            refine ⟨undef, m, rfl, ?_⟩
            have hlen : xs.length = l.length * sz := how.1
            have hel : (newEl e j n sz tx).cells = e.cells.take j ++ tx.cells ++ e.cells.drop (j + n) := newEl_cells hfit c2.1 c3
            have hfit' : (newEl e j n sz tx).fits sz := by
              refine ⟨by rw [hel, splice_len _ _ _ _ c2.1 (by rw [hfit.1]; exact c3)]; exact hfit.1, fun y hy => ?_⟩
              rw [hel] at hy
              simp only [List.mem_append] at hy
              rcases hy with (hy | hy) | hy
              · exact hfit.2 y (List.mem_of_mem_take hy)
              · exact c2.2 y hy
              · exact hfit.2 y (List.mem_of_mem_drop hy)
            have hbut := setRow_but w g (cur.toList.take (i * sz + j) ++ vs ++ cur.toList.drop (i * sz + j + n)).toArray
            have := hR1.write (w' := w.setRow g (cur.toList.take (i * sz + j) ++ vs ++ cur.toList.drop (i * sz + j + n)).toArray) (W := [(b, false, .row ty sz (l.set i (newEl e j n sz tx)))]) (N := []) (fun c => c = g) (m' := m) (d := o.dst) (v := .un) (val := undef) hd hbut
              (fun c hc => ⟨b, by simp [ids], by rw [hb1], by rw [hb1]; trivial, by rw [hc]; exact hbk⟩) (fun _ _ => rfl) (by simp) (by simp) ?_ ?_ ?_
            · simpa using this
            · intro b' hb' O' hO hext _
              obtain rfl := ids1.1 hb'
              rw [lookH1]
              have hOg : ∀ c, c = g → Own X m (upH hf' (frz (lookH H) (reach (lookH H) 30 (opd tf x)) [])) c := fun c hc => .inr ⟨b', by rw [hb1], by rw [hb1]; trivial, by rw [hc]; exact hbk⟩
              have mono : ∀ y u, HT w (Own X m (upH hf' (frz (lookH H) (reach (lookH H) 30 (opd tf x)) []))) y u → HT (w.setRow g (cur.toList.take (i * sz + j) ++ vs ++ cur.toList.drop (i * sz + j + n)).toArray) O' y u := fun y u hh => hh.mono (hbut.keep hOg) hO
              refine ⟨.slice (some ⟨g, 0, none⟩) n' c', xs.take (i * sz + j) ++ vs ++ xs.drop (i * sz + j + n), hm, ?_, ?_, ?_⟩
              · refine ⟨by rw [splice_len _ _ _ _ hvl (by omega), List.length_set]; exact hlen, .inr ⟨g, c', _, by rw [List.length_set, hn'], Nat.zero_le _, setRow_heap w g cur _ ty (0, 0) hg, by rw [List.length_set]; omega, by omega, ?_, ?_⟩⟩
                · have := splice_len cur.toList vs (i * sz + j) n hvl (by omega)
                  simp only [List.size_toArray]
                  rw [this, hcc]
                  simpa using hcsz
                · apply List.ext_getElem?
                  intro q
                  simp only [List.length_set]
                  rw [List.getElem?_take, splice_get _ _ _ _ _ hvl (by omega)]
                  have hq0 : (if q < l.length * sz then cur.toList[q]? else none) = xs[q]? := by rw [← htake, List.getElem?_take]
                  by_cases q1 : q < l.length * sz
                  · rw [if_pos q1] at hq0 ⊢
                    rw [splice_get _ _ _ _ _ hvl (by omega), hq0]
                  · rw [if_neg q1]
                    rw [List.getElem?_eq_none (by rw [splice_len _ _ _ _ hvl (by omega)]; omega)]
              · intro y hy
                rcases List.mem_or_eq_of_mem_set hy with hy | rfl
                · exact hfits y hy
                · exact hfit'
              · intro p q y z hy hz
                rw [splice_get _ _ _ _ _ hvl (by omega)]
                by_cases hpi : p = i
                · subst hpi
                  rw [List.getElem?_set_self hi] at hy
                  simp at hy
                  subst hy
                  rw [hel, splice_get _ _ _ _ _ c2.1 (by rw [hfit.1]; exact c3)] at hz
                  by_cases r1 : q < j
                  · rw [if_pos r1] at hz
                    rw [if_pos (by omega)]
                    obtain ⟨u, hu, ht⟩ := hcs p q e z he hz
                    exact ⟨u, hu, mono _ _ ht⟩
                  · rw [if_neg r1] at hz
                    by_cases r2 : q < j + n
                    · rw [if_pos r2] at hz
                      rw [if_neg (by omega), if_pos (by omega), show p * sz + q - (p * sz + j) = q - j by omega]
                      have hlt : q - j < vs.length := by omega
                      exact ⟨_, List.getElem?_eq_getElem hlt, mono _ _ (hvv _ _ _ hz (List.getElem?_eq_getElem hlt))⟩
                    · rw [if_neg r2] at hz
                      rw [if_neg (by omega), if_neg (by omega)]
                      obtain ⟨u, hu, ht⟩ := hcs p q e z he hz
                      exact ⟨u, hu, mono _ _ ht⟩
                · rw [List.getElem?_set_ne (fun e => hpi e.symm)] at hy
                  have hq : q < sz := by
                    have h1 := (List.getElem?_eq_some_iff.1 hz).1
                    have h2 := (hfits y (List.mem_of_getElem? hy)).1
                    omega
                  have hout : p * sz + q < i * sz + j ∨ i * sz + j + n ≤ p * sz + q := by
                    rcases Nat.lt_or_gt_of_ne hpi with h | h
                    · left
                      calc p * sz + q < p * sz + sz := by omega
                        _ = (p + 1) * sz := by rw [Nat.add_mul]; omega
                        _ ≤ i * sz := Nat.mul_le_mul_right _ h
                        _ ≤ i * sz + j := Nat.le_add_right _ _
                    · right
                      calc i * sz + j + n ≤ i * sz + sz := by omega
                        _ = (i + 1) * sz := by rw [Nat.add_mul]; omega
                        _ ≤ p * sz := Nat.mul_le_mul_right _ h
                        _ ≤ p * sz + q := Nat.le_add_right _ _
                  obtain ⟨u, hu, ht⟩ := hcs p q y z hy hz
                  refine ⟨u, ?_, mono _ _ ht⟩
                  rcases hout with h | h
                  · rw [if_pos h]; exact hu
                  · rw [if_neg (by omega), if_neg (by omega)]; exact hu
            · intro b' hb' hl c hbc
              obtain rfl := ids1.1 hb'
              exact ⟨.inr ⟨b', by simp [ids], by rw [hb1], by rw [hb1]; trivial, hbc⟩, fun b2 hb2 hne => absurd (ids1.1 hb2) hne⟩
            · intro O' hO hext _
              exact .un _
          · exact h.elim
        · exact h.elim
      · exact h.elim
    · exact h.elim
  · exact h.elim
end
end Go.YtbbcnmfmncgffaaE
