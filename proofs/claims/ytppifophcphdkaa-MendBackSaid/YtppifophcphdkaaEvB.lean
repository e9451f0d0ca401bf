-- Written by hand for this claim's session.
import Derived.Laws.StructEq
import Derived.Lib.Overlaps
import Derived.Tactics
import Derived.RangeFuncNested
import Derived.RangeFuncLeaves
import Derived.OrdersIn
import Derived.Shelf.Abstract
import Derived.Test.YtppifophcphdkaaEvA
namespace Go.YtppifophcphdkaaE
open Go.RowKit
set_option linter.unusedVariables false
set_option linter.unusedSimpArgs false
def evSliceOwn [Tabs] (P : Program) (t : TypeId) (tf : Nat → AV) (x : Operand) (lo hi mx : Option Operand) (H : Heap) (k : Kont) : Prop :=
  match mx with
  | some _ => False
  | none => match P.underlying t with
    | some (.slice e) => (match sizN P e with
      | some esz => match opd tf x with
        | .own b => match lookH H b with
          | (_, .row _ sz l) => match Nat.beq sz esz with
            | true => match bnd tf 0 lo, bnd tf l.length hi with
              | some p, some q => ∃ i' n' : Nat, (i' : Int) = p ∧ (n' : Int) = q - p ∧ 0 ≤ p ∧ p ≤ q ∧ q ≤ l.length ∧ k (.sub b sz i' n') [] [b] []
              | _, _ => False
            | false => False
          | _ => False
        | .sub b sz i n => match Nat.beq sz esz with
          | true => match bnd tf 0 lo, bnd tf n hi with
            | some p, some q => ∃ i' n' : Nat, (i' : Int) = i + p ∧ (n' : Int) = q - p ∧ 0 ≤ p ∧ p ≤ q ∧ q ≤ n ∧ k (.sub b sz i' n') [] [] []
            | _, _ => False
          | false => False
        | .fsub b sz i n N => match Nat.beq sz esz with
          | true => match bnd tf 0 lo, bnd tf n hi with
            | some p, some q => ∃ i' n' : Nat, (i' : Int) = i + p ∧ (n' : Int) = q - p ∧ 0 ≤ p ∧ p ≤ q ∧ q ≤ N - i ∧ i ≤ N ∧ k (.fsub b sz i' n' N) [] [] []
            | _, _ => False
          | false => False
        | _ => False
      | none => False)
    | some (.pointer arr) => (match P.underlying arr with
      | some (.array n e) => match sizN P e with
        | some 1 => match opd tf x with
          | .ptr b off => match bnd tf 0 lo, bnd tf n hi with
            | some p, some q => ∃ i' n' : Nat, (i' : Int) = off + p ∧ (n' : Int) = q - p ∧ 0 ≤ p ∧ p ≤ q ∧ q ≤ n ∧ k (.sub b 1 i' n') [] [] []
            | _, _ => False
          | _ => False
        | _ => False
      | _ => False)
    | some (.array n e) => (match sizN P e with
        | some 1 => match opd tf x with
          | .ptr b off => match bnd tf 0 lo, bnd tf n hi with
            | some p, some q => ∃ i' n' : Nat, (i' : Int) = off + p ∧ (n' : Int) = q - p ∧ 0 ≤ p ∧ p ≤ q ∧ q ≤ n ∧ k (.sub b 1 i' n') [] [] []
            | _, _ => False
          | _ => False
        | _ => False)
    | _ => False
section
variable {P : Program} {o : Oper} {tf : Nat → AV} {hf : Hp}
theorem sub_cut [Tabs] {m : Nat → Option Value} {w : World} {O : Nat → Prop} {b sz i n p q g c : Nat} (hpq : p ≤ q) (hq : q ≤ n) (hc : n ≤ c) (hm : m b = some (.pointer (some ⟨g, 0, none⟩)) ∨ ∃ n' c', m b = some (.slice (some ⟨g, 0, none⟩) n' c') ∧ i + n ≤ n' ∧ i + c = c') :
    HA m w O (.sub b sz (i + p) (q - p)) (.slice (if c = p then some ⟨g, i * sz, none⟩ else some ((⟨g, i * sz, none⟩ : Addr).add (p * sz))) (q - p) (c - p)) := by
  refine .sub _ _ _ _ _ ?_
  have main : ∀ A, A = some ⟨g, (i + p) * sz, none⟩ → SubV m b sz (i + p) (q - p) (.slice A (q - p) (c - p)) := by
    rintro A rfl
    exact .inr ⟨g, c - p, by omega, rfl, hm.imp id fun ⟨n', c', h1, h2, h3⟩ => ⟨n', c', h1, by omega, by omega⟩⟩
  by_cases e : c = p
  · rw [if_pos e]
    by_cases p0 : p = 0
    · exact main _ (by rw [p0, Nat.add_zero])
    · have : q - p = 0 := by omega
      rw [this]
      exact .inl ⟨rfl, ⟨_, _, rfl⟩, fun h => absurd h (by omega)⟩
  · rw [if_neg e, add_plain]
    exact main _ (by rw [Nat.add_mul])
theorem ok_sliceOwn [Tabs] {t : TypeId} {x : Operand} {lo hi mx : Option Operand} {H : Heap} {k : Kont} (ho : o.op = .slice t x lo hi mx) (h : evSliceOwn P t tf x lo hi mx H k) (hH : hf = lookH H) : ∃ v R, OpLoc P o R tf hf v [] [] ∧ k v [] R [] := by
  have hop : ∀ tf', (∀ t ∈ tmpsOf o, tf' t = tf t) → ∀ z, z = x ∨ lo = some z ∨ hi = some z → opd tf' z = opd tf z := fun tf' ht z hz => tmps_same ht (by
    rw [ho]; simp [Op.operands]
    rcases hz with h | h | h
    · exact .inl h
    · exact .inr (.inl h)
    · exact .inr (.inr (.inl h)))
  have hbn : ∀ tf', (∀ t ∈ tmpsOf o, tf' t = tf t) → ∀ d z, (z = lo ∨ z = hi) → bnd tf' d z = bnd tf d z := by
    intro tf' ht d z hz
    cases z with
    | none => rfl
    | some y => unfold bnd; simp only; rw [hop tf' ht y (by rcases hz with h | h; exact .inr (.inl h.symm); exact .inr (.inr h.symm))]
  subst hH
  unfold evSliceOwn at h
  split at h
  · exact h.elim
  split at h
  · rename_i e hu
    split at h
    · rename_i esz he
      have hrun : ∀ (a : Act) (w : World) (A : Option Addr) (len cap p q : Nat), a.eval x = .slice A len cap → (Instr.sliceBounds true len cap (lo.map a.eval) (hi.map a.eval) none).run P w = .ok (p, q, cap) w → (execOp a.eval o).run P w = .ok (.value (.slice (if cap = p then A else A.map (·.add (p * esz))) (q - p) (cap - p))) w := by
        intro a w A len cap p q hy hb
        unfold execOp
        rw [ho]
        refine run_value ?_
        simp only [Instr.sliceAt, Sem.run_bind, run_underlying hu, Result.andThen_ok, Instr.slice, hy, Option.map_none, hb, sizN_run he, Sem.run_pure]
      split at h
      · rename_i b hx
        split at h
        · rename_i fz ty sz l hb
          split at h
          · rename_i hbe
            have := Nat.eq_of_beq_eq_true hbe
            subst this
            split at h
            · rename_i p q hp hq
              obtain ⟨i', n', hi', hn', h0, h1, h2, h⟩ := h
              obtain rfl : i' = p.toNat := by omega
              obtain rfl : n' = q.toNat - p.toNat := by omega
              refine ⟨_, [b], loc_read fun tf' hf' ht hh w0 X O0 D m a w hR => ?_, h⟩
              have h3 := opd_told hR x
              rw [hop tf' ht x (by simp), hx] at h3
              have h4 := hR.blk b
              rw [hh b (by simp), hb] at h4
              have hm := h3.own_eq
              obtain ⟨v, xs, hv, how, _⟩ := h4
              rw [hm] at hv
              simp at hv
              rcases how.2 with ⟨h5, h6⟩ | ⟨g, cap, cur, h5, _, _, hcap, _⟩
              · have hl0 : l.length = 0 := h6
                have hb := bounds_run (P := P) (b := true) (len := l.length) (cap := 0) hR (by omega) (by rw [hbn tf' ht _ _ (.inl rfl)]; exact hp) (by rw [hbn tf' ht _ _ (.inr rfl)]; exact hq) h0 h1 h2
                rw [hl0] at hb
                refine ⟨_, hrun a w none 0 0 _ _ (by rw [hv, h5]) hb, .sub _ _ _ _ _ (.inl ?_)⟩
                have : p.toNat = 0 := by omega
                rw [this, show q.toNat - 0 = 0 by omega]
                exact ⟨rfl, ⟨none, 0, rfl⟩, fun _ => rfl⟩
              · have hb := bounds_run (P := P) (b := true) (len := l.length) (cap := cap) hR hcap (by rw [hbn tf' ht _ _ (.inl rfl)]; exact hp) (by rw [hbn tf' ht _ _ (.inr rfl)]; exact hq) h0 h1 h2
                refine ⟨_, hrun a w _ l.length cap _ _ (by rw [hv, h5]) hb, ?_⟩
                have key := sub_cut (m := m) (w := w) (O := Own X m hf') (b := b) (sz := sz) (i := 0) (n := l.length) (p := p.toNat) (q := q.toNat) (g := g) (c := cap) (by omega) (by omega) hcap (.inr ⟨_, _, by rw [hm, hv, h5], by omega, by omega⟩)
                simp only [Nat.zero_add, Nat.zero_mul] at key
                rw [Option.map_some]
                exact key
            · exact h.elim
          · exact h.elim
        · exact h.elim
      · rename_i b sz i n hx
        split at h
        · rename_i hbe
          have := Nat.eq_of_beq_eq_true hbe
          subst this
          split at h
          · rename_i p q hp hq
            obtain ⟨i', n', hi', hn', h0, h1, h2, h⟩ := h
            obtain rfl : i' = i + p.toNat := by omega
            obtain rfl : n' = q.toNat - p.toNat := by omega
            refine ⟨_, [], loc_read fun tf' hf' ht hh w0 X O0 D m a w hR => ?_, h⟩
            have h3 := opd_told hR x
            rw [hop tf' ht x (by simp), hx] at h3
            generalize hz : a.eval x = z at h3
            cases h3 with
            | sub _ _ _ _ _ h3 =>
            rcases h3 with ⟨rfl, ⟨A, c, rfl⟩, hnil⟩ | ⟨g, c, hc, rfl, hm⟩
            · have hb := bounds_run (P := P) (b := true) (len := 0) (cap := c) hR (by omega) (by rw [hbn tf' ht _ _ (.inl rfl)]; exact hp) (by rw [hbn tf' ht _ _ (.inr rfl)]; exact hq) h0 h1 h2
              refine ⟨_, hrun a w A 0 c _ _ hz hb, .sub _ _ _ _ _ (.inl ?_)⟩
              rw [show q.toNat - p.toNat = 0 by omega]
              refine ⟨rfl, ⟨_, _, rfl⟩, fun hi => ?_⟩
              have h5 := hnil (by omega)
              simp only [Value.slice.injEq, true_and] at h5
              rw [h5.1, h5.2, Option.map_none, ite_self, Nat.zero_sub]
            · have hb := bounds_run (P := P) (b := true) (len := n) (cap := c) hR hc (by rw [hbn tf' ht _ _ (.inl rfl)]; exact hp) (by rw [hbn tf' ht _ _ (.inr rfl)]; exact hq) h0 h1 h2
              refine ⟨_, hrun a w _ n c _ _ hz hb, ?_⟩
              rw [Option.map_some]
              exact sub_cut (by omega) (by omega) hc hm
          · exact h.elim
        · exact h.elim
      · rename_i b sz i n N hx
        split at h
        · rename_i hbe
          have := Nat.eq_of_beq_eq_true hbe
          subst this
          split at h
          · rename_i p q hp hq
            obtain ⟨i', n', hi', hn', h0, h1, h2, h3', h⟩ := h
            obtain rfl : i' = i + p.toNat := by omega
            obtain rfl : n' = q.toNat - p.toNat := by omega
            refine ⟨_, [], loc_read fun tf' hf' ht hh w0 X O0 D m a w hR => ?_, h⟩
            have h3 := opd_told hR x
            rw [hop tf' ht x (by simp), hx] at h3
            generalize hz : a.eval x = z at h3
            cases h3 with
            | fsub _ _ _ _ _ _ h3 =>
            obtain ⟨g, o', rfl, hm, hin, hN, ho'⟩ := h3
            have hb : (Instr.sliceBounds true n (N - i) (lo.map a.eval) (hi.map a.eval) none).run P w = .ok (p.toNat, q.toNat, N - i) w := by
              unfold Instr.sliceBounds
              rcases bnd_run hR (by rw [hbn tf' ht _ _ (.inr rfl)]; exact hq) with ⟨rfl, rfl⟩ | ⟨z, κ, rfl, hz⟩
              · rcases bnd_run hR (by rw [hbn tf' ht _ _ (.inl rfl)]; exact hp) with ⟨rfl, rfl⟩ | ⟨z', κ', rfl, hz'⟩
                · simp
                · simp [hz', run_sliceBound (P := P) w κ' p n _ h0 (by omega)]
              · rcases bnd_run hR (by rw [hbn tf' ht _ _ (.inl rfl)]; exact hp) with ⟨rfl, rfl⟩ | ⟨z', κ', rfl, hz'⟩
                · simp [hz, run_sliceBound (P := P) w κ q (N - i) _ (by omega) (by omega)]
                · simp [hz, hz', run_sliceBound (P := P) w κ q (N - i) _ (by omega) (by omega), run_sliceBound (P := P) w κ' p q.toNat _ h0 (by omega)]
            refine ⟨_, hrun a w _ n (N - i) _ _ hz hb, .fsub _ _ _ _ _ _ ?_⟩
            rw [Option.map_some, add_plain, show N - i - p.toNat = N - (i + p.toNat) by omega]
            by_cases e : N - i = p.toNat
            · rw [if_pos e]
              exact ⟨g, o', rfl, hm, by omega, hN, fun e' => by omega⟩
            · rw [if_neg e]
              exact ⟨g, o' + p.toNat * sz, rfl, hm, by omega, hN, fun e' => by rw [ho' (by omega), Nat.add_mul]⟩
          · exact h.elim
        · exact h.elim
      · exact h.elim
    · exact h.elim
  · rename_i arr hu
    split at h
    · rename_i n e hu2
      split at h
      · rename_i he
        split at h
        · rename_i b off hx
          split at h
          · rename_i p q hp hq
            obtain ⟨i', n', hi', hn', h0, h1, h2, h⟩ := h
            obtain rfl : i' = off + p.toNat := by omega
            obtain rfl : n' = q.toNat - p.toNat := by omega
            refine ⟨_, [], loc_read fun tf' hf' ht hh w0 X O0 D m a w hR => ?_, h⟩
            have h3 := opd_told hR x
            rw [hop tf' ht x (by simp), hx] at h3
            obtain ⟨g, hy, hm⟩ := h3.ptr_eq
            have hb := bounds_run (P := P) (b := false) (len := n) (cap := n) hR (Nat.le_refl _) (by rw [hbn tf' ht _ _ (.inl rfl)]; exact hp) (by rw [hbn tf' ht _ _ (.inr rfl)]; exact hq) h0 h1 h2
            refine ⟨.slice (some (if n = p.toNat then ⟨g, off, none⟩ else (⟨g, off, none⟩ : Addr).add (p.toNat * 1))) (q.toNat - p.toNat) (n - p.toNat), ?_, ?_⟩
            · unfold execOp
              rw [ho]
              refine run_value ?_
              simp only [Instr.sliceAt, Sem.run_bind, run_underlying hu, Result.andThen_ok, Instr.slice, hy, asAddr, run_underlying hu2, Option.map_none, hb, sizN_run he, Sem.run_pure]
            · have key := sub_cut (m := m) (w := w) (O := Own X m hf') (b := b) (sz := 1) (i := off) (n := n) (p := p.toNat) (q := q.toNat) (g := g) (c := n) (by omega) (by omega) (Nat.le_refl _) (.inl hm)
              rw [Nat.mul_one] at key
              by_cases e : n = p.toNat
              · rw [if_pos e] at key ⊢; exact key
              · rw [if_neg e] at key ⊢; exact key
          · exact h.elim
        · exact h.elim
      · exact h.elim
    · exact h.elim
  · rename_i n e hu
    split at h
    · rename_i he
      split at h
      · rename_i b off hx
        split at h
        · rename_i p q hp hq
          obtain ⟨i', n', hi', hn', h0, h1, h2, h⟩ := h
          obtain rfl : i' = off + p.toNat := by omega
          obtain rfl : n' = q.toNat - p.toNat := by omega
          refine ⟨_, [], loc_read fun tf' hf' ht hh w0 X O0 D m a w hR => ?_, h⟩
          have h3 := opd_told hR x
          rw [hop tf' ht x (by simp), hx] at h3
          obtain ⟨g, hy, hm⟩ := h3.ptr_eq
          have hb := bounds_run (P := P) (b := false) (len := n) (cap := n) hR (Nat.le_refl _) (by rw [hbn tf' ht _ _ (.inl rfl)]; exact hp) (by rw [hbn tf' ht _ _ (.inr rfl)]; exact hq) h0 h1 h2
          refine ⟨.slice (some (if n = p.toNat then ⟨g, off, none⟩ else (⟨g, off, none⟩ : Addr).add (p.toNat * 1))) (q.toNat - p.toNat) (n - p.toNat), ?_, ?_⟩
          · unfold execOp
            rw [ho]
            refine run_value ?_
            simp only [Instr.sliceAt, Sem.run_bind, run_underlying hu, Result.andThen_ok, hy, Instr.sureAddr, Option.map_none, hb, sizN_run he, Sem.run_pure]
          · have key := sub_cut (m := m) (w := w) (O := Own X m hf') (b := b) (sz := 1) (i := off) (n := n) (p := p.toNat) (q := q.toNat) (g := g) (c := n) (by omega) (by omega) (Nat.le_refl _) (.inl hm)
            rw [Nat.mul_one] at key
            by_cases e : n = p.toNat
            · rw [if_pos e] at key ⊢; exact key
            · rw [if_neg e] at key ⊢; exact key
        · exact h.elim
      · exact h.elim
    · exact h.elim
  · exact h.elim
end
end Go.YtppifophcphdkaaE
namespace Go.YtppifophcphdkaaE
open Go.RowKit
set_option linter.unusedVariables false
set_option linter.unusedSimpArgs false
structure Tld (w : World) (O : Nat → Prop) (sz : Nat) (l : List T) (news : List Value) : Prop where
  len : news.length = l.length * sz
  fits : ∀ x ∈ l, x.fits sz
  told : ∀ (i j : Nat) (x y : T), l[i]? = some x → x.cells[j]? = some y → ∃ u, news[i * sz + j]? = some u ∧ HT w O y u
theorem Src.tld {w : World} {O : Nat → Prop} {sz : Nat} {l : List T} {v : Value} {news : List Value} (h : Src w O sz l v news) : Tld w O sz l news := ⟨h.len, h.fits, h.told⟩
theorem Tld.one [Tabs] {w : World} {O : Nat → Prop} {sz : Nat} {l : List T} {news : List Value} (h : Tld w O sz l news) : ∀ u ∈ news, u.oneCell' = true := by
  intro u hu
  obtain ⟨q, hq, rfl⟩ := List.mem_iff_getElem.1 hu
  have hq' := hq
  rw [h.len] at hq'
  have hsz : 0 < sz := by rcases Nat.eq_zero_or_pos sz with e | e; (rw [e] at hq'; omega); exact e
  have hi : q / sz < l.length := Nat.div_lt_of_lt_mul (by rw [Nat.mul_comm]; exact hq')
  have hx := h.fits _ (List.getElem_mem hi)
  have hj : q % sz < (l[q / sz]).cells.length := by rw [hx.1]; exact Nat.mod_lt _ hsz
  obtain ⟨u, h1, h2⟩ := h.told (q / sz) (q % sz) _ _ (List.getElem?_eq_getElem hi) (List.getElem?_eq_getElem hj)
  rw [show q / sz * sz + q % sz = q by rw [Nat.mul_comm]; exact Nat.div_add_mod _ _, List.getElem?_eq_getElem hq] at h1
  simp at h1
  subst h1
  exact h2.one_cell (hx.2 _ (List.getElem_mem hj))
theorem Tld.take [Tabs] {w : World} {O : Nat → Prop} {sz : Nat} {l : List T} {news : List Value} (h : Tld w O sz l news) {q : Nat} (hq : q ≤ l.length) : Tld w O sz (l.take q) (news.take (q * sz)) := by
  have h1 : q * sz ≤ l.length * sz := Nat.mul_le_mul_right _ hq
  refine ⟨by rw [List.length_take, List.length_take, h.len, Nat.min_eq_left h1, Nat.min_eq_left hq], fun x hx => h.fits x (List.mem_of_mem_take hx), fun i j x y hx hy => ?_⟩
  rw [List.getElem?_take] at hx
  split at hx
  · rename_i hi
    obtain ⟨u, hu, ht⟩ := h.told i j x y hx hy
    refine ⟨u, ?_, ht⟩
    have hj : j < sz := by have := (List.getElem?_eq_some_iff.1 hy).1; have := (h.fits x (List.mem_of_getElem? hx)).1; omega
    rw [List.getElem?_take, if_pos (idx_lt hi hj)]
    exact hu
  · cases hx
section
variable {P : Program} {o : Oper} {tf : Nat → AV} {hf : Hp}
theorem slice_self {α : Type} (l : List α) (i : Nat) : l.take i ++ [] ++ l.drop (i + 0) = l := by simp
theorem Rel.splice [Tabs] {w0 : Bse} {X O0 D : Nat → Prop} {m : Nat → Option Value} {a : Act} {w : World} (hR : Rel w0 X O0 D m tf hf a w) {b ty sz g n0 c0 i : Nat} {l ys : List T} {news : List Value} (hb : hf b = (false, .row ty sz l)) (hm : m b = some (.slice (some ⟨g, 0, none⟩) n0 c0)) (hy : Tld w (Own X m hf) sz ys news) (hi : i + ys.length ≤ l.length) {dst : Option Tmp} (hd : ∀ x, dst = some x → x < a.tmps.size) (val : Value) :
    ∃ w', (storeCells ⟨g, i * sz, none⟩ news 0).run P w = .ok () w' ∧ Rel w0 X O0 (fun b => D b ∨ b ∈ ([] : List Nat)) m (upT tf dst (.t (.v val))) (upH hf [(b, false, .row ty sz (l.take i ++ ys ++ l.drop (i + ys.length)))]) (a.put dst val) w' := by
  have h3 := hR.blk b
  rw [hb] at h3
  obtain ⟨v, xs, hm', how, hfits, hcs⟩ := h3
  rw [hm] at hm'
  simp at hm'
  subst hm'
  rcases how.2 with ⟨hno, _⟩ | ⟨g', cap, cur, hv', _, hg, hcap, hcm, hcsz, htake⟩
  · cases hno
  simp only [Value.slice.injEq, Option.some.injEq, Addr.mk.injEq, and_true, true_and] at hv'
  obtain ⟨rfl, hn', hcc⟩ := hv'
  have hxl : xs.length = l.length * sz := how.1
  have hnl := hy.len
  have hoff : i * sz + news.length ≤ l.length * sz := by rw [hnl, ← Nat.add_mul]; exact Nat.mul_le_mul_right _ hi
  have hcurl : l.length * sz ≤ cur.toList.length := by
    have e1 : cur.toList.length = cap * sz := by simpa using hcsz
    have e2 : l.length * sz ≤ cap * sz := Nat.mul_le_mul_right _ hcap
    omega
  have hrun := run_storeCells_at P g (i * sz) ty news 0 cur w hg (by simpa using Nat.le_trans hoff hcurl) hy.one
  rw [Nat.add_zero] at hrun
  refine ⟨_, hrun, ?_⟩
  have hbk : bk m b = some g := by simp [bk, hm, blockOf]
  have hbut := setRow_but w g (cur.toList.take (i * sz) ++ news ++ cur.toList.drop (i * sz + news.length)).toArray
  have hOg : ∀ c, c = g → Own X m hf c := fun c hc => .inr ⟨b, by rw [hb], by rw [hb]; trivial, by rw [hc]; exact hbk⟩
  have hll : (l.take i ++ ys ++ l.drop (i + ys.length)).length = l.length := splice_len l ys i ys.length rfl hi
  refine hR.write _ [] (fun c => c = g) (m' := m) hd hbut (fun c hc => ⟨b, by simp [ids], by rw [hb], by rw [hb]; trivial, by rw [hc]; exact hbk⟩) (fun _ _ => rfl) (by simp) (by simp) ?_ ?_ ?_
  · intro b' hb' O' hO hext _
    obtain rfl := ids1.1 hb'
    rw [lookH1]
    have mono : ∀ y u, HT w (Own X m hf) y u → HT (w.setRow g (cur.toList.take (i * sz) ++ news ++ cur.toList.drop (i * sz + news.length)).toArray) O' y u := fun y u hh => hh.mono (hbut.keep hOg) hO
    refine ⟨.slice (some ⟨g, 0, none⟩) n0 c0, xs.take (i * sz) ++ news ++ xs.drop (i * sz + news.length), hm, ?_, ?_, ?_⟩
    · refine ⟨by rw [splice_len _ _ _ _ rfl (by omega), hll]; exact hxl, .inr ⟨g, c0, _, by rw [hll, hn'], Nat.zero_le _, setRow_heap w g cur _ ty (0, 0) hg, by rw [hll]; omega, by omega, ?_, ?_⟩⟩
      · have := splice_len cur.toList news (i * sz) news.length rfl (by omega)
        simp only [List.size_toArray]
        rw [this, hcc]
        simpa using hcsz
      · apply List.ext_getElem?
        intro q
        rw [hll]
        simp only
        rw [List.getElem?_take, splice_get _ _ _ _ _ rfl (by omega)]
        have hq0 : (if q < l.length * sz then cur.toList[q]? else none) = xs[q]? := by rw [← htake, List.getElem?_take]
        by_cases q1 : q < l.length * sz
        · rw [if_pos q1] at hq0 ⊢
          rw [splice_get _ _ _ _ _ rfl (by omega), hq0]
        · rw [if_neg q1]
          rw [List.getElem?_eq_none (by rw [splice_len _ _ _ _ rfl (by omega)]; omega)]
    · intro y hy'
      simp only [List.mem_append] at hy'
      rcases hy' with (h | h) | h
      · exact hfits y (List.mem_of_mem_take h)
      · exact hy.fits y h
      · exact hfits y (List.mem_of_mem_drop h)
    · intro p q y z hp hz
      have hyf : y.fits sz := by
        have h := List.mem_of_getElem? hp
        simp only [List.mem_append] at h
        rcases h with (h | h) | h
        · exact hfits y (List.mem_of_mem_take h)
        · exact hy.fits y h
        · exact hfits y (List.mem_of_mem_drop h)
      have hq : q < sz := by have h1 := (List.getElem?_eq_some_iff.1 hz).1; have := hyf.1; omega
      rw [splice_get _ _ _ _ _ rfl hi] at hp
      rw [splice_get _ _ _ _ _ rfl (by omega)]
      by_cases r1 : p < i
      · rw [if_pos r1] at hp
        rw [if_pos (idx_lt r1 hq)]
        obtain ⟨u, hu, ht⟩ := hcs p q y z hp hz
        exact ⟨u, hu, mono _ _ ht⟩
      · have e1 : i * sz ≤ p * sz := Nat.mul_le_mul_right _ (by omega)
        rw [if_neg r1] at hp
        rw [if_neg (by omega)]
        by_cases r2 : p < i + ys.length
        · rw [if_pos r2] at hp
          obtain ⟨u, hu, ht⟩ := hy.told (p - i) q y z hp hz
          have e2 : p * sz = i * sz + (p - i) * sz := by rw [← Nat.add_mul]; congr 1; omega
          have e3 : (p - i) * sz + q < news.length := by rw [hnl]; exact idx_lt (by omega) hq
          rw [if_pos (by omega), show p * sz + q - i * sz = (p - i) * sz + q by omega]
          exact ⟨u, hu, mono _ _ ht⟩
        · rw [if_neg r2] at hp
          have e2 : (i + ys.length) * sz ≤ p * sz := Nat.mul_le_mul_right _ (by omega)
          rw [Nat.add_mul, ← hnl] at e2
          rw [if_neg (by omega)]
          obtain ⟨u, hu, ht⟩ := hcs p q y z hp hz
          exact ⟨u, hu, mono _ _ ht⟩
  · intro b' hb' hl c hbc
    obtain rfl := ids1.1 hb'
    exact ⟨.inr ⟨b', by simp [ids], by rw [hb], by rw [hb]; trivial, hbc⟩, fun b2 hb2 hne => absurd (ids1.1 hb2) hne⟩
  · intro O' hO hext _
    exact .t _ _ (.v _)
theorem Rel.spliceBox [Tabs] {w0 : Bse} {X O0 D : Nat → Prop} {m : Nat → Option Value} {a : Act} {w : World} (hR : Rel w0 X O0 D m tf hf a w) {b ty g i : Nat} {cells ys : List AV} {news : List Value} (hb : hf b = (false, .box ty cells)) (hm : m b = some (.pointer (some ⟨g, 0, none⟩))) (h1 : ∀ y ∈ ys, y.one = true) (hn : news.length = ys.length) (hy : ∀ (i : Nat) y u, ys[i]? = some y → news[i]? = some u → HA m w (Own X m hf) y u) (hi : i + ys.length ≤ cells.length) {dst : Option Tmp} (hd : ∀ x, dst = some x → x < a.tmps.size) (val : Value) :
    ∃ w', (storeCells ⟨g, i, none⟩ news 0).run P w = .ok () w' ∧ Rel w0 X O0 (fun b => D b ∨ b ∈ ([] : List Nat)) m (upT tf dst (.t (.v val))) (upH hf [(b, false, .box ty (cells.take i ++ ys ++ cells.drop (i + ys.length)))]) (a.put dst val) w' := by
  have h3 := hR.blk b
  rw [hb] at h3
  obtain ⟨g', cur, hm', hg, hlen, ho, hv⟩ := h3
  rw [hm] at hm'
  simp at hm'
  subst hm'
  have hone : ∀ u ∈ news, u.oneCell' = true := by
    intro u hu
    obtain ⟨q, hq, rfl⟩ := List.mem_iff_getElem.1 hu
    exact (hy q _ _ (List.getElem?_eq_getElem (by omega)) (List.getElem?_eq_getElem hq)).one_cell (h1 _ (List.getElem_mem (by omega)))
  have hrun := run_storeCells_at P g i ty news 0 cur.toArray w hg (by simp; omega) hone
  rw [Nat.add_zero] at hrun
  refine ⟨_, hrun, ?_⟩
  have hbk : bk m b = some g := by simp [bk, hm, blockOf]
  have hbut := setRow_but w g (cur.toArray.toList.take i ++ news ++ cur.toArray.toList.drop (i + news.length)).toArray
  refine hR.write _ [] (fun c => c = g) (m' := m) hd hbut (fun c hc => ⟨b, by simp [ids], by rw [hb], by rw [hb]; trivial, by rw [hc]; exact hbk⟩) (fun _ _ => rfl) (by simp) (by simp) ?_ ?_ ?_
  · intro b' hb' O' hO hext _
    obtain rfl := ids1.1 hb'
    rw [lookH1]
    refine ⟨g, cur.take i ++ news ++ cur.drop (i + news.length), hm, setRow_heap w g _ _ ty (0, 0) hg, ?_, ?_, ?_⟩
    · rw [splice_len _ _ _ _ rfl (by omega), splice_len _ _ _ _ rfl (by omega)]; exact hlen
    · intro y hy'
      simp only [List.mem_append] at hy'
      rcases hy' with (h | h) | h
      · exact ho y (List.mem_of_mem_take h)
      · exact h1 y h
      · exact ho y (List.mem_of_mem_drop h)
    · intro p y u hp hu
      have mono : ∀ y u, HA m w (Own X m hf) y u → HA m (w.setRow g (cur.toArray.toList.take i ++ news ++ cur.toArray.toList.drop (i + news.length)).toArray) O' y u := fun y u hh => hh.mono (hbut.keep fun c hc => .inr ⟨b', by rw [hb], by rw [hb]; trivial, by rw [hc]; exact hbk⟩) hO hext
      refine mono y u ?_
      rw [splice_get _ _ _ _ _ rfl (by omega)] at hp hu
      by_cases r1 : p < i
      · rw [if_pos r1] at hp hu; exact hv p y u hp hu
      · rw [if_neg r1] at hp hu
        by_cases r2 : p < i + ys.length
        · rw [if_pos r2] at hp
          rw [if_pos (by omega)] at hu
          exact hy _ y u hp hu
        · rw [if_neg r2] at hp
          rw [if_neg (by omega)] at hu
          exact hv p y u hp hu
  · intro b' hb' hl c hbc
    obtain rfl := ids1.1 hb'
    exact ⟨.inr ⟨b', by simp [ids], by rw [hb], by rw [hb]; trivial, hbc⟩, fun b2 hb2 hne => absurd (ids1.1 hb2) hne⟩
  · intro O' hO hext _
    exact .t _ _ (.v _)
theorem Rel.again [Tabs] {w0 : Bse} {X O0 D : Nat → Prop} {m : Nat → Option Value} {a : Act} {w : World} (hR : Rel w0 X O0 D m tf hf a w) {b : Nat} {k : Bool × Blk} (hb : hf b = k) {dst : Option Tmp} (hd : ∀ x, dst = some x → x < a.tmps.size) (val : Value) :
    Rel w0 X O0 (fun b => D b ∨ b ∈ ([] : List Nat)) m (upT tf dst (.t (.v val))) (upH hf [(b, k)]) (a.put dst val) w := by
  have e : upH hf [(b, k)] = hf := by
    funext b'
    by_cases h : b' = b
    · subst h; rw [upH_in (by simp [ids]), lookH1, hb]
    · rw [upH_out (by simpa [ids] using h)]
  rw [e]
  have := hR.put dst (.t (.v val)) val hd (But.refl w _) (.t _ _ (.v _))
  simpa using this
theorem Rel.spliceArr [Tabs] {w0 : Bse} {X O0 D : Nat → Prop} {m : Nat → Option Value} {a : Act} {w : World} (hR : Rel w0 X O0 D m tf hf a w) {b ty sz g i N : Nat} {l ys : List T} {news : List Value} (hb : hf b = (false, .arr ty sz l N)) (hm : m b = some (.pointer (some ⟨g, 0, none⟩))) (hy : Tld w (Own X m hf) sz ys news) (hi : i ≤ l.length) (hN : i + ys.length ≤ N) {dst : Option Tmp} (hd : ∀ x, dst = some x → x < a.tmps.size) (val : Value) :
    ∃ w', (storeCells ⟨g, i * sz, none⟩ news 0).run P w = .ok () w' ∧ Rel w0 X O0 (fun b => D b ∨ b ∈ ([] : List Nat)) m (upT tf dst (.t (.v val))) (upH hf [(b, false, .arr ty sz (l.take i ++ ys ++ l.drop (i + ys.length)) N)]) (a.put dst val) w' := by
  have h3 := hR.blk b
  rw [hb] at h3
  obtain ⟨g', cur, hm', hg, hcs, hlN, hNm, hfits, hcl⟩ := h3
  rw [hm] at hm'
  simp at hm'
  subst hm'
  have hnl := hy.len
  have hoff : i * sz + news.length ≤ N * sz := by rw [hnl, ← Nat.add_mul]; exact Nat.mul_le_mul_right _ hN
  have hcl' : cur.toList.length = N * sz := by simpa using hcs
  have hrun := run_storeCells_at P g (i * sz) ty news 0 cur w hg (by simpa [hcs] using hoff) hy.one
  rw [Nat.add_zero] at hrun
  refine ⟨_, hrun, ?_⟩
  have hbk : bk m b = some g := by simp [bk, hm, blockOf]
  have hbut := setRow_but w g (cur.toList.take (i * sz) ++ news ++ cur.toList.drop (i * sz + news.length)).toArray
  have hOg : ∀ c, c = g → Own X m hf c := fun c hc => .inr ⟨b, by rw [hb], by rw [hb]; trivial, by rw [hc]; exact hbk⟩
  have fits : ∀ y ∈ l.take i ++ ys ++ l.drop (i + ys.length), y.fits sz := by
    intro y hy'
    simp only [List.mem_append] at hy'
    rcases hy' with (h | h) | h
    · exact hfits y (List.mem_of_mem_take h)
    · exact hy.fits y h
    · exact hfits y (List.mem_of_mem_drop h)
  refine hR.write _ [] (fun c => c = g) (m' := m) hd hbut (fun c hc => ⟨b, by simp [ids], by rw [hb], by rw [hb]; trivial, by rw [hc]; exact hbk⟩) (fun _ _ => rfl) (by simp) (by simp) ?_ ?_ ?_
  · intro b' hb' O' hO hext _
    obtain rfl := ids1.1 hb'
    rw [lookH1]
    have mono : ∀ y u, HT w (Own X m hf) y u → HT (w.setRow g (cur.toList.take (i * sz) ++ news ++ cur.toList.drop (i * sz + news.length)).toArray) O' y u := fun y u hh => hh.mono (hbut.keep hOg) hO
    refine ⟨g, _, hm, setRow_heap w g cur _ ty (0, 0) hg, ?_, ?_, hNm, fits, ?_⟩
    · simp only [List.size_toArray]
      rw [splice_len _ _ _ _ rfl (by omega)]
      exact hcl'
    · simp; omega
    · intro p q y z hp hz
      have hyf := fits y (List.mem_of_getElem? hp)
      have hq : q < sz := by have h1 := (List.getElem?_eq_some_iff.1 hz).1; have := hyf.1; omega
      simp only
      rw [splice_get _ _ _ _ _ rfl (by omega)]
      rw [List.append_assoc, List.getElem?_append, List.length_take, Nat.min_eq_left hi] at hp
      by_cases r1 : p < i
      · rw [if_pos r1, List.getElem?_take, if_pos r1] at hp
        rw [if_pos (idx_lt r1 hq)]
        obtain ⟨u, hu, ht⟩ := hcl p q y z hp hz
        exact ⟨u, hu, mono _ _ ht⟩
      · have e1 : i * sz ≤ p * sz := Nat.mul_le_mul_right _ (by omega)
        rw [if_neg r1, List.getElem?_append] at hp
        rw [if_neg (by omega)]
        by_cases r2 : p - i < ys.length
        · rw [if_pos r2] at hp
          obtain ⟨u, hu, ht⟩ := hy.told (p - i) q y z hp hz
          have e2 : p * sz = i * sz + (p - i) * sz := by rw [← Nat.add_mul]; congr 1; omega
          have e3 : (p - i) * sz + q < news.length := by rw [hnl]; exact idx_lt r2 hq
          rw [if_pos (by omega), show p * sz + q - i * sz = (p - i) * sz + q by omega]
          exact ⟨u, hu, mono _ _ ht⟩
        · rw [if_neg r2, List.getElem?_drop, show i + ys.length + (p - i - ys.length) = p by omega] at hp
          have e2 : (i + ys.length) * sz ≤ p * sz := Nat.mul_le_mul_right _ (by omega)
          rw [Nat.add_mul, ← hnl] at e2
          rw [if_neg (by omega)]
          obtain ⟨u, hu, ht⟩ := hcl p q y z hp hz
          exact ⟨u, hu, mono _ _ ht⟩
  · intro b' hb' hl c hbc
    obtain rfl := ids1.1 hb'
    exact ⟨.inr ⟨b', by simp [ids], by rw [hb], by rw [hb]; trivial, hbc⟩, fun b2 hb2 hne => absurd (ids1.1 hb2) hne⟩
  · intro O' hO hext _
    exact .t _ _ (.v _)
def srcA (H : Heap) (sz : Nat) (s : AV) : Option (List T × Nat × List Nat × (Nat → Prop)) :=
  match srcOf H sz s with
  | some (ys, R) => some (ys, ys.length, R, fun _ => True)
  | none => match s with
    | .sub b sz' i n => match lookH H b with
      | (_, .arr _ sz'' l _) => match Nat.beq sz' sz && Nat.beq sz'' sz with
        | true => some (l.drop i, n, [b], fun q => i + q ≤ l.length)
        | false => none
      | _ => none
    | _ => none
def evCopy (P : Program) (t : TypeId) (d s : AV) (H : Heap) (k : Kont) : Prop :=
  match P.underlying t with
  | some (.slice e) => (match sizN P e with
    | some sz => (match srcA H sz s with
      | some (ys, len, R, cond) => (match d with
        | .own b => match lookH H b with
          | (false, .row ty sz' l) => match Nat.beq sz' sz with
            | true => ∃ q : Nat, q = Nat.min len l.length ∧ cond q ∧ k (.int .i64 q) [(b, false, .row ty sz' (ys.take q ++ l.drop q))] (b :: R) []
            | false => False
          | _ => False
        | .sub b sz'' i n => match lookH H b with
          | (false, .row ty sz' l) => match Nat.beq sz' sz && Nat.beq sz'' sz with
            | true => ∃ q : Nat, q = Nat.min len n ∧ cond q ∧ k (.int .i64 q) [(b, false, .row ty sz' (l.take i ++ ys.take q ++ l.drop (i + q)))] (b :: R) []
            | false => False
          | (false, .arr ty sz' l N) => match Nat.beq sz' sz && Nat.beq sz'' sz with
            | true => ∃ q : Nat, q = Nat.min len n ∧ cond q ∧ i ≤ l.length ∧ i + q ≤ N ∧ k (.int .i64 q) [(b, false, .arr ty sz' (l.take i ++ ys.take q ++ l.drop (i + q)) N)] (b :: R) []
            | false => False
          | (false, .box ty cells) => match Nat.beq sz 1 && Nat.beq sz'' 1 && Nat.ble (i + n) cells.length with
            | true => (∀ y ∈ ys, y.one = true) ∧ ∃ q : Nat, q = Nat.min len n ∧ cond q ∧ plainL (cells.take i ++ (ys.take q).map .t ++ cells.drop (i + q)) fun cells => k (.int .i64 q) [(b, false, .box ty cells)] (b :: R) []
            | false => False
          | _ => False
        | _ => False)
      | none => False)
    | none => False)
  | _ => False
theorem cell_heap {w w' : World} (h : w'.heap = w.heap) (a : Addr) : w'.cell? a = w.cell? a := by unfold World.cell?; rw [h]
theorem firstCells_src [Tabs] {w : World} {O : Nat → Prop} {sz : Nat} {l : List T} {v : Value} {news : List Value} (h : Src w O sz l v news) {q : Nat} (hq : q ≤ l.length) : (∀ w' : World, w'.heap = w.heap → (Builtin.firstCells sz q v).run P w' = .ok (news.take (q * sz)).toArray w') ∧ (Builtin.lenOf v).run P w = .ok l.length w := by
  obtain ⟨A, c, rfl, hA⟩ := h.form
  refine ⟨fun w' hw => ?_, by simp [Builtin.lenOf]⟩
  have h1 : q * sz ≤ l.length * sz := Nat.mul_le_mul_right _ hq
  rcases hA with rfl | ⟨b, o', rfl, hc⟩
  · have hq0 : q = 0 := by simpa using hq
    subst hq0
    rw [Nat.zero_mul, List.take_zero]
    cases A with
    | none => simp [Builtin.firstCells]
    | some a => simpa using run_firstCells_some (P := P) w' sz 0 a _ c [] (by simp) (by simp)
  · refine run_firstCells_some w' sz q _ _ c _ (by rw [List.length_take, h.len]; omega) (fun j u hu => ?_)
    rw [add_plain, cell_heap hw]
    rw [List.getElem?_take] at hu
    split at hu
    · exact hc j u hu
    · cases hu
structure SrcQ (P : Program) (w : World) (O : Nat → Prop) (sz q : Nat) (ys : List T) (len : Nat) (v : Value) (news : List Value) : Prop where
  tld : Tld w O sz ys news
  cnt : ys.length = q
  first : ∀ w' : World, w'.heap = w.heap → (Builtin.firstCells sz q v).run P w' = .ok news.toArray w'
  len : (Builtin.lenOf v).run P w = .ok len w
theorem srcA_told [Tabs] {H : Heap} {hf' : Hp} {sz : Nat} {x : AV} {ys : List T} {len : Nat} {R : List Nat} {cond : Nat → Prop} (h : srcA H sz x = some (ys, len, R, cond)) {q : Nat} (hq : q ≤ len) (hcond : cond q) {w0 : Bse} {X O0 D : Nat → Prop} {m : Nat → Option Value} {tf' : Nat → AV} {a : Act} {w : World} (hR : Rel w0 X O0 D m tf' hf' a w) (hh : ∀ b ∈ R, hf' b = lookH H b) {v : Value} (hv : HA m w (Own X m hf') x v) :
    ∃ news, SrcQ P w (Own X m hf') sz q (ys.take q) len v news := by
  unfold srcA at h
  split at h
  · rename_i ys' R' hs
    simp at h
    obtain ⟨rfl, rfl, rfl, rfl⟩ := h
    obtain ⟨news, hsrc⟩ := src_told hs hR hh hv
    obtain ⟨h1, h2⟩ := firstCells_src (P := P) hsrc hq
    exact ⟨_, hsrc.tld.take hq, by rw [List.length_take, Nat.min_eq_left hq], h1, h2⟩
  · split at h
    · rename_i b sz' i n _
      split at h
      · rename_i fz ty sz'' l N hb
        split at h
        · rename_i hbe
          simp only [Bool.and_eq_true] at hbe
          have e1 := Nat.eq_of_beq_eq_true hbe.1
          have e2 := Nat.eq_of_beq_eq_true hbe.2
          simp at h
          obtain ⟨rfl, rfl, rfl, rfl⟩ := h
          subst e1
          subst e2
          have h3 := hR.blk b
          rw [hh b (by simp), hb] at h3
          obtain ⟨g, cur, hm, hg, hcs, hlN, hNm, hfits, hcl⟩ := h3
          have hin : i + q ≤ l.length := hcond
          have hlen : ((l.drop i).take q).length = q := by rw [List.length_take, List.length_drop]; omega
          have hb1 : i * sz'' + q * sz'' ≤ N * sz'' := by rw [← Nat.add_mul]; exact Nat.mul_le_mul_right _ (by omega)
          have hcl' : cur.toList.length = N * sz'' := by simpa using hcs
          cases hv with
          | sub _ _ _ _ _ hx =>
          have tld : Tld w (Own X m hf') sz'' ((l.drop i).take q) ((cur.toList.drop (i * sz'')).take (q * sz'')) := by
            refine ⟨by rw [List.length_take, List.length_drop, hlen]; omega, fun x hx => hfits x (List.mem_of_mem_drop (List.mem_of_mem_take hx)), fun p r x y hx hy => ?_⟩
            rw [List.getElem?_take] at hx
            split at hx
            · rename_i hp
              rw [List.getElem?_drop] at hx
              obtain ⟨u, hu, ht⟩ := hcl (i + p) r x y hx hy
              have hr : r < sz'' := by have := (List.getElem?_eq_some_iff.1 hy).1; have := (hfits x (List.mem_of_getElem? hx)).1; omega
              refine ⟨u, ?_, ht⟩
              rw [List.getElem?_take, if_pos (idx_lt hp hr), List.getElem?_drop, ← Nat.add_assoc, ← Nat.add_mul]
              exact hu
            · cases hx
          rcases hx with ⟨rfl, ⟨A, c', rfl⟩, hnil⟩ | ⟨g', c', hc, rfl, hm' | ⟨n', c2, hm', hin', hcc⟩⟩
          · have q0 : q = 0 := by omega
            subst q0
            refine ⟨[], by simpa using tld, by simp, fun w' hw => ?_, by simp [Builtin.lenOf]⟩
            cases A with
            | none => simp [Builtin.firstCells]
            | some a => simpa using run_firstCells_some (P := P) w' sz'' 0 a _ c' [] (by simp) (by simp)
          · rw [hm] at hm'
            simp at hm'
            subst hm'
            refine ⟨_, tld, hlen, fun w' hw => run_firstCells_some w' sz'' q _ _ c' _ (by rw [List.length_take, List.length_drop]; omega) (fun j u hu => ?_), by simp [Builtin.lenOf]⟩
            rw [add_plain, cell_heap hw]
            rw [List.getElem?_take] at hu
            split at hu
            · rw [List.getElem?_drop] at hu
              unfold World.cell?
              simp only [hg]
              simpa using hu
            · cases hu
          · rw [hm] at hm'; cases hm'
        · cases h
      · cases h
    · cases h
theorem ok_copy [Tabs] {t t' : TypeId} {d s : Operand} {H : Heap} {k : Kont} (ho : o.op = .call { callee := .builtin .copy, args := #[d, s], argTypes := #[t, t'] }) {dA sA : AV} (h : evCopy P t dA sA H k) (hdA : ∀ (m : Nat → Option Value) (w : World) (O : Nat → Prop) (v : Value), HA m w O (opd tf d) v → HA m w O dA v) (hsA : ∀ (m : Nat → Option Value) (w : World) (O : Nat → Prop) (v : Value), HA m w O (opd tf s) v → HA m w O sA v) (hH : hf = lookH H) : ∃ v W R, OpLoc P o R tf hf v W [] ∧ k v W R [] := by
  have hop : ∀ tf', (∀ t ∈ tmpsOf o, tf' t = tf t) → ∀ z, z = d ∨ z = s → opd tf' z = opd tf z := fun tf' ht z hz => tmps_same ht (by rw [ho]; simp [Op.operands, Call.operands]; exact hz)
  subst hH
  unfold evCopy at h
  split at h
  · rename_i e hu
    split at h
    · rename_i sz he
      have hrun : ∀ (a : Act) (w w' : World) (A : Option Addr) (n c q : Nat) (vs : List Value) (ls : Nat), a.eval d = .slice A n c → (Builtin.lenOf (a.eval s)).run P w = .ok ls w → q = Nat.min ls n → (Builtin.firstCells sz q (a.eval s)).run P w = .ok vs.toArray w → (match A with | some x => (storeCells x vs).run P w = .ok () w' | none => w' = w) → (execOp a.eval o).run P w = .ok (.value (.int .i64 q)) w' := by
        intro a w w' A n c q vs ls hd hl hq hf hst
        subst hq
        unfold execOp
        rw [ho]
        cases A with
        | none => subst hst; simp [resolve, invoke, Go.builtin, Builtin.copy_, run_underlying hu, hd, hl, sizN_run he, hf]; rfl
        | some x => simp [resolve, invoke, Go.builtin, Builtin.copy_, run_underlying hu, hd, hl, sizN_run he, hf, hst]; rfl
      split at h
      · rename_i ys len R cond hsr
        -- a block's part: nothing is written, or what stands there is
        have part : ∀ (b i n q : Nat) (K K' : Blk) (hb : lookH H b = (false, K)) (hq : q = Nat.min len n) (hcond : cond q) (hsame : q = 0 → K' = K)
            (hsub : ∀ (m : Nat → Option Value) (w : World) (X : Nat → Prop) (hf' : Hp) (z : Value), HB m w (Own X m hf') b K → HA m w (Own X m hf') dA z → SubV m b sz i n z)
            (hwr : ∀ (tf' : Nat → AV) (hf' : Hp) (w0 : Bse) (X O0 D : Nat → Prop) (m : Nat → Option Value) (a : Act) (w : World) (g : Nat) (news : List Value), Rel w0 X O0 D m tf' hf' a w → hf' b = (false, K) → 0 < q → (m b = some (.pointer (some ⟨g, 0, none⟩)) ∨ ∃ n' c, m b = some (.slice (some ⟨g, 0, none⟩) n' c) ∧ i + n ≤ n') → Tld w (Own X m hf') sz (ys.take q) news → (ys.take q).length = q → (∀ x, o.dst = some x → x < a.tmps.size) →
              ∃ w', (storeCells ⟨g, i * sz, none⟩ news 0).run P w = .ok () w' ∧ Rel w0 X O0 (fun b => D b ∨ b ∈ ([] : List Nat)) m (upT tf' o.dst (.int .i64 q)) (upH hf' [(b, false, K')]) (a.put o.dst (.int .i64 q)) w'),
            OpLoc P o (b :: R) tf (lookH H) (.int .i64 q) [(b, false, K')] [] := by
          intro b i n q K K' hb hq hcond hsame hsub hwr
          refine ⟨fun b' hb' => .inl (by simp [ids] at hb'; simp [hb']), fun tf' hf' ht hh w0 X O0 D m a w Q hR hdd hN => ?_⟩
          have e1 := opd_told hR d
          have e2 := opd_told hR s
          rw [hop tf' ht d (by simp)] at e1
          rw [hop tf' ht s (by simp)] at e2
          replace e1 := hdA _ _ _ _ e1
          replace e2 := hsA _ _ _ _ e2
          have hhb : hf' b = (false, K) := by rw [hh b (by simp), hb]
          obtain ⟨news, hsq⟩ := srcA_told (P := P) hsr (q := q) (by rw [hq]; exact Nat.min_le_left _ _) hcond hR (fun b' hb' => hh b' (by simp [hb'])) e2
          have h3 := hR.blk b
          rw [hhb] at h3
          have hs := hsub m w X hf' _ h3 e1
          have none : q = 0 → ∀ A c, a.eval d = .slice A n c → o.wp P a w (fun a' w' => ∃ u m', a' = a.put o.dst u ∧ Rel w0 X O0 (fun b => D b ∨ b ∈ ([] : List Nat)) m' (upT tf' o.dst (.int .i64 q)) (upH hf' [(b, false, K')]) a' w') Q := by
            intro q0 A c hz
            have hn0 : news = [] := List.eq_nil_of_length_eq_zero (by rw [hsq.tld.len, hsq.cnt, q0, Nat.zero_mul])
            have hr := hrun a w w A n c q news len hz hsq.len hq (hsq.first w rfl) (by rw [hn0]; cases A <;> rfl)
            unfold Oper.wp
            rw [hr]
            refine ⟨_, m, rfl, ?_⟩
            rw [hsame q0]
            exact hR.again hhb hdd _
          rcases Nat.eq_zero_or_pos q with q0 | qp
          · rcases hs with ⟨hn0, ⟨A, c, hz⟩, _⟩ | ⟨g, c, hc, hz, hm⟩
            · exact none q0 A c (by rw [hn0]; exact hz)
            · exact none q0 _ c hz
          · rcases hs with ⟨hn0, _⟩ | ⟨g, c, hc, hz, hm⟩
            · have : q = 0 := by rw [hq, hn0]; exact Nat.min_eq_right (Nat.zero_le _)
              omega
            · obtain ⟨w', hst, hR'⟩ := hwr tf' hf' w0 X O0 D m a w g news hR hhb qp (hm.imp id fun ⟨n', c', h1, h2, _⟩ => ⟨n', c', h1, h2⟩) hsq.tld hsq.cnt hdd
              have hr := hrun a w w' _ n c q _ len hz hsq.len hq (hsq.first w rfl) hst
              unfold Oper.wp
              rw [hr]
              exact ⟨_, m, rfl, hR'⟩
        have rowc : ∀ (b ty i n q : Nat) (l : List T) (hb : lookH H b = (false, .row ty sz l)) (hq : q = Nat.min len n) (hcond : cond q), (∀ (m : Nat → Option Value) (w : World) (X : Nat → Prop) (hf' : Hp) (z : Value), HB m w (Own X m hf') b (.row ty sz l) → HA m w (Own X m hf') dA z → SubV m b sz i n z) → OpLoc P o (b :: R) tf (lookH H) (.int .i64 q) [(b, false, .row ty sz (l.take i ++ ys.take q ++ l.drop (i + q)))] [] := by
          intro b ty i n q l hb hq hcond hsub
          refine part b i n q _ _ hb hq hcond (fun q0 => by rw [q0]; simp) hsub ?_
          intro tf' hf' w0 X O0 D m a w g news hR hhb qp hm htl hql hdd
          have h3 := hR.blk b
          rw [hhb] at h3
          obtain ⟨v', xs, hm', how, _⟩ := h3
          rcases hm with hm | ⟨n', c2, hm, hin⟩
          · rw [hm] at hm'
            simp at hm'
            subst hm'
            rcases how.2 with ⟨e, _⟩ | ⟨_, _, _, e, _⟩ <;> cases e
          · rw [hm] at hm'
            simp at hm'
            have hnl : n' = l.length := by
              rcases how.2 with ⟨e, _⟩ | ⟨_, _, _, e, _⟩
              · rw [← hm'] at e; cases e
              · rw [← hm'] at e; simp at e; exact e.2.1
            have hqn : q ≤ n := by rw [hq]; exact Nat.min_le_right _ _
            obtain ⟨w', hst, hR'⟩ := hR.splice (P := P) (i := i) hhb hm htl (by rw [hql]; omega) hdd (.int .i64 q)
            rw [hql] at hR'
            exact ⟨w', hst, hR'⟩
        split at h
        · rename_i b
          split at h
          · rename_i ty sz' l hb
            split at h
            · rename_i hbe
              have := Nat.eq_of_beq_eq_true hbe
              subst this
              obtain ⟨q, hq, hcond, h⟩ := h
              have key := rowc b ty 0 l.length q l hb hq hcond (fun m w X hf' z h3 hz => by
                have hm := hz.own_eq
                obtain ⟨v, xs, hv, how, _⟩ := h3
                rw [hm] at hv
                simp at hv
                rcases how.2 with ⟨h5, h6⟩ | ⟨g, cap, cur, h5, _, _, hcap, _⟩
                · exact .inl ⟨h6, ⟨none, 0, by rw [hv, h5]⟩, fun _ => by rw [hv, h5]⟩
                · exact .inr ⟨g, cap, hcap, by rw [hv, h5, Nat.zero_mul], .inr ⟨_, _, by rw [hm, hv, h5], by omega, by omega⟩⟩)
              rw [List.take_zero, List.nil_append, Nat.zero_add] at key
              exact ⟨_, _, _, key, h⟩
            · exact h.elim
          · exact h.elim
        · rename_i b sz'' i n
          split at h
          · rename_i ty sz' l hb
            split at h
            · rename_i hbe
              simp only [Bool.and_eq_true] at hbe
              have e1 := Nat.eq_of_beq_eq_true hbe.1
              have e2 := Nat.eq_of_beq_eq_true hbe.2
              subst e1
              subst e2
              obtain ⟨q, hq, hcond, h⟩ := h
              refine ⟨_, _, _, rowc b ty i n q l hb hq hcond (fun m w X hf' z h3 hz => ?_), h⟩
              cases hz with
              | sub _ _ _ _ _ hz => exact hz
            · exact h.elim
          · rename_i ty sz' l N hb
            split at h
            · rename_i hbe
              simp only [Bool.and_eq_true] at hbe
              have e1 := Nat.eq_of_beq_eq_true hbe.1
              have e2 := Nat.eq_of_beq_eq_true hbe.2
              subst e1
              subst e2
              obtain ⟨q, hq, hcond, hi, hiN, h⟩ := h
              refine ⟨_, _, _, part b i n q _ _ hb hq hcond (fun q0 => by rw [q0]; simp) (fun m w X hf' z h3 hz => ?_) ?_, h⟩
              · cases hz with
                | sub _ _ _ _ _ hz => exact hz
              · intro tf' hf' w0 X O0 D m a w g news hR hhb qp hm htl hql hdd
                rcases hm with hm | ⟨n', c2, hm, hin⟩
                · obtain ⟨w', hst, hR'⟩ := hR.spliceArr (P := P) (i := i) hhb hm htl hi (by rw [hql]; exact hiN) hdd (.int .i64 q)
                  rw [hql] at hR'
                  exact ⟨w', hst, hR'⟩
                · have h3 := hR.blk b
                  rw [hhb] at h3
                  obtain ⟨g', cur, hm', _⟩ := h3
                  rw [hm] at hm'; cases hm'
            · exact h.elim
          · rename_i ty cells hb
            split at h
            · rename_i hbe
              simp only [Bool.and_eq_true] at hbe
              have e1 := Nat.eq_of_beq_eq_true hbe.1.1
              have e2 := Nat.eq_of_beq_eq_true hbe.1.2
              have e3 := Nat.le_of_ble_eq_true hbe.2
              subst e1
              subst e2
              obtain ⟨hys, q, hq, hcond, h⟩ := h
              rw [plainL_iff] at h
              refine ⟨_, _, _, part b i n q _ _ hb hq hcond (fun q0 => by rw [q0]; simp) (fun m w X hf' z h3 hz => ?_) ?_, h⟩
              · cases hz with
                | sub _ _ _ _ _ hz => exact hz
              · intro tf' hf' w0 X O0 D m a w g news hR hhb qp hm htl hql hdd
                have hqn : q ≤ n := by rw [hq]; exact Nat.min_le_right _ _
                rcases hm with hm | ⟨n', c2, hm, _⟩
                · have hones : ∀ y ∈ (ys.take q).map AV.t, y.one = true := by
                    intro y hy
                    obtain ⟨z, hz, rfl⟩ := List.mem_map.1 hy
                    exact hys z (List.mem_of_mem_take hz)
                  obtain ⟨w', hst, hR'⟩ := hR.spliceBox (P := P) (ys := (ys.take q).map .t) (news := news) (i := i) hhb hm hones (by rw [htl.len, List.length_map]; omega) (fun p y u hy hu => by
                    rw [List.getElem?_map] at hy
                    obtain ⟨z, hz, rfl⟩ := Option.map_eq_some_iff.1 hy
                    obtain ⟨u', hu', ht⟩ := htl.told p 0 z z hz (by rw [one_cells (hys z (List.mem_of_mem_take (List.mem_of_getElem? hz)))]; rfl)
                    rw [Nat.add_zero, Nat.mul_one p, hu] at hu'
                    simp at hu'
                    subst hu'
                    exact .t _ _ ht) (by rw [List.length_map, hql]; omega) hdd (.int .i64 q)
                  rw [List.length_map, hql] at hR'
                  exact ⟨w', by rw [Nat.mul_one]; exact hst, hR'⟩
                · have h3 := hR.blk b
                  rw [hhb] at h3
                  obtain ⟨g', vs, hm', _⟩ := h3
                  rw [hm] at hm'; cases hm'
            · exact h.elim
          · exact h.elim
        · exact h.elim
      · exact h.elim
    · exact h.elim
  · exact h.elim
def zeroT (z : Value) : T := mkT (z.cells.toList.map .v)
def evClear (P : Program) (t : TypeId) (d : AV) (H : Heap) (k : Kont) : Prop :=
  match P.underlying t with
  | some (.slice e) => (match P.info? e with
    | some i => match i.zero with
      | some z => match Nat.beq z.cells.size i.size && Nat.blt 0 i.size && z.cells.toList.all Value.oneCell' with
        | true => (match d with
          | .sub b sz i' n => match lookH H b with
            | (false, .row ty sz' l) => match Nat.beq sz' i.size && Nat.beq sz i.size with
              | true => k (.t (.v (.tuple #[]))) [(b, false, .row ty sz' (l.take i' ++ List.replicate n (zeroT z) ++ l.drop (i' + n)))] [b] []
              | false => False
            | _ => False
          | _ => False)
        | false => False
      | none => False
    | none => False)
  | _ => False
theorem zero_get [Tabs] {z : Value} {sz n i j : Nat} {y : Value} (hz : z.cells.size = sz) (hi : i < n) (hy : z.cells.toList[j]? = some y) : (Builtin.zeroCells z.cells n).toList[i * sz + j]? = some y := by
  have hj : j < sz := by have := (List.getElem?_eq_some_iff.1 hy).1; simp at this; omega
  have h1 : i * sz + j < n * sz := idx_lt hi hj
  simp only [Builtin.zeroCells, hz, Array.toList_map, Array.toList_range, List.getElem?_map, List.getElem?_range h1, Option.map_some]
  have h2 : (i * sz + j) % sz = j := by rw [Nat.mul_comm, Nat.mul_add_mod, Nat.mod_eq_of_lt hj]
  rw [h2]
  have h3 : j < z.cells.size := by omega
  rw [getElem!_pos z.cells j h3]
  simp only [Array.getElem?_toList] at hy
  rw [Array.getElem?_eq_getElem h3] at hy
  exact hy
theorem zero_tld [Tabs] {w : World} {O : Nat → Prop} {z : Value} {sz n : Nat} (hz : z.cells.size = sz) (h1 : ∀ y ∈ z.cells.toList, y.oneCell' = true) : Tld w O sz (List.replicate n (zeroT z)) (Builtin.zeroCells z.cells n).toList := by
  have hc : (zeroT z).cells = z.cells.toList.map .v := mkT_cells (fun y hy => by
    obtain ⟨u, hu, rfl⟩ := List.mem_map.1 hy
    exact h1 u hu)
  refine ⟨by simp [Builtin.zeroCells, hz], fun x hx => ?_, fun i j x y hx hy => ?_⟩
  · rw [List.eq_of_mem_replicate hx, T.fits, hc]
    exact ⟨by simpa using hz, fun y hy => by obtain ⟨u, hu, rfl⟩ := List.mem_map.1 hy; exact h1 u hu⟩
  · rw [List.getElem?_replicate] at hx
    split at hx
    · rename_i hi
      simp at hx
      subst hx
      rw [hc, List.getElem?_map] at hy
      obtain ⟨u, hu, rfl⟩ := Option.map_eq_some_iff.1 hy
      exact ⟨u, zero_get hz hi hu, .v _⟩
    · cases hx
theorem ok_clear [Tabs] {t : TypeId} {d : Operand} {H : Heap} {k : Kont} (ho : o.op = .call { callee := .builtin .clear, args := #[d], argTypes := #[t] }) (h : evClear P t (opd tf d) H k) (hH : hf = lookH H) : ∃ v W R, OpLoc P o R tf hf v W [] ∧ k v W R [] := by
  have hop : ∀ tf', (∀ t ∈ tmpsOf o, tf' t = tf t) → opd tf' d = opd tf d := fun tf' ht => tmps_same ht (by rw [ho]; simp [Op.operands, Call.operands])
  subst hH
  unfold evClear at h
  split at h
  · rename_i e hu
    split at h
    · rename_i i hi
      split at h
      · rename_i z hz
        split at h
        · rename_i hc
          simp only [Bool.and_eq_true] at hc
          obtain ⟨⟨c1, c2⟩, c3⟩ := hc
          have c1 := Nat.eq_of_beq_eq_true c1
          have c2 : 0 < i.size := Nat.le_of_ble_eq_true c2
          have c3 := List.all_eq_true.1 c3
          split at h
          · rename_i b sz i' n hx
            split at h
            · rename_i ty sz' l hb
              split at h
              · rename_i hbe
                simp only [Bool.and_eq_true] at hbe
                have e1 := Nat.eq_of_beq_eq_true hbe.1
                have e2 := Nat.eq_of_beq_eq_true hbe.2
                subst e1
                subst e2
                refine ⟨_, _, _, ⟨fun b' hb' => .inl (by simpa [ids] using hb'), fun tf' hf' ht hh w0 X O0 D m a w Q hR hdd hN => ?_⟩, h⟩
                have e1 := opd_told hR d
                rw [hop tf' ht, hx] at e1
                have hhb : hf' b = (false, .row ty i.size l) := by rw [hh b (by simp), hb]
                have h3 := hR.blk b
                rw [hhb] at h3
                generalize hzz : a.eval d = zz at e1
                cases e1 with
                | sub _ _ _ _ _ e1 =>
                rcases e1 with ⟨rfl, ⟨A, c, rfl⟩, hnil⟩ | ⟨g, c, hc, rfl, hm⟩
                · have hr : (execOp a.eval o).run P w = .ok (.value (.tuple #[])) w := by
                    unfold execOp
                    rw [ho]
                    cases A <;> simp [resolve, invoke, Go.builtin, Builtin.clear_, run_underlying hu, hzz]
                  unfold Oper.wp
                  rw [hr]
                  refine ⟨_, m, rfl, ?_⟩
                  have e : l.take i' ++ List.replicate 0 (zeroT z) ++ l.drop (i' + 0) = l := by simp
                  rw [e]
                  exact hR.again hhb hdd _
                · rcases hm with hm | ⟨n', c2', hm, hin, hcc⟩
                  · obtain ⟨v', xs, hm', how, _⟩ := h3
                    rw [hm] at hm'
                    simp at hm'
                    subst hm'
                    rcases how.2 with ⟨e, _⟩ | ⟨_, _, _, e, _⟩ <;> cases e
                  · have hnl : n' = l.length := by
                      obtain ⟨v', xs, hm', how, _⟩ := h3
                      rw [hm] at hm'
                      simp at hm'
                      rcases how.2 with ⟨e, _⟩ | ⟨_, _, _, e, _⟩
                      · rw [← hm'] at e; cases e
                      · rw [← hm'] at e; simp at e; exact e.2.1
                    obtain ⟨w', hst, hR'⟩ := hR.splice (P := P) (i := i') hhb hm (zero_tld (n := n) c1 c3) (by rw [List.length_replicate]; omega) hdd (.tuple #[])
                    rw [List.length_replicate] at hR'
                    have hr : (execOp a.eval o).run P w = .ok (.value (.tuple #[])) w' := by
                      unfold execOp
                      rw [ho]
                      cases n with
                      | zero =>
                        have h0 : (Builtin.zeroCells z.cells 0).toList = [] := by simp [Builtin.zeroCells]
                        rw [h0] at hst
                        have hw : w = w' := by simpa [storeCells] using hst
                        subst hw
                        simp [resolve, invoke, Go.builtin, Builtin.clear_, run_underlying hu, hzz]
                      | succ n =>
                        simp [resolve, invoke, Go.builtin, Builtin.clear_, run_underlying hu, hzz, zeroValue, typeInfo, hi, hz, hst]
                    unfold Oper.wp
                    rw [hr]
                    exact ⟨_, m, rfl, hR'⟩
              · exact h.elim
            · exact h.elim
          · exact h.elim
        · exact h.elim
      · exact h.elim
    · exact h.elim
  · exact h.elim
def intsT : List T → Option (List Int × List IntKind)
  | [] => some ([], [])
  | .v (.int κ n) :: l => match intsT l with
    | some (r, s) => some (n :: r, κ :: s)
    | none => none
  | _ => none
def intsA : List AV → Option (List Int × List IntKind)
  | [] => some ([], [])
  | .t (.v (.int κ n)) :: l => match intsA l with
    | some (r, s) => some (n :: r, κ :: s)
    | none => none
  | _ => none
def intsOf : AV → Option (List Int × List IntKind)
  | .t (.agg l) => intsT l
  | .agg l => intsA l
  | _ => none
def mkInts : List Int → List IntKind → List Value
  | n :: r, κ :: s => .int κ n :: mkInts r s
  | _, _ => []
theorem intsT_told {w : World} {O : Nat → Prop} : ∀ {l : List T} {r : List Int} {s : List IntKind} {vs : List Value}, intsT l = some (r, s) → vs.length = l.length → (∀ (i : Nat) x y, l[i]? = some x → vs[i]? = some y → HT w O x y) → vs = mkInts r s ∧ r.length = l.length ∧ s.length = l.length
  | [], r, s, vs, h, hl, hv => by simp [intsT] at h; obtain ⟨rfl, rfl⟩ := h; simp at hl; subst hl; exact ⟨rfl, rfl, rfl⟩
  | x :: l, r, s, [], h, hl, hv => by cases hl
  | x :: l, r, s, v :: vs, h, hl, hv => by
    have h0 := hv 0 x v rfl rfl
    cases x with
    | v xv =>
      cases xv with
      | int κ n =>
        unfold intsT at h
        split at h
        · rename_i r' s' hs
          simp at h
          obtain ⟨rfl, rfl⟩ := h
          obtain ⟨e1, e2, e3⟩ := intsT_told hs (by simpa using hl) (fun i x y hx hy => hv (i + 1) x y (by simpa using hx) (by simpa using hy))
          cases h0
          exact ⟨by rw [e1]; rfl, by simp [e2], by simp [e3]⟩
        · cases h
      | _ => cases h
    | _ => cases h
theorem intsA_told [Tabs] {m : Nat → Option Value} {w : World} {O : Nat → Prop} : ∀ {l : List AV} {r : List Int} {s : List IntKind} {vs : List Value}, intsA l = some (r, s) → vs.length = l.length → (∀ (i : Nat) x y, l[i]? = some x → vs[i]? = some y → HA m w O x y) → vs = mkInts r s ∧ r.length = l.length ∧ s.length = l.length
  | [], r, s, vs, h, hl, hv => by simp [intsA] at h; obtain ⟨rfl, rfl⟩ := h; simp at hl; subst hl; exact ⟨rfl, rfl, rfl⟩
  | x :: l, r, s, [], h, hl, hv => by cases hl
  | x :: l, r, s, v :: vs, h, hl, hv => by
    have h0 := hv 0 x v rfl rfl
    cases x with
    | t xt =>
      cases xt with
      | v xv =>
        cases xv with
        | int κ n =>
          unfold intsA at h
          split at h
          · rename_i r' s' hs
            simp at h
            obtain ⟨rfl, rfl⟩ := h
            obtain ⟨e1, e2, e3⟩ := intsA_told hs (by simpa using hl) (fun i x y hx hy => hv (i + 1) x y (by simpa using hx) (by simpa using hy))
            have := h0.v_eq
            subst this
            exact ⟨by rw [e1]; rfl, by simp [e2], by simp [e3]⟩
          · cases h
        | _ => cases h
      | _ => cases h
    | _ => cases h
theorem intsOf_told [Tabs] {m : Nat → Option Value} {w : World} {O : Nat → Prop} {x : AV} {v : Value} {r : List Int} {s : List IntKind} (h : intsOf x = some (r, s)) (hv : HA m w O x v) : v = .agg (mkInts r s).toArray ∧ r.length = s.length := by
  unfold intsOf at h
  split at h
  · obtain ⟨vs, rfl, hl, hh⟩ := hv.t_ht.list_of_agg
    obtain ⟨e1, e2, e3⟩ := intsT_told h hl hh
    exact ⟨by rw [e1], by omega⟩
  · obtain ⟨vs, rfl, hl, hh⟩ := hv.list_of_agg
    obtain ⟨e1, e2, e3⟩ := intsA_told h hl hh
    exact ⟨by rw [e1], by omega⟩
  · cases h
def isIntD : Option TypeDesc → Bool
  | some (.int _) => true
  | _ => false
def intFields (P : Program) : List Field → Nat → Bool
  | [], _ => true
  | f :: fs, i => !(f.name == "_") && Nat.beq f.offset i && isIntD (P.underlying f.type) && intFields P fs (i + 1)
def sameKs : List IntKind → List IntKind → Bool
  | [], [] => true
  | a :: l, b :: m => decide (a = b) && sameKs l m
  | _, _ => false
theorem sameKs_eq : ∀ {l m : List IntKind}, sameKs l m = true → l = m
  | [], [], _ => rfl
  | a :: l, b :: m, h => by unfold sameKs at h; simp only [Bool.and_eq_true, decide_eq_true_eq] at h; rw [h.1, sameKs_eq h.2]
  | [], _ :: _, h => by cases h
  | _ :: _, [], h => by cases h
def evEqR (P : Program) (op : BinOp) (t : TypeId) (x y : AV) (k : Kont) : Prop :=
  match P.underlying t with
  | some (.struct fs) => (match intsOf x, intsOf y with
    | some (a, s), some (b, s') => (match sameKs s s' && Nat.beq fs.toList.length s.length && intFields P fs.toList 0 with
      | true => (P.stoodInHeld t = false ∧ P.eqGuardType P.depth t = false) ∧ (match op with
        | .eql => ∀ c, c = decide (a = b) → k (.bool c) [] [] []
        | .neq => ∀ c, c = (!decide (a = b)) → k (.bool c) [] [] []
        | _ => False)
      | false => False)
    | _, _ => False)
  | _ => False
theorem mkInts_get {a : List Int} {s : List IntKind} {i : Nat} {n : Int} {κ : IntKind} (h1 : a[i]? = some n) (h2 : s[i]? = some κ) : (mkInts a s)[i]? = some (.int κ n) := by
  induction a generalizing s i with
  | nil => simp at h1
  | cons x a ih =>
    cases s with
    | nil => simp at h2
    | cons y s =>
      cases i with
      | zero => simp at h1 h2; subst h1; subst h2; rfl
      | succ i => simpa [mkInts] using ih (by simpa using h1) (by simpa using h2)
theorem eqFields_run [Tabs] {w : World} {a b : List Int} {s : List IntKind} {d : Nat} (hab : a.length = b.length) (has : a.length = s.length) : ∀ (fs : List Field) (i : Nat), intFields P fs i = true → i + fs.length = a.length → (Op.eqFields (d + 1) (mkInts a s).toArray (mkInts b s).toArray fs).run P w = .ok (decide (a.drop i = b.drop i)) w
  | [], i, _, h => by
    rw [List.drop_of_length_le (by simp at h; omega), List.drop_of_length_le (by simp at h; omega)]
    simp [Op.eqFields]
  | f :: fs, i, hf, h => by
    unfold intFields at hf
    simp only [Bool.and_eq_true, Bool.not_eq_true'] at hf
    obtain ⟨⟨⟨h1, h2⟩, h3⟩, h4⟩ := hf
    have h2 := Nat.eq_of_beq_eq_true h2
    have hn : f.name ≠ "_" := fun e => by rw [e] at h1; simp at h1
    obtain ⟨κ', hu⟩ : ∃ κ, P.underlying f.type = some (.int κ) := by
      unfold isIntD at h3
      split at h3
      · rename_i κ hk; exact ⟨κ, hk⟩
      · cases h3
    have hi : i < a.length := by simp at h; omega
    have hib : i < b.length := by omega
    have his : i < s.length := by omega
    have ih := eqFields_run (w := w) (d := d) hab has fs (i + 1) h4 (by simp at h; omega)
    have part : ∀ (c : List Int) (hc : i < c.length), (Go.part f.type (mkInts c s).toArray f.offset).run P w = .ok (.int s[i] c[i]) w := fun c hc => by
      have hag : (isAgg f.type).run P w = .ok false w := by simp [isAgg, run_underlying hu]
      have hg := mkInts_get (List.getElem?_eq_getElem hc) (List.getElem?_eq_getElem his)
      simp [Go.part, hag, h2, hg]
    simp only [Op.eqFields, if_pos hn, Sem.run_bind, part a hi, part b hib, Result.andThen_ok, run_equalIn_int w d f.type s[i] κ' a[i] b[i] hu]
    rw [List.drop_eq_getElem_cons hi, List.drop_eq_getElem_cons hib]
    by_cases e : a[i] = b[i]
    · have : (a[i] == b[i]) = true := by simpa using e
      rw [this]
      simp only [Bool.not_true, Bool.false_eq_true, if_false, ih, List.cons.injEq, e, true_and]
    · have : (a[i] == b[i]) = false := by simpa using e
      rw [this]
      simp only [Bool.not_false, if_true, Sem.run_pure, List.cons.injEq, e, false_and, decide_false]
theorem ok_eqR [Tabs] {op : BinOp} {t t' : TypeId} {x y : Operand} {k : Kont} (ho : o.op = .binOp op t x y t') (h : evEqR P op t (opd tf x) (opd tf y) k) : ∃ v, OpLoc P o [] tf hf v [] [] ∧ k v [] [] [] := by
  have hop : ∀ tf', (∀ t ∈ tmpsOf o, tf' t = tf t) → ∀ z, z = x ∨ z = y → opd tf' z = opd tf z := fun tf' ht z hz => tmps_same ht (by rw [ho]; simp [Op.operands]; exact hz)
  unfold evEqR at h
  split at h
  · rename_i fs hu
    split at h
    · rename_i a s b s' ha hb
      split at h
      · rename_i hc
        simp only [Bool.and_eq_true, Bool.not_eq_true'] at hc
        obtain ⟨⟨c1, c2⟩, c3⟩ := hc
        obtain ⟨⟨c4, c5⟩, h⟩ := h
        have c1 := sameKs_eq c1
        subst c1
        have c2 := Nat.eq_of_beq_eq_true c2
        have main : ∀ (u : Value), (op = .eql ∧ u = .bool (decide (a = b)) ∨ op = .neq ∧ u = .bool (!decide (a = b))) → OpLoc P o [] tf hf (.t (.v u)) [] [] := by
          intro u hu'
          refine loc_val fun tf' hf' ht => .val fun w0 X O0 D m aa w hR => ⟨u, ?_, .t _ _ (.v u)⟩
          have h1 := opd_told hR x
          have h2 := opd_told hR y
          rw [hop tf' ht x (by simp)] at h1
          rw [hop tf' ht y (by simp)] at h2
          obtain ⟨e1, l1⟩ := intsOf_told ha h1
          obtain ⟨e2, l2⟩ := intsOf_told hb h2
          have hfo : P.fieldsOf t = fs := by unfold Program.fieldsOf; rw [hu]
          have he : (Op.equalIn 10000 t (.agg (mkInts a s).toArray) (.agg (mkInts b s).toArray)).run P w = .ok (decide (a = b)) w := by
            have := run_equalIn_struct (P := P) w 9999 t (mkInts a s).toArray (mkInts b s).toArray (by rw [hfo]; exact hu) c4
            rw [this, hfo]
            have := eqFields_run (P := P) (w := w) (a := a) (b := b) (s := s) (d := 9998) (by omega) l1 fs.toList 0 c3 (by omega)
            simpa using this
          unfold execOp
          rw [ho]
          simp only
          have hg := fun op => run_eqGuard_agg (P := P) w op t x y (mkInts a s).toArray (mkInts b s).toArray c5
          rcases hu' with ⟨rfl, rfl⟩ | ⟨rfl, rfl⟩
          · simp [e1, e2, hg, run_eql_struct, he]
          · simp [e1, e2, hg, run_neq_struct, he]
        split at h
        · exact ⟨_, main _ (.inl ⟨rfl, rfl⟩), h _ rfl⟩
        · exact ⟨_, main _ (.inr ⟨rfl, rfl⟩), h _ rfl⟩
        · exact h.elim
      · exact h.elim
    · exact h.elim
  · exact h.elim
end
end Go.YtppifophcphdkaaE
namespace Go.YtppifophcphdkaaE
open Go.RowKit
set_option linter.unusedVariables false
set_option linter.unusedSimpArgs false
def asSub : AV → AV
  | .fsub b sz i n _ => .sub b sz i n
  | x => x
theorem asSub_told {m : Nat → Option Value} {w : World} {O : Nat → Prop} {x : AV} {v : Value} (h : HA m w O x v) : HA m w O (asSub x) v := by
  cases h with
  | fsub b sz i n N v h => exact .sub _ _ _ _ _ h.sub
  | un => exact .un _
  | t _ _ h => exact .t _ _ h
  | own _ _ h h1 => exact .own _ _ h h1
  | ptr _ _ _ h => exact .ptr _ _ _ h
  | rp _ _ _ _ _ _ _ h => exact .rp _ _ _ _ _ _ _ h
  | sub _ _ _ _ _ h => exact .sub _ _ _ _ _ h
  | ab _ _ _ h h' => exact .ab _ _ _ h h'
  | agg _ _ hl h => exact .agg _ _ hl h
  | tuple _ _ hl h => exact .tuple _ _ hl h
  | iface _ _ _ h => exact .iface _ _ _ h
  | fn _ _ _ _ _ hl h hm h' => exact .fn _ _ _ _ _ hl h hm h'
def isIntA : AV → Option Int
  | .t (.v (.int _ n)) => some n
  | _ => none
theorem isIntA_eq {x : AV} {n : Int} (h : isIntA x = some n) : ∃ κ, x = .t (.v (.int κ n)) := by
  unfold isIntA at h
  split at h
  · rename_i κ n' ; simp at h; subst h; exact ⟨κ, rfl⟩
  · cases h
def evCap (P : Program) (t : TypeId) (x : AV) (k : Kont) : Prop :=
  match P.underlying t with
  | some (.slice _) => (match x with
    | .fsub _ _ i _ N => k (.int .i64 ((N - i : Nat) : Int)) [] [] []
    | .t (.v (.slice _ _ c)) => k (.int .i64 c) [] [] []
    | _ => False)
  | _ => False
theorem told_of' [Tabs] {P : Program} {o : Oper} {tm : Tmps} {H : Heap} {k : Kont} {v : AV} {W : Heap} {R N : List Nat} (h : OpLoc P o R (lookT tm) (lookH H) v W N) (hk : k v W R N) : Told P o tm H k := ⟨v, W, R, N, h, hk⟩
section
variable {P : Program} {o : Oper} {tf : Nat → AV} {hf : Hp}
theorem ok_cap [Tabs] {t : TypeId} {x : Operand} {k : Kont} (ho : o.op = .call { callee := .builtin .cap, args := #[x], argTypes := #[t] }) (h : evCap P t (opd tf x) k) : ∃ v, OpLoc P o [] tf hf v [] [] ∧ k v [] [] [] := by
  have hop : ∀ tf', (∀ t ∈ tmpsOf o, tf' t = tf t) → opd tf' x = opd tf x := fun tf' ht => tmps_same ht (by rw [ho]; simp [Op.operands, Call.operands])
  have hrun : ∀ (a : Act) (w : World) (u : Value), (Builtin.cap_ #[t] o.type #[a.eval x]).run P w = .ok u w → (execOp a.eval o).run P w = .ok (.value u) w := by
    intro a w u hu
    unfold execOp
    rw [ho]
    simp [resolve, invoke, Go.builtin, hu]
  unfold evCap at h
  split at h
  · rename_i e hu
    split at h
    · rename_i b sz i n N hx
      refine ⟨_, loc_val fun tf' hf' ht => .val fun w0 X O0 D m a w hR => ⟨_, hrun a w _ ?_, .t _ _ (.v _)⟩, h⟩
      have h1 := opd_told hR x
      rw [hop tf' ht, hx] at h1
      generalize a.eval x = z at h1
      cases h1 with
      | fsub _ _ _ _ _ _ h1 =>
      obtain ⟨g, o', rfl, _⟩ := h1
      simp [Builtin.cap_, run_underlying hu]; rfl
    · rename_i A n c hx
      refine ⟨_, loc_val fun tf' hf' ht => .val fun w0 X O0 D m a w hR => ⟨_, hrun a w _ ?_, .t _ _ (.v _)⟩, h⟩
      have h1 := opd_told hR x
      rw [hop tf' ht, hx] at h1
      simp [Builtin.cap_, run_underlying hu, h1.v_eq]; rfl
    · exact h.elim
  · exact h.elim
def isIntTy (P : Program) (t : TypeId) : Bool :=
  match P.underlying t with
  | some (.int _) => true
  | _ => false
def dst0 (H : Heap) (e sz n : Nat) (s : AV) : Option (List T × List Nat × Nat × Prop) :=
  match s with
  | .t (.v (.slice none 0 0)) => some ([], [], 0, True)
  | .fsub b sz' i c N => match lookH H b with
    | (_, .arr e' sz'' l _) => match Nat.beq sz' sz && Nat.beq sz'' sz && Nat.beq e' e with
      | true => some ((l.drop i).take c, [b], N - i, i + c ≤ l.length)
      | false => none
    | _ => none
  | _ => none
def evAppend0 (P : Program) (t t' : TypeId) (s : AV) (n : Int) (H : Heap) (d : Option Tmp) (k : Kont) : Prop :=
  match P.underlying t, d with
  | some (.slice e), some d => (match P.info? e with
    | some i => match i.zero with
      | some z => match Nat.beq z.cells.size i.size && Nat.blt 0 i.size && Nat.blt 0 i.bytes && isIntTy P t' && z.cells.toList.all Value.oneCell' with
        | true => match dst0 H e i.size 0 s with
          | some (l, R, c, p) => ∃ n' : Nat, (n' : Int) = n ∧ p ∧ c < l.length + n' ∧ (l.length + n') * i.bytes ≤ 140737488355328 ∧ k (.own d) [(d, false, .row e i.size (l ++ List.replicate n' (zeroT z)))] R [d]
          | none => False
        | false => False
      | none => False
    | none => False)
  | _, _ => False
theorem run_append0 {w : World} {O : Nat → Prop} {t t' ty e : TypeId} {i : TypeInfo} {z : Value} {sz : Nat} {xs : List Value} {l : List T} {A : Option Addr} {c : Nat} {κ : IntKind} {n : Int} (ht : P.underlying t = some (.slice e)) (hi : P.info? e = some i) (hz : i.zero = some z) (hsz : i.size = sz) (hzs : z.cells.size = sz) (h0 : 0 < sz) (hb0 : 0 < i.bytes) (hti : isIntTy P t' = true)
    (hx : xs.length = l.length * sz) (hf : (Builtin.firstCells sz l.length (.slice A l.length c)).run P w.drew = .ok xs.toArray w.drew) (hn : 0 ≤ n) (hc : (c : Int) < l.length + n) (hlc : l.length ≤ c) (hb : (l.length + n) * i.bytes ≤ 140737488355328) :
    ∃ cap, l.length + n.toNat ≤ cap ∧ cap ≤ maxLen ∧ (Builtin.append_ #[t, t'] ty #[.slice A l.length c, .int κ n]).run P w = .ok (.slice (some ⟨w.heap.size, 0, none⟩) (l.length + n.toNat) cap) (w.drew.alloc (.cells (xs.toArray ++ Builtin.zeroCells z.cells n.toNat ++ Builtin.zeroCells z.cells (cap - (l.length + n.toNat))) e)) := by
  obtain ⟨q, rfl⟩ : ∃ q : Nat, n = q := ⟨n.toNat, by omega⟩
  simp only [Int.toNat_natCast]
  have hbn : (l.length + q) * i.bytes ≤ 140737488355328 := by
    rw [← Int.natCast_add, ← Int.natCast_mul] at hb
    omega
  have hq1 : l.length + q ≤ (l.length + q) * i.bytes := Nat.le_mul_of_pos_right _ hb0
  have hle : l.length + q ≤ maxLen := by unfold maxLen; omega
  have hcn : c < l.length + q := by omega
  refine ⟨grownCap w (l.length + q) c e, grownCap_ge w _ c e, grownCap_le_maxLen w _ c e hle, ?_⟩
  obtain ⟨kn, hkn⟩ : ∃ kn, P.underlying t' = some (.int kn) := by
    unfold isIntTy at hti
    split at hti
    · rename_i kn h; exact ⟨kn, h⟩
    · cases hti
  have hw : IntKind.i64.wrap (q : Int) = q := by rw [IntKind.wrap_i64]; omega
  have hfit := growslice_fits hcn hbn
  have hq0 : q ≠ 0 := by omega
  have h48' : q * i.bytes ≤ (l.length + q) * i.bytes := Nat.mul_le_mul_right _ (by omega)
  have h48 : ¬ (281474976710656 < (q : Int) * (i.bytes : Int)) := by
    rw [← Int.natCast_mul]; omega
  have hneg : ¬ ((q : Int) < 0) := by omega
  have hns : ¬ (q * i.size = 0) := Nat.mul_ne_zero hq0 (by omega)
  have h63' : ¬ (9223372036854775807 < (l.length : Int) + (q : Int)) := by unfold maxLen at hle; omega
  have hn1 : ¬ (l.length + q ≤ c) := by omega
  have hfit' : ¬ (281474976710656 < Builtin.nextslicecap (l.length + q) c * i.bytes) := by omega
  subst hsz
  simp [Builtin.append_, run_underlying ht, run_underlying hkn, sizeOf, typeInfo, zeroValue, hi, hz, asInt, asIntOf, hw, hneg, hns, h63', h48, hn1, hfit', hf, newRow, grownCap, Question.forced]
theorem ok_append0 [Tabs] {t t' : TypeId} {s x : Operand} {n : Int} {H : Heap} {k : Kont} (ho : o.op = .call { callee := .builtin .append, args := #[s, x], argTypes := #[t, t'] }) (hx : isIntA (opd tf x) = some n) (h : evAppend0 P t t' (opd tf s) n H o.dst k) (hH : hf = lookH H) : ∃ v W R N, OpLoc P o R tf hf v W N ∧ k v W R N := by
  have hop : ∀ tf', (∀ t ∈ tmpsOf o, tf' t = tf t) → ∀ z, z = s ∨ z = x → opd tf' z = opd tf z := fun tf' ht z hz => tmps_same ht (by rw [ho]; simp [Op.operands, Call.operands]; exact hz)
  subst hH
  obtain ⟨κ, hx⟩ := isIntA_eq hx
  unfold evAppend0 at h
  split at h
  · rename_i e d hu hd
    split at h
    · rename_i i hi
      split at h
      · rename_i z hz
        split at h
        · rename_i hc
          simp only [Bool.and_eq_true] at hc
          obtain ⟨⟨⟨⟨c1, c2⟩, c3⟩, c4⟩, c5⟩ := hc
          have c1 := Nat.eq_of_beq_eq_true c1
          have c2 : 0 < i.size := Nat.le_of_ble_eq_true c2
          have c3 : 0 < i.bytes := Nat.le_of_ble_eq_true c3
          have c5 := List.all_eq_true.1 c5
          split at h
          · rename_i l R c pc hds
            obtain ⟨n', hn', hpc, h1, h2, h⟩ := h
            obtain rfl : n' = n.toNat := by omega
            have h0 : 0 ≤ n := by omega
            have h1 : (c : Int) < l.length + n := by omega
            have h2 : ((l.length : Int) + n) * i.bytes ≤ 140737488355328 := by
              have e : n = (n.toNat : Int) := by omega
              rw [e, ← Int.natCast_add, ← Int.natCast_mul]; omega
            refine ⟨_, _, _, _, loc_new fun tf' hf' ht hh w0 X O0 D m a w hR => ?_, h⟩
            have e1 := opd_told hR s
            have e2 := opd_told hR x
            rw [hop tf' ht s (by simp)] at e1
            rw [hop tf' ht x (by simp), hx] at e2
            have e2 := e2.v_eq
            -- what stands there
            have old : ∃ A xs, a.eval s = .slice A l.length c ∧ l.length ≤ c ∧ Tld w (Own X m hf') i.size l xs ∧ (Builtin.firstCells i.size l.length (.slice A l.length c)).run P w.drew = .ok xs.toArray w.drew := by
              unfold dst0 at hds
              split at hds
              · rename_i hs
                simp only [Option.some.injEq, Prod.mk.injEq] at hds
                obtain ⟨rfl, rfl, rfl, rfl⟩ := hds
                rw [hs] at e1
                exact ⟨none, [], e1.v_eq, Nat.le_refl _, ⟨by simp, by simp, fun i j x y hx => by simp at hx⟩, by simp [Builtin.firstCells]⟩
              · rename_i b sz' i' n' N hs
                rw [hs] at e1
                split at hds
                · rename_i fz e' sz'' l' NN hb
                  split at hds
                  · rename_i hbe
                    simp only [Bool.and_eq_true] at hbe
                    have q1 := Nat.eq_of_beq_eq_true hbe.1.1
                    have q2 := Nat.eq_of_beq_eq_true hbe.1.2
                    simp only [Option.some.injEq, Prod.mk.injEq] at hds
                    obtain ⟨rfl, rfl, rfl, rfl⟩ := hds
                    subst q1
                    have hlen : ((l'.drop i').take n').length = n' := by rw [List.length_take, List.length_drop]; have : i' + n' ≤ l'.length := hpc; omega
                    have hsrc : srcA H i.size (.sub b i.size i' n') = some (l'.drop i', n', [b], fun q => i' + q ≤ l'.length) := by
                      unfold srcA srcOf
                      simp only [hb]
                      rw [q2]
                      simp
                    obtain ⟨news, hs'⟩ := srcA_told (P := P) hsrc (Nat.le_refl n') hpc hR (fun b' hb' => hh b' hb') (asSub_told e1)
                    generalize hzz : a.eval s = zz at e1 hs'
                    cases e1 with
                    | fsub _ _ _ _ _ _ e1 =>
                    obtain ⟨g, o', rfl, hm, hin, hN, ho'⟩ := e1
                    rw [hlen]
                    refine ⟨some ⟨g, o', none⟩, news, rfl, by omega, hs'.tld, ?_⟩
                    exact hs'.first w.drew rfl
                  · cases hds
                · cases hds
              · cases hds
            obtain ⟨A, xs, hy, hlc, htl, hfc⟩ := old
            obtain ⟨cap, hc1, hc2, hrun⟩ := run_append0 (P := P) (w := w) (O := Own X m hf') (ty := o.type) (κ := κ) (n := n) hu hi hz rfl c1 c2 c3 c4 htl.len hfc h0 h1 hlc h2
            have hzt : Tld w (Own X m hf') i.size (List.replicate n.toNat (zeroT z)) (Builtin.zeroCells z.cells n.toNat).toList := zero_tld c1 c5
            have hbut := But.alloc w.drew (.cells (xs.toArray ++ Builtin.zeroCells z.cells n.toNat ++ Builtin.zeroCells z.cells (cap - (l.length + n.toNat))) e) (fun _ => False)
            have hbut : But w (fun _ => False) (w.drew.alloc (.cells (xs.toArray ++ Builtin.zeroCells z.cells n.toNat ++ Builtin.zeroCells z.cells (cap - (l.length + n.toNat))) e)) := ⟨rfl, rfl, rfl, hbut.size, hbut.block⟩
            refine ⟨.slice (some ⟨w.heap.size, 0, none⟩) (l.length + n.toNat) cap, .slice (some ⟨w.heap.size, 0, none⟩) (l.length + n.toNat) cap, _, ?_, hbut, fun c hc => ?_, ?_, ?_⟩
            · unfold execOp
              rw [ho]
              simp [resolve, invoke, Go.builtin, hy, e2, hrun]
            · simp [blockOf] at hc; omega
            · intro m' O' hO hext hm
              have hzl : (Builtin.zeroCells z.cells n.toNat).toList.length = n.toNat * i.size := by rw [hzt.len, List.length_replicate]
              refine ⟨_, xs ++ (Builtin.zeroCells z.cells n.toNat).toList, hm, ⟨by rw [List.length_append, htl.len, hzl, List.length_append, List.length_replicate, Nat.add_mul], .inr ⟨w.heap.size, cap, _, by rw [List.length_append, List.length_replicate], Nat.zero_le _, heap_alloc_new w.drew _, by rw [List.length_append, List.length_replicate]; exact hc1, hc2, ?_, ?_⟩⟩, fun x hx => ?_, fun p q x y hx hy => ?_⟩
              · simp only [Array.size_append, List.size_toArray, size_zeroCells, c1, htl.len, ← Nat.add_mul]
                congr 1; omega
              · simp only [Array.toList_append, List.length_append, List.length_replicate]
                rw [List.take_append_of_le_length (by rw [List.length_append, hzl]; show _ ≤ xs.length + _; rw [htl.len, ← Nat.add_mul]; exact Nat.le_refl _)]
                exact List.take_of_length_le (by rw [List.length_append, hzl]; show xs.length + _ ≤ _; rw [htl.len, ← Nat.add_mul]; exact Nat.le_refl _)
              · exact (List.mem_append.1 hx).elim (htl.fits x) (hzt.fits x)
              · have mono : ∀ y u, HT w (Own X m hf') y u → HT _ O' y u := fun y u hy => hy.mono (hbut.keep fun _ h => h.elim) hO
                rw [List.getElem?_append] at hx
                split at hx
                · obtain ⟨u, hu', ht⟩ := htl.told p q x y hx hy
                  exact ⟨u, by rw [List.getElem?_append, if_pos (List.getElem?_eq_some_iff.1 hu').1]; exact hu', mono _ _ ht⟩
                · rename_i hp
                  obtain ⟨u, hu', ht⟩ := hzt.told (p - l.length) q x y hx hy
                  refine ⟨u, ?_, mono _ _ ht⟩
                  have e0 : p * i.size = (p - l.length) * i.size + l.length * i.size := by rw [← Nat.add_mul]; congr 1; omega
                  rw [List.getElem?_append, if_neg (by rw [htl.len]; omega), htl.len, show p * i.size + q - l.length * i.size = (p - l.length) * i.size + q by omega]
                  exact hu'
            · intro m' O' hO hext hm
              exact .own _ _ hm rfl
          · exact h.elim
        · exact h.elim
      · exact h.elim
    · exact h.elim
  · exact h.elim
theorem Told.overlaps [Tabs] {tm : Tmps} {H : Heap} {k : Kont} {f : FuncId} {fn : Func} {as0 : Array Operand} {ts : Array TypeId} {b1 b2 sz i c N ty1 ty2 sz1 sz2 N2 : Nat} {l1 l2 : List T} {tS tR e : TypeId} {esz : Nat} (ho : o.op = .call { callee := .value (.func f), args := as0, argTypes := ts }) (hfn : P.funcs[f]? = some fn) (hnm : (fn.name == "runtime.NumGoroutine") = false) (hbody : fn.body.isNone = true) (hnx : Extern.findNext fn = none) (hext : Extern.find fn = some (Extern.SlicesOverlaps.overlaps #[tS, tS] #[tR]))
    (hS : P.underlying tS = some (.slice e)) (hE : sizN P e = some esz) (ha : as0.toList.map (opd (lookT tm)) = [.own b1, .fsub b2 sz i c N]) (h1 : lookH H b1 = (false, .row ty1 sz1 l1)) (h2 : lookH H b2 = (false, .arr ty2 sz2 l2 N2)) (hne : Nat.beq b1 b2 = false) (hl : l1 ≠ []) (hl2 : l2 ≠ []) (hs2 : Nat.blt 0 sz2 = true)
    (hk : k (.bool false) [] [b1, b2] []) : Told P o tm H k := by
  refine told_of' ?_ hk
  refine loc_read fun tf' hf' ht hh w0 X O0 D m a w hR => ⟨.bool false, ?_, .t _ _ (.v _)⟩
  have hb12 : b1 ≠ b2 := fun e => by subst e; simp at hne
  have hvals := (opds_told hR as0.toList).2
  have hmap : as0.toList.map (opd tf') = [.own b1, .fsub b2 sz i c N] := by
    rw [← ha]
    exact List.map_congr_left fun x hx => tmps_same ht (by rw [ho]; simp [Op.operands, Call.operands]; exact .inr (by simpa using hx))
  have hlen : as0.toList.length = 2 := by have := congrArg List.length ha; simpa using this
  obtain ⟨x, y, hxy⟩ : ∃ x y, as0.toList = [x, y] := by
    match as0.toList, hlen with
    | [x, y], _ => exact ⟨x, y, rfl⟩
  rw [hxy] at hmap hvals
  simp only [List.map_cons, List.map_nil, List.cons.injEq, and_true] at hmap
  have v1 := hvals 0 _ _ rfl rfl
  have v2 := hvals 1 _ _ rfl rfl
  rw [hmap.1] at v1
  rw [hmap.2] at v2
  have q1 := hR.blk b1
  rw [hh b1 (by simp), h1] at q1
  have q2 := hR.blk b2
  rw [hh b2 (by simp), h2] at q2
  have hm1 := v1.own_eq
  generalize hz : a.eval y = z at v2
  cases v2 with
  | fsub _ _ _ _ _ _ v2 =>
  obtain ⟨g2, o2, rfl, hm2, hin, hN, _⟩ := v2
  obtain ⟨u1, xs1, hu1, how1, _⟩ := q1
  obtain ⟨g2', cur2, hu2, hg2, hcs2, hlN2, _⟩ := q2
  rw [hm1] at hu1
  rw [hm2] at hu2
  simp at hu1 hu2
  subst hu2
  rcases how1.2 with ⟨_, hno⟩ | ⟨g1, cap1, cur1, e1, _, hg1, _⟩
  · exact absurd (List.eq_nil_of_length_eq_zero hno) hl
  have hgne : g1 ≠ g2 := fun e => hR.sep b1 b2 hb12 (by rw [hh b1 (by simp), h1]) (by rw [hh b1 (by simp), h1]; trivial) (by rw [hh b2 (by simp), h2]; trivial) g1 (by simp [bk, hm1, hu1, e1, blockOf]) (by simp [bk, hm2, blockOf, e])
  have hkB : cur2.size ≠ 0 := by
    rw [hcs2]
    have : 0 < sz2 := Nat.le_of_ble_eq_true hs2
    have : 0 < l2.length := List.length_pos_iff.2 hl2
    exact Nat.mul_ne_zero (by omega) (by omega)
  have hov := Lib.run_overlaps_apart (P := P) w tS tR e hS esz (fun w => sizN_run hE w) ⟨g1, 0, none⟩ ⟨g2, o2, none⟩ l1.length cap1 c (N - i) hgne ty1 ty2 cur1.size cur2.size (by simp [World.shape?, hg1]) (by simp [World.shape?, hg2]) hkB (by simp [World.frozen?, hg1]) (by simp [World.frozen?, hg1])
  have hne' : ¬ fn.name = "runtime.NumGoroutine" := by simpa using hnm
  unfold execOp
  rw [ho]
  have e1' : a.eval (.func f) = .func (.func f) #[] #[] := rfl
  have ea : as0.map a.eval = #[.slice (some ⟨g1, 0, none⟩) l1.length cap1, .slice (some ⟨g2, o2, none⟩) c (N - i)] := by
    apply Array.ext'
    simp only [Array.toList_map, hxy, List.map_cons, List.map_nil, hz, hu1, e1]
  simp only [resolve, e1', Deferred.ofValue, Sem.run_bind, Sem.run_pure, Result.andThen_ok, invoke]
  rw [show (#[] ++ as0.map a.eval ++ #[] : Array Value) = as0.map a.eval by simp, ea]
  rw [run_callFunc_extern hfn hnm hbody hnx hext, hov]
  rfl
end
end Go.YtppifophcphdkaaE
namespace Go.YtppifophcphdkaaE
open Go.RowKit
set_option linter.unusedVariables false
set_option linter.unusedSimpArgs false
structure Rec where
  v : AV
  W : Heap
  R : List Nat
  N : List Nat
def gdst (ops : Array Oper) (o : Oper) : Option Tmp := match o.guard with
  | none => none
  | some (j, _) => (ops[j]?).bind (·.dst)
inductive Grd (ops : Array Oper) (o : Oper) (tf : Nat → AV) : Bool → Prop
  | none (h : o.guard = none) : Grd ops o tf true
  | some (j g : Nat) (want c : Bool) (h : o.guard = some (j, want)) (hg : (ops[j]?).bind (·.dst) = some g) (hc : tf g = .t (.v (.bool c))) : Grd ops o tf (c == want)
  | off (j g : Nat) (want : Bool) (h : o.guard = some (j, want)) (hg : (ops[j]?).bind (·.dst) = some g) (hc : tf g = .t (.v undef)) : Grd ops o tf false
def Stp [Tabs] (P : Program) (ops : Array Oper) (o : Oper) (tf : Nat → AV) (hf : Hp) (r : Rec) : Prop :=
  (Grd ops o tf true ∧ OpLoc P o r.R tf hf r.v r.W r.N) ∨ (Grd ops o tf false ∧ r = ⟨.t (.v undef), [], [], []⟩)
inductive Run [Tabs] (P : Program) (ops : Array Oper) : List Oper → (Nat → AV) → Hp → (Nat → Prop) → List Rec → (Nat → AV) → Hp → (Nat → Prop) → Prop
  | nil (tf : Nat → AV) (hf : Hp) (D : Nat → Prop) : Run P ops [] tf hf D [] tf hf D
  | cons (o : Oper) (os : List Oper) (tf tf' : Nat → AV) (hf hf' : Hp) (D D2 D' : Nat → Prop) (r : Rec) (rs : List Rec) (h : Stp P ops o tf hf r) (hN : ∀ n ∈ r.N, ¬ D n) (hD : ∀ b, D b ∨ b ∈ r.N → D2 b) (hr : Run P ops os (upT tf o.dst r.v) (upH hf r.W) D2 rs tf' hf' D') : Run P ops (o :: os) tf hf D (r :: rs) tf' hf' D'
section
variable {P : Program} {ops : Array Oper} {Q : Exit → Act → World → Prop} {w0 : Bse} {X O0 : Nat → Prop}
theorem get_bool {a : Act} {g : Nat} {v : Value} (h : get a g = v) (b : Bool) (hv : v = .bool b) : (match a.tmps[g]? with | some (.bool b) => some b | _ => none) = some b := by
  subst hv
  unfold get at h
  rw [Array.getD_eq_getD_getElem?] at h
  cases hx : a.tmps[g]? with
  | none => rw [hx] at h; simp [undef] at h
  | some x => rw [hx] at h; simp at h; subst h; rfl
theorem grd_wanted [Tabs] {o : Oper} {tf : Nat → AV} {hf : Hp} {D : Nat → Prop} {m : Nat → Option Value} {a : Act} {w : World} {b : Bool} (hR : Rel w0 X O0 D m tf hf a w) (h : Grd ops o tf b) : Region.wanted o (yielded ops a.tmps) = b := by
  cases h with
  | none h => simp [Region.wanted, h]
  | some j g want c h hg hc =>
    have h1 := hR.tmp g
    rw [hc] at h1
    have : yielded ops a.tmps j = some c := by
      unfold yielded
      rw [hg]
      exact get_bool h1.v_eq c rfl
    unfold Region.wanted
    rw [h]
    simp only [this]
    cases c <;> cases want <;> rfl
  | off j g want h hg hc =>
    have h1 := hR.tmp g
    rw [hc] at h1
    have h2 := h1.v_eq
    have : yielded ops a.tmps j = none := by
      unfold yielded
      rw [hg]
      show (match a.tmps[g]? with | some (.bool b) => some b | _ => none) = none
      unfold get at h2
      rw [Array.getD_eq_getD_getElem?] at h2
      cases hx : a.tmps[g]? with
      | none => rfl
      | some x => rw [hx] at h2; simp at h2; subst h2; rfl
    unfold Region.wanted
    rw [h]
    simp only [this]
    cases want <;> rfl
theorem Rel.weaken [Tabs] {tf : Nat → AV} {hf : Hp} {D D2 : Nat → Prop} {m : Nat → Option Value} {a : Act} {w : World} (h : Rel w0 X O0 D m tf hf a w) (hD : ∀ b, D b → D2 b) : Rel w0 X O0 D2 m tf hf a w :=
  { h with dom := fun b hb => h.dom b (fun x => hb (hD b x)) }
theorem stp_wp [Tabs] {o : Oper} {tf : Nat → AV} {hf : Hp} {D : Nat → Prop} {m : Nat → Option Value} {a : Act} {w : World} {r : Rec} (hR : Rel w0 X O0 D m tf hf a w) (h : Stp P ops o tf hf r) (hd : ∀ x, o.dst = some x → x < a.tmps.size) (hN : ∀ n ∈ r.N, ¬ D n) {K : Act → World → Prop}
    (hK : ∀ u m' w', Rel w0 X O0 (fun b => D b ∨ b ∈ r.N) m' (upT tf o.dst r.v) (upH hf r.W) (a.put o.dst u) w' → K (a.put o.dst u) w') :
    (if Region.wanted o (yielded ops a.tmps) = true then o.wp P a w K Q ∨ (o.asks P a w ∧ LetsOut Q) else K (a.put o.dst undef) w) := by
  rcases h with ⟨hg, hl⟩ | ⟨hg, rfl⟩
  · rw [if_pos (grd_wanted hR hg)]
    refine .inl (Oper.wp_mono ?_ (hl.2 tf hf (fun _ _ => rfl) (fun _ _ => rfl) w0 X O0 D m a w Q hR hd hN))
    rintro a' w' ⟨u, m', rfl, hR'⟩
    exact hK u m' w' hR'
  · rw [if_neg (by rw [grd_wanted hR hg]; simp)]
    refine hK undef m w ?_
    have := hR.put o.dst (.t (.v undef)) undef hd (But.refl w _) (.t _ _ (.v _))
    simpa [upH_nil] using this
theorem run_plain [Tabs] {os : List Oper} {tf tf' : Nat → AV} {hf hf' : Hp} {D D' : Nat → Prop} {rs : List Rec} (h : Run P ops os tf hf D rs tf' hf' D') : ∀ {m : Nat → Option Value} {a : Act} {w : World} {n : Nat}, Rel w0 X O0 D m tf hf a w → a.tmps.size = n → (∀ o ∈ os, ∀ x, o.dst = some x → x < n) →
    (∀ m a' w', Rel w0 X O0 D' m tf' hf' a' w' → a'.tmps.size = n → a'.defers = a.defers → Q .normal a' w') → wpList P ops Q os a w := by
  induction h with
  | nil tf hf D => intro m a w n hR hn _ hk; exact hk m a w hR hn rfl
  | cons o os tf tf' hf hf' D D2 D' r rs h hN hD hr ih =>
    intro m a w n hR hn hd hk
    have hd' : ∀ x, o.dst = some x → x < a.tmps.size := fun x hx => by rw [hn]; exact hd o (by simp) x hx
    refine stp_wp hR h hd' hN fun u m' w' hR' => ?_
    exact ih (hR'.weaken hD) (by rw [size_put, hn]) (fun o' ho' => hd o' (List.mem_cons_of_mem _ ho')) (fun m a' w' h1 h2 h3 => hk m a' w' h1 h2 (h3.trans defers_put))
theorem region_plain_ops [Tabs] {tf tf' : Nat → AV} {hf hf' : Hp} {D D' : Nat → Prop} {rs : List Rec} {m : Nat → Option Value} {a : Act} {w : World} {n : Nat} (h : Run P ops ops.toList tf hf D rs tf' hf' D') (hR : Rel w0 X O0 D m tf hf a w) (hn : a.tmps.size = n) (hd : ∀ o ∈ ops.toList, ∀ x, o.dst = some x → x < n)
    (hk : ∀ m a' w', Rel w0 X O0 D' m tf' hf' a' w' → a'.tmps.size = n → a'.defers = a.defers → Q .normal a' w') : wpOps P ops Q (List.range ops.size) a w := by
  rw [List.range_eq_range', show ops.size = ops.toList.length by simp, wpOps_eq_wpList ops.toList 0 (fun j => by simp)]
  exact run_plain h hR hn hd hk
theorem region_plain [Tabs] {id : Nat} {tf tf' : Nat → AV} {hf hf' : Hp} {D D' : Nat → Prop} {rs : List Rec} {m : Nat → Option Value} {a : Act} {w : World} {n : Nat} (h : Run P ops ops.toList tf hf D rs tf' hf' D') (hR : Rel w0 X O0 D m tf hf a w) (hn : a.tmps.size = n) (hd : ∀ o ∈ ops.toList, ∀ x, o.dst = some x → x < n)
    (hk : ∀ m a' w', Rel w0 X O0 D' m tf' hf' a' w' → a'.tmps.size = n → a'.defers = a.defers → Q .normal a' w') : (Code.region id ops false).wp P Q a w :=
  wp_region (region_plain_ops h hR hn hd hk)
end
end Go.YtppifophcphdkaaE
namespace Go.YtppifophcphdkaaE
open Go.RowKit
set_option linter.unusedVariables false
set_option linter.unusedSimpArgs false
def bitsOf (T : List Nat) (o : Oper) : Nat := o.after.toList.foldl (fun acc e => if Region.binds .any e then acc ||| 2 ^ e.on ||| T.getD e.on 0 else acc) 0
def tableL : List Oper → List Nat → List Nat
  | [], T => T
  | o :: os, T => tableL os (T ++ [bitsOf T o])
def downB : List Oper → Nat → Bool
  | [], _ => true
  | o :: os, i => (o.after.toList.all fun e => !Region.binds .any e || Nat.blt e.on i) && downB os (i + 1)
def readsOf (ops : List Oper) (o : Oper) : List Nat := match o.guard with
  | none => tmpsOf o
  | some (j, _) => match (ops[j]?).bind (·.dst) with
    | some g => g :: tmpsOf o
    | none => tmpsOf o
def noneIn (l : List Nat) : List Nat → Bool
  | [] => true
  | x :: r => !memN x l && noneIn l r
theorem noneIn_iff [Tabs] {l r : List Nat} : noneIn l r = true ↔ ∀ x ∈ r, x ∉ l := by
  induction r with
  | nil => simp [noneIn]
  | cons x r ih =>
    unfold noneIn
    rw [Bool.and_eq_true, ih]
    have : (!memN x l) = true ↔ x ∉ l := by
      rw [Bool.not_eq_true', Bool.eq_false_iff, ne_eq, memN_iff]
    rw [this]
    simp
structure Tch where
  d : Option Nat
  t : List Nat
  R : List Nat
  W : List Nat
def apartB (x y : Tch) : Bool :=
  (match x.d with
    | some d => !memN d y.t && (match y.d with | some e => !Nat.beq d e | none => true)
    | none => true) &&
  (match y.d with
    | some e => !memN e x.t
    | none => true) && noneIn x.W y.R && noneIn x.W y.W && noneIn y.W x.R
def apartAll (T : List Nat) (x : Tch) (i : Nat) : List Tch → Nat → Bool
  | [], _ => true
  | y :: l, j => ((T.getD j 0).testBit i || apartB x y) && apartAll T x i l (j + 1)
def pairsOk (T : List Nat) : List Tch → Nat → Bool
  | [], _ => true
  | x :: l, i => apartAll T x i l (i + 1) && pairsOk T l (i + 1)
def tchs (ops : List Oper) : List Oper → List (List Nat × List Nat) → List Tch
  | [], _ => []
  | _, [] => []
  | o :: os, (R, W) :: l => ⟨o.dst, readsOf ops o, R, W⟩ :: tchs ops os l
def drawOk (ops : List Oper) (log : List (List Nat × List Nat)) : Bool :=
  downB ops 0 && pairsOk (tableL ops []) (tchs ops ops log) 0
structure Apart (x y : Tch) : Prop where
  d1 : ∀ d, x.d = some d → d ∉ y.t
  d2 : ∀ d, x.d = some d → y.d ≠ some d
  d3 : ∀ d, y.d = some d → d ∉ x.t
  w1 : ∀ b ∈ y.R, b ∉ x.W
  w2 : ∀ b ∈ y.W, b ∉ x.W
  w3 : ∀ b ∈ x.R, b ∉ y.W
theorem apartB_spec [Tabs] {x y : Tch} (h : apartB x y = true) : Apart x y := by
  unfold apartB at h
  simp only [Bool.and_eq_true] at h
  obtain ⟨⟨⟨⟨h1, h2⟩, h3⟩, h4⟩, h5⟩ := h
  refine ⟨fun d hd => ?_, fun d hd he => ?_, fun d hd => ?_, noneIn_iff.1 h3, noneIn_iff.1 h4, noneIn_iff.1 h5⟩
  · rw [hd] at h1
    simp only [Bool.and_eq_true] at h1
    intro hm
    rw [memN_iff.2 hm] at h1
    cases h1.1
  · rw [hd] at h1
    simp only [Bool.and_eq_true, he] at h1
    simp at h1
  · rw [hd] at h2
    intro hm
    simp only [memN_iff.2 hm] at h2
    cases h2
theorem apartAll_spec [Tabs] {T : List Nat} {x : Tch} {i : Nat} : ∀ {l : List Tch} {j : Nat}, apartAll T x i l j = true → ∀ (k : Nat) y, l[k]? = some y → (T.getD (j + k) 0).testBit i = true ∨ Apart x y
  | [], j, _, k, y, hy => by simp at hy
  | z :: l, j, h, k, y, hy => by
    unfold apartAll at h
    simp only [Bool.and_eq_true, Bool.or_eq_true] at h
    cases k with
    | zero => simp at hy; subst hy; exact h.1.imp id apartB_spec
    | succ k =>
      have := apartAll_spec h.2 k y (by simpa using hy)
      rwa [show j + (k + 1) = j + 1 + k by omega]
theorem pairsOk_spec [Tabs] {T : List Nat} : ∀ {l : List Tch} {i : Nat}, pairsOk T l i = true → ∀ (p q : Nat) x y, p < q → l[p]? = some x → l[q]? = some y → (T.getD (i + q) 0).testBit (i + p) = true ∨ Apart x y
  | [], i, _, p, q, x, y, _, hx, _ => by simp at hx
  | z :: l, i, h, p, q, x, y, hpq, hx, hy => by
    unfold pairsOk at h
    simp only [Bool.and_eq_true] at h
    obtain ⟨q, rfl⟩ : ∃ r, q = r + 1 := ⟨q - 1, by omega⟩
    have hy' : l[q]? = some y := by simpa using hy
    cases p with
    | zero =>
      simp at hx
      subst hx
      have := apartAll_spec h.1 q y hy'
      rwa [show i + 1 + q = i + (q + 1) by omega] at this
    | succ p =>
      have := pairsOk_spec h.2 p q x y (by omega) (by simpa using hx) hy'
      rwa [show i + 1 + q = i + (q + 1) by omega, show i + 1 + p = i + (p + 1) by omega] at this
theorem bits_fold (T : List Nat) (j : Nat) : ∀ (l : List Edge) (acc : Nat), (l.foldl (fun acc e => if Region.binds .any e then acc ||| 2 ^ e.on ||| T.getD e.on 0 else acc) acc).testBit j = true →
    acc.testBit j = true ∨ ∃ e ∈ l, Region.binds .any e = true ∧ (e.on = j ∨ (T.getD e.on 0).testBit j = true)
  | [], _, h => .inl h
  | e :: l, acc, h => by
    rcases bits_fold T j l _ h with h1 | ⟨e', he, hb, h1⟩
    · simp only at h1
      by_cases hb : Region.binds .any e = true
      · rw [if_pos hb, Nat.testBit_or, Nat.testBit_or, Nat.testBit_two_pow, Bool.or_eq_true, Bool.or_eq_true, decide_eq_true_eq] at h1
        rcases h1 with (h1 | h1) | h1
        · exact .inl h1
        · exact .inr ⟨e, List.mem_cons_self .., hb, .inl h1⟩
        · exact .inr ⟨e, List.mem_cons_self .., hb, .inr h1⟩
      · rw [if_neg hb] at h1; exact .inl h1
    · exact .inr ⟨e', List.mem_cons_of_mem _ he, hb, h1⟩
theorem tableL_get : ∀ (os : List Oper) (T : List Nat) (i : Nat), i < T.length → (tableL os T).getD i 0 = T.getD i 0
  | [], T, i, _ => rfl
  | o :: os, T, i, h => by
    unfold tableL
    rw [tableL_get os _ i (by simp; omega)]
    simp [List.getD, List.getElem?_append, h]
theorem downB_spec : ∀ {os : List Oper} {k : Nat}, downB os k = true → ∀ (i : Nat) o, os[i]? = some o → ∀ e ∈ o.after.toList, Region.binds .any e = true → e.on < k + i
  | [], k, _, i, o, ho => by simp at ho
  | x :: os, k, h, i, o, ho => by
    unfold downB at h
    simp only [Bool.and_eq_true] at h
    cases i with
    | zero =>
      simp at ho
      subst ho
      intro e he hb
      have := List.all_eq_true.1 h.1 e he
      simp only [hb, Bool.not_true, Bool.false_or] at this
      exact Nat.le_of_ble_eq_true this
    | succ i =>
      intro e he hb
      have := downB_spec h.2 i o (by simpa using ho) e he hb
      omega
theorem table_bits [Tabs] : ∀ (os : List Oper) (T : List Nat), (downB os T.length = true) → ∀ (i : Nat) o, os[i]? = some o → ∀ j, ((tableL os T).getD (T.length + i) 0).testBit j = true → ∃ e ∈ o.after.toList, Region.binds .any e = true ∧ (e.on = j ∨ ((tableL os T).getD e.on 0).testBit j = true)
  | [], T, _, i, o, ho => by simp at ho
  | x :: os, T, hd, i, o, ho => by
    intro j hj
    have hd' := hd
    unfold downB at hd'
    simp only [Bool.and_eq_true] at hd'
    unfold tableL at hj ⊢
    have hlen : (T ++ [bitsOf T x]).length = T.length + 1 := by simp
    cases i with
    | zero =>
      simp at ho
      subst ho
      rw [Nat.add_zero, tableL_get _ _ _ (by omega)] at hj
      have e1 : (T ++ [bitsOf T x]).getD T.length 0 = bitsOf T x := by simp [List.getD]
      rw [e1] at hj
      rcases bits_fold T j _ _ hj with h | ⟨e, he, hb, h⟩
      · simp at h
      · refine ⟨e, he, hb, h.imp id fun h => ?_⟩
        have hlt := downB_spec hd 0 x rfl e he hb
        rw [tableL_get _ _ _ (by omega)]
        have : (T ++ [bitsOf T x]).getD e.on 0 = T.getD e.on 0 := by simp [List.getD, List.getElem?_append, show e.on < T.length by omega]
        rw [this]; exact h
    | succ i =>
      have := table_bits os (T ++ [bitsOf T x]) (by rw [hlen]; exact hd'.2) i o (by simpa using ho) j (by rw [hlen, show T.length + 1 + i = T.length + (i + 1) by omega]; exact hj)
      exact this
end Go.YtppifophcphdkaaE
namespace Go.YtppifophcphdkaaE
open Go.RowKit
set_option linter.unusedVariables false
set_option linter.unusedSimpArgs false
def dAt (os : List Oper) (i : Nat) : Option Nat := (os[i]?).bind (·.dst)
def vAt (rs : List Rec) (i : Nat) : AV := ((rs[i]?).map (·.v)).getD .un
def WAt (rs : List Rec) (i : Nat) : Heap := ((rs[i]?).map (·.W)).getD []
def NAt (rs : List Rec) (i : Nat) : List Nat := ((rs[i]?).map (·.N)).getD []
def stT (tf : Nat → AV) (os : List Oper) (rs : List Rec) (L : Nat → Bool) (t : Nat) : Nat → AV
  | 0 => tf t
  | n + 1 => if L n = true ∧ dAt os n = some t then vAt rs n else stT tf os rs L t n
def stH (hf : Hp) (rs : List Rec) (L : Nat → Bool) (b : Nat) : Nat → Bool × Blk
  | 0 => hf b
  | n + 1 => if L n = true ∧ b ∈ ids (WAt rs n) then lookH (WAt rs n) b else stH hf rs L b n
def stD (D : Nat → Prop) (rs : List Rec) (L : Nat → Bool) (b : Nat) : Nat → Prop
  | 0 => D b
  | n + 1 => stD D rs L b n ∨ (L n = true ∧ b ∈ NAt rs n)
theorem stT_shift (tf : Nat → AV) (o : Oper) (os : List Oper) (r : Rec) (rs : List Rec) (t : Nat) : ∀ n, stT tf (o :: os) (r :: rs) (fun _ => true) t (n + 1) = stT (upT tf o.dst r.v) os rs (fun _ => true) t n
  | 0 => by simp [stT, dAt, vAt, upT]
  | n + 1 => by
    have ih := stT_shift tf o os r rs t n
    show (if true = true ∧ dAt (o :: os) (n + 1) = some t then vAt (r :: rs) (n + 1) else stT tf (o :: os) (r :: rs) (fun _ => true) t (n + 1)) = (if true = true ∧ dAt os n = some t then vAt rs n else stT (upT tf o.dst r.v) os rs (fun _ => true) t n)
    rw [ih]
    rfl
theorem stH_shift (hf : Hp) (r : Rec) (rs : List Rec) (b : Nat) : ∀ n, stH hf (r :: rs) (fun _ => true) b (n + 1) = stH (upH hf r.W) rs (fun _ => true) b n
  | 0 => by simp [stH, WAt, upH]
  | n + 1 => by
    have ih := stH_shift hf r rs b n
    show (if true = true ∧ b ∈ ids (WAt (r :: rs) (n + 1)) then lookH (WAt (r :: rs) (n + 1)) b else stH hf (r :: rs) (fun _ => true) b (n + 1)) = (if true = true ∧ b ∈ ids (WAt rs n) then lookH (WAt rs n) b else stH (upH hf r.W) rs (fun _ => true) b n)
    rw [ih]
    rfl
theorem stD_shift (D : Nat → Prop) (r : Rec) (rs : List Rec) (b : Nat) : ∀ n, stD D (r :: rs) (fun _ => true) b (n + 1) ↔ stD (fun b => D b ∨ b ∈ r.N) rs (fun _ => true) b n
  | 0 => by simp [stD, NAt]
  | n + 1 => by
    have ih := stD_shift D r rs b n
    show (stD D (r :: rs) (fun _ => true) b (n + 1) ∨ (true = true ∧ b ∈ NAt (r :: rs) (n + 1))) ↔ (stD (fun b => D b ∨ b ∈ r.N) rs (fun _ => true) b n ∨ (true = true ∧ b ∈ NAt rs n))
    rw [ih]
    rfl
theorem stD_mono {D D2 : Nat → Prop} {rs : List Rec} {L : Nat → Bool} {b : Nat} (h : ∀ b, D b → D2 b) : ∀ n, stD D rs L b n → stD D2 rs L b n
  | 0, hx => h b hx
  | n + 1, hx => hx.imp (stD_mono h n) (fun x => x)
theorem run_facts [Tabs] {P : Program} {ops : Array Oper} {os : List Oper} {tf tf' : Nat → AV} {hf hf' : Hp} {D D' : Nat → Prop} {rs : List Rec} (h : Run P ops os tf hf D rs tf' hf' D') :
    rs.length = os.length ∧ (∀ (i : Nat) o r, os[i]? = some o → rs[i]? = some r → Stp P ops o (fun t => stT tf os rs (fun _ => true) t i) (fun b => stH hf rs (fun _ => true) b i) r ∧ ∀ n ∈ r.N, ¬ stD D rs (fun _ => true) n i) ∧
    (∀ t, tf' t = stT tf os rs (fun _ => true) t os.length) ∧ (∀ b, hf' b = stH hf rs (fun _ => true) b os.length) ∧ ∀ b, stD D rs (fun _ => true) b os.length → D' b := by
  induction h with
  | nil tf hf D => exact ⟨rfl, fun i o r h => by simp at h, fun _ => rfl, fun _ => rfl, fun _ h => h⟩
  | cons o os tf tf' hf hf' D D2 D' r rs h hN hD hr ih =>
    obtain ⟨h1, h2, h3, h4, h5⟩ := ih
    refine ⟨by simp [h1], fun i o' r' ho hr' => ?_, fun t => ?_, fun b => ?_, fun b hb => ?_⟩
    · cases i with
      | zero =>
        simp at ho hr'
        subst ho; subst hr'
        exact ⟨h, hN⟩
      | succ i =>
        obtain ⟨q1, q2⟩ := h2 i o' r' (by simpa using ho) (by simpa using hr')
        refine ⟨?_, fun n hn hx => q2 n hn (stD_mono hD _ ((stD_shift _ _ _ _ _).1 hx))⟩
        have e1 : (fun t => stT tf (o :: os) (r :: rs) (fun _ => true) t (i + 1)) = fun t => stT (upT tf o.dst r.v) os rs (fun _ => true) t i := funext fun t => stT_shift tf o os r rs t i
        have e2 : (fun b => stH hf (r :: rs) (fun _ => true) b (i + 1)) = fun b => stH (upH hf r.W) rs (fun _ => true) b i := funext fun b => stH_shift hf r rs b i
        rw [e1, e2]
        exact q1
    · rw [h3 t, List.length_cons, stT_shift]
    · rw [h4 b, List.length_cons, stH_shift]
    · rw [List.length_cons, stD_shift] at hb
      exact h5 b (stD_mono hD _ hb)
theorem stT_skip {tf : Nat → AV} {os : List Oper} {rs : List Rec} {L : Nat → Bool} {t i : Nat} : ∀ n, i ≤ n → (∀ j, i ≤ j → j < n → L j = true → dAt os j ≠ some t) → stT tf os rs L t n = stT tf os rs L t i
  | 0, hi, _ => by have : i = 0 := by omega
                   rw [this]
  | n + 1, hi, h => by
    by_cases e : i = n + 1
    · rw [e]
    · have h0 := h n (by omega) (by omega)
      show (if L n = true ∧ dAt os n = some t then vAt rs n else stT tf os rs L t n) = _
      rw [if_neg (fun hh => h0 hh.1 hh.2)]
      exact stT_skip n (by omega) (fun j h1 h2 => h j h1 (by omega))
theorem stH_skip {hf : Hp} {rs : List Rec} {L : Nat → Bool} {b i : Nat} : ∀ n, i ≤ n → (∀ j, i ≤ j → j < n → L j = true → b ∉ ids (WAt rs j)) → stH hf rs L b n = stH hf rs L b i
  | 0, hi, _ => by have : i = 0 := by omega
                   rw [this]
  | n + 1, hi, h => by
    by_cases e : i = n + 1
    · rw [e]
    · have h0 := h n (by omega) (by omega)
      show (if L n = true ∧ b ∈ ids (WAt rs n) then lookH (WAt rs n) b else stH hf rs L b n) = _
      rw [if_neg (fun hh => h0 hh.1 hh.2)]
      exact stH_skip n (by omega) (fun j h1 h2 => h j h1 (by omega))
theorem stT_agree {tf : Nat → AV} {os : List Oper} {rs : List Rec} {L M : Nat → Bool} {t : Nat} : ∀ n, (∀ j, j < n → dAt os j = some t → L j = M j) → stT tf os rs L t n = stT tf os rs M t n
  | 0, _ => rfl
  | n + 1, h => by
    have h0 := h n (by omega)
    show (if L n = true ∧ dAt os n = some t then vAt rs n else stT tf os rs L t n) = (if M n = true ∧ dAt os n = some t then vAt rs n else stT tf os rs M t n)
    rw [stT_agree n (fun j h1 => h j (by omega))]
    by_cases e : dAt os n = some t
    · rw [h0 e]
    · simp [e]
theorem stH_agree {hf : Hp} {rs : List Rec} {L M : Nat → Bool} {b : Nat} : ∀ n, (∀ j, j < n → b ∈ ids (WAt rs j) → L j = M j) → stH hf rs L b n = stH hf rs M b n
  | 0, _ => rfl
  | n + 1, h => by
    have h0 := h n (by omega)
    show (if L n = true ∧ b ∈ ids (WAt rs n) then lookH (WAt rs n) b else stH hf rs L b n) = (if M n = true ∧ b ∈ ids (WAt rs n) then lookH (WAt rs n) b else stH hf rs M b n)
    rw [stH_agree n (fun j h1 => h j (by omega))]
    by_cases e : b ∈ ids (WAt rs n)
    · rw [h0 e]
    · simp [e]
theorem stT_set [Tabs] {tf : Nat → AV} {os : List Oper} {rs : List Rec} {L L' : Nat → Bool} {t i : Nat} (hi : L i = false) (hi' : L' i = true) (hne : ∀ j, j ≠ i → L' j = L j) : ∀ n, i < n → (∀ j, i < j → L j = true → dAt os i = some t → dAt os j ≠ some t) → stT tf os rs L' t n = if dAt os i = some t then vAt rs i else stT tf os rs L t n
  | 0, h, _ => by omega
  | n + 1, h, hx => by
    show (if L' n = true ∧ dAt os n = some t then vAt rs n else stT tf os rs L' t n) = (if dAt os i = some t then vAt rs i else (if L n = true ∧ dAt os n = some t then vAt rs n else stT tf os rs L t n))
    by_cases e : n = i
    · subst e
      rw [hi', hi]
      by_cases e2 : dAt os n = some t
      · rw [if_pos ⟨rfl, e2⟩, if_pos e2]
      · rw [if_neg (fun hh => e2 hh.2), if_neg e2, if_neg (fun hh => e2 hh.2)]
        exact stT_agree n (fun j h1 _ => hne j (by omega))
    · rw [hne n e, stT_set hi hi' hne n (by omega) (fun j h1 => hx j h1)]
      by_cases e2 : dAt os i = some t
      · rw [if_pos e2, if_pos e2]
        rw [if_neg (fun hh => hx n (by omega) hh.1 e2 hh.2)]
      · rw [if_neg e2, if_neg e2]
theorem stH_set [Tabs] {hf : Hp} {rs : List Rec} {L L' : Nat → Bool} {b i : Nat} (hi : L i = false) (hi' : L' i = true) (hne : ∀ j, j ≠ i → L' j = L j) : ∀ n, i < n → (∀ j, i < j → L j = true → b ∈ ids (WAt rs i) → b ∉ ids (WAt rs j)) → stH hf rs L' b n = if b ∈ ids (WAt rs i) then lookH (WAt rs i) b else stH hf rs L b n
  | 0, h, _ => by omega
  | n + 1, h, hx => by
    show (if L' n = true ∧ b ∈ ids (WAt rs n) then lookH (WAt rs n) b else stH hf rs L' b n) = (if b ∈ ids (WAt rs i) then lookH (WAt rs i) b else (if L n = true ∧ b ∈ ids (WAt rs n) then lookH (WAt rs n) b else stH hf rs L b n))
    by_cases e : n = i
    · subst e
      rw [hi', hi]
      by_cases e2 : b ∈ ids (WAt rs n)
      · rw [if_pos ⟨rfl, e2⟩, if_pos e2]
      · rw [if_neg (fun hh => e2 hh.2), if_neg e2, if_neg (fun hh => e2 hh.2)]
        exact stH_agree n (fun j h1 _ => hne j (by omega))
    · rw [hne n e, stH_set hi hi' hne n (by omega) (fun j h1 => hx j h1)]
      by_cases e2 : b ∈ ids (WAt rs i)
      · rw [if_pos e2, if_pos e2]
        rw [if_neg (fun hh => hx n (by omega) hh.1 e2 hh.2)]
      · rw [if_neg e2, if_neg e2]
theorem stD_set {D : Nat → Prop} {rs : List Rec} {L L' : Nat → Bool} {b i : Nat} (hi : L i = false) (hi' : L' i = true) (hne : ∀ j, j ≠ i → L' j = L j) : ∀ n, (n ≤ i → (stD D rs L' b n ↔ stD D rs L b n)) ∧ (i < n → (stD D rs L' b n ↔ stD D rs L b n ∨ b ∈ NAt rs i))
  | 0 => ⟨fun _ => Iff.rfl, fun h => by omega⟩
  | n + 1 => by
    obtain ⟨h1, h2⟩ := stD_set (D := D) (rs := rs) (b := b) hi hi' hne n
    refine ⟨fun h => ?_, fun h => ?_⟩
    · show (stD D rs L' b n ∨ _) ↔ (stD D rs L b n ∨ _)
      rw [h1 (by omega), hne n (by omega)]
    · show (stD D rs L' b n ∨ (L' n = true ∧ b ∈ NAt rs n)) ↔ ((stD D rs L b n ∨ (L n = true ∧ b ∈ NAt rs n)) ∨ b ∈ NAt rs i)
      by_cases e : n = i
      · subst e
        rw [h1 (Nat.le_refl _), hi', hi]
        simp
      · rw [h2 (by omega), hne n e]
        constructor
        · rintro ((h | h) | h)
          · exact .inl (.inl h)
          · exact .inr h
          · exact .inl (.inr h)
        · rintro ((h | h) | h)
          · exact .inl (.inl h)
          · exact .inr h
          · exact .inl (.inr h)
theorem stD_mem {D : Nat → Prop} {rs : List Rec} {L : Nat → Bool} {b : Nat} : ∀ n, stD D rs L b n ↔ D b ∨ ∃ j, j < n ∧ L j = true ∧ b ∈ NAt rs j
  | 0 => ⟨.inl, fun h => h.elim id (fun ⟨j, hj, _⟩ => by omega)⟩
  | n + 1 => by
    show (stD D rs L b n ∨ _) ↔ _
    rw [stD_mem n]
    constructor
    · rintro ((h | ⟨j, h1, h2⟩) | h)
      · exact .inl h
      · exact .inr ⟨j, by omega, h2⟩
      · exact .inr ⟨n, by omega, h⟩
    · rintro (h | ⟨j, h1, h2⟩)
      · exact .inl (.inl h)
      · by_cases e : j = n
        · subst e; exact .inr h2
        · exact .inl (.inr ⟨j, by omega, h2⟩)
theorem OpLoc.same [Tabs] {P : Program} {o : Oper} {R : List Nat} {tf tf' : Nat → AV} {hf hf' : Hp} {v : AV} {W : Heap} {N : List Nat} (h : OpLoc P o R tf hf v W N) (ht : ∀ t ∈ tmpsOf o, tf' t = tf t) (hh : ∀ b ∈ R, hf' b = hf b) : OpLoc P o R tf' hf' v W N :=
  ⟨h.1, fun tf2 hf2 h1 h2 => h.2 tf2 hf2 (fun t hx => (h1 t hx).trans (ht t hx)) (fun b hx => (h2 b hx).trans (hh b hx))⟩
theorem tchs_get (ops : List Oper) : ∀ (os : List Oper) (log : List (List Nat × List Nat)) (i : Nat) o l, os[i]? = some o → log[i]? = some l → (tchs ops os log)[i]? = some ⟨o.dst, readsOf ops o, l.1, l.2⟩
  | [], _, i, o, l, h, _ => by simp at h
  | _ :: _, [], i, o, l, _, h => by simp at h
  | x :: os, (R, W) :: log, i, o, l, h, h' => by
    unfold tchs
    cases i with
    | zero => simp at h h'; subst h; subst h'; rfl
    | succ i => simpa using tchs_get ops os log i o l (by simpa using h) (by simpa using h')
end Go.YtppifophcphdkaaE
namespace Go.YtppifophcphdkaaE
open Go.RowKit
set_option linter.unusedVariables false
set_option linter.unusedSimpArgs false
section
variable {P : Program} {ops : Array Oper} {Q : Exit → Act → World → Prop} {w0 : Bse} {X O0 D D' : Nat → Prop} {tf tf' : Nat → AV} {hf hf' : Hp} {rs : List Rec} {n : Nat}
def Shut (ops : Array Oper) (listed : Array Bool) : Prop := ∀ (i : Nat) o, ops[i]? = some o → listed.getD i false = true → ∀ e ∈ o.after, Region.binds .any e = true → listed.getD e.on false = true
theorem getD_set' {l : Array Bool} {i j : Nat} (h : (l.setIfInBounds i true).getD j false = true) : j = i ∨ l.getD j false = true := by
  by_cases e : j = i
  · exact .inl e
  · refine .inr ?_
    simp only [Array.getD_eq_getD_getElem?, Array.getElem?_setIfInBounds] at h ⊢
    rw [if_neg (fun x => e x.symm)] at h
    exact h
theorem Shut.set [Tabs] {ops : Array Oper} {listed : Array Bool} (h : Shut ops listed) {i : Nat} (hr : i ∈ Region.ready .any ops listed) : Shut ops (listed.setIfInBounds i true) := by
  obtain ⟨_, o, ho, hall⟩ := mem_ready.1 hr
  intro j o' ho' hj e he hb
  refine getD_set_true ?_
  rcases getD_set' hj with rfl | hj
  · rw [ho] at ho'
    simp at ho'
    subst ho'
    exact hall e he hb
  · exact h j o' ho' hj e he hb
def LB (listed : Array Bool) : Nat → Bool := fun j => listed.getD j false
structure InvD [Tabs] (ops : Array Oper) (w0 : Bse) (X O0 D : Nat → Prop) (tf : Nat → AV) (hf : Hp) (rs : List Rec) (n : Nat) (df : List Deferred) (listed : Array Bool) (a : Act) (w : World) : Prop where
  size : listed.size = ops.size
  closed : Shut ops listed
  tmps : a.tmps.size = n
  defers : a.defers = df
  rel : ∃ m, Rel w0 X O0 (fun b => stD D rs (LB listed) b ops.size) m (fun t => stT tf ops.toList rs (LB listed) t ops.size) (fun b => stH hf rs (LB listed) b ops.size) a w
structure Sure (ops : Array Oper) (rs : List Rec) : Prop where
  len : rs.length = ops.size
  down : ∀ (i : Nat) o, ops[i]? = some o → ∀ e ∈ o.after, Region.binds .any e = true → e.on < i
  bits : ∀ (i : Nat) o, ops[i]? = some o → ∀ j, ((tableL ops.toList []).getD i 0).testBit j = true → ∃ e ∈ o.after, Region.binds .any e = true ∧ (e.on = j ∨ ((tableL ops.toList []).getD e.on 0).testBit j = true)
  pair : ∀ (i j : Nat) oi oj ri rj, i < j → ops[i]? = some oi → ops[j]? = some oj → rs[i]? = some ri → rs[j]? = some rj → ((tableL ops.toList []).getD j 0).testBit i = true ∨ Apart ⟨oi.dst, readsOf ops.toList oi, ri.R, ids ri.W⟩ ⟨oj.dst, readsOf ops.toList oj, rj.R, ids rj.W⟩
theorem sure_of [Tabs] (hl : rs.length = ops.size) (h : drawOk ops.toList (rs.map fun r => (r.R, ids r.W)) = true) : Sure ops rs := by
  unfold drawOk at h
  simp only [Bool.and_eq_true] at h
  refine ⟨hl, fun i o ho e he hb => ?_, fun i o ho j hj => ?_, fun i j oi oj ri rj hij hoi hoj hri hrj => ?_⟩
  · have := downB_spec h.1 i o (by simpa using ho) e (by simpa using he) hb
    omega
  · have := table_bits ops.toList [] h.1 i o (by simpa using ho) j (by simpa using hj)
    obtain ⟨e, he, hb, h⟩ := this
    exact ⟨e, by simpa using he, hb, h⟩
  · have h1 := tchs_get ops.toList ops.toList (rs.map fun r => (r.R, ids r.W)) i oi (ri.R, ids ri.W) (by simpa using hoi) (by rw [List.getElem?_map, hri]; rfl)
    have h2 := tchs_get ops.toList ops.toList (rs.map fun r => (r.R, ids r.W)) j oj (rj.R, ids rj.W) (by simpa using hoj) (by rw [List.getElem?_map, hrj]; rfl)
    have := pairsOk_spec h.2 i j _ _ hij h1 h2
    simpa using this
theorem Sure.listed (hs : Sure ops rs) {listed : Array Bool} (hl : Shut ops listed) : ∀ (i : Nat) {o : Oper} (_ : ops[i]? = some o) {j : Nat}, ((tableL ops.toList []).getD i 0).testBit j = true → listed.getD i false = true → listed.getD j false = true := by
  intro i
  induction i using Nat.strongRecOn with
  | _ i ih =>
    intro o ho j hj hi
    obtain ⟨e, he, hb, h⟩ := hs.bits i o ho j hj
    have h1 := hl i o ho hi e he hb
    rcases h with rfl | h
    · exact h1
    · have hlt := hs.down i o ho e he hb
      obtain ⟨o', ho'⟩ : ∃ o', ops[e.on]? = some o' := ⟨ops[e.on]'(Nat.lt_trans hlt (Array.getElem?_eq_some_iff.1 ho).1), Array.getElem?_eq_getElem _⟩
      exact ih e.on hlt ho' h h1
theorem Sure.apart [Tabs] (hs : Sure ops rs) {listed : Array Bool} (hl : Shut ops listed) {i : Nat} {o : Oper} (ho : ops[i]? = some o) (hall : ∀ e ∈ o.after, Region.binds .any e = true → listed.getD e.on false = true) (hun : listed.getD i false = false) :
    (∀ j, i < j → listed.getD j false = true → ∀ oj ri rj, ops[j]? = some oj → rs[i]? = some ri → rs[j]? = some rj → Apart ⟨o.dst, readsOf ops.toList o, ri.R, ids ri.W⟩ ⟨oj.dst, readsOf ops.toList oj, rj.R, ids rj.W⟩) ∧
    (∀ j, j < i → listed.getD j false = false → ∀ oj ri rj, ops[j]? = some oj → rs[i]? = some ri → rs[j]? = some rj → Apart ⟨oj.dst, readsOf ops.toList oj, rj.R, ids rj.W⟩ ⟨o.dst, readsOf ops.toList o, ri.R, ids ri.W⟩) := by
  refine ⟨fun j hij hj oj ri rj hoj hri hrj => ?_, fun j hij hj oj ri rj hoj hri hrj => ?_⟩
  · refine (hs.pair i j o oj ri rj hij ho hoj hri hrj).resolve_left (fun hb => ?_)
    rw [hs.listed hl j hoj hb hj] at hun
    cases hun
  · refine (hs.pair j i oj o rj ri hij hoj ho hrj hri).resolve_left (fun hb => ?_)
    obtain ⟨e, he, hbe, h⟩ := hs.bits i o ho j hb
    have h1 := hall e he hbe
    rcases h with rfl | h
    · rw [h1] at hj; cases hj
    · obtain ⟨o', ho'⟩ : ∃ o', ops[e.on]? = some o' := ⟨ops[e.on]'(Nat.lt_trans (hs.down i o ho e he hbe) (Array.getElem?_eq_some_iff.1 ho).1), Array.getElem?_eq_getElem _⟩
      rw [hs.listed hl e.on ho' h h1] at hj
      cases hj
theorem at_some {os : List Oper} {i : Nat} {o : Oper} (h : os[i]? = some o) : dAt os i = o.dst := by simp [dAt, h]
theorem W_some {i : Nat} {r : Rec} (h : rs[i]? = some r) : vAt rs i = r.v ∧ WAt rs i = r.W ∧ NAt rs i = r.N := by simp [vAt, WAt, NAt, h]
theorem invD_step [Tabs] (hs : Sure ops rs) (hf0 : ∀ (i : Nat) o r, ops.toList[i]? = some o → rs[i]? = some r → Stp P ops o (fun t => stT tf ops.toList rs (fun _ => true) t i) (fun b => stH hf rs (fun _ => true) b i) r ∧ ∀ n ∈ r.N, ¬ stD D rs (fun _ => true) n i)
    (hd : ∀ o ∈ ops.toList, ∀ x, o.dst = some x → x < n) {df : List Deferred} {listed : Array Bool} {a : Act} {w : World} (hI : InvD ops w0 X O0 D tf hf rs n df listed a w) {i : Nat} (hr : i ∈ Region.ready .any ops listed) :
    wpOp P ops Q i (fun a' w' => InvD ops w0 X O0 D tf hf rs n df (listed.setIfInBounds i true) a' w') a w := by
  obtain ⟨hun0, o, ho, hall⟩ := mem_ready.1 hr
  have hlt : i < ops.size := (Array.getElem?_eq_some_iff.1 ho).1
  have hlt2 : i < listed.size := by rw [hI.size]; exact hlt
  have hun : listed.getD i false = false := by
    simp only [Array.getD_eq_getD_getElem?, Array.getElem?_eq_getElem hlt2, Option.getD_some] at hun0 ⊢
    exact hun0
  have hol : ops.toList[i]? = some o := by simpa using ho
  have hri : rs[i]? = some (rs[i]'(by rw [hs.len]; exact hlt)) := List.getElem?_eq_getElem _
  generalize hrr : rs[i]'(by rw [hs.len]; exact hlt) = r at hri
  obtain ⟨hstp, hfresh⟩ := hf0 i o r hol hri
  obtain ⟨hap1, hap2⟩ := hs.apart hI.closed ho hall hun
  obtain ⟨m, hR⟩ := hI.rel
  obtain ⟨hv, hW, hN⟩ := W_some hri
  have get : ∀ j, j < ops.size → ∃ oj rj, ops[j]? = some oj ∧ ops.toList[j]? = some oj ∧ rs[j]? = some rj := fun j hj => ⟨ops[j], rs[j]'(by rw [hs.len]; exact hj), Array.getElem?_eq_getElem hj, by simp, List.getElem?_eq_getElem _⟩
  -- the places and blocks that it looks at are as0 in its own turn
  have sameT : ∀ t ∈ readsOf ops.toList o, stT tf ops.toList rs (LB listed) t ops.size = stT tf ops.toList rs (fun _ => true) t i := by
    intro t ht
    rw [stT_skip ops.size (Nat.le_of_lt hlt) (fun j h1 h2 hj => ?_)]
    · refine stT_agree i (fun j hj hd => ?_)
      cases hLj : listed.getD j false with
      | true => exact hLj
      | false =>
        obtain ⟨oj, rj, ho1, ho2, ho3⟩ := get j (by omega)
        have ha := hap2 j hj hLj oj r rj ho1 hri ho3
        rw [at_some ho2] at hd
        exact absurd ht (ha.d1 t hd)
    · by_cases e : j = i
      · subst e
        have hj' : listed.getD j false = true := hj
        rw [hun] at hj'; cases hj'
      · obtain ⟨oj, rj, ho1, ho2, ho3⟩ := get j h2
        have ha := hap1 j (by omega) hj oj r rj ho1 hri ho3
        rw [at_some ho2]
        exact fun hd => ha.d3 t hd ht
  have sameH : ∀ b ∈ r.R, stH hf rs (LB listed) b ops.size = stH hf rs (fun _ => true) b i := by
    intro b hb
    rw [stH_skip ops.size (Nat.le_of_lt hlt) (fun j h1 h2 hj => ?_)]
    · refine stH_agree i (fun j hj hd => ?_)
      cases hLj : listed.getD j false with
      | true => exact hLj
      | false =>
        obtain ⟨oj, rj, ho1, ho2, ho3⟩ := get j (by omega)
        have ha := hap2 j hj hLj oj r rj ho1 hri ho3
        rw [(W_some ho3).2.1] at hd
        exact absurd hd (ha.w1 b hb)
    · by_cases e : j = i
      · subst e
        have hj' : listed.getD j false = true := hj
        rw [hun] at hj'; cases hj'
      · obtain ⟨oj, rj, ho1, ho2, ho3⟩ := get j h2
        have ha := hap1 j (by omega) hj oj r rj ho1 hri ho3
        rw [(W_some ho3).2.1]
        exact ha.w3 b hb
  have hstp' : Stp P ops o (fun t => stT tf ops.toList rs (LB listed) t ops.size) (fun b => stH hf rs (LB listed) b ops.size) r := by
    have hgrd : ∀ b, Grd ops o (fun t => stT tf ops.toList rs (fun _ => true) t i) b → Grd ops o (fun t => stT tf ops.toList rs (LB listed) t ops.size) b := by
      intro b hg
      have hguard : ∀ j g want, o.guard = some (j, want) → (ops[j]?).bind (·.dst) = some g → g ∈ readsOf ops.toList o := by
        intro j g want h1 h2
        unfold readsOf
        rw [h1]
        have : (ops.toList[j]?).bind (·.dst) = some g := by simpa using h2
        simp only
        rw [this]
        exact List.mem_cons_self ..
      cases hg with
      | none h => exact .none h
      | some j g want c h hg hc => exact .some j g want c h hg ((sameT g (hguard j g want h hg)).trans hc)
      | off j g want h hg hc => exact .off j g want h hg ((sameT g (hguard j g want h hg)).trans hc)
    have hsub : ∀ t ∈ tmpsOf o, t ∈ readsOf ops.toList o := by
      intro t ht
      unfold readsOf
      split
      · exact ht
      · split
        · exact List.mem_cons_of_mem _ ht
        · exact ht
    rcases hstp with ⟨h1, h2⟩ | ⟨h1, h2⟩
    · exact .inl ⟨hgrd _ h1, h2.same (fun t ht => sameT t (hsub t ht)) sameH⟩
    · exact .inr ⟨hgrd _ h1, h2⟩
  have hfresh' : ∀ x ∈ r.N, ¬ stD D rs (LB listed) x ops.size := by
    intro x hx hD
    rcases (stD_mem ops.size).1 hD with h | ⟨j, hj, hLj, hxj⟩
    · exact hfresh x hx ((stD_mem i).2 (.inl h))
    · by_cases e : j = i
      · subst e
        have hj' : listed.getD j false = true := hLj
        rw [hun] at hj'; cases hj'
      · rcases Nat.lt_or_gt_of_ne e with h | h
        · exact hfresh x hx ((stD_mem i).2 (.inr ⟨j, h, rfl, hxj⟩))
        · obtain ⟨oj, rj, ho1, ho2, ho3⟩ := get j hj
          rw [(W_some ho3).2.2] at hxj
          exact (hf0 j oj rj ho2 ho3).2 x hxj ((stD_mem j).2 (.inr ⟨i, h, rfl, by rw [hN]; exact hx⟩))
  have hL' : LB (listed.setIfInBounds i true) i = true := by unfold LB; simp [hlt2]
  have hLne : ∀ j, j ≠ i → LB (listed.setIfInBounds i true) j = LB listed j := fun j hj => by
    unfold LB
    simp only [Array.getD_eq_getD_getElem?, Array.getElem?_setIfInBounds]
    rw [if_neg (fun e => hj e.symm)]
  have hdst : ∀ x, o.dst = some x → x < a.tmps.size := fun x hx => by rw [hI.tmps]; exact hd o (List.mem_of_getElem? hol) x hx
  unfold wpOp
  rw [ho]
  simp only
  refine stp_wp hR hstp' hdst hfresh' fun u m' w' hR' => ?_
  refine ⟨by rw [Array.size_setIfInBounds, hI.size], hI.closed.set hr, by rw [size_put, hI.tmps], by rw [defers_put, hI.defers], m', ?_⟩
  have e1 : (fun t => stT tf ops.toList rs (LB (listed.setIfInBounds i true)) t ops.size) = upT (fun t => stT tf ops.toList rs (LB listed) t ops.size) o.dst r.v := by
    funext t
    rw [stT_set hun hL' hLne ops.size hlt (fun j hij hj h1 h2 => ?_)]
    · unfold upT
      rw [at_some hol, hv]
    · by_cases hjn : j < ops.size
      · obtain ⟨oj, rj, ho1, ho2, ho3⟩ := get j hjn
        have ha := hap1 j hij hj oj r rj ho1 hri ho3
        rw [at_some hol] at h1
        rw [at_some ho2] at h2
        exact ha.d2 t h1 h2
      · have : dAt ops.toList j = none := by unfold dAt; rw [List.getElem?_eq_none (by simp; omega)]; rfl
        rw [this] at h2; cases h2
  have e2 : (fun b => stH hf rs (LB (listed.setIfInBounds i true)) b ops.size) = upH (fun b => stH hf rs (LB listed) b ops.size) r.W := by
    funext b
    rw [stH_set hun hL' hLne ops.size hlt (fun j hij hj h1 h2 => ?_)]
    · unfold upH
      rw [hW]
    · by_cases hjn : j < ops.size
      · obtain ⟨oj, rj, ho1, ho2, ho3⟩ := get j hjn
        have ha := hap1 j hij hj oj r rj ho1 hri ho3
        rw [hW] at h1
        rw [(W_some ho3).2.1] at h2
        exact ha.w2 b h2 h1
      · have : WAt rs j = [] := by unfold WAt; rw [List.getElem?_eq_none (by rw [hs.len]; omega)]; rfl
        rw [this] at h2; simp [ids] at h2
  have e3 : (fun b => stD D rs (LB (listed.setIfInBounds i true)) b ops.size) = fun b => stD D rs (LB listed) b ops.size ∨ b ∈ r.N := by
    funext b
    rw [propext ((stD_set (D := D) (rs := rs) (b := b) hun hL' hLne ops.size).2 hlt), hN]
  rw [e1, e2, e3]
  exact hR'
def left (listed : Array Bool) (n : Nat) : Nat := (List.range n).countP fun i => !listed.getD i false
theorem left_set {listed : Array Bool} {i n : Nat} (hi : i < n) (hs : listed.size = n) (hu : listed.getD i false = false) : left (listed.setIfInBounds i true) n + 1 = left listed n := by
  have key : ∀ (l : List Nat), l.Nodup → i ∈ l → (l.countP fun j => !(listed.setIfInBounds i true).getD j false) + 1 = l.countP fun j => !listed.getD j false := by
    intro l
    induction l with
    | nil => intro _ h; cases h
    | cons x l ih =>
      intro hnd hm
      rw [List.nodup_cons] at hnd
      have hsame : ∀ j, j ≠ i → (listed.setIfInBounds i true).getD j false = listed.getD j false := by
        intro j hj
        simp only [Array.getD_eq_getD_getElem?, Array.getElem?_setIfInBounds]
        rw [if_neg (fun e => hj e.symm)]
      have hself : (listed.setIfInBounds i true).getD i false = true := by
        simp [Array.getD_eq_getD_getElem?, Array.getElem?_setIfInBounds, hs, hi]
      by_cases e : x = i
      · subst e
        have : (l.countP fun j => !(listed.setIfInBounds x true).getD j false) = l.countP fun j => !listed.getD j false := by
          apply List.countP_congr
          intro j hj
          rw [hsame j (fun h => hnd.1 (h ▸ hj))]
        simp only [List.countP_cons, hself, hu, this]
        simp
      · have := ih hnd.2 ((List.mem_cons.1 hm).resolve_left (fun h => e h.symm))
        simp only [List.countP_cons, hsame x e]
        omega
  exact key _ List.nodup_range (List.mem_range.2 hi)
theorem all_listed (hs : Sure ops rs) {listed : Array Bool} (hz : listed.size = ops.size) (hr : Region.ready .any ops listed = []) : ∀ i, i < ops.size → listed.getD i false = true := by
  intro i
  induction i using Nat.strongRecOn with
  | _ i ih =>
    intro hi
    by_cases h : listed.getD i false = true
    · exact h
    · exfalso
      have hm : i ∈ Region.ready .any ops listed := by
        refine mem_ready.2 ⟨?_, ops[i], Array.getElem?_eq_getElem hi, fun e he hb => ih e.on (hs.down i _ (Array.getElem?_eq_getElem hi) e he hb) (Nat.lt_trans (hs.down i _ (Array.getElem?_eq_getElem hi) e he hb) hi)⟩
        have h2 : i < listed.size := by rw [hz]; exact hi
        simp only [Array.getD_eq_getD_getElem?, Array.getElem?_eq_getElem h2, Option.getD_some] at h ⊢
        simpa using h
      rw [hr] at hm
      cases hm
theorem any_draw [Tabs] (hs : Sure ops rs) (hf0 : ∀ (i : Nat) o r, ops.toList[i]? = some o → rs[i]? = some r → Stp P ops o (fun t => stT tf ops.toList rs (fun _ => true) t i) (fun b => stH hf rs (fun _ => true) b i) r ∧ ∀ n ∈ r.N, ¬ stD D rs (fun _ => true) n i)
    (hd : ∀ o ∈ ops.toList, ∀ x, o.dst = some x → x < n) {df : List Deferred} (hk : ∀ listed a w, InvD ops w0 X O0 D tf hf rs n df listed a w → (∀ i, i < ops.size → listed.getD i false = true) → Q .normal a w) :
    ∀ (fuel : Nat) (listed : Array Bool) (a : Act) (w : World), InvD ops w0 X O0 D tf hf rs n df listed a w → left listed ops.size ≤ fuel → wpAny P .any ops Q fuel listed a w
  | 0, listed, a, w, hI, hf => by
    have hall : ∀ i, i < ops.size → listed.getD i false = true := by
      intro i hi
      have h0 : left listed ops.size = 0 := by omega
      unfold left at h0
      have := List.countP_eq_zero.1 h0 i (List.mem_range.2 hi)
      simpa using this
    refine ⟨?_, hk listed a w hI hall⟩
    refine List.eq_nil_iff_forall_not_mem.2 (fun i hi => ?_)
    obtain ⟨hun, o, ho, _⟩ := mem_ready.1 hi
    have hlt : i < ops.size := (Array.getElem?_eq_some_iff.1 ho).1
    have h1 := hall i hlt
    have h2 : i < listed.size := by rw [hI.size]; exact hlt
    simp only [Array.getD_eq_getD_getElem?, Array.getElem?_eq_getElem h2, Option.getD_some] at hun h1
    rw [h1] at hun
    cases hun
  | fuel + 1, listed, a, w, hI, hf => by
    refine ⟨fun hr => hk listed a w hI (all_listed hs hI.size hr), fun i hi => ?_⟩
    refine wpOp_mono ?_ (invD_step hs hf0 hd hI hi)
    intro a' w' hI'
    refine any_draw hs hf0 hd hk fuel _ a' w' hI' ?_
    obtain ⟨hun, o, ho, _⟩ := mem_ready.1 hi
    have hlt : i < ops.size := (Array.getElem?_eq_some_iff.1 ho).1
    have h2 : i < listed.size := by rw [hI.size]; exact hlt
    have hu : listed.getD i false = false := by
      simp only [Array.getD_eq_getD_getElem?, Array.getElem?_eq_getElem h2, Option.getD_some] at hun ⊢
      simpa using hun
    have := left_set hlt hI.size hu
    omega
theorem region_draw_any [Tabs] {m : Nat → Option Value} {a : Act} {w : World} (h : Run P ops ops.toList tf hf D rs tf' hf' D') (hck : drawOk ops.toList (rs.map fun r => (r.R, ids r.W)) = true) (hR : Rel w0 X O0 D m tf hf a w) (hn : a.tmps.size = n) (hd : ∀ o ∈ ops.toList, ∀ x, o.dst = some x → x < n)
    (hk : ∀ m a' w', Rel w0 X O0 D' m tf' hf' a' w' → a'.tmps.size = n → a'.defers = a.defers → Q .normal a' w') : wpAny P .any ops Q ops.size (Array.replicate ops.size false) a { w with drawn := w.drawn + 1 } := by
  obtain ⟨h1, h2, h3, h4, h5⟩ := run_facts h
  have hlen : rs.length = ops.size := by rw [h1]; simp
  have hs := sure_of hlen hck
  have hf0 : ∀ j, LB (Array.replicate ops.size false) j = false := fun j => by
    unfold LB
    simp only [Array.getD_eq_getD_getElem?, Array.getElem?_replicate]
    split <;> simp
  refine any_draw (w0 := w0) (X := X) (O0 := O0) hs h2 hd (df := a.defers) ?_ _ _ _ _ ?_ ?_
  · rintro listed a' w' ⟨q1, q2, q3, q4, m', q5⟩ hall
    have e1 : (fun t => stT tf ops.toList rs (LB listed) t ops.size) = tf' := by
      funext t
      rw [h3 t, show ops.toList.length = ops.size by simp]
      exact stT_agree _ (fun j hj _ => hall j hj)
    have e2 : (fun b => stH hf rs (LB listed) b ops.size) = hf' := by
      funext b
      rw [h4 b, show ops.toList.length = ops.size by simp]
      exact stH_agree _ (fun j hj _ => hall j hj)
    rw [e1, e2] at q5
    refine hk m' a' w' (q5.weaken fun b hb => h5 b ?_) q3 q4
    rw [show ops.toList.length = ops.size by simp]
    rcases (stD_mem ops.size).1 hb with h | ⟨j, hj, _, h⟩
    · exact (stD_mem ops.size).2 (.inl h)
    · exact (stD_mem ops.size).2 (.inr ⟨j, hj, rfl, h⟩)
  · refine ⟨by simp, fun j o ho hj => ?_, hn, rfl, m, ?_⟩
    · have h := hf0 j
      unfold LB at h
      rw [h] at hj; cases hj
    · have e1 : (fun t => stT tf ops.toList rs (LB (Array.replicate ops.size false)) t ops.size) = tf := by
        funext t
        have := stT_skip (tf := tf) (os := ops.toList) (rs := rs) (L := LB (Array.replicate ops.size false)) (t := t) (i := 0) ops.size (Nat.zero_le _) (fun j _ _ hj => by rw [hf0 j] at hj; cases hj)
        rw [this]; rfl
      have e2 : (fun b => stH hf rs (LB (Array.replicate ops.size false)) b ops.size) = hf := by
        funext b
        have := stH_skip (hf := hf) (rs := rs) (L := LB (Array.replicate ops.size false)) (b := b) (i := 0) ops.size (Nat.zero_le _) (fun j _ _ hj => by rw [hf0 j] at hj; cases hj)
        rw [this]; rfl
      have e3 : (fun b => stD D rs (LB (Array.replicate ops.size false)) b ops.size) = D := by
        funext b
        rw [propext (stD_mem ops.size)]
        apply propext
        exact ⟨fun h => h.elim (fun x => x) (fun ⟨j, _, hj, _⟩ => by rw [hf0 j] at hj; cases hj), .inl⟩
      rw [e1, e2, e3]
      have := hR.put none .un undef (by simp) (But.drew w _) (.un _)
      have e4 : upT tf none .un = tf := by funext t; simp [upT]
      rw [e4] at this
      exact this
  · exact Nat.le_trans List.countP_le_length (by simp)
theorem region_draw [Tabs] (hm : P.follows .mixedOrders = true) {id : Nat} {m : Nat → Option Value} {a : Act} {w : World} (h : Run P ops ops.toList tf hf D rs tf' hf' D') (hck : drawOk ops.toList (rs.map fun r => (r.R, ids r.W)) = true) (hR : Rel w0 X O0 D m tf hf a w) (hn : a.tmps.size = n) (hd : ∀ o ∈ ops.toList, ∀ x, o.dst = some x → x < n)
    (hk : ∀ m a' w', Rel w0 X O0 D' m tf' hf' a' w' → a'.tmps.size = n → a'.defers = a.defers → Q .normal a' w') : (Code.region id ops true).wp P Q a w :=
  wp_region_any hm (region_draw_any h hck hR hn hd hk)
end
end Go.YtppifophcphdkaaE
namespace Go.YtppifophcphdkaaE
open Go.RowKit
set_option linter.unusedVariables false
set_option linter.unusedSimpArgs false
def plainParts (l : List (Nat × AV)) (k : List (Nat × AV) → Prop) : Prop :=
  match l with
  | [] => k []
  | (i, x) :: l => evMove x fun x _ _ _ => plainParts l fun l => k ((i, x) :: l)
theorem plainParts_iff [Tabs] {l : List (Nat × AV)} {k : List (Nat × AV) → Prop} : plainParts l k ↔ k l := by
  induction l generalizing k with
  | nil => rfl
  | cons x l ih => obtain ⟨i, x⟩ := x; unfold plainParts; rw [evMove_iff]; exact ih
def isAggA : AV → Bool
  | .agg _ => true
  | .t (.agg _) => true
  | .t (.sl _ _) => true
  | .own _ => true
  | _ => false
def isRec : AV → Bool
  | .agg _ => true
  | .t (.agg _) => true
  | _ => false
def isPart : AV → Bool
  | .own _ => true
  | .sub _ _ _ _ => true
  | .fsub _ _ _ _ _ => true
  | .ptr _ _ => true
  | _ => false
def evNilS (P : Program) (op : BinOp) (t : TypeId) (x y : AV) (H : Heap) (k : Kont) : Prop :=
  match P.underlying t with
  | some (.slice _) => (match y with
    | .t (.v (.slice none 0 0)) => (match x with
      | .t (.sl _ l) => (match op with
        | .eql => k (.ab (l = []) True) [] [] []
        | .neq => k (.ab True (l = [])) [] [] []
        | _ => False)
      | .own b => (match lookH H b with
        | (_, .row _ _ l) => (match op with
          | .eql => k (.ab (l = []) True) [] [b] []
          | .neq => k (.ab True (l = [])) [] [b] []
          | _ => False)
        | _ => False)
      | _ => False)
    | _ => False)
  | _ => False
def evOp [Tabs] (P : Program) (o : Oper) (tm : Tmps) (H : Heap) (k : Kont) : Prop :=
  match o.op with
  | .move x => evMove (opd (lookT tm) x) k
  | .assign x => evMove (opd (lookT tm) x) k
  | .pick c x y => (match opd (lookT tm) c with
    | .t (.v (.bool b)) => (match b with
      | true => evMove (opd (lookT tm) x) k
      | false => evMove (opd (lookT tm) y) k)
    | _ => False)
  | .binOp op t x y _ => (match isAggA (opd (lookT tm) x) with
    | true => (match isRec (opd (lookT tm) x) with
      | true => evEqR P op t (opd (lookT tm) x) (opd (lookT tm) y) k
      | false => evNilS P op t (opd (lookT tm) x) (opd (lookT tm) y) H k)
    | false => evBin (P.underlying t) op (isConstB x || isConstB y) (opd (lookT tm) x) (opd (lookT tm) y) k)
  | .unOp op _ x => evUn op (opd (lookT tm) x) k
  | .load t p => evLoad P t (opd (lookT tm) p) H k
  | .store t p x => evStore P t (opd (lookT tm) p) (opd (lookT tm) x) H k
  | .field t x f => evField P t (opd (lookT tm) x) f k
  | .extract x i => evExtract (opd (lookT tm) x) i k
  | .nilCheck x => evNil (opd (lookT tm) x) k
  | .makeInterface t x => evIface P t (opd (lookT tm) x) k
  | .makeFunc fn first caps => plainL (first.toList.map (opd (lookT tm))) fun a => plainL (caps.toList.map (opd (lookT tm))) fun c => k (.fn fn a c) [] [] []
  | .convert s d x => (match P.underlying s, P.underlying d with
    | some (.slice _), some .string => evStr P s d (opd (lookT tm) x) H k
    | some (.slice _), some (.slice _) => evMark P s d (opd (lookT tm) x) H k
    | some .string, some (.slice _) => Told P o tm H k
    | _, _ => evConv P s d (opd (lookT tm) x) k)
  | .fieldAddr s x f => evFAddr P s (opd (lookT tm) x) f k
  | .indexAddr t x i => evIAddr P t (opd (lookT tm) x) (opd (lookT tm) i) H k
  | .slice t x lo hi mx => (match isPart (opd (lookT tm) x) with
    | true => evSliceOwn P t (lookT tm) x lo hi mx H k
    | false => (match lo, hi, mx with
      | some l, some h, some m => evSlice3 P t (lookT tm) x l h m k
      | _, _, _ => evSlice P t (lookT tm) x lo hi mx H k))
  | .makeSlice t l c => evMake P t (opd (lookT tm) l) (opd (lookT tm) c) o.dst k
  | .alloc t => evAlloc P t o.dst k
  | .box t x => evBox t (cellsA (opd (lookT tm) x)) o.dst k
  | .build t ps => plainParts (ps.toList.map fun p => (p.1, opd (lookT tm) p.2)) fun l => evBuild P t l k
  | .buildSlice t len ps => plainParts (ps.toList.map fun p => (p.1, opd (lookT tm) p.2)) fun l => evBuildSlice P t len l H o.dst k
  | .call { callee := .builtin .len, args := as0, argTypes := ts } => (match as0.toList, ts.toList with
    | [x], [t] => evLen P t (opd (lookT tm) x) H k
    | _, _ => False)
  | .call { callee := .builtin .append, args := as0, argTypes := ts } => (match as0.toList, ts.toList with
    | [s, x], [t, t'] => (match isIntA (opd (lookT tm) x) with
      | some n => evAppend0 P t t' (opd (lookT tm) s) n H o.dst k
      | none => evAppend P t t' (opd (lookT tm) s) (opd (lookT tm) x) H o.dst k)
    | _, _ => False)
  | .call { callee := .builtin .cap, args := as0, argTypes := ts } => (match as0.toList, ts.toList with
    | [x], [t] => evCap P t (opd (lookT tm) x) k
    | _, _ => False)
  | .call { callee := .builtin .copy, args := as0, argTypes := ts } => (match as0.toList, ts.toList with
    | [d, x], [t, _] => evCopy P t (asSub (opd (lookT tm) d)) (asSub (opd (lookT tm) x)) H k
    | _, _ => False)
  | .call { callee := .builtin .clear, args := as0, argTypes := ts } => (match as0.toList, ts.toList with
    | [d], [t] => evClear P t (opd (lookT tm) d) H k
    | _, _ => False)
  | .call { callee := .builtin .max, args := as0, argTypes := ts } => (match as0.toList with
    | [x, y] => evMax true (opd (lookT tm) x) (opd (lookT tm) y) k
    | _ => False)
  | .call { callee := .builtin .min, args := as0, argTypes := ts } => (match as0.toList with
    | [x, y] => evMax false (opd (lookT tm) x) (opd (lookT tm) y) k
    | _ => False)
  | _ => Told P o tm H k
theorem told_of [Tabs] {P : Program} {o : Oper} {tm : Tmps} {H : Heap} {k : Kont} {v : AV} {W : Heap} {R N : List Nat} (h : OpLoc P o R (lookT tm) (lookH H) v W N) (hk : k v W R N) : Told P o tm H k := ⟨v, W, R, N, h, hk⟩
theorem arr_toList {α : Type} {a : Array α} {l : List α} (h : a.toList = l) : a = l.toArray := by rw [← h]
section
variable {P : Program} {o : Oper} {tf : Nat → AV} {hf : Hp}
theorem nilS_run [Tabs] {w : World} {op : BinOp} {t e : TypeId} {x y : Operand} {A : Option Addr} {n c : Nat} (hu : P.underlying t = some (.slice e)) : (do eqGuard .eql t x y (.slice A n c) (.slice none 0 0); Go.binOp .eql t (.slice A n c) (.slice none 0 0) : Sem Value).run P w = .ok (.bool A.isNone) w ∧
    (do eqGuard .neq t x y (.slice A n c) (.slice none 0 0); Go.binOp .neq t (.slice A n c) (.slice none 0 0) : Sem Value).run P w = .ok (.bool (!A.isNone)) w := by
  have he : (Op.equal t (.slice A n c) (.slice none 0 0)).run P w = .ok A.isNone w := by
    refine equal_step ?_
    unfold Op.equalIn
    cases A <;> simp [run_underlying hu]
  exact run_eqs (fun op => by cases op <;> rfl) rfl rfl he
theorem ok_nilS [Tabs] {op : BinOp} {t t' : TypeId} {x y : Operand} {H : Heap} {k : Kont} (ho : o.op = .binOp op t x y t') (h : evNilS P op t (opd tf x) (opd tf y) H k) (hH : hf = lookH H) : ∃ v R, OpLoc P o R tf hf v [] [] ∧ k v [] R [] := by
  have hop : ∀ tf', (∀ t ∈ tmpsOf o, tf' t = tf t) → ∀ z, z = x ∨ z = y → opd tf' z = opd tf z := fun tf' ht z hz => tmps_same ht (by rw [ho]; simp [Op.operands]; exact hz)
  subst hH
  unfold evNilS at h
  split at h
  · rename_i e hu
    split at h
    · rename_i hy
      have key : ∀ (R : List Nat) (l : List T) (hv : ∀ tf' hf', (∀ t ∈ tmpsOf o, tf' t = tf t) → (∀ b ∈ R, hf' b = lookH H b) → ∀ (w0 : Bse) (X O0 D : Nat → Prop) (m : Nat → Option Value) (a : Act) (w : World), Rel w0 X O0 D m tf' hf' a w → ∃ A n c, a.eval x = .slice A n c ∧ (A = none → l = [])), 
          (op = .eql → OpLoc P o R tf (lookH H) (.ab (l = []) True) [] []) ∧ (op = .neq → OpLoc P o R tf (lookH H) (.ab True (l = [])) [] []) := by
        intro R l hv
        constructor
        · intro e; subst e
          refine loc_read fun tf' hf' ht hh w0 X O0 D m a w hR => ?_
          obtain ⟨A, n, c, hx, hA⟩ := hv tf' hf' ht hh w0 X O0 D m a w hR
          have h2 := opd_told hR y
          rw [hop tf' ht y (by simp), hy] at h2
          have hr := (nilS_run (P := P) (w := w) (op := .eql) (x := x) (y := y) (A := A) (n := n) (c := c) hu).1
          refine ⟨.bool A.isNone, ?_, .ab _ _ _ (fun h => hA (by simpa using h)) (fun _ => trivial)⟩
          unfold execOp
          rw [ho]
          refine run_value ?_
          rw [hx, h2.v_eq]
          exact hr
        · intro e; subst e
          refine loc_read fun tf' hf' ht hh w0 X O0 D m a w hR => ?_
          obtain ⟨A, n, c, hx, hA⟩ := hv tf' hf' ht hh w0 X O0 D m a w hR
          have h2 := opd_told hR y
          rw [hop tf' ht y (by simp), hy] at h2
          have hr := (nilS_run (P := P) (w := w) (op := .neq) (x := x) (y := y) (A := A) (n := n) (c := c) hu).2
          refine ⟨.bool (!A.isNone), ?_, .ab _ _ _ (fun _ => trivial) (fun h => hA (by simpa using h))⟩
          unfold execOp
          rw [ho]
          refine run_value ?_
          rw [hx, h2.v_eq]
          exact hr
      split at h
      · rename_i sz l hx
        have kk := key [] l (fun tf' hf' ht hh w0 X O0 D m a w hR => by
          have h1 := opd_told hR x
          rw [hop tf' ht x (by simp), hx] at h1
          generalize a.eval x = z at h1
          cases h1.t_ht with
          | nil _ A c => exact ⟨A, 0, c, rfl, fun _ => rfl⟩
          | sl _ _ b o' c => exact ⟨_, _, _, rfl, fun e => by cases e⟩)
        split at h
        · exact ⟨_, _, kk.1 rfl, h⟩
        · exact ⟨_, _, kk.2 rfl, h⟩
        · exact h.elim
      · rename_i b hx
        split at h
        · rename_i fz ty sz l hb
          have kk := key [b] l (fun tf' hf' ht hh w0 X O0 D m a w hR => by
            have h1 := opd_told hR x
            rw [hop tf' ht x (by simp), hx] at h1
            have h3 := hR.blk b
            rw [hh b (by simp), hb] at h3
            have hm := h1.own_eq
            obtain ⟨v, xs, hv, how, _⟩ := h3
            rw [hm] at hv
            simp at hv
            rcases how.2 with ⟨h4, h5⟩ | ⟨g, cap, cur, h4, _⟩
            · exact ⟨none, 0, 0, by rw [hv, h4], fun _ => List.eq_nil_of_length_eq_zero h5⟩
            · exact ⟨_, _, _, by rw [hv, h4], fun e => by cases e⟩)
          split at h
          · exact ⟨_, _, kk.1 rfl, h⟩
          · exact ⟨_, _, kk.2 rfl, h⟩
          · exact h.elim
        · exact h.elim
      · exact h.elim
    · exact h.elim
  · exact h.elim
end
theorem evOp_told [Tabs] {P : Program} {o : Oper} {tm : Tmps} {H : Heap} {k : Kont} (h : evOp P o tm H k) : Told P o tm H k := by
  unfold evOp at h
  split at h
  · rename_i x ho
    rw [evMove_iff] at h
    exact told_of (ok_move (.inl ho)) h
  · rename_i x ho
    rw [evMove_iff] at h
    exact told_of (ok_move (.inr ho)) h
  · rename_i c x y ho
    split at h
    · rename_i b hb
      have := ok_pick (P := P) (hf := lookH H) ho hb
      split at h <;> (rw [evMove_iff] at h; exact told_of this h)
    · exact h.elim
  · rename_i op t x y t' ho
    split at h
    · split at h
      · obtain ⟨v, h1, h2⟩ := ok_eqR (hf := lookH H) ho h
        exact told_of h1 h2
      · obtain ⟨v, R, h1, h2⟩ := ok_nilS ho h rfl
        exact told_of h1 h2
    · obtain ⟨v, h1, h2⟩ := ok_bin (hf := lookH H) ho h
      exact told_of h1 h2
  · rename_i op t x ho
    obtain ⟨v, h1, h2⟩ := ok_un (P := P) (hf := lookH H) ho h
    exact told_of h1 h2
  · rename_i t p ho
    obtain ⟨v, R, h1, h2⟩ := ok_load ho h rfl
    exact told_of h1 h2
  · rename_i t p x ho
    obtain ⟨v, W, R, h1, h2⟩ := ok_store ho h rfl
    exact told_of h1 h2
  · rename_i t x f ho
    obtain ⟨v, h1, h2⟩ := ok_field (hf := lookH H) ho h
    exact told_of h1 h2
  · rename_i x i ho
    obtain ⟨v, h1, h2⟩ := ok_extract (P := P) (hf := lookH H) ho h
    exact told_of h1 h2
  · rename_i x ho
    obtain ⟨v, h1, h2⟩ := ok_nil (P := P) (hf := lookH H) ho h
    exact told_of h1 h2
  · rename_i t x ho
    obtain ⟨v, h1, h2⟩ := ok_iface (hf := lookH H) ho h
    exact told_of h1 h2
  · rename_i fn first caps ho
    obtain ⟨v, h1, h2⟩ := ok_func (P := P) (hf := lookH H) ho h
    exact told_of h1 h2
  · rename_i s d x ho
    split at h
    · obtain ⟨v, R, h1, h2⟩ := ok_str ho h rfl
      exact told_of h1 h2
    · obtain ⟨v, W, R, h1, h2⟩ := ok_mark ho h rfl
      exact told_of h1 h2
    · exact h
    · obtain ⟨v, h1, h2⟩ := ok_conv (hf := lookH H) ho h
      exact told_of h1 h2
  · rename_i s x f ho
    obtain ⟨v, h1, h2⟩ := ok_faddr (hf := lookH H) ho h
    exact told_of h1 h2
  · rename_i t x i ho
    obtain ⟨v, R, h1, h2⟩ := ok_iaddr ho h rfl
    exact told_of h1 h2
  · rename_i t x lo hi mx ho
    split at h
    · obtain ⟨v, R, h1, h2⟩ := ok_sliceOwn ho h rfl
      exact told_of h1 h2
    · split at h
      · obtain ⟨v, h1, h2⟩ := ok_slice3 (hf := lookH H) ho h
        exact told_of h1 h2
      · obtain ⟨v, h1, h2⟩ := ok_slice (hf := lookH H) ho h
        exact told_of h1 h2
  · rename_i t l c ho
    obtain ⟨v, W, N, h1, h2⟩ := ok_make (hf := lookH H) ho h
    exact told_of h1 h2
  · rename_i t ho
    obtain ⟨v, W, N, h1, h2⟩ := ok_alloc (tf := lookT tm) (hf := lookH H) ho h
    exact told_of h1 h2
  · rename_i t x ho
    obtain ⟨v, W, N, h1, h2⟩ := ok_box (P := P) (hf := lookH H) ho h
    exact told_of h1 h2
  · rename_i t ps ho
    rw [plainParts_iff] at h
    obtain ⟨v, h1, h2⟩ := ok_build (hf := lookH H) ho h
    exact told_of h1 h2
  · rename_i t len ps ho
    rw [plainParts_iff] at h
    obtain ⟨v, W, R, N, h1, h2⟩ := ok_buildSlice ho h rfl
    exact told_of h1 h2
  · rename_i as0 ts ho
    split at h
    · rename_i x t hx ht
      rw [arr_toList hx, arr_toList ht] at ho
      obtain ⟨v, R, h1, h2⟩ := ok_len ho h rfl
      exact told_of h1 h2
    · exact h.elim
  · rename_i as0 ts ho
    split at h
    · rename_i s x t t' hx ht
      rw [arr_toList hx, arr_toList ht] at ho
      split at h
      · rename_i n hn
        obtain ⟨v, W, R, N, h1, h2⟩ := ok_append0 ho hn h rfl
        exact told_of h1 h2
      · obtain ⟨v, W, R, N, h1, h2⟩ := ok_append ho h rfl
        exact told_of h1 h2
    · exact h.elim
  · rename_i as0 ts ho
    split at h
    · rename_i x t hx ht
      rw [arr_toList hx, arr_toList ht] at ho
      obtain ⟨v, h1, h2⟩ := ok_cap (hf := lookH H) ho h
      exact told_of h1 h2
    · exact h.elim
  · rename_i as0 ts ho
    split at h
    · rename_i d x t t' hx ht
      rw [arr_toList hx, arr_toList ht] at ho
      obtain ⟨v, W, R, h1, h2⟩ := ok_copy ho h (fun _ _ _ _ => asSub_told) (fun _ _ _ _ => asSub_told) rfl
      exact told_of h1 h2
    · exact h.elim
  · rename_i as0 ts ho
    split at h
    · rename_i d t hx ht
      rw [arr_toList hx, arr_toList ht] at ho
      obtain ⟨v, W, R, h1, h2⟩ := ok_clear ho h rfl
      exact told_of h1 h2
    · exact h.elim
  · rename_i as0 ts ho
    split at h
    · rename_i x y hx
      rw [arr_toList hx] at ho
      obtain ⟨v, h1, h2⟩ := ok_max (P := P) (hf := lookH H) (mx := true) ho h
      exact told_of h1 h2
    · exact h.elim
  · rename_i as0 ts ho
    split at h
    · rename_i x y hx
      rw [arr_toList hx] at ho
      obtain ⟨v, h1, h2⟩ := ok_max (P := P) (hf := lookH H) (mx := false) ho h
      exact told_of h1 h2
    · exact h.elim
  · exact h
end Go.YtppifophcphdkaaE
namespace Go.YtppifophcphdkaaE
open Go.RowKit
set_option linter.unusedVariables false
set_option linter.unusedSimpArgs false
abbrev Log := List (List Nat × List Nat)
def appK : Heap → Heap → (Heap → Prop) → Prop
  | [], H, k => k H
  | x :: l, H, k => appK l H fun H' => k (x :: H')
theorem appK_iff : ∀ {W H : Heap} {k : Heap → Prop}, appK W H k ↔ k (W ++ H)
  | [], H, k => Iff.rfl
  | x :: l, H, k => by unfold appK; exact appK_iff
def dstOk (n : Nat) : Option Tmp → Bool
  | some d => Nat.blt d n
  | none => true
def allIn (l : List Nat) : List Nat → Bool
  | [] => true
  | x :: r => memN x l && allIn l r
theorem allIn_iff [Tabs] {l r : List Nat} : allIn l r = true ↔ ∀ x ∈ r, x ∈ l := by
  induction r with
  | nil => simp [allIn]
  | cons x r ih => unfold allIn; rw [Bool.and_eq_true, ih, memN_iff]; simp
def afterOp (o : Oper) (n : Nat) (tm : Tmps) (H : Heap) (log : Log) (k : Tmps → Heap → Log → Prop) : Kont := fun v W R N =>
  match noneIn (ids H) N && allIn (ids W) N && dstOk n o.dst with
  | true => appK W H fun H' => match o.dst with
    | some d => k ((d, v) :: tm) H' ((R, ids W) :: log)
    | none => k tm H' ((R, ids W) :: log)
  | false => False
def ifB (b : Bool) (f : Bool → Prop) : Prop := @Bool.rec (fun _ => Prop) (f false) (f true) b
def evStep [Tabs] (P : Program) (all : List Oper) (n : Nat) (o : Oper) (rest : Tmps → Heap → Log → (Tmps → Heap → Log → Prop) → Prop) (tm : Tmps) (H : Heap) (log : Log) (k : Tmps → Heap → Log → Prop) : Prop :=
  match o.guard with
    | none => evOp P o tm H (afterOp o n tm H log fun tm H log => rest tm H log k)
    | some (j, want) => match (all[j]?).bind (·.dst) with
      | some g => match lookT tm g with
        | .t (.v (.bool c)) => @Bool.rec (fun _ => Prop)
          (match want with
            | false => evOp P o ((g, .bool false) :: tm) H (afterOp o n ((g, .bool false) :: tm) H log fun tm H log => rest tm H log k)
            | true => afterOp o n ((g, .bool false) :: tm) H log (fun tm H log => rest tm H log k) (.t (.v undef)) [] [] [])
          (match want with
            | true => evOp P o ((g, .bool true) :: tm) H (afterOp o n ((g, .bool true) :: tm) H log fun tm H log => rest tm H log k)
            | false => afterOp o n ((g, .bool true) :: tm) H log (fun tm H log => rest tm H log k) (.t (.v undef)) [] [] []) c
        | .t (.v (.tuple ⟨[]⟩)) => afterOp o n tm H log (fun tm H log => rest tm H log k) (.t (.v undef)) [] [] []
        | _ => False
      | none => False
def evOps [Tabs] (P : Program) (all : List Oper) (n : Nat) (os : List Oper) : Tmps → Heap → Log → (Tmps → Heap → Log → Prop) → Prop :=
  @List.rec Oper (fun _ => Tmps → Heap → Log → (Tmps → Heap → Log → Prop) → Prop) (fun tm H log k => k tm H log) (fun o _ rest => evStep P all n o rest) os
def evRegion [Tabs] (P : Program) (n : Nat) (l : List Oper) (draw : Bool) (tm : Tmps) (H : Heap) (k : Tmps → Heap → Prop) : Prop :=
  match draw with
  | false => evOps P l n l tm H [] fun tm H _ => k tm H
  | true => match P.follows .mixedOrders with
    | true => evOps P l n l tm H [] fun tm H log => match drawOk l log.reverse with
      | true => k tm H
      | false => False
    | false => False
theorem lookT_cons [Tabs] (d : Nat) (v : AV) (tm : Tmps) : lookT ((d, v) :: tm) = upT (lookT tm) (some d) v := by
  funext t
  unfold lookT upT
  rw [look_cons]
  by_cases h : d = t
  · simp [h]
  · rw [if_neg h, if_neg (fun e => h (by simpa using e))]
theorem lookH_append [Tabs] (W H : Heap) : lookH (W ++ H) = upH (lookH H) W := by
  funext b
  unfold lookH upH
  rw [look_append]
  rfl
theorem lookT_same [Tabs] {tm : Tmps} {g : Nat} {v : AV} (h : lookT tm g = v) : lookT ((g, v) :: tm) = lookT tm := by
  rw [lookT_cons]
  funext t
  unfold upT
  split
  · rename_i e; simp at e; subst e; exact h.symm
  · rfl
theorem noneIn_spec [Tabs] {H : Heap} {N : List Nat} (h : noneIn (ids H) N = true) : ∀ n ∈ N, ¬ n ∈ ids H := noneIn_iff.1 h
structure Res [Tabs] (P : Program) (ops : Array Oper) (os : List Oper) (n : Nat) (tm : Tmps) (H : Heap) (log : Log) (k : Tmps → Heap → Log → Prop) : Prop where
  ex : ∃ rs tm' H', Run P ops os (lookT tm) (lookH H) (fun b => b ∈ ids H) rs (lookT tm') (lookH H') (fun b => b ∈ ids H') ∧ k tm' H' ((rs.map fun r => (r.R, ids r.W)).reverse ++ log)
  dst : ∀ o ∈ os, ∀ x, o.dst = some x → x < n
theorem res_cons [Tabs] {P : Program} {ops : Array Oper} {o : Oper} {os : List Oper} {n : Nat} {tm : Tmps} {H : Heap} {log : Log} {k : Tmps → Heap → Log → Prop} {r : Rec} (hs : Stp P ops o (lookT tm) (lookH H) r)
    (h : afterOp o n tm H log (fun tm H log => Res P ops os n tm H log k) r.v r.W r.R r.N) : Res P ops (o :: os) n tm H log k := by
  unfold afterOp at h
  split at h
  · rename_i hc
    simp only [Bool.and_eq_true] at hc
    have hN := noneIn_spec hc.1.1
    have hW := allIn_iff.1 hc.1.2
    rw [appK_iff] at h
    have hD : ∀ b, b ∈ ids H ∨ b ∈ r.N → b ∈ ids (r.W ++ H) := fun b hb => (ids_append r.W H b).2 (hb.elim .inr fun h => .inl (hW b h))
    have hd : ∀ x, o.dst = some x → x < n := by
      intro x hx
      have := hc.2
      rw [hx] at this
      exact Nat.le_of_ble_eq_true this
    have fin : ∀ tm2, lookT tm2 = upT (lookT tm) o.dst r.v → Res P ops os n tm2 (r.W ++ H) ((r.R, ids r.W) :: log) k → Res P ops (o :: os) n tm H log k := by
      intro tm2 e h
      obtain ⟨⟨rs, tm', H', h1, h2⟩, h3⟩ := h
      rw [e, lookH_append] at h1
      refine ⟨⟨r :: rs, tm', H', .cons o os _ _ _ _ _ _ _ r rs hs hN hD h1, by simpa using h2⟩, fun o' ho' x hx => ?_⟩
      rcases List.mem_cons.1 ho' with rfl | ho'
      · exact hd x hx
      · exact h3 o' ho' x hx
    split at h
    · rename_i d hdst
      exact fin _ (by rw [lookT_cons, hdst]) h
    · rename_i hdst
      exact fin _ (by rw [hdst]; funext t; simp [upT]) h
  · exact h.elim
theorem res_told [Tabs] {P : Program} {ops : Array Oper} {o : Oper} {os : List Oper} {n : Nat} {tm : Tmps} {H : Heap} {log : Log} {k : Tmps → Heap → Log → Prop} (hg : Grd ops o (lookT tm) true) (h : Told P o tm H (afterOp o n tm H log (fun tm H log => Res P ops os n tm H log k))) : Res P ops (o :: os) n tm H log k := by
  obtain ⟨v, W, R, N, h1, h2⟩ := h
  exact res_cons (r := ⟨v, W, R, N⟩) (.inl ⟨hg, h1⟩) h2
theorem res_skip [Tabs] {P : Program} {ops : Array Oper} {o : Oper} {os : List Oper} {n : Nat} {tm : Tmps} {H : Heap} {log : Log} {k : Tmps → Heap → Log → Prop} (hg : Grd ops o (lookT tm) false) (h : afterOp o n tm H log (fun tm H log => Res P ops os n tm H log k) (.t (.v undef)) [] [] []) : Res P ops (o :: os) n tm H log k :=
  res_cons (r := ⟨.t (.v undef), [], [], []⟩) (.inr ⟨hg, rfl⟩) h
theorem Res.same [Tabs] {P : Program} {ops : Array Oper} {os : List Oper} {n : Nat} {tm tm2 : Tmps} {H : Heap} {log : Log} {k : Tmps → Heap → Log → Prop} (e : lookT tm2 = lookT tm) (h : Res P ops os n tm2 H log k) : Res P ops os n tm H log k := by
  obtain ⟨⟨rs, tm', H', h1, h2⟩, h3⟩ := h
  rw [e] at h1
  exact ⟨⟨rs, tm', H', h1, h2⟩, h3⟩
theorem afterOp_mono [Tabs] {o : Oper} {n : Nat} {tm : Tmps} {H : Heap} {log : Log} {k k' : Tmps → Heap → Log → Prop} (hk : ∀ tm H log, k tm H log → k' tm H log) {v : AV} {W : Heap} {R N : List Nat} (h : afterOp o n tm H log k v W R N) : afterOp o n tm H log k' v W R N := by
  unfold afterOp at *
  split at h
  · rw [appK_iff] at h ⊢
    split at h
    · exact hk _ _ _ h
    · exact hk _ _ _ h
  · exact h.elim
theorem Told.mono [Tabs] {P : Program} {o : Oper} {tm : Tmps} {H : Heap} {k k' : Kont} (hk : ∀ v W R N, k v W R N → k' v W R N) (h : Told P o tm H k) : Told P o tm H k' := by
  obtain ⟨v, W, R, N, h1, h2⟩ := h
  exact ⟨v, W, R, N, h1, hk _ _ _ _ h2⟩
theorem evOps_res [Tabs] {P : Program} {ops : Array Oper} {n : Nat} : ∀ (os : List Oper) (tm : Tmps) (H : Heap) (log : Log) (k : Tmps → Heap → Log → Prop), evOps P ops.toList n os tm H log k → Res P ops os n tm H log k
  | [], tm, H, log, k, h => ⟨⟨[], tm, H, .nil _ _ _, by simpa [evOps] using h⟩, by simp⟩
  | o :: os, tm, H, log, k, h => by
    have ih : ∀ tm H log, evOps P ops.toList n os tm H log k → Res P ops os n tm H log k := fun tm H log h => evOps_res os tm H log k h
    change evStep P ops.toList n o (evOps P ops.toList n os) tm H log k at h
    unfold evStep at h
    split at h
    · rename_i hg
      exact res_told (.none hg) ((evOp_told h).mono fun v W R N h => afterOp_mono ih h)
    · rename_i j want hg
      split at h
      · rename_i g hj
        have hj' : (ops[j]?).bind (·.dst) = some g := by simpa using hj
        split at h
        · rename_i c hc
          have key : ∀ b : Bool, c = b → lookT tm g = .t (.v (.bool b)) := fun b e => by rw [hc, e]
          cases c with
          | false =>
            have e := lookT_same (tm := tm) (g := g) (v := .bool false) hc
            have hG : Grd ops o (lookT ((g, .bool false) :: tm)) (false == want) := .some j g want false hg hj' (by rw [e]; exact hc)
            cases want with
            | false => exact Res.same e (res_told hG ((evOp_told h).mono fun v W R N h => afterOp_mono ih h))
            | true => exact Res.same e (res_skip hG (afterOp_mono ih h))
          | true =>
            have e := lookT_same (tm := tm) (g := g) (v := .bool true) hc
            have hG : Grd ops o (lookT ((g, .bool true) :: tm)) (true == want) := .some j g want true hg hj' (by rw [e]; exact hc)
            cases want with
            | true => exact Res.same e (res_told hG ((evOp_told h).mono fun v W R N h => afterOp_mono ih h))
            | false => exact Res.same e (res_skip hG (afterOp_mono ih h))
        · rename_i hc
          exact res_skip (.off j g want hg hj' hc) (afterOp_mono ih h)
        · exact h.elim
      · exact h.elim
theorem evRegion_sound [Tabs] {P : Program} {ops : Array Oper} {n id : Nat} {draw : Bool} {tm : Tmps} {H : Heap} {k : Tmps → Heap → Prop} (h : evRegion P n ops.toList draw tm H k) {Q : Exit → Act → World → Prop} {w0 : Bse} {X O0 : Nat → Prop} {m : Nat → Option Value} {a : Act} {w : World} (hR : Rel w0 X O0 (fun b => b ∈ ids H) m (lookT tm) (lookH H) a w) (hn : a.tmps.size = n)
    (hk : ∀ tm' H' m a' w', k tm' H' → Rel w0 X O0 (fun b => b ∈ ids H') m (lookT tm') (lookH H') a' w' → a'.tmps.size = n → a'.defers = a.defers → Q .normal a' w') : (Code.region id ops draw).wp P Q a w := by
  unfold evRegion at h
  split at h
  · obtain ⟨⟨rs, tm', H', h1, h2⟩, h3⟩ := evOps_res _ _ _ _ _ h
    exact region_plain h1 hR hn h3 (fun m a' w' q1 q2 q3 => hk tm' H' m a' w' h2 q1 q2 q3)
  · split at h
    · rename_i hm
      obtain ⟨⟨rs, tm', H', h1, h2⟩, h3⟩ := evOps_res _ _ _ _ _ h
      simp only [List.append_nil, List.reverse_reverse] at h2
      split at h2
      · rename_i hck
        exact region_draw hm h1 hck hR hn h3 (fun m a' w' q1 q2 q3 => hk tm' H' m a' w' h2 q1 q2 q3)
      · exact h2.elim
    · exact h.elim
end Go.YtppifophcphdkaaE
namespace Go.YtppifophcphdkaaE
open Go.RowKit
set_option linter.unusedVariables false
set_option linter.unusedSimpArgs false
inductive Ex where
  | normal
  | exit (id : Nat)
  | ret
abbrev K2 := Ex → Tmps → Heap → Prop
def Le [Tabs] (B : List Nat) (tm : Tmps) (H : Heap) (tm' : Tmps) (H' : Heap) : Prop :=
  ∀ (w0 : Bse) (X O0 : Nat → Prop) (m : Nat → Option Value) (a : Act) (w : World), (∀ b v, w0.m b = some v → b ∈ B) → Rel w0 X O0 (fun b => b ∈ ids H) m (lookT tm) (lookH H) a w → ∃ m', Rel w0 X O0 (fun b => b ∈ ids H') m' (lookT tm') (lookH H') a w
def LoopOb [Tabs] (B : List Nat) (f : Tmps → Heap → K2 → Prop) (tm : Tmps) (H : Heap) (k : K2) : Prop :=
  ∃ (Y : Type) (It : Y → Tmps) (Ih : Y → Heap) (G : Y → Prop) (mu : Y → Nat) (y0 : Y), G y0 ∧ Le B tm H (It y0) (Ih y0) ∧ ∀ y, G y → f (It y) (Ih y) fun e tm' H' => match e with
    | .normal => ∃ z, G z ∧ Le B tm' H' (It z) (Ih z) ∧ mu z < mu y
    | .exit i => k (.exit i) tm' H'
    | .ret => k .ret tm' H'
def evCond [Tabs] (c : Operand) (tm : Tmps) (f g : Tmps → Prop) : Prop :=
  match opd (lookT tm) c with
  | .t (.v (.bool b)) => (match c with
    | .tmp t => @Bool.rec (fun _ => Prop) (g ((t, .bool false) :: tm)) (f ((t, .bool true) :: tm)) b
    | _ => @Bool.rec (fun _ => Prop) (g tm) (f tm) b)
  | .ab p q => (match c with
    | .tmp t => (p → f ((t, .bool true) :: tm)) ∧ (q → g ((t, .bool false) :: tm))
    | _ => False)
  | _ => False
def ev [Tabs] (P : Program) (n : Nat) (B : List Nat) (c : Code) : Tmps → Heap → K2 → Prop :=
  @Code.rec (fun _ => Tmps → Heap → K2 → Prop)
    (fun tm H k => k .normal tm H)
    (fun _ ops d tm H k => evRegion P n ops.toList d tm H (k .normal))
    (fun _ _ f g tm H k => f tm H fun e tm H => match e with
      | .normal => g tm H k
      | .exit i => k (.exit i) tm H
      | .ret => k .ret tm H)
    (fun c _ _ f g tm H k => evCond c tm (fun tm => f tm H k) (fun tm => g tm H k))
    (fun id _ f tm H k => f tm H fun e tm H => match e with
      | .normal => k .normal tm H
      | .exit i => bif Nat.beq i id then k .normal tm H else k (.exit i) tm H
      | .ret => k .ret tm H)
    (fun _ f tm H k => LoopOb B f tm H k)
    (fun _ _ _ _ _ _ _ _ _ => False)
    (fun i tm H k => k (.exit i) tm H)
    (fun _ _ _ _ _ => False)
    (fun _ tm H k => k .normal tm H)
    (fun _ _ _ _ => False)
    (fun tm H k => k .ret tm H)
    (fun _ _ _ _ => False) c
def Ex.to : Ex → Exit
  | .normal => .normal
  | .exit i => .exit i
  | .ret => .ret
theorem wp_loopg {P : Program} {Q : Exit → Act → World → Prop} {c : Code} {a : Act} {w : World} (J : Nat → Act → World → Prop) (q : Nat) (h0 : J q a w) (round : ∀ q a w, J q a w → c.wp P (Exit.then (fun a' w' => ∃ r, r < q ∧ J r a' w') Q) a w) : (Code.loop c).wp P Q a w := by
  classical
  have hex : ∀ a w, (∃ q, J q a w) → ∃ m, J m a w ∧ ∀ r, J r a w → m ≤ r := by
    intro a w ⟨q, hq⟩
    induction q using Nat.strongRecOn with
    | _ q ih =>
      by_cases h : ∃ r, r < q ∧ J r a w
      · obtain ⟨r, hr, hj⟩ := h; exact ih r hr hj
      · exact ⟨q, hq, fun r hr => Nat.le_of_not_lt fun hl => h ⟨r, hl, hr⟩⟩
  let μ : Act → World → Nat := fun a w => if h : ∃ q, J q a w then Classical.choose (hex a w h) else 0
  have hμ : ∀ a w q, J q a w → J (μ a w) a w ∧ μ a w ≤ q := by
    intro a w q hq
    have h : ∃ q, J q a w := ⟨q, hq⟩
    simp only [μ, dif_pos h]
    have := Classical.choose_spec (hex a w h)
    exact ⟨this.1, this.2 q hq⟩
  refine wp_loop (fun a w => ∃ q, J q a w) μ ⟨q, h0⟩ ?_
  rintro a w ⟨q, hq⟩
  refine wp_mono (round (μ a w) a w (hμ a w q hq).1) ?_
  intro e a' w' h
  cases e with
  | normal => obtain ⟨r, hr, hj⟩ := h; exact ⟨⟨r, hj⟩, Nat.lt_of_le_of_lt (hμ a' w' r hj).2 hr⟩
  | exit id => exact h
  | goto l => exact h
  | ret => exact h
  | panic ch => exact h
  | outgrown => exact h
section
variable {P : Program} {n : Nat} {B : List Nat} {w0 : Bse} {X O0 : Nat → Prop}
theorem ev_sound [Tabs] (hB : ∀ b v, w0.m b = some v → b ∈ B) : ∀ (c : Code) (tm : Tmps) (H : Heap) (k : K2) (Q : Exit → Act → World → Prop) (m : Nat → Option Value) (a : Act) (w : World), ev P n B c tm H k → Rel w0 X O0 (fun b => b ∈ ids H) m (lookT tm) (lookH H) a w → a.tmps.size = n →
    (∀ e tm' H' m a' w', k e tm' H' → Rel w0 X O0 (fun b => b ∈ ids H') m (lookT tm') (lookH H') a' w' → a'.tmps.size = n → a'.defers = a.defers → Q e.to a' w') → c.wp P Q a w := by
  intro c
  induction c with
  | skip => intro tm H k Q m a w h hR hn hk; exact wp_skip (hk .normal tm H m a w h hR hn rfl)
  | label l => intro tm H k Q m a w h hR hn hk; exact wp_label (hk .normal tm H m a w h hR hn rfl)
  | region id ops d =>
    intro tm H k Q m a w h hR hn hk
    exact evRegion_sound h hR hn (fun tm' H' m a' w' h1 h2 h3 h4 => hk .normal tm' H' m a' w' h1 h2 h3 h4)
  | seq x y ihx ihy =>
    intro tm H k Q m a w h hR hn hk
    refine wp_seq (ihx tm H _ _ m a w h hR hn ?_)
    intro e tm' H' m' a' w' h1 h2 h3 h4
    cases e with
    | normal => exact ihy tm' H' k Q m' a' w' h1 h2 h3 (fun e tm2 H2 m2 a2 w2 q1 q2 q3 q4 => hk e tm2 H2 m2 a2 w2 q1 q2 q3 (q4.trans h4))
    | exit i => exact hk (.exit i) tm' H' m' a' w' h1 h2 h3 h4
    | ret => exact hk .ret tm' H' m' a' w' h1 h2 h3 h4
  | cond c x y ihx ihy =>
    intro tm H k Q m a w h hR hn hk
    have h' : evCond c tm (fun tm => ev P n B x tm H k) (fun tm => ev P n B y tm H k) := h
    unfold evCond at h'
    split at h'
    · rename_i b hb
      have hc := opd_told hR c
      rw [hb] at hc
      refine wp_cond hc.v_eq ?_
      have main : (if b = true then ev P n B x tm H k else ev P n B y tm H k) → (if b = true then x else y).wp P Q a w := by
        intro h
        cases b
        · exact ihy tm H k Q m a w h hR hn hk
        · exact ihx tm H k Q m a w h hR hn hk
      split at h'
      · rename_i t
        have e := lookT_same (tm := tm) (g := t) (v := .t (.v (.bool b))) hb
        cases b with
        | false => exact ihy _ H k Q m a w h' (by rw [e]; exact hR) hn hk
        | true => exact ihx _ H k Q m a w h' (by rw [e]; exact hR) hn hk
      · refine main ?_
        cases b
        · exact h'
        · exact h'
    · rename_i p q hb
      have hc := opd_told hR c
      rw [hb] at hc
      split at h'
      · rename_i t
        generalize hz : a.eval (.tmp t) = z at hc
        cases hc with
        | ab _ _ b hp hq =>
          refine wp_cond hz ?_
          have hR2 : Rel w0 X O0 (fun b => b ∈ ids H) m (lookT ((t, .bool b) :: tm)) (lookH H) a w := by
            rw [lookT_cons]
            refine { hR with tmp := fun t' => ?_ }
            unfold upT
            by_cases e : some t = some t'
            · rw [if_pos e]
              cases e
              have : get a t = .bool b := hz
              rw [this]
              exact .t _ _ (.v _)
            · rw [if_neg e]; exact hR.tmp t'
          cases b
          · exact ihy _ H k Q m a w (h'.2 (hq rfl)) hR2 hn hk
          · exact ihx _ H k Q m a w (h'.1 (hp rfl)) hR2 hn hk
      · exact h'.elim
    · exact h'.elim
  | block id c ih =>
    intro tm H k Q m a w h hR hn hk
    refine wp_block (ih tm H _ _ m a w h hR hn ?_)
    intro e tm' H' m' a' w' h1 h2 h3 h4
    cases e with
    | normal => exact hk .normal tm' H' m' a' w' h1 h2 h3 h4
    | exit i =>
      by_cases hi : i = id
      · subst hi
        have h1' : (bif Nat.beq i i then k .normal tm' H' else k (.exit i) tm' H') := h1
        simp only [Nat.beq_refl, cond_true] at h1'
        show (if i = i then Q .normal a' w' else Q (.exit i) a' w')
        rw [if_pos rfl]
        exact hk .normal tm' H' m' a' w' h1' h2 h3 h4
      · have hb : Nat.beq i id = false := by rw [Bool.eq_false_iff]; exact fun e => hi (Nat.eq_of_beq_eq_true e)
        have h1' : (bif Nat.beq i id then k .normal tm' H' else k (.exit i) tm' H') := h1
        rw [hb] at h1'
        show (if i = id then Q .normal a' w' else Q (.exit i) a' w')
        rw [if_neg hi]
        exact hk (.exit i) tm' H' m' a' w' h1' h2 h3 h4
    | ret => exact hk .ret tm' H' m' a' w' h1 h2 h3 h4
  | loop c ih =>
    intro tm H k Q m a w h hR hn hk
    obtain ⟨Y, It, Ih, G, mu, y0, hG, hle, hround⟩ := h
    obtain ⟨m1, hR1⟩ := hle w0 X O0 m a w hB hR
    refine wp_loopg (fun q a' w' => ∃ y m', mu y = q ∧ G y ∧ Rel w0 X O0 (fun b => b ∈ ids (Ih y)) m' (lookT (It y)) (lookH (Ih y)) a' w' ∧ a'.tmps.size = n ∧ a'.defers = a.defers) (mu y0) ⟨y0, m1, rfl, hG, hR1, hn, rfl⟩ ?_
    rintro q a1 w1 ⟨y, m2, rfl, hG1, hR2, hn2, hd2⟩
    refine ih (It y) (Ih y) _ _ m2 a1 w1 (hround y hG1) hR2 hn2 ?_
    intro e tm' H' m' a' w' h1 h2 h3 h4
    cases e with
    | normal =>
      obtain ⟨z, hGz, hlez, hmu⟩ := h1
      obtain ⟨m3, hR3⟩ := hlez w0 X O0 m' a' w' hB h2
      exact ⟨mu z, hmu, z, m3, rfl, hGz, hR3, h3, h4.trans hd2⟩
    | exit i => exact hk (.exit i) tm' H' m' a' w' h1 h2 h3 (h4.trans hd2)
    | ret => exact hk .ret tm' H' m' a' w' h1 h2 h3 (h4.trans hd2)
  | exit i => intro tm H k Q m a w h hR hn hk; exact wp_exit (hk (.exit i) tm H m a w h hR hn rfl)
  | ret => intro tm H k Q m a w h hR hn hk; exact wp_ret (hk .ret tm H m a w h hR hn rfl)
  | rangeFunc f params assign body ih1 ih2 => intro tm H k Q m a w h; exact h.elim
  | scope body ih => intro tm H k Q m a w h; exact h.elim
  | goto l => intro tm H k Q m a w h; exact h.elim
  | refuse why => intro tm H k Q m a w h; exact h.elim
end
end Go.YtppifophcphdkaaE
namespace Go.YtppifophcphdkaaE
open Go.RowKit
set_option linter.unusedVariables false
set_option linter.unusedSimpArgs false
def rn (φ : List (Nat × Nat)) (b : Nat) : Nat := look b φ b
mutual
def AV.ren (φ : List (Nat × Nat)) : AV → AV
  | .un => .un
  | .t x => .t x
  | .own b => .own (rn φ b)
  | .ptr b o => .ptr (rn φ b) o
  | .rp b sz i j => .rp (rn φ b) sz i j
  | .sub b sz i n => .sub (rn φ b) sz i n
  | .ab p q => .ab p q
  | .fsub b sz i n N => .fsub (rn φ b) sz i n N
  | .agg l => .agg (renL φ l)
  | .tuple l => .tuple (renL φ l)
  | .iface t x => .iface t (x.ren φ)
  | .fn f a c => .fn f (renL φ a) (renL φ c)
def renL (φ : List (Nat × Nat)) : List AV → List AV
  | [] => []
  | x :: l => x.ren φ :: renL φ l
end
def Blk.ren (φ : List (Nat × Nat)) : Blk → Blk
  | .dead => .dead
  | .box ty c => .box ty (renL φ c)
  | .row ty sz l => .row ty sz l
  | .arr ty sz l N => .arr ty sz l N
  | .set ks => .set ks
theorem renL_map (φ : List (Nat × Nat)) (l : List AV) : renL φ l = l.map (AV.ren φ) := by
  induction l with
  | nil => rfl
  | cons x l ih => unfold renL; rw [ih]; rfl
theorem HA.ren [Tabs] {m m2 : Nat → Option Value} {w : World} {O O2 : Nat → Prop} {φ : List (Nat × Nat)} (hm : ∀ b v, m b = some v → m2 (rn φ b) = some v) (hO : ∀ c, O2 c → O c) {x : AV} {v : Value} (h : HA m w O x v) : HA m2 w O2 (x.ren φ) v := by
  induction h with
  | un x => exact .un x
  | t x y h => exact .t x y (h.mono (Keep.refl _ _) (fun c hc => .inl (hO c hc)))
  | own b v h h1 => exact .own _ v (hm _ _ h) h1
  | ptr b off g h => exact .ptr _ off g (hm _ _ h)
  | rp b sz i j g n c h => exact .rp _ sz i j g n c (hm _ _ h)
  | sub b sz i n v h => exact .sub _ sz i n v (h.mono fun v h => hm _ v h)
  | ab p q b h h' => exact .ab p q b h h'
  | fsub b sz i n N v h => exact .fsub _ sz i n N v (h.mono fun v h => hm _ v h)
  | agg l vs hl h ih =>
    unfold AV.ren
    rw [renL_map]
    refine .agg _ vs (by simpa using hl) (fun i x y hx hy => ?_)
    rw [List.getElem?_map] at hx
    obtain ⟨z, hz, rfl⟩ := Option.map_eq_some_iff.1 hx
    exact ih i z y hz hy
  | tuple l vs hl h ih =>
    unfold AV.ren
    rw [renL_map]
    refine .tuple _ vs (by simpa using hl) (fun i x y hx hy => ?_)
    rw [List.getElem?_map] at hx
    obtain ⟨z, hz, rfl⟩ := Option.map_eq_some_iff.1 hx
    exact ih i z y hz hy
  | iface t x y h ih => exact .iface t _ y ih
  | fn f l k vs us hl h hm' h' ih ih' =>
    unfold AV.ren
    rw [renL_map, renL_map]
    refine .fn f _ _ vs us (by simpa using hl) (fun i x y hx hy => ?_) (by simpa using hm') (fun i x y hx hy => ?_)
    · rw [List.getElem?_map] at hx
      obtain ⟨z, hz, rfl⟩ := Option.map_eq_some_iff.1 hx
      exact ih i z y hz hy
    · rw [List.getElem?_map] at hx
      obtain ⟨z, hz, rfl⟩ := Option.map_eq_some_iff.1 hx
      exact ih' i z y hz hy
mutual
def AV.inI (I : List Nat) : AV → Bool
  | .un => true
  | .t _ => true
  | .own b => memN b I
  | .ptr b _ => memN b I
  | .rp b _ _ _ => memN b I
  | .sub b _ _ _ => memN b I
  | .ab _ _ => true
  | .fsub b _ _ _ _ => memN b I
  | .agg l => inL I l
  | .tuple l => inL I l
  | .iface _ x => x.inI I
  | .fn _ a c => inL I a && inL I c
def inL (I : List Nat) : List AV → Bool
  | [] => true
  | x :: l => x.inI I && inL I l
end
def Blk.inI (I : List Nat) : Blk → Bool
  | .box _ c => inL I c
  | _ => true
theorem inL_mem {I : List Nat} {l : List AV} (h : inL I l = true) : ∀ x ∈ l, x.inI I = true := by
  induction l with
  | nil => intro x hx; cases hx
  | cons y l ih =>
    unfold inL at h
    simp only [Bool.and_eq_true] at h
    intro x hx
    rcases List.mem_cons.1 hx with rfl | hx
    · exact h.1
    · exact ih h.2 x hx
theorem HA.back [Tabs] {m m2 : Nat → Option Value} {w : World} {O O2 : Nat → Prop} {φ : List (Nat × Nat)} {I : List Nat} (hm : ∀ b ∈ I, ∀ v, m2 (rn φ b) = some v → m b = some v) (hO : ∀ c, O c → O2 c) : ∀ {x : AV} {v : Value}, x.inI I = true → HA m2 w O2 (x.ren φ) v → HA m w O x v := by
  intro x
  induction x using AV.rec (motive_2 := fun l => ∀ x ∈ l, ∀ v, x.inI I = true → HA m2 w O2 (x.ren φ) v → HA m w O x v) with
  | un => intro v _ h; exact .un v
  | t x => intro v _ h; cases h with | t _ _ h => exact .t _ _ (h.mono (Keep.refl _ _) (fun c hc => .inl (hO c hc)))
  | own b => intro v hi h; cases h with | own _ _ h h1 => exact .own _ _ (hm _ (memN_iff.1 hi) _ h) h1
  | ptr b off => intro v hi h; cases h with | ptr _ _ g h => exact .ptr _ _ g (hm _ (memN_iff.1 hi) _ h)
  | rp b sz i j => intro v hi h; cases h with | rp _ _ _ _ g n c h => exact .rp _ _ _ _ g n c (hm _ (memN_iff.1 hi) _ h)
  | sub b sz i n => intro v hi h; cases h with | sub _ _ _ _ v h => exact .sub _ _ _ _ v (h.mono fun v h => hm _ (memN_iff.1 hi) v h)
  | ab p q => intro v hi h; cases h with | ab _ _ b h h' => exact .ab p q b h h'
  | fsub b sz i n N => intro v hi h; cases h with | fsub _ _ _ _ _ v h => exact .fsub _ _ _ _ _ v (h.mono fun v h => hm _ (memN_iff.1 hi) v h)
  | agg l ih =>
    intro v hi h
    unfold AV.ren at h
    rw [renL_map] at h
    have hi := inL_mem (I := I) (l := l) hi
    cases h with
    | agg _ vs hl h =>
      refine .agg _ vs (by simpa using hl) (fun i x y hx hy => ih x (List.mem_of_getElem? hx) y (hi x (List.mem_of_getElem? hx)) (h i _ y (by rw [List.getElem?_map, hx]; rfl) hy))
  | tuple l ih =>
    intro v hi h
    unfold AV.ren at h
    rw [renL_map] at h
    have hi := inL_mem (I := I) (l := l) hi
    cases h with
    | tuple _ vs hl h =>
      refine .tuple _ vs (by simpa using hl) (fun i x y hx hy => ih x (List.mem_of_getElem? hx) y (hi x (List.mem_of_getElem? hx)) (h i _ y (by rw [List.getElem?_map, hx]; rfl) hy))
  | iface t x ih =>
    intro v hi h
    cases h with
    | iface _ _ y h => exact .iface t x y (ih hi h)
  | fn f a c iha ihc =>
    intro v hi h
    unfold AV.ren at h
    rw [renL_map, renL_map] at h
    have hi : (inL I a && inL I c) = true := hi
    simp only [Bool.and_eq_true] at hi
    have hia := inL_mem hi.1
    have hic := inL_mem hi.2
    cases h with
    | fn _ _ _ vs us hl h hm' h' =>
      exact .fn f _ _ vs us (by simpa using hl) (fun i x y hx hy => iha x (List.mem_of_getElem? hx) y (hia x (List.mem_of_getElem? hx)) (h i _ y (by rw [List.getElem?_map, hx]; rfl) hy)) (by simpa using hm') (fun i x y hx hy => ihc x (List.mem_of_getElem? hx) y (hic x (List.mem_of_getElem? hx)) (h' i _ y (by rw [List.getElem?_map, hx]; rfl) hy))
  | nil => rename_i hx _ _ _; cases hx
  | cons x l ihx ihl =>
    rename_i hy v hi h
    rcases List.mem_cons.1 hy with rfl | hy
    · exact ihx hi h
    · exact ihl _ hy v hi h
theorem one_ren (φ : List (Nat × Nat)) (x : AV) : (x.ren φ).one = x.one := by cases x <;> rfl
theorem HB.ren [Tabs] {m m2 : Nat → Option Value} {w : World} {O O2 : Nat → Prop} {φ : List (Nat × Nat)} (hm : ∀ b v, m b = some v → m2 (rn φ b) = some v) (hO : ∀ c, O2 c → O c) {b : Nat} {k : Blk} (h : HB m w O b k) : HB m2 w O2 (rn φ b) (k.ren φ) := by
  cases k with
  | dead => trivial
  | box ty c =>
    obtain ⟨g, vs, h1, h2, h3, h4, h5⟩ := h
    show HB m2 w O2 (rn φ b) (.box ty (renL φ c))
    rw [renL_map]
    refine ⟨g, vs, hm _ _ h1, h2, by simpa using h3, fun x hx => ?_, fun i x y hx hy => ?_⟩
    · obtain ⟨z, hz, rfl⟩ := List.mem_map.1 hx
      rw [one_ren]; exact h4 z hz
    · rw [List.getElem?_map] at hx
      obtain ⟨z, hz, rfl⟩ := Option.map_eq_some_iff.1 hx
      exact (h5 i z y hz hy).ren hm hO
  | row ty sz l =>
    obtain ⟨v, xs, h1, h2, h3, h4⟩ := h
    refine ⟨v, xs, hm _ _ h1, h2, h3, fun i j x y hx hy => ?_⟩
    obtain ⟨u, hu, ht⟩ := h4 i j x y hx hy
    exact ⟨u, hu, ht.mono (Keep.refl _ _) (fun c hc => .inl (hO c hc))⟩
  | arr ty sz l N =>
    obtain ⟨g, cur, h1, h2, h3, h4, h5, h6, h7⟩ := h
    refine ⟨g, cur, hm _ _ h1, h2, h3, h4, h5, h6, fun i j x y hx hy => ?_⟩
    obtain ⟨u, hu, ht⟩ := h7 i j x y hx hy
    exact ⟨u, hu, ht.mono (Keep.refl _ _) (fun c hc => .inl (hO c hc))⟩
  | set ks =>
    obtain ⟨g, es, cl, h1, h2, h3⟩ := h
    exact ⟨g, es, cl, hm _ _ h1, h2, h3⟩
theorem HB.back [Tabs] {m m2 : Nat → Option Value} {w : World} {O O2 : Nat → Prop} {φ : List (Nat × Nat)} {I : List Nat} (hm : ∀ b ∈ I, ∀ v, m2 (rn φ b) = some v → m b = some v) (hO : ∀ c, O c → O2 c) {b : Nat} {k : Blk} (hb : b ∈ I) (hi : k.inI I = true) (h : HB m2 w O2 (rn φ b) (k.ren φ)) : HB m w O b k := by
  cases k with
  | dead => trivial
  | box ty c =>
    have h : HB m2 w O2 (rn φ b) (.box ty (renL φ c)) := h
    rw [renL_map] at h
    obtain ⟨g, vs, h1, h2, h3, h4, h5⟩ := h
    refine ⟨g, vs, hm _ hb _ h1, h2, by simpa using h3, fun x hx => by rw [← one_ren φ x]; exact h4 _ (List.mem_map.2 ⟨x, hx, rfl⟩), fun i x y hx hy => ?_⟩
    exact HA.back hm hO (inL_mem hi x (List.mem_of_getElem? hx)) (h5 i _ y (by rw [List.getElem?_map, hx]; rfl) hy)
  | row ty sz l =>
    obtain ⟨v, xs, h1, h2, h3, h4⟩ := h
    refine ⟨v, xs, hm _ hb _ h1, h2, h3, fun i j x y hx hy => ?_⟩
    obtain ⟨u, hu, ht⟩ := h4 i j x y hx hy
    exact ⟨u, hu, ht.mono (Keep.refl _ _) (fun c hc => .inl (hO c hc))⟩
  | arr ty sz l N =>
    obtain ⟨g, cur, h1, h2, h3, h4, h5, h6, h7⟩ := h
    refine ⟨g, cur, hm _ hb _ h1, h2, h3, h4, h5, h6, fun i j x y hx hy => ?_⟩
    obtain ⟨u, hu, ht⟩ := h7 i j x y hx hy
    exact ⟨u, hu, ht.mono (Keep.refl _ _) (fun c hc => .inl (hO c hc))⟩
  | set ks =>
    obtain ⟨g, es, cl, h1, h2, h3⟩ := h
    exact ⟨g, es, cl, hm _ hb _ h1, h2, h3⟩
theorem live_ren (φ : List (Nat × Nat)) (k : Blk) : (k.ren φ).live ↔ k.live := by cases k <;> exact Iff.rfl
abbrev Mem [Tabs] (w0 : Bse) (X O0 D : Nat → Prop) (m : Nat → Option Value) (hf : Hp) (w : World) : Prop := ∃ a, Rel w0 X O0 D m (fun _ => .un) hf a w
theorem Rel.mem [Tabs] {w0 : Bse} {X O0 D : Nat → Prop} {m : Nat → Option Value} {tf : Nat → AV} {hf : Hp} {a : Act} {w : World} (h : Rel w0 X O0 D m tf hf a w) : Mem w0 X O0 D m hf w := ⟨a, { h with tmp := fun _ => .un _ }⟩
def Ct [Tabs] (P : Program) (f : FuncId) (args : List AV) (H : Heap) (Q : AV → Heap → Prop) : Prop :=
  (∃ fn, P.funcs[f]? = some fn ∧ (fn.name == "runtime.NumGoroutine") = false ∧ fn.body.isSome = true) ∧
  ∀ (w0 : World) (X : Nat → Prop) (m : Nat → Option Value) (vals : List Value), Mem ⟨w0, m⟩ X (Owm m (lookH H)) (fun b => b ∈ ids H) m (lookH H) w0 → vals.length = args.length → (∀ (i : Nat) x v, args[i]? = some x → vals[i]? = some v → HA m w0 (Own X m (lookH H)) x v) →
    Calls P f vals.toArray w0 fun e w' => ∃ v r H' m', e = .returned v ∧ Q r H' ∧ HA m' w' (Own X m' (lookH H')) r v ∧ Mem ⟨w0, m⟩ X (Owm m (lookH H)) (fun b => b ∈ ids H') m' (lookH H') w'
def CtT [Tabs] (P : Program) (f : FuncId) (ts : List T) (Q : AV → Heap → Prop) : Prop := Ct P f (ts.map .t) [] Q
theorem Ct.mono [Tabs] {P : Program} {f : FuncId} {args : List AV} {H : Heap} {Q Q' : AV → Heap → Prop} (h : Ct P f args H Q) (hq : ∀ r H', Q r H' → Q' r H') : Ct P f args H Q' :=
  ⟨h.1, fun w0 X m vals h1 h2 h3 => (h.2 w0 X m vals h1 h2 h3).mono fun e w' ⟨v, r, H', m', q1, q2, q3⟩ => ⟨v, r, H', m', q1, hq _ _ q2, q3⟩⟩
def Ret (r : AV) (H : Heap) : AV → Heap → Prop := fun r' H' => r' = r ∧ H' = H
end Go.YtppifophcphdkaaE
namespace Go.YtppifophcphdkaaE
open Go.RowKit
set_option linter.unusedVariables false
set_option linter.unusedSimpArgs false
def resV (P : Program) (tm : Tmps) (H : Heap) : List ResultVar → (List AV → Prop) → Prop
  | [], k => k []
  | .tmp t :: l, k => evMove (lookT tm t) fun x _ _ _ => resV P tm H l fun xs => k (x :: xs)
  | .cell a t :: l, k => match lookT tm a with
    | .ptr b off => match lookH H b with
      | (_, .box _ cells) => selA P t cells off [] fun x _ _ _ => resV P tm H l fun xs => k (x :: xs)
      | _ => False
    | _ => False
def tup : List AV → AV
  | [x] => x
  | l => .tuple l
def sameH (φ : List (Nat × Nat)) (H : Heap) : Heap → Prop
  | [] => True
  | (b, fz, k) :: l => lookH H (rn φ b) = (fz, k.ren φ) ∧ sameH φ H l
def nodupB : List Nat → Bool
  | [] => true
  | x :: l => !memN x l && nodupB l
theorem nodupB_nodup [Tabs] {l : List Nat} (h : nodupB l = true) : l.Nodup := by
  induction l with
  | nil => exact List.nodup_nil
  | cons x l ih =>
    unfold nodupB at h
    simp only [Bool.and_eq_true, Bool.not_eq_true'] at h
    rw [List.nodup_cons]
    obtain ⟨h1, h2⟩ := h
    refine ⟨fun hm => ?_, ih h2⟩
    rw [memN_iff.2 hm] at h1
    cases h1
def keepsB (φ : List (Nat × Nat)) (I : List Nat) : List Nat → Bool
  | [] => true
  | b :: l => Nat.beq (rn φ b) b && memN b I && keepsB φ I l
theorem keepsB_spec [Tabs] {φ : List (Nat × Nat)} {I : List Nat} : ∀ {B : List Nat}, keepsB φ I B = true → ∀ b ∈ B, rn φ b = b ∧ b ∈ I
  | [], _, b, hb => by cases hb
  | x :: l, h, b, hb => by
    unfold keepsB at h
    simp only [Bool.and_eq_true] at h
    rcases List.mem_cons.1 hb with rfl | hb
    · exact ⟨Nat.eq_of_beq_eq_true h.1.1, memN_iff.1 h.1.2⟩
    · exact keepsB_spec h.2 b hb
theorem sameH_spec [Tabs] {φ : List (Nat × Nat)} {H : Heap} : ∀ {H' : Heap}, (ids H').Nodup → sameH φ H H' → ∀ b ∈ ids H', lookH H (rn φ b) = ((lookH H' b).1, (lookH H' b).2.ren φ)
  | [], _, _, b, hb => by simp [ids] at hb
  | (x, fz, k) :: l, hn, h, b, hb => by
    obtain ⟨h1, h2⟩ := h
    rw [show ids ((x, fz, k) :: l) = x :: ids l from rfl, List.nodup_cons] at hn
    by_cases e : b = x
    · subst e
      have : lookH ((b, fz, k) :: l) b = (fz, k) := by unfold lookH; rw [look_cons, if_pos rfl]
      rw [this, h1]
    · have : lookH ((x, fz, k) :: l) b = lookH l b := by unfold lookH; rw [look_cons, if_neg (fun e' => e e'.symm)]
      rw [this]
      exact sameH_spec hn.2 h2 b (by simpa [ids, e] using hb)
def heapIn (I : List Nat) : Heap → Bool
  | [] => true
  | (_, _, k) :: l => k.inI I && heapIn I l
theorem heapIn_spec [Tabs] {I : List Nat} : ∀ {H : Heap}, heapIn I H = true → ∀ b, (lookH H b).2.inI I = true
  | [], _, b => rfl
  | (x, fz, k) :: l, h, b => by
    unfold heapIn at h
    simp only [Bool.and_eq_true] at h
    unfold lookH
    rw [look_cons]
    split
    · exact h.1
    · exact heapIn_spec h.2 b
def numB (φ : List (Nat × Nat)) (H' : Heap) (B : List Nat) : Bool := nodupB (ids H') && nodupB ((ids H').map (rn φ)) && keepsB φ (ids H') B && heapIn (ids H') H'
def RetOb (H : Heap) (B : List Nat) (Q : AV → Heap → Prop) (r0 : AV) : Prop :=
  ∃ (φ : List (Nat × Nat)) (r : AV) (H' : Heap), Q r H' ∧ r0 = r.ren φ ∧ sameH φ H H' ∧ (numB φ H' B && r.inI (ids H')) = true
def lookM (φ : List (Nat × Nat)) (I : List Nat) (m : Nat → Option Value) : Nat → Option Value := fun b => if b ∈ I then m (rn φ b) else none
theorem inj_of_nodup {α β : Type} {f : α → β} {l : List α} (h : (l.map f).Nodup) {x y : α} (hx : x ∈ l) (hy : y ∈ l) (e : f x = f y) : x = y := by
  induction l with
  | nil => cases hx
  | cons z l ih =>
    rw [List.map_cons, List.nodup_cons] at h
    rcases List.mem_cons.1 hx with rfl | hx
    · rcases List.mem_cons.1 hy with rfl | hy
      · rfl
      · exact absurd (List.mem_map.2 ⟨y, hy, e.symm⟩) h.1
    · rcases List.mem_cons.1 hy with e2 | hy
      · rw [e2] at e; exact absurd (List.mem_map.2 ⟨x, hx, e⟩) h.1
      · exact ih h.2 hx hy
theorem Rel.renamed [Tabs] {w0 : Bse} {X O0 D : Nat → Prop} {m : Nat → Option Value} {tf : Nat → AV} {a : Act} {w : World} {φ : List (Nat × Nat)} {H H' : Heap} {B : List Nat} (h : Rel w0 X O0 D m tf (lookH H) a w) (hs : sameH φ H H') (hn : numB φ H' B = true) (hB : ∀ b v, w0.m b = some v → b ∈ B) {tf' : Nat → AV} (ht : ∀ t, tf' t = .un ∨ ((tf' t).inI (ids H') = true ∧ tf t = (tf' t).ren φ)) :
    Rel w0 X O0 (fun b => b ∈ ids H') (lookM φ (ids H') m) tf' (lookH H') a w ∧ ∀ x v, x.inI (ids H') = true → HA m w (Own X m (lookH H)) (x.ren φ) v → HA (lookM φ (ids H') m) w (Own X (lookM φ (ids H') m) (lookH H')) x v := by
  unfold numB at hn
  simp only [Bool.and_eq_true] at hn
  obtain ⟨⟨⟨n1, n2⟩, n3⟩, n4⟩ := hn
  have n1 := nodupB_nodup n1
  have n2 := nodupB_nodup n2
  have n3 := keepsB_spec n3
  have n4 := heapIn_spec n4
  have hsame := sameH_spec n1 hs
  have hout : ∀ b, b ∉ ids H' → lookH H' b = (false, .dead) := fun b hb => look_none _ _ _ hb
  have hM : ∀ b, b ∈ ids H' → lookM φ (ids H') m b = m (rn φ b) := fun b hb => by unfold lookM; rw [if_pos hb]
  have hlive : ∀ b, (lookH H' b).2.live → b ∈ ids H' := fun b hl => by
    apply Classical.byContradiction
    intro hb
    rw [hout b hb] at hl
    exact hl
  have hbk : ∀ b, b ∈ ids H' → bk (lookM φ (ids H') m) b = bk m (rn φ b) := fun b hb => by unfold bk; rw [hM b hb]
  have hO : ∀ c, Own X (lookM φ (ids H') m) (lookH H') c → Own X m (lookH H) c := by
    rintro c (hx | ⟨b, h1, h2, h3⟩)
    · exact .inl hx
    · have hb := hlive b h2
      rw [hbk b hb] at h3
      exact .inr ⟨rn φ b, by rw [hsame b hb]; exact h1, by rw [hsame b hb]; exact (live_ren _ _).2 h2, h3⟩
  have hHA : ∀ x v, x.inI (ids H') = true → HA m w (Own X m (lookH H)) (x.ren φ) v → HA (lookM φ (ids H') m) w (Own X (lookM φ (ids H') m) (lookH H')) x v := fun x v hx hh => HA.back (I := ids H') (fun b hb v hv => by rw [hM b hb]; exact hv) hO hx hh
  refine ⟨⟨fun t => ?_, fun b => ?_, fun b hb => ?_, ?_, ?_, h.xold, ?_, h.fr, fun b v hb => ?_, fun p hp => (h.gl p hp).mono (Keep.refl _ _) (fun c hc => .inl (hO c hc))⟩, hHA⟩
  · rcases ht t with e | ⟨e1, e2⟩
    · rw [e]; exact .un _
    · have h1 := h.tmp t
      rw [e2] at h1
      exact hHA _ _ e1 h1
  · by_cases hb : b ∈ ids H'
    · have h1 := h.blk (rn φ b)
      rw [hsame b hb] at h1
      exact HB.back (I := ids H') (fun b hb v hv => by rw [hM b hb]; exact hv) hO hb (n4 b) h1
    · rw [hout b hb]; trivial
  · unfold lookM; rw [if_neg hb]
  · intro b b' hne hfz hl hl' c hc hc'
    have hb := hlive b hl
    have hb' := hlive b' hl'
    rw [hbk b hb] at hc
    rw [hbk b' hb'] at hc'
    exact h.sep (rn φ b) (rn φ b') (fun e => hne (inj_of_nodup n2 hb hb' e)) (by rw [hsame b hb]; exact hfz) (by rw [hsame b hb]; exact (live_ren _ _).2 hl) (by rw [hsame b' hb']; exact (live_ren _ _).2 hl') c hc hc'
  · intro b c hl hc
    have hb := hlive b hl
    rw [hbk b hb] at hc
    exact h.xsep (rn φ b) c (by rw [hsame b hb]; exact (live_ren _ _).2 hl) hc
  · intro b c hl hc
    have hb := hlive b hl
    rw [hbk b hb] at hc
    exact h.old (rn φ b) c (by rw [hsame b hb]; exact (live_ren _ _).2 hl) hc
  · obtain ⟨e1, e2⟩ := n3 b (hB b v hb)
    rw [hM b e2, e1]
    exact h.base b v hb
def resSem (tmps : Array Value) : ResultVar → Sem Value
  | .tmp t => pure (tmps.getD t undef)
  | .cell ad t => do loadVar t (← asAddr (tmps.getD ad undef))
theorem resV_run [Tabs] {P : Program} {tm : Tmps} {H : Heap} {w0 : Bse} {X O0 D : Nat → Prop} {m : Nat → Option Value} {a : Act} {w : World} (hR : Rel w0 X O0 D m (lookT tm) (lookH H) a w) : ∀ (l : List ResultVar) (k : List AV → Prop), resV P tm H l k → ∃ (xs : List AV) (vs : List Value), k xs ∧ vs.length = xs.length ∧ (∀ (i : Nat) x v, xs[i]? = some x → vs[i]? = some v → HA m w (Own X m (lookH H)) x v) ∧
    (l.mapM (resSem a.tmps)).run P w = .ok vs w
  | [], k, h => ⟨[], [], h, rfl, fun i x v hx => by simp at hx, rfl⟩
  | .tmp t :: l, k, h => by
    unfold resV at h
    rw [evMove_iff] at h
    obtain ⟨xs, vs, h1, h2, h3, h4⟩ := resV_run hR l _ h
    refine ⟨lookT tm t :: xs, get a t :: vs, h1, by simp [h2], fun i x v hx hv => ?_, ?_⟩
    · cases i with
      | zero => simp at hx hv; subst hx; subst hv; exact hR.tmp t
      | succ i => exact h3 i x v (by simpa using hx) (by simpa using hv)
    · rw [List.mapM_cons]
      simp only [resSem, Sem.run_bind, Sem.run_pure, Result.andThen_ok, h4]
      rfl
  | .cell ad t :: l, k, h => by
    unfold resV at h
    split at h
    · rename_i b off hp
      split at h
      · rename_i fz ty cells hb
        obtain ⟨x0, hs, h⟩ := selA_sel h
        obtain ⟨xs, vs, h1, h2, h3, h4⟩ := resV_run hR l _ h
        have e1 := hR.tmp ad
        rw [hp] at e1
        obtain ⟨g, hy, hm⟩ := e1.ptr_eq
        have e2 := hR.blk b
        rw [hb] at e2
        obtain ⟨g', us, hm', hg, hl, _, hv⟩ := e2
        rw [hm] at hm'
        simp at hm'
        subst hm'
        obtain ⟨u, hu, hh⟩ := hs.load (P := P) (t := t) (w := w) (b := g) (base := 0) (f := fun i => us.getD i undef) (m := m) (O := Own X m (lookH H)) (fun i hi => by
          unfold World.cell?
          simp only [hg]
          simp [List.getD, show i < us.length by omega]) (fun i x hx => hv i x _ hx (by
            have : i < us.length := by have := (List.getElem?_eq_some_iff.1 hx).1; omega
            simp [List.getD, this]))
        refine ⟨x0 :: xs, u :: vs, h1, by simp [h2], fun i x v hx hv => ?_, ?_⟩
        · cases i with
          | zero => simp at hx hv; subst hx; subst hv; exact hh
          | succ i => exact h3 i x v (by simpa using hx) (by simpa using hv)
        · rw [List.mapM_cons]
          have hy' : a.tmps.getD ad undef = .pointer (some ⟨g, off, none⟩) := hy
          rw [Nat.zero_add] at hu
          simp only [resSem, Sem.run_bind, hy', asAddr, Sem.run_pure, Result.andThen_ok, hu, h4]
      · exact h.elim
    · exact h.elim
theorem resV_mono [Tabs] {P : Program} {tm : Tmps} {H : Heap} : ∀ {l : List ResultVar} {k k' : List AV → Prop}, resV P tm H l k → (∀ xs, k xs → k' xs) → resV P tm H l k'
  | [], k, k', h, hk => hk _ h
  | .tmp t :: l, k, k', h, hk => by
    unfold resV at h ⊢
    rw [evMove_iff] at h ⊢
    exact resV_mono h fun xs h => hk _ h
  | .cell a t :: l, k, k', h, hk => by
    unfold resV at h ⊢
    split at h
    · split at h
      · unfold selA at h ⊢
        split at h
        · split at h
          · rw [plainL_iff] at h ⊢
            unfold aggK at h ⊢
            split at h
            · exact resV_mono h fun xs h => hk _ h
            · exact resV_mono h fun xs h => hk _ h
          · exact h.elim
        · split at h
          · rw [evMove_iff] at h ⊢
            exact resV_mono h fun xs h => hk _ h
          · exact h.elim
        · exact h.elim
      · exact h.elim
    · exact h.elim
theorem tup_told {m : Nat → Option Value} {w : World} {O : Nat → Prop} {xs : List AV} {vs : List Value} (hl : vs.length = xs.length) (h : ∀ (i : Nat) x v, xs[i]? = some x → vs[i]? = some v → HA m w O x v) : HA m w O (tup xs) (if h : vs.toArray.size = 1 then vs.toArray[0] else .tuple vs.toArray) := by
  by_cases e : vs.length = 1
  · have e' : vs.toArray.size = 1 := by simpa using e
    rw [dif_pos e']
    obtain ⟨x, rfl⟩ := List.length_eq_one_iff.1 (hl ▸ e)
    obtain ⟨v, rfl⟩ := List.length_eq_one_iff.1 e
    exact h 0 x v rfl rfl
  · have e' : ¬ vs.toArray.size = 1 := by simpa using e
    rw [dif_neg e']
    have : tup xs = .tuple xs := by
      match xs, hl with
      | [], _ => rfl
      | [x], hl => exact absurd hl e
      | x :: y :: l, _ => rfl
    rw [this]
    exact .tuple _ _ hl h
def argT : List AV → Nat → Tmps
  | [], _ => []
  | x :: l, i => (i, x) :: argT l (i + 1)
theorem argT_look [Tabs] : ∀ (l : List AV) (i t : Nat), lookT (argT l i) t = if i ≤ t then (l[t - i]?).getD .un else .un
  | [], i, t => by simp [argT, lookT, look]
  | x :: l, i, t => by
    unfold argT lookT
    rw [look_cons]
    by_cases e : i = t
    · subst e; simp
    · rw [if_neg e]
      have := argT_look l (i + 1) t
      unfold lookT at this
      rw [this]
      by_cases h : i ≤ t
      · rw [if_pos h, if_pos (by omega), show t - i = (t - (i + 1)) + 1 by omega]
        simp
      · rw [if_neg h, if_neg (by omega)]
theorem Le.refl [Tabs] (B : List Nat) (tm : Tmps) (H : Heap) : Le B tm H tm H := fun w0 X O0 m a w _ hR => ⟨m, hR⟩
def EndOk [Tabs] (P : Program) (fn : Func) (H : Heap) (Q : AV → Heap → Prop) (tm' : Tmps) (H' : Heap) : Prop :=
  ∀ (w0 : Bse) (X O0 : Nat → Prop) (m : Nat → Option Value) (a : Act) (w : World), (∀ b v, w0.m b = some v → b ∈ ids H) → Rel w0 X O0 (fun b => b ∈ ids H') m (lookT tm') (lookH H') a w →
    ∃ v, (results fn a.tmps).run P w = .ok v w ∧ ∃ r H2 m2, Q r H2 ∧ HA m2 w (Own X m2 (lookH H2)) r v ∧ Mem w0 X O0 (fun b => b ∈ ids H2) m2 (lookH H2) w
theorem results_run {P : Program} {fn : Func} {a : Act} {w : World} {vs : List Value} (hrun : (fn.results.toList.mapM (resSem a.tmps)).run P w = .ok vs w) : (results fn a.tmps).run P w = .ok (if h : vs.toArray.size = 1 then vs.toArray[0] else .tuple vs.toArray) w := by
  have h1 : (fn.results.mapM (resSem a.tmps)).run P w = .ok vs.toArray w := by
    rw [Array.mapM_eq_mapM_toList]
    simp [hrun]
  have h2 : results fn a.tmps = (do let vs ← fn.results.mapM (resSem a.tmps); pure (if h : vs.size = 1 then vs[0] else .tuple vs)) := by
    unfold results
    congr 1 <;> (try (congr 1; funext x; cases x <;> rfl))
  rw [h2]
  simp only [Sem.run_bind, h1, Result.andThen_ok, Sem.run_pure]
theorem EndOk.ret [Tabs] {P : Program} {fn : Func} {H : Heap} {Q : AV → Heap → Prop} {tm' : Tmps} {H' : Heap} (hk : resV P tm' H' fn.results.toList fun xs => RetOb H' (ids H) Q (tup xs)) : EndOk P fn H Q tm' H' := by
  intro w0 X O0 m' a' w' hB hR'
  obtain ⟨xs, vs, ⟨φ, r, H2, hQ, hr, hs, hnum⟩, hl2, hv, hrun⟩ := resV_run hR' _ _ hk
  simp only [Bool.and_eq_true] at hnum
  obtain ⟨hR2, hback⟩ := hR'.mem.choose_spec.renamed (tf' := fun _ => .un) hs hnum.1 hB (fun t => .inl rfl)
  refine ⟨_, results_run hrun, r, H2, _, hQ, hback r _ hnum.2 ?_, ⟨_, hR2⟩⟩
  rw [← hr]
  exact tup_told hl2 hv
theorem EndOk.data [Tabs] {P : Program} {fn : Func} {Q : AV → Heap → Prop} {tm' : Tmps} {H' : Heap} (hk : resV P tm' H' fn.results.toList fun xs => ∃ x, toT (lookH H') 30 (tup xs) = some x ∧ Q (.t x) []) : EndOk P fn [] Q tm' H' := by
  intro w0 X O0 m' a' w' hB hR'
  obtain ⟨xs, vs, ⟨x, hx, hQ⟩, hl2, hv, hrun⟩ := resV_run hR' _ _ hk
  obtain ⟨h1, h2⟩ := hR'.view (L := reach (lookH H') 30 (tup xs)) rfl
  have ht := h2 30 _ x _ hx (fun b hb => hb) (tup_told hl2 hv)
  obtain ⟨hR2, _⟩ := hR'.mem.choose_spec.renamed (φ := []) (H' := []) (B := []) (tf' := fun _ => .un) trivial rfl (fun b v hb => hB b v hb) (fun t => .inl rfl)
  refine ⟨_, results_run hrun, .t x, [], _, hQ, .t _ _ (ht.mono (Keep.refl _ _) (fun c hc => .inl ?_)), ⟨_, hR2⟩⟩
  rcases hc with hc | ⟨b, _, hb, _⟩
  · exact .inl hc
  · exact hb.elim
theorem EndOk.le [Tabs] {P : Program} {fn : Func} {H : Heap} {Q : AV → Heap → Prop} {tm' tm2 : Tmps} {H' H2 : Heap} (hl : Le (ids H) tm' H' tm2 H2) (h : EndOk P fn H Q tm2 H2) (hr : ∀ r ∈ fn.results.toList, ∃ t, r = .tmp t) : EndOk P fn H Q tm' H' := by
  intro w0 X O0 m a w hB hR
  obtain ⟨m2, hR2⟩ := hl w0 X O0 m a w hB hR
  exact h w0 X O0 m2 a w hB hR2
theorem Ct.ofK [Tabs] {P : Program} {f : FuncId} {fn : Func} {c : Code} {args : List AV} {H : Heap} {Q : AV → Heap → Prop} {n : Nat} (K : Tmps → Heap → Prop) (hf : P.funcs[f]? = some fn) (hname : (fn.name == "runtime.NumGoroutine") = false) (hb : fn.body = some c) (hn : args.length + (fn.ntmps - args.length) = n) (hfz : ∀ b ∈ ids H, (lookH H b).1 = false)
    (hK : ∀ tm H', K tm H' → EndOk P fn H Q tm H') (h : ev P n (ids H) c (argT args 0) H fun e tm H' => match e with
      | .exit _ => False
      | _ => K tm H') : Ct P f args H Q := by
  refine ⟨⟨fn, hf, hname, by rw [hb]; rfl⟩, fun w0 X m vals hM hl hargs => ?_⟩
  obtain ⟨a0, hR0⟩ := hM
  let a : Act := { tmps := vals.toArray ++ Array.replicate (fn.ntmps - vals.toArray.size) undef, defers := [] }
  have hsz : a.tmps.size = n := by show (vals.toArray ++ _).size = n; simp [hl, hn]
  have hget : ∀ t v, vals[t]? = some v → get a t = v := by
    intro t v ht
    have hlt := (List.getElem?_eq_some_iff.1 ht).1
    unfold get
    rw [Array.getD_eq_getD_getElem?]
    show ((vals.toArray ++ _)[t]?).getD undef = v
    rw [Array.getElem?_append_left (by simpa using hlt)]
    simp [ht]
  have hR : Rel ⟨w0, m⟩ X (Owm m (lookH H)) (fun b => b ∈ ids H) m (lookT (argT args 0)) (lookH H) a w0 := by
    refine { hR0 with tmp := fun t => ?_ }
    rw [argT_look]
    simp only [Nat.zero_le, if_true, Nat.sub_zero]
    cases hx : args[t]? with
    | none => exact .un _
    | some x =>
      have hlt : t < vals.length := by have := (List.getElem?_eq_some_iff.1 hx).1; omega
      have hv := List.getElem?_eq_getElem hlt
      rw [hget t _ hv]
      exact hargs t x _ hx hv
  have hB : ∀ b v, m b = some v → b ∈ ids H := by
    intro b v hb
    apply Classical.byContradiction
    intro hn
    rw [hR0.dom b hn] at hb
    cases hb
  refine calls_of_wp hf hb ?_
  refine ev_sound (w0 := ⟨w0, m⟩) (X := X) (O0 := Owm m (lookH H)) hB c (argT args 0) H _ _ m a w0 h hR hsz ?_
  have fin : ∀ tm' H' m' a' w', K tm' H' → Rel ⟨w0, m⟩ X (Owm m (lookH H)) (fun b => b ∈ ids H') m' (lookT tm') (lookH H') a' w' → a'.defers = [] →
      a'.defers = [] ∧ ∃ v, (results fn a'.tmps).run P w' = .ok v w' ∧ ∃ v2 r H2 m2, Ending.returned v = .returned v2 ∧ Q r H2 ∧ HA m2 w' (Own X m2 (lookH H2)) r v2 ∧ Mem ⟨w0, m⟩ X (Owm m (lookH H)) (fun b => b ∈ ids H2) m2 (lookH H2) w' := by
    intro tm' H' m' a' w' hk hR' hd
    obtain ⟨v, h1, r, H2, m2, h2⟩ := hK tm' H' hk ⟨w0, m⟩ X _ m' a' w' hB hR'
    exact ⟨hd, v, h1, v, r, H2, m2, rfl, h2⟩
  intro e tm' H' m' a' w' hk hR' hn' hd
  cases e with
  | normal => exact fin tm' H' m' a' w' hk hR' hd
  | exit i => exact hk.elim
  | ret => exact fin tm' H' m' a' w' hk hR' hd
theorem Ct.of [Tabs] {P : Program} {f : FuncId} {fn : Func} {c : Code} {args : List AV} {H : Heap} {Q : AV → Heap → Prop} {n : Nat} (hf : P.funcs[f]? = some fn) (hname : (fn.name == "runtime.NumGoroutine") = false) (hb : fn.body = some c) (hn : args.length + (fn.ntmps - args.length) = n) (hfz : ∀ b ∈ ids H, (lookH H b).1 = false)
    (h : ev P n (ids H) c (argT args 0) H fun e tm H' => match e with
      | .exit _ => False
      | _ => resV P tm H' fn.results.toList fun xs => RetOb H' (ids H) Q (tup xs)) : Ct P f args H Q :=
  Ct.ofK (fun tm H' => resV P tm H' fn.results.toList fun xs => RetOb H' (ids H) Q (tup xs)) hf hname hb hn hfz (fun _ _ => EndOk.ret) h
theorem CtT.of [Tabs] {P : Program} {f : FuncId} {fn : Func} {c : Code} {ts : List T} {Q : AV → Heap → Prop} {n : Nat} (hf : P.funcs[f]? = some fn) (hname : (fn.name == "runtime.NumGoroutine") = false) (hb : fn.body = some c) (hn : (ts.map AV.t).length + (fn.ntmps - (ts.map AV.t).length) = n)
    (h : ev P n [] c (argT (ts.map .t) 0) [] fun e tm H' => match e with
      | .exit _ => False
      | _ => resV P tm H' fn.results.toList fun xs => ∃ x, toT (lookH H') 30 (tup xs) = some x ∧ Q (.t x) []) : CtT P f ts Q :=
  Ct.ofK (fun tm H' => resV P tm H' fn.results.toList fun xs => ∃ x, toT (lookH H') 30 (tup xs) = some x ∧ Q (.t x) []) hf hname hb hn (fun b hb => by simp [ids] at hb) (fun _ _ => EndOk.data) h
theorem Ct.ofL [Tabs] {P : Program} {f : FuncId} {fn : Func} {c : Code} {args : List AV} {H : Heap} {Q : AV → Heap → Prop} {n : Nat} (hf : P.funcs[f]? = some fn) (hname : (fn.name == "runtime.NumGoroutine") = false) (hb : fn.body = some c) (hn : args.length + (fn.ntmps - args.length) = n) (hfz : ∀ b ∈ ids H, (lookH H b).1 = false)
    (hr : ∀ r ∈ fn.results.toList, ∃ t, r = .tmp t) (h : ev P n (ids H) c (argT args 0) H fun e tm H' => match e with
      | .exit _ => False
      | _ => ∃ tm2 H2, Le (ids H) tm H' tm2 H2 ∧ resV P tm2 H2 fn.results.toList fun xs => RetOb H2 (ids H) Q (tup xs)) : Ct P f args H Q :=
  Ct.ofK (fun tm H' => ∃ tm2 H2, Le (ids H) tm H' tm2 H2 ∧ resV P tm2 H2 fn.results.toList fun xs => RetOb H2 (ids H) Q (tup xs)) hf hname hb hn hfz (fun _ _ ⟨_, _, hl, h⟩ => (EndOk.ret h).le hl hr) h
end Go.YtppifophcphdkaaE
namespace Go.YtppifophcphdkaaE
open Go.RowKit
set_option linter.unusedVariables false
set_option linter.unusedSimpArgs false
abbrev NoCell (w : World) (row : Option Nat) : Prop := ∀ r, row = some r → ∃ o : Obj, w.heap[r]? = some o ∧ o.isCells = false
section
variable {w w' : World} {row : Option Nat}
theorem HT.grown (hg : w.grownBy w' row) (hr : NoCell w row) {O : Nat → Prop} {x : T} {y : Value} (h : HT w O x y) : HT w' O x y := by
  induction h with
  | v x => exact .v x
  | nil sz A c => exact .nil sz A c
  | sl sz l b o c f hO hb hc hf hm ht ih => exact .sl sz l b o c f hO (Nat.lt_of_lt_of_le hb hg.size) hc hf (fun i j hi hj => cell_kept (hm i j hi hj) hg hr) ih
  | agg l vs hl h ih => exact .agg l vs hl ih
  | tuple l vs hl h ih => exact .tuple l vs hl ih
  | pt l b o f hO hb h1 hm ht ih => exact .pt l b o f hO (Nat.lt_of_lt_of_le hb hg.size) h1 (fun i hi => cell_kept (hm i hi) hg hr) ih
  | iface t x y h ih => exact .iface t x y ih
  | fn f l m vs us hl h hm h' ih ih' => exact .fn f l m vs us hl ih hm ih'
theorem HA.grown [Tabs] (hg : w.grownBy w' row) (hr : NoCell w row) {m : Nat → Option Value} {O : Nat → Prop} {x : AV} {y : Value} (h : HA m w O x y) : HA m w' O x y := by
  induction h with
  | un x => exact .un x
  | t x y h => exact .t x y (h.grown hg hr)
  | own b v h h1 => exact .own b v h h1
  | ptr b off g h => exact .ptr b off g h
  | rp b sz i j g n c h => exact .rp b sz i j g n c h
  | sub b sz i n v h => exact .sub b sz i n v h
  | ab p q b h h' => exact .ab p q b h h'
  | fsub b sz i n N v h => exact .fsub b sz i n N v h
  | agg l vs hl h ih => exact .agg l vs hl ih
  | tuple l vs hl h ih => exact .tuple l vs hl ih
  | iface t x y h ih => exact .iface t x y ih
  | fn f l k vs us hl h hm h' ih ih' => exact .fn f l k vs us hl ih hm ih'
def Blk.isSet : Blk → Bool
  | .set _ => true
  | _ => false
def nsH : Heap → Bool
  | [] => true
  | (_, _, k) :: l => !k.isSet && nsH l
theorem nsH_look [Tabs] : ∀ {H : Heap}, nsH H = true → ∀ b, (lookH H b).2.isSet = false
  | [], _, b => rfl
  | (x, fz, k) :: l, h, b => by
    have h : (!k.isSet && nsH l) = true := h
    simp only [Bool.and_eq_true, Bool.not_eq_true'] at h
    unfold lookH
    rw [look_cons]
    split
    · exact h.1
    · exact nsH_look h.2 b
theorem HB.cells {m : Nat → Option Value} {O : Nat → Prop} {b c : Nat} {k : Blk} (h : HB m w O b k) (hs : k.isSet = false) (hl : k.live) (hc : bk m b = some c) : ∃ o : Obj, w.heap[c]? = some o ∧ o.isCells = true := by
  cases k with
  | dead => exact hl.elim
  | box ty cells =>
    obtain ⟨g, vs, h1, h2, _⟩ := h
    simp [bk, h1, blockOf] at hc
    subst hc
    exact ⟨_, h2, rfl⟩
  | row ty sz l =>
    obtain ⟨v, xs, h1, h2, _⟩ := h
    simp only [bk, h1, Option.bind_some] at hc
    rcases h2.2 with ⟨rfl, _⟩ | ⟨g, cap, cur, rfl, _, hg, _⟩
    · simp [blockOf] at hc
    · simp [blockOf] at hc
      subst hc
      exact ⟨_, hg, rfl⟩
  | arr ty sz l N =>
    obtain ⟨g, cur, h1, h2, _⟩ := h
    simp [bk, h1, blockOf] at hc
    subst hc
    exact ⟨_, h2, rfl⟩
  | set ks => cases hs
theorem HB.grown [Tabs] (hg : w.grownBy w' row) (hr : NoCell w row) {m : Nat → Option Value} {O : Nat → Prop} {b : Nat} {k : Blk} (hs : k.isSet = false) (h : HB m w O b k) : HB m w' O b k := by
  have hc : ∀ c, k.live → bk m b = some c → w'.heap[c]? = w.heap[c]? := fun c hl hc => by
    obtain ⟨o, ho, hi⟩ := h.cells hs hl hc
    exact grownBy_keeps_cells hg hr ho hi
  cases k with
  | dead => trivial
  | box ty cells =>
    obtain ⟨g, vs, h1, h2, h3, h4, h5⟩ := h
    exact ⟨g, vs, h1, (hc g trivial (by simp [bk, h1, blockOf])).trans h2, h3, h4, fun i x y hx hy => (h5 i x y hx hy).grown hg hr⟩
  | row ty sz l =>
    obtain ⟨v, xs, h1, h2, h3, h4⟩ := h
    refine ⟨v, xs, h1, ?_, h3, fun i j x y hx hy => ?_⟩
    · refine ⟨h2.1, ?_⟩
      rcases h2.2 with hn | ⟨g, cap, cur, rfl, hb, hg, rest⟩
      · exact .inl hn
      · exact .inr ⟨g, cap, cur, rfl, hb, (hc g trivial (by simp [bk, h1, blockOf])).trans hg, rest⟩
    · obtain ⟨u, hu, ht⟩ := h4 i j x y hx hy
      exact ⟨u, hu, ht.grown hg hr⟩
  | arr ty sz l N =>
    obtain ⟨g, cur, h1, h2, h3, h4, h5, h6, h7⟩ := h
    refine ⟨g, cur, h1, (hc g trivial (by simp [bk, h1, blockOf])).trans h2, h3, h4, h5, h6, fun i j x y hx hy => ?_⟩
    obtain ⟨u, hu, ht⟩ := h7 i j x y hx hy
    exact ⟨u, hu, ht.grown hg hr⟩
  | set ks => cases hs
end
section
variable {w0 : Bse} {X O0 D : Nat → Prop} {m : Nat → Option Value} {tf : Nat → AV} {hf : Hp} {a : Act} {w : World}
theorem Rel.grown [Tabs] (h : Rel w0 X O0 D m tf hf a w) (hs : ∀ b, (hf b).2.isSet = false) {w' : World} {row : Option Nat} (hg : w.grownBy w' row) (hr : NoCell w row) (hb : ∀ r, row = some r → w0.w.heap.size ≤ r) : Rel w0 X O0 D m tf hf a w' :=
  { h with
    tmp := fun t => (h.tmp t).grown hg hr
    blk := fun b => (h.blk b).grown hg hr (hs b)
    gl := fun p hp => (h.gl p hp).grown hg hr
    fr := ⟨hg.os.trans h.fr.os, hg.tape.trans h.fr.tape, hg.output.trans h.fr.output, Nat.le_trans h.fr.size hg.size, fun c hc hn => by
      rw [← h.fr.block c hc hn]
      refine hg.block c (Nat.lt_of_lt_of_le hc h.fr.size) (fun e => ?_)
      have := hb c e.symm
      omega⟩ }
theorem Rel.act [Tabs] {a' : Act} (h : Rel w0 X O0 D m tf hf a w) (e : ∀ t, get a' t = get a t) : Rel w0 X O0 D m tf hf a' w := { h with tmp := fun t => by rw [e]; exact h.tmp t }
theorem Rel.temps [Tabs] {a' : Act} {tf' : Nat → AV} (h : Rel w0 X O0 D m tf hf a w) (e : ∀ t, HA m w (Own X m hf) (tf' t) (get a' t)) : Rel w0 X O0 D m tf' hf a' w := { h with tmp := e }
def onS (S : List Nat) (m : Nat → Option Value) : Nat → Option Value := fun b => bif memN b S then m b else none
theorem onS_mem [Tabs] {S : List Nat} {b : Nat} {v : Value} (h : onS S m b = some v) : b ∈ S ∧ m b = some v := by
  unfold onS at h
  cases e : memN b S with
  | true => rw [e] at h; exact ⟨memN_iff.1 e, h⟩
  | false => rw [e] at h; cases h
theorem Rel.rebase [Tabs] (h : Rel w0 X O0 D m tf hf a w) (S : List Nat) (hz : ∀ b, (hf b).1 = false) : Rel ⟨w, onS S m⟩ X (Owm m hf) D m tf hf a w :=
  { h with
    xold := fun c hc => ⟨Nat.lt_of_lt_of_le (h.xold c hc).1 h.fr.size, fun ⟨b, _, h2, h3⟩ => h.xsep b c h2 h3 hc⟩
    old := fun b c h2 h3 => .inl ⟨b, hz b, h2, h3⟩
    fr := But.refl _ _
    base := fun b v hv => (onS_mem hv).2 }
theorem Rel.unbase [Tabs] {w1 : World} {m1 : Nat → Option Value} {tf1 : Nat → AV} {hf1 : Hp} {D1 : Nat → Prop} {a1 : Act} {S B : List Nat} (h1 : Rel w0 X O0 D1 m1 tf1 hf1 a1 w1) (hB : ∀ b v, w0.m b = some v → b ∈ B) (hS : ∀ b ∈ B, b ∈ S) (h : Rel ⟨w1, onS S m1⟩ X (Owm m1 hf1) D m tf hf a w) : Rel w0 X O0 D m tf hf a w :=
  { h with
    xold := h1.xold
    old := fun b c h2 h3 => by
      rcases h.old b c h2 h3 with ⟨b2, q1, q2, q3⟩ | hh
      · exact h1.old b2 c q2 q3
      · exact .inr (Nat.le_trans h1.fr.size hh)
    fr := ⟨h.fr.os.trans h1.fr.os, h.fr.tape.trans h1.fr.tape, h.fr.output.trans h1.fr.output, Nat.le_trans h1.fr.size h.fr.size, fun c hc hn => by
      rw [← h1.fr.block c hc hn]
      refine h.fr.block c (Nat.lt_of_lt_of_le hc h1.fr.size) (fun ⟨b2, q1, q2, q3⟩ => ?_)
      rcases h1.old b2 c q2 q3 with hh | hh
      · exact hn hh
      · omega⟩
    base := fun b v hv => h.base b v (by
      show onS S m1 b = some v
      unfold onS
      rw [memN_iff.2 (hS b (hB b v hv))]
      exact h1.base b v hv) }
theorem Rel.keeps [Tabs] (h : Rel w0 X O0 D m tf hf a w) : Keep w0.w (fun c => X c ∨ O0 c) w := ⟨h.fr.size, fun c hc hn => h.fr.block c hc (fun e => hn (.inr e))⟩
theorem Rel.own_old [Tabs] (h : Rel w0 X O0 D m tf hf a w) {c : Nat} (hc : Own X m hf c) : (X c ∨ O0 c) ∨ w0.w.heap.size ≤ c := by
  rcases hc with hx | ⟨b, h1, h2, h3⟩
  · exact .inl (.inl hx)
  · exact (h.old b c h2 h3).elim (fun h => .inl (.inr h)) .inr
theorem Rel.noCell [Tabs] {w1 : World} {m1 : Nat → Option Value} {tf1 : Nat → AV} {hf1 : Hp} {D1 : Nat → Prop} {a1 : Act} {S : List Nat} (h1 : Rel w0 X O0 D1 m1 tf1 hf1 a1 w1) (hs : ∀ b, (hf1 b).2.isSet = false) (h : Rel ⟨w1, onS S m1⟩ X (Owm m1 hf1) D m tf hf a w) {k : Nat} {o : Obj} (ho : w1.heap[k]? = some o) (hc : o.isCells = false) : w.heap[k]? = some o := by
  refine (h.fr.block k (Array.getElem?_eq_some_iff.1 ho).1 (fun ⟨b, q1, q2, q3⟩ => ?_)).trans ho
  obtain ⟨o', ho', hc'⟩ := (h1.blk b).cells (hs b) q2 q3
  rw [ho] at ho'
  cases ho'
  rw [hc] at hc'
  cases hc'
end
section
variable {P : Program} {md : Region.Mode} {ops : Array Oper} {Q : Exit → Act → World → Prop}
theorem op_round {l i n : Nat} {K K' : Act → World → Prop} {a : Act} {w : World} (hops : ∀ (j : Nat) (o : Oper), ops[j]? = some o → ∀ c, o.op ≠ .defer c) (hQ : ¬ LetsOut Q) (hK : ∀ a w, K a w → K' a w)
    (h : wpOp P ops Q i K a w) : wpOpIn (Fence.wide.inRound l) n P ops Q i K' a w := by
  unfold wpOp at h
  unfold wpOpIn
  cases ho : ops[i]? with
  | none => rw [ho] at h; exact hK _ _ h
  | some o =>
    rw [ho] at h
    simp only at h ⊢
    by_cases hw : Region.wanted o (yielded ops a.tmps) = true
    · rw [if_pos hw] at h ⊢
      rcases h with h | ⟨_, h⟩
      · refine ⟨fun _ _ => trivial, ?_⟩
        rw [Oper.semAt_eq _ _ _ (hops i o ho)]
        unfold Oper.wp at h
        generalize (execOp a.eval o).run P w = r at h
        cases r with
        | ok n w' =>
          cases n with
          | value v => exact hK _ _ h
          | skip => exact hK _ _ h
          | defer d => exact hK _ _ h
          | enter f args =>
            refine ⟨fun hd => (by cases hd), CallsIn.inRound l (callsIn_wide.2 (Calls.mono h ?_))⟩
            intro e w1 h1
            cases e with
            | returned v => exact hK _ _ h1
            | panicked c => exact h1
            | outgrown => exact h1
          | row row args =>
            refine ⟨fun hd => (by cases hd), fun c cs _ => ?_⟩
            obtain ⟨v, w1, h1, h2⟩ := h c cs
            exact ⟨v, w1, hK _ _ h1, stepsIn_wide.2 h2⟩
          | _ => exact h.elim
        | halt x w' => cases x <;> first | exact h | exact h.elim
      · exact absurd h hQ
    · rw [if_neg hw] at h ⊢
      exact ⟨fun _ _ => trivial, hK _ _ h⟩
theorem any_round [Tabs] {l n : Nat} (hops : ∀ (j : Nat) (o : Oper), ops[j]? = some o → ∀ c, o.op ≠ .defer c) (hQ : ¬ LetsOut Q) : ∀ (fuel : Nat) (listed : Array Bool) (a : Act) (w : World), wpAny P md ops Q fuel listed a w → wpAnyIn (Fence.wide.inRound l) n P md ops Q fuel listed a w
  | 0, _, _, _, h => h
  | fuel + 1, _, _, _, h => ⟨h.1, fun i hi => op_round hops hQ (fun a w h' => any_round hops hQ fuel _ a w h') (h.2 i hi)⟩
theorem list_round [Tabs] {l n : Nat} (hops : ∀ (j : Nat) (o : Oper), ops[j]? = some o → ∀ c, o.op ≠ .defer c) (hQ : ¬ LetsOut Q) : ∀ (is : List Nat) (a : Act) (w : World), wpOps P ops Q is a w → wpOpsIn (Fence.wide.inRound l) n P ops Q is a w
  | [], _, _, h => h
  | i :: is, a, w, h => by
    rw [wpOps_cons] at h
    rw [wpOpsIn_cons]
    exact op_round hops hQ (fun a w h' => list_round hops hQ is a w h') h
theorem wpIn_of_normal {F : Fence} {n : Nat} {c : Code} {K : Act → World → Prop} {a : Act} {w : World} (h : c.wpIn F n P (Exit.then K (fun _ _ _ => False)) a w) (hK : ∀ a w, K a w → Q .normal a w) : c.wpIn F n P Q a w :=
  wpIn_mono h (fun e a w h => by cases e <;> first | exact hK _ _ h | exact h.elim)
def noDefer (ops : List Oper) : Bool := ops.all fun o => match o.op with | .defer _ => false | _ => true
theorem noDefer_at (h : noDefer ops.toList = true) (j : Nat) (o : Oper) (ho : ops[j]? = some o) (c) : o.op ≠ .defer c := by
  have := List.all_eq_true.1 h o (List.mem_of_getElem? (by simpa using ho))
  intro e; rw [e] at this; cases this
def calm : Code → Bool
  | .region _ ops _ => noDefer ops.toList
  | .seq a b => calm a && calm b
  | .cond _ a b => calm a && calm b
  | .block _ c => calm c
  | .loop c => calm c
  | _ => true
theorem evRegion_round [Tabs] {l q : Nat} {n id : Nat} {draw : Bool} {tm : Tmps} {H : Heap} {k : Tmps → Heap → Prop} (hnd : noDefer ops.toList = true) (h : evRegion P n ops.toList draw tm H k) {w0 : Bse} {X O0 : Nat → Prop} {m : Nat → Option Value} {a : Act} {w : World} (hR : Rel w0 X O0 (fun b => b ∈ ids H) m (lookT tm) (lookH H) a w) (hn : a.tmps.size = n)
    (hk : ∀ tm' H' m a' w', k tm' H' → Rel w0 X O0 (fun b => b ∈ ids H') m (lookT tm') (lookH H') a' w' → a'.tmps.size = n → a'.defers = a.defers → Q .normal a' w') : (Code.region id ops draw).wpIn (Fence.wide.inRound l) q P Q a w := by
  refine wpIn_of_normal (K := fun a w => Q .normal a w) ?_ (fun _ _ h => h)
  have hL : ¬ LetsOut (Exit.then (fun a w => Q .normal a w) (fun _ _ _ => False)) := fun ⟨_, _, h⟩ => h
  unfold evRegion at h
  split at h
  · obtain ⟨⟨rs, tm', H', h1, h2⟩, h3⟩ := evOps_res _ _ _ _ _ h
    exact wpIn_region (list_round (noDefer_at hnd) hL _ _ _ (region_plain_ops h1 hR hn h3 (fun m a' w' q1 q2 q3 => hk tm' H' m a' w' h2 q1 q2 q3)))
  · split at h
    · rename_i hm
      obtain ⟨⟨rs, tm', H', h1, h2⟩, h3⟩ := evOps_res _ _ _ _ _ h
      simp only [List.append_nil, List.reverse_reverse] at h2
      split at h2
      · rename_i hck
        exact wpIn_region_any hm (any_round (noDefer_at hnd) hL _ _ _ _ (region_draw_any h1 hck hR hn h3 (fun m a' w' q1 q2 q3 => hk tm' H' m a' w' h2 q1 q2 q3)))
      · exact h2.elim
    · exact h.elim
end
end Go.YtppifophcphdkaaE
namespace Go.YtppifophcphdkaaE
open Go.RowKit
set_option linter.unusedVariables false
set_option linter.unusedSimpArgs false
theorem wpIn_loopg {F : Fence} {n : Nat} {P : Program} {Q : Exit → Act → World → Prop} {c : Code} {a : Act} {w : World} (J : Nat → Act → World → Prop) (q : Nat) (h0 : J q a w) (round : ∀ q a w, J q a w → c.wpIn F n P (Exit.then (fun a' w' => ∃ r, r < q ∧ J r a' w') Q) a w) : (Code.loop c).wpIn F n P Q a w := by
  classical
  have hex : ∀ a w, (∃ q, J q a w) → ∃ m, J m a w ∧ ∀ r, J r a w → m ≤ r := by
    intro a w ⟨q, hq⟩
    induction q using Nat.strongRecOn with
    | _ q ih =>
      by_cases h : ∃ r, r < q ∧ J r a w
      · obtain ⟨r, hr, hj⟩ := h; exact ih r hr hj
      · exact ⟨q, hq, fun r hr => Nat.le_of_not_lt fun hl => h ⟨r, hl, hr⟩⟩
  let μ : Act → World → Nat := fun a w => if h : ∃ q, J q a w then Classical.choose (hex a w h) else 0
  have hμ : ∀ a w q, J q a w → J (μ a w) a w ∧ μ a w ≤ q := by
    intro a w q hq
    have h : ∃ q, J q a w := ⟨q, hq⟩
    simp only [μ, dif_pos h]
    have := Classical.choose_spec (hex a w h)
    exact ⟨this.1, this.2 q hq⟩
  refine wpIn_loop (fun a w => ∃ q, J q a w) μ ⟨q, h0⟩ ?_
  rintro a w ⟨q, hq⟩
  refine wpIn_mono (round (μ a w) a w (hμ a w q hq).1) ?_
  intro e a' w' h
  cases e with
  | normal => obtain ⟨r, hr, hj⟩ := h; exact ⟨⟨r, hj⟩, Nat.lt_of_le_of_lt (hμ a' w' r hj).2 hr⟩
  | exit id => exact h
  | goto l => exact h
  | ret => exact h
  | panic ch => exact h
  | outgrown => exact h
section
variable {P : Program} {n : Nat} {B : List Nat} {w0 : Bse} {X O0 : Nat → Prop}
theorem ev_round [Tabs] {l q : Nat} (hB : ∀ b v, w0.m b = some v → b ∈ B) : ∀ (c : Code), calm c = true → ∀ (tm : Tmps) (H : Heap) (k : K2) (Q : Exit → Act → World → Prop) (m : Nat → Option Value) (a : Act) (w : World), ev P n B c tm H k → Rel w0 X O0 (fun b => b ∈ ids H) m (lookT tm) (lookH H) a w → a.tmps.size = n →
    (∀ e tm' H' m a' w', k e tm' H' → Rel w0 X O0 (fun b => b ∈ ids H') m (lookT tm') (lookH H') a' w' → a'.tmps.size = n → a'.defers = a.defers → Q e.to a' w') → c.wpIn (Fence.wide.inRound l) q P Q a w := by
  intro c
  induction c with
  | skip => intro hc tm H k Q m a w h hR hn hk; exact wpIn_skip (hk .normal tm H m a w h hR hn rfl)
  | label _ => intro hc tm H k Q m a w h hR hn hk; exact wpIn_label (hk .normal tm H m a w h hR hn rfl)
  | region id ops d =>
    intro hc tm H k Q m a w h hR hn hk
    exact evRegion_round hc h hR hn (fun tm' H' m a' w' h1 h2 h3 h4 => hk .normal tm' H' m a' w' h1 h2 h3 h4)
  | seq x y ihx ihy =>
    intro hc tm H k Q m a w h hR hn hk
    have hc : (calm x && calm y) = true := hc
    simp only [Bool.and_eq_true] at hc
    refine wpIn_seq (ihx hc.1 tm H _ _ m a w h hR hn ?_)
    intro e tm' H' m' a' w' h1 h2 h3 h4
    cases e with
    | normal => exact ihy hc.2 tm' H' k Q m' a' w' h1 h2 h3 (fun e tm2 H2 m2 a2 w2 q1 q2 q3 q4 => hk e tm2 H2 m2 a2 w2 q1 q2 q3 (q4.trans h4))
    | exit i => exact hk (.exit i) tm' H' m' a' w' h1 h2 h3 h4
    | ret => exact hk .ret tm' H' m' a' w' h1 h2 h3 h4
  | cond c x y ihx ihy =>
    intro hcc tm H k Q m a w h hR hn hk
    have hcc : (calm x && calm y) = true := hcc
    simp only [Bool.and_eq_true] at hcc
    obtain ⟨hcx, hcy⟩ := hcc
    have h' : evCond c tm (fun tm => ev P n B x tm H k) (fun tm => ev P n B y tm H k) := h
    unfold evCond at h'
    split at h'
    · rename_i b hb
      have hc := opd_told hR c
      rw [hb] at hc
      refine wpIn_cond hc.v_eq ?_
      have main : (if b = true then ev P n B x tm H k else ev P n B y tm H k) → (if b = true then x else y).wpIn (Fence.wide.inRound l) q P Q a w := by
        intro h
        cases b
        · exact ihy hcy tm H k Q m a w h hR hn hk
        · exact ihx hcx tm H k Q m a w h hR hn hk
      split at h'
      · rename_i t
        have e := lookT_same (tm := tm) (g := t) (v := .t (.v (.bool b))) hb
        cases b with
        | false => exact ihy hcy _ H k Q m a w h' (by rw [e]; exact hR) hn hk
        | true => exact ihx hcx _ H k Q m a w h' (by rw [e]; exact hR) hn hk
      · refine main ?_
        cases b
        · exact h'
        · exact h'
    · rename_i p q hb
      have hc := opd_told hR c
      rw [hb] at hc
      split at h'
      · rename_i t
        generalize hz : a.eval (.tmp t) = z at hc
        cases hc with
        | ab _ _ b hp hq =>
          refine wpIn_cond hz ?_
          have hR2 : Rel w0 X O0 (fun b => b ∈ ids H) m (lookT ((t, .bool b) :: tm)) (lookH H) a w := by
            rw [lookT_cons]
            refine { hR with tmp := fun t' => ?_ }
            unfold upT
            by_cases e : some t = some t'
            · rw [if_pos e]
              cases e
              have : get a t = .bool b := hz
              rw [this]
              exact .t _ _ (.v _)
            · rw [if_neg e]; exact hR.tmp t'
          cases b
          · exact ihy hcy _ H k Q m a w (h'.2 (hq rfl)) hR2 hn hk
          · exact ihx hcx _ H k Q m a w (h'.1 (hp rfl)) hR2 hn hk
      · exact h'.elim
    · exact h'.elim
  | block id c ih =>
    intro hc tm H k Q m a w h hR hn hk
    refine wpIn_block (ih hc tm H _ _ m a w h hR hn ?_)
    intro e tm' H' m' a' w' h1 h2 h3 h4
    cases e with
    | normal => exact hk .normal tm' H' m' a' w' h1 h2 h3 h4
    | exit i =>
      by_cases hi : i = id
      · subst hi
        have h1' : (bif Nat.beq i i then k .normal tm' H' else k (.exit i) tm' H') := h1
        simp only [Nat.beq_refl, cond_true] at h1'
        show (if i = i then Q .normal a' w' else Q (.exit i) a' w')
        rw [if_pos rfl]
        exact hk .normal tm' H' m' a' w' h1' h2 h3 h4
      · have hb : Nat.beq i id = false := by rw [Bool.eq_false_iff]; exact fun e => hi (Nat.eq_of_beq_eq_true e)
        have h1' : (bif Nat.beq i id then k .normal tm' H' else k (.exit i) tm' H') := h1
        rw [hb] at h1'
        show (if i = id then Q .normal a' w' else Q (.exit i) a' w')
        rw [if_neg hi]
        exact hk (.exit i) tm' H' m' a' w' h1' h2 h3 h4
    | ret => exact hk .ret tm' H' m' a' w' h1 h2 h3 h4
  | loop c ih =>
    intro hc tm H k Q m a w h hR hn hk
    obtain ⟨Y, It, Ih, G, mu, y0, hG, hle, hround⟩ := h
    obtain ⟨m1, hR1⟩ := hle w0 X O0 m a w hB hR
    refine wpIn_loopg (fun q a' w' => ∃ y m', mu y = q ∧ G y ∧ Rel w0 X O0 (fun b => b ∈ ids (Ih y)) m' (lookT (It y)) (lookH (Ih y)) a' w' ∧ a'.tmps.size = n ∧ a'.defers = a.defers) (mu y0) ⟨y0, m1, rfl, hG, hR1, hn, rfl⟩ ?_
    rintro q a1 w1 ⟨y, m2, rfl, hG1, hR2, hn2, hd2⟩
    refine ih hc (It y) (Ih y) _ _ m2 a1 w1 (hround y hG1) hR2 hn2 ?_
    intro e tm' H' m' a' w' h1 h2 h3 h4
    cases e with
    | normal =>
      obtain ⟨z, hGz, hlez, hmu⟩ := h1
      obtain ⟨m3, hR3⟩ := hlez w0 X O0 m' a' w' hB h2
      exact ⟨mu z, hmu, z, m3, rfl, hGz, hR3, h3, h4.trans hd2⟩
    | exit i => exact hk (.exit i) tm' H' m' a' w' h1 h2 h3 (h4.trans hd2)
    | ret => exact hk .ret tm' H' m' a' w' h1 h2 h3 (h4.trans hd2)
  | exit i => intro hc tm H k Q m a w h hR hn hk; exact wpIn_exit (hk (.exit i) tm H m a w h hR hn rfl)
  | ret => intro hc tm H k Q m a w h hR hn hk; exact wpIn_ret (hk .ret tm H m a w h hR hn rfl)
  | rangeFunc f params assign body ih1 ih2 => intro hc tm H k Q m a w h; exact h.elim
  | scope body ih => intro hc tm H k Q m a w h; exact h.elim
  | goto _ => intro hc tm H k Q m a w h; exact h.elim
  | refuse why => intro hc tm H k Q m a w h; exact h.elim
end
end Go.YtppifophcphdkaaE
namespace Go.YtppifophcphdkaaE
open Go.RowKit
set_option linter.unusedVariables false
set_option linter.unusedSimpArgs false
def asgOf : List Oper → Option (List (Nat × Nat))
  | [] => some []
  | o :: os => match o.op, o.dst, o.guard with
    | .move (.tmp s), some d, none => (asgOf os).map ((d, s) :: ·)
    | .assign (.tmp s), some d, none => (asgOf os).map ((d, s) :: ·)
    | _, _, _ => none
def asgC : Code → Option (List (Nat × Nat))
  | .region _ ops false => asgOf ops.toList
  | .skip => some []
  | .seq a b => match asgC a, asgC b with
    | some l, some k => some (l ++ k)
    | _, _ => none
  | _ => none
def asgA : List (Nat × Nat) → Act → Act
  | [], a => a
  | (d, s) :: l, a => asgA l (a.put (some d) (get a s))
def asgT : List (Nat × Nat) → Tmps → Tmps
  | [], tm => tm
  | (d, s) :: l, tm => asgT l ((d, lookT tm s) :: tm)
def zipT : List Tmp → List T → Tmps → Tmps
  | p :: ps, x :: xs, tm => zipT ps xs ((p, .t x) :: tm)
  | _, _, tm => tm
section
variable {P : Program} {Q : Exit → Act → World → Prop}
theorem asg_list {ops : Array Oper} : ∀ (os : List Oper) (l : List (Nat × Nat)), asgOf os = some l → ∀ (a : Act) (w : World), Q .normal (asgA l a) w → wpList P ops Q os a w
  | [], l, h, a, w, hq => by
    simp [asgOf] at h
    subst h
    exact hq
  | o :: os, l, h, a, w, hq => by
    have main : ∀ d s l', (o.op = .move (.tmp s) ∨ o.op = .assign (.tmp s)) → o.dst = some d → o.guard = none → asgOf os = some l' → l = (d, s) :: l' → wpList P ops Q (o :: os) a w := by
      intro d s l' h1 h2 h3 h4 h5
      subst h5
      have hw : Region.wanted o (yielded ops a.tmps) = true := by unfold Region.wanted; rw [h3]
      have hrun : (execOp a.eval o).run P w = .ok (.value (a.eval (.tmp s))) w := by
        unfold execOp
        rcases h1 with e | e <;> rw [e] <;> rfl
      show (if Region.wanted o (yielded ops a.tmps) = true then _ else _)
      rw [if_pos hw]
      refine .inl ?_
      unfold Oper.wp
      rw [hrun]
      show wpList P ops Q os (a.put o.dst (a.eval (.tmp s))) w
      rw [h2]
      exact asg_list os l' h4 _ w hq
    unfold asgOf at h
    split at h
    · rename_i s d h1 h2 h3
      obtain ⟨l', h4, h5⟩ := Option.map_eq_some_iff.1 h
      exact main d s l' (.inl h1) h2 h3 h4 h5.symm
    · rename_i s d h1 h2 h3
      obtain ⟨l', h4, h5⟩ := Option.map_eq_some_iff.1 h
      exact main d s l' (.inr h1) h2 h3 h4 h5.symm
    · cases h
theorem asg_calm : ∀ (os : List Oper) (l : List (Nat × Nat)), asgOf os = some l → noDefer os = true
  | [], _, _ => rfl
  | o :: os, l, h => by
    unfold asgOf at h
    have hc : ∀ s, (o.op = .move (.tmp s) ∨ o.op = .assign (.tmp s)) → noDefer os = true → noDefer (o :: os) = true := by
      intro s h1 h2
      unfold noDefer at *
      rw [List.all_cons, h2, Bool.and_true]
      rcases h1 with e | e <;> rw [e]
    split at h
    · rename_i s d h1 h2 h3
      obtain ⟨l', h4, h5⟩ := Option.map_eq_some_iff.1 h
      exact hc s (.inl h1) (asg_calm os l' h4)
    · rename_i s d h1 h2 h3
      obtain ⟨l', h4, h5⟩ := Option.map_eq_some_iff.1 h
      exact hc s (.inr h1) (asg_calm os l' h4)
    · cases h
theorem asgA_append : ∀ (l k : List (Nat × Nat)) (a : Act), asgA (l ++ k) a = asgA k (asgA l a)
  | [], _, _ => rfl
  | (d, s) :: l, k, a => asgA_append l k _
theorem asg_wp [Tabs] {c : Code} {l : List (Nat × Nat)} (h : asgC c = some l) {a : Act} {w : World} {r q : Nat} {K : Act → World → Prop} (hK : K (asgA l a) w) : c.wpIn (Fence.wide.inRound r) q P (Exit.then K (fun _ _ _ => False)) a w := by
  induction c generalizing l a w K with
  | region id ops d =>
    cases d with
    | true => cases h
    | false =>
      refine wpIn_region (list_round (noDefer_at (asg_calm _ _ h)) (fun ⟨_, _, h⟩ => h) _ _ _ ?_)
      rw [List.range_eq_range', show ops.size = ops.toList.length by simp, wpOps_eq_wpList ops.toList 0 (fun j => by simp)]
      exact asg_list _ _ h a w hK
  | skip =>
    cases h
    exact wpIn_skip hK
  | seq x y ihx ihy =>
    unfold asgC at h
    split at h
    · rename_i l1 l2 h1 h2
      cases h
      rw [asgA_append] at hK
      exact wpIn_seq (wpIn_mono (ihx h1 (K := fun a w => y.wpIn (Fence.wide.inRound r) q P (Exit.then K (fun _ _ _ => False)) a w) (ihy h2 hK)) (fun e a w h => by cases e <;> first | exact h | exact h.elim))
    · cases h
  | _ => cases h
variable {w0 : Bse} {X O0 D : Nat → Prop} {m : Nat → Option Value} {hf : Hp} {w : World}
def allLt (n : Nat) : List Nat → Bool
  | [] => true
  | x :: l => Nat.blt x n && allLt n l
theorem asg_rel [Tabs] {n : Nat} : ∀ (l : List (Nat × Nat)) (tm : Tmps) (a : Act), allLt n (ids l) = true → a.tmps.size = n → Rel w0 X O0 D m (lookT tm) hf a w → Rel w0 X O0 D m (lookT (asgT l tm)) hf (asgA l a) w ∧ (asgA l a).tmps.size = n ∧ (asgA l a).defers = a.defers
  | [], tm, a, _, hn, h => ⟨h, hn, rfl⟩
  | (d, s) :: l, tm, a, hl, hn, h => by
    have hl : (Nat.blt d n && allLt n (ids l)) = true := hl
    simp only [Bool.and_eq_true] at hl
    have hd : d < n := Nat.le_of_ble_eq_true hl.1
    have := h.put (some d) (lookT tm s) (get a s) (fun x hx => by cases hx; rw [hn]; exact hd) (But.refl _ _) (h.tmp s)
    rw [← lookT_cons] at this
    obtain ⟨h1, h2, h3⟩ := asg_rel l ((d, lookT tm s) :: tm) _ hl.2 (by rw [size_put]; exact hn) this
    exact ⟨h1, h2, h3.trans defers_put⟩
theorem zip_rel [Tabs] {n : Nat} : ∀ (ps : List Tmp) (xs : List T) (vs : List Value) (tm : Tmps) (a : Act), allLt n ps = true → a.tmps.size = n → xs.length = ps.length → vs.length = ps.length → (∀ (j : Nat) u v, xs[j]? = some u → vs[j]? = some v → HT w (Own X m hf) u v) → Rel w0 X O0 D m (lookT tm) hf a w →
    Rel w0 X O0 D m (lookT (zipT ps xs tm)) hf { a with tmps := (ps.zip vs).foldl (fun t (p, v) => t.setIfInBounds p v) a.tmps } w ∧ ((ps.zip vs).foldl (fun t (p, v) => t.setIfInBounds p v) a.tmps).size = n
  | [], [], [], tm, a, _, hn, _, _, _, h => ⟨h, hn⟩
  | p :: ps, x :: xs, v :: vs, tm, a, hl, hn, e1, e2, hv, h => by
    have hl : (Nat.blt p n && allLt n ps) = true := hl
    simp only [Bool.and_eq_true] at hl
    have hd : p < n := Nat.le_of_ble_eq_true hl.1
    have := h.put (some p) (.t x) v (fun x hx => by cases hx; rw [hn]; exact hd) (But.refl _ _) (.t _ _ (hv 0 x v rfl rfl))
    rw [← lookT_cons] at this
    exact zip_rel ps xs vs ((p, .t x) :: tm) (a.put (some p) v) hl.2 (by rw [size_put]; exact hn) (by simpa using e1) (by simpa using e2) (fun j u v hu hv' => hv (j + 1) u v hu hv') this
  | [], _ :: _, _, _, _, _, _, e, _, _, _ => by simp at e
  | [], [], _ :: _, _, _, _, _, _, e, _, _ => by simp at e
  | _ :: _, [], _, _, _, _, _, e, _, _, _ => by simp at e
  | _ :: _, _ :: _, [], _, _, _, _, _, e, _, _ => by simp at e
end
end Go.YtppifophcphdkaaE
namespace Go.YtppifophcphdkaaE
open Go.RowKit
set_option linter.unusedVariables false
set_option linter.unusedSimpArgs false
def Kpw (w : World) (O : Nat → Prop) (A B : World) : Prop := A.heap.size ≤ B.heap.size ∧ ∀ c, c < w.heap.size → ¬ O c → B.heap[c]? = A.heap[c]?
def Iter (P : Program) (f : FuncId) (caps : List T) (np : Nat) (xs : List (List T)) : Prop :=
  (∀ args w, (callFunc f args).run P w = .ok (.enter f args) w) ∧
  ∀ (w : World) (O : Nat → Prop) (lb : List Value), lb.length = caps.length → (∀ (i : Nat) x y, caps[i]? = some x → lb[i]? = some y → HT w O x y) →
    ∃ vals : Nat → List Value, (∀ i, (vals i).length = np) ∧ (∀ (i : Nat) x, xs[i]? = some x → ∀ (j : Nat) u v, x[j]? = some u → (vals i)[j]? = some v → HT w O u v) ∧
      ∀ q, 2 ≤ q → SeqStopsK Fence.wide q P f lb.toArray (fun i : Fin xs.length => (vals i.1).toArray) (Kpw w O) (fun ys => ys.map (·.1) = List.range xs.length) (fun pre => ∃ k, k ≤ xs.length ∧ pre.map (·.1) = List.range k) xs.length w
def okV (S : List Nat) : AV → Bool
  | .un => true
  | .t _ => true
  | .ptr b _ => memN b S
  | _ => false
def okT (S : List Nat) : Tmps → Bool
  | [] => true
  | (_, v) :: l => okV S v && okT S l
def unfz : Heap → Bool
  | [] => true
  | (_, fz, _) :: l => !fz && unfz l
theorem unfz_look [Tabs] : ∀ {H : Heap}, unfz H = true → ∀ b, (lookH H b).1 = false
  | [], _, b => rfl
  | (x, fz, k) :: l, h, b => by
    have h : (!fz && unfz l) = true := h
    simp only [Bool.and_eq_true, Bool.not_eq_true'] at h
    unfold lookH
    rw [look_cons]
    split
    · exact h.1
    · exact unfz_look h.2 b
theorem okT_look [Tabs] {S : List Nat} : ∀ {tm : Tmps}, okT S tm = true → ∀ t, lookT tm t = .un ∨ (∃ x, lookT tm t = .t x) ∨ ∃ b o, lookT tm t = .ptr b o ∧ b ∈ S
  | [], _, t => .inl rfl
  | (x, v) :: l, h, t => by
    have h : (okV S v && okT S l) = true := h
    simp only [Bool.and_eq_true] at h
    unfold lookT
    rw [look_cons]
    split
    · cases v with
      | un => exact .inl rfl
      | t x => exact .inr (.inl ⟨x, rfl⟩)
      | ptr b o => exact .inr (.inr ⟨b, o, rfl, memN_iff.1 h.1⟩)
      | _ => cases h.1
    · exact okT_look h.2 t
def RangeOb [Tabs] (P : Program) (n : Nat) (B : List Nat) (g : Operand) (ps : List Tmp) (asn : Code) (bd : List Nat → Tmps → Heap → K2 → Prop) (tm : Tmps) (H : Heap) (k : K2) : Prop :=
  match asgC asn with
  | some asg => ∃ (f : FuncId) (caps : List T) (xs : List (List T)) (S : List Nat) (tm0 : Tmps) (Y : Type) (Ih : Y → Heap) (G : List Nat → Y → Prop) (y0 : Y),
      opd (lookT tm0) g = .t (.fn (.func f) [] caps) ∧ Iter P f caps ps.length xs ∧ (allIn S B && okT S tm0 && allLt n ps && allLt n (ids asg)) = true ∧ G [] y0 ∧ Le B tm H tm0 (Ih y0) ∧ (∀ y, (unfz (Ih y) && nsH (Ih y)) = true) ∧
      (∀ pre i y x, G pre y → pre.length < xs.length → xs[i]? = some x → x.length = ps.length ∧ bd S (asgT asg (zipT ps x tm0)) (Ih y) fun e tm' H' => match e with
        | .normal => ∃ z, G (pre ++ [i]) z ∧ Le S tm' H' [] (Ih z)
        | .exit j => ∃ H2, Le S tm' H' [] H2 ∧ nsH H2 = true ∧ (pre = List.range i → k (.exit j) tm0 H2)
        | .ret => ∃ H2, Le S tm' H' [] H2 ∧ nsH H2 = true ∧ (pre = List.range i → k .ret tm0 H2)) ∧
      ∀ y, G (List.range xs.length) y → k .normal tm0 (Ih y)
  | none => False
section
variable {w0 : Bse} {X O0 D D1 : Nat → Prop} {m m1 : Nat → Option Value} {tf : Nat → AV} {hf hf1 : Hp} {a a' : Act} {w w1 : World} {S : List Nat} {tm0 : Tmps}
theorem Rel.saved [Tabs] (h1 : Rel w0 X O0 D1 m1 (lookT tm0) hf1 a w1) (hok : okT S tm0 = true) (h : Rel ⟨w1, onS S m1⟩ X (Owm m1 hf1) D m tf hf a' w) : Rel ⟨w1, onS S m1⟩ X (Owm m1 hf1) D m (lookT tm0) hf a w := by
  refine h.temps fun t => ?_
  have ht := h1.tmp t
  rcases okT_look hok t with e | ⟨x, e⟩ | ⟨b, o, e, hb⟩
  · rw [e]; exact .un _
  · rw [e] at ht ⊢
    generalize get a t = v at ht
    cases ht with | t _ _ hx => exact .t _ _ (hx.mono h.keeps (fun c hc => h.own_old hc))
  · rw [e] at ht ⊢
    generalize get a t = v at ht
    cases ht with | ptr _ _ g hg => exact .ptr b o g (h.base b _ (by show onS S m1 b = _; unfold onS; rw [memN_iff.2 hb]; exact hg))
end
theorem range_last {pre : List Nat} {i q : Nat} (h : pre ++ [i] = List.range q) : pre = List.range i := by
  cases q with
  | zero => simp at h
  | succ q =>
    rw [List.range_succ] at h
    obtain ⟨h1, h2⟩ := List.append_inj' h rfl
    simp at h2
    rw [h1, h2]
section
variable {P : Program} {n : Nat} {B : List Nat} {w0 : Bse} {X O0 : Nat → Prop}
theorem range_sound [Tabs] (hB : ∀ b v, w0.m b = some v → b ∈ B) {g : Operand} {ps : Array Tmp} {asn bd : Code} {tm : Tmps} {H : Heap} {k : K2} {Q : Exit → Act → World → Prop} {m : Nat → Option Value} {a : Act} {w : World} (h : RangeOb P n B g ps.toList asn (fun S => ev P n S bd) tm H k) (hbd : calm bd = true)
    (hR : Rel w0 X O0 (fun b => b ∈ ids H) m (lookT tm) (lookH H) a w) (hn : a.tmps.size = n) (hd : a.defers = [])
    (hk : ∀ e tm' H' m' w' D, k e tm' H' → Rel w0 X O0 (fun b => b ∈ ids H') m' (lookT tm') (lookH H') a w' → w.heap.size ≤ D → w'.heap[D]? = some (.deferred (some [])) → Q e.to { a with defers := { target := .collected D, args := #[] } :: a.defers } w') : (Code.rangeFunc g ps asn bd).wp P Q a w := by
  refine (wpIn_wide (n := 6)).1 ?_
  unfold RangeOb at h
  split at h
  case h_2 => exact h.elim
  rename_i asg hasg
  obtain ⟨f, caps, xs, S, tm0, Y, Ih, G, y0, hop, hit, hchk, hG0, hle, hz0, hround, hend⟩ := h
  have hz : ∀ y, unfz (Ih y) = true := fun y => by have := hz0 y; simp only [Bool.and_eq_true] at this; exact this.1
  have hns : ∀ y, nsH (Ih y) = true := fun y => by have := hz0 y; simp only [Bool.and_eq_true] at this; exact this.2
  simp only [Bool.and_eq_true] at hchk
  obtain ⟨⟨⟨hSB, hok⟩, hps⟩, hasl⟩ := hchk
  have hSB := allIn_iff.1 hSB
  obtain ⟨m1, hR1⟩ := hle w0 X O0 m a w hB hR
  have hg := opd_told hR1 g
  rw [hop] at hg
  obtain ⟨lb, hlb1, hlb2, hge⟩ : ∃ lb : List Value, lb.length = caps.length ∧ (∀ (i : Nat) x y, caps[i]? = some x → lb[i]? = some y → HT w (Own X m1 (lookH (Ih y0))) x y) ∧ a.eval g = .func (.func f) #[] lb.toArray := by
    generalize a.eval g = v at hg
    cases hg with
    | t _ _ hg => cases hg with
      | fn _ _ _ vs us hl _ hm h' =>
        obtain rfl : vs = [] := List.eq_nil_of_length_eq_zero hl
        exact ⟨us, hm, h', rfl⟩
  obtain ⟨vals, hv1, hv2, hseq⟩ := hit.2 w (Own X m1 (lookH (Ih y0))) lb hlb1 hlb2
  have hb0 : Rel ⟨w, onS S m1⟩ X (Owm m1 (lookH (Ih y0))) (fun b => b ∈ ids (Ih y0)) m1 (lookT tm0) (lookH (Ih y0)) a w := hR1.rebase S (unfz_look (hz y0))
  have hSm : ∀ (mm : Nat → Option Value) b v, onS S mm b = some v → b ∈ S := fun mm b v h => (onS_mem h).1
  refine wpIn_rangeFunc_ownH (F := Fence.wide) (n := 6) (w0 := w) (α := Fin xs.length) rfl (by omega) (gf := f) (lb := lb.toArray) hge trivial hit.1 (hseq 5 (by omega)) ?_ ?_ (Below.refl _ _) ?_
    (fun pre W => ∃ y m', G (pre.map (·.1)) y ∧ Rel ⟨w, onS S m1⟩ X (Owm m1 (lookH (Ih y0))) (fun b => b ∈ ids (Ih y)) m' (lookT tm0) (lookH (Ih y)) a W)
    (fun c pre W => ∃ e H2 m', ((∃ j, e = Ex.exit j ∧ c = .exit j) ∨ (e = .ret ∧ c = .ret)) ∧ nsH H2 = true ∧ (∀ q, pre.map (·.1) = List.range q → k e tm0 H2) ∧ Rel ⟨w, onS S m1⟩ X (Owm m1 (lookH (Ih y0))) (fun b => b ∈ ids H2) m' (lookT tm0) (lookH H2) a W)
    ?_ ?_ ⟨y0, m1, hG0, hb0⟩ (fun x a' _ => a' = asgA asg { tmps := (ps.zip (vals x.1).toArray).foldl (fun t (p, v) => t.setIfInBounds p v) a.tmps, defers := [] }) (fun _ _ _ _ _ _ hs _ _ => hs) ?_ ?_ ?_ ?_
  · intro A B C h1 h2
    exact ⟨Nat.le_trans h1.1 h2.1, fun c hc hn => (h2.2 c hc hn).trans (h1.2 c hc hn)⟩
  · intro W l o o' hl _ _ _
    exact ⟨by simp, fun c hc _ => World.putObj_heap_other (by omega)⟩
  · intro x
    show (vals x.1).toArray.size = ps.size
    simp [hv1]
  · rintro pre W W' row ⟨y, m', q1, q2⟩ hgr hrow
    exact ⟨y, m', q1, q2.grown (nsH_look (hns y)) hgr (fun r e => (hrow r e).2) (fun r e => (hrow r e).1)⟩
  · rintro c pre W W' row ⟨e, H2, m', q1, qn, q2, q3⟩ hgr hrow
    exact ⟨e, H2, m', q1, qn, q2, q3.grown (nsH_look qn) hgr (fun r e => (hrow r e).2) (fun r e => (hrow r e).1)⟩
  · intro l pre x W K hi hK
    exact asg_wp hasg (hK _ _ (KeepsFrom.refl _ _) ⟨Nat.le_refl _, fun _ _ _ => rfl⟩ hi rfl)
  · rintro l pre x a' W hl hrec ⟨y, m', hg', hr⟩ rfl hlen
    obtain ⟨hxl, hob⟩ := hround _ x.1 y _ hg' (by simpa using hlen) (List.getElem?_eq_getElem x.2)
    have hzr := hr.rebase S (unfz_look (hz y))
    obtain ⟨z1, z2⟩ := zip_rel ps.toList xs[x.1] (vals x.1) tm0 a hps hn hxl (by simp [hv1]) (fun j u v hu hv => (hv2 x.1 _ (List.getElem?_eq_getElem x.2) j u v hu hv).mono hr.keeps (fun c hc => hr.own_old hc)) hzr
    have eact : ({ tmps := (ps.zip (vals x.1).toArray).foldl (fun t (p, v) => t.setIfInBounds p v) a.tmps, defers := [] } : Act) = { a with tmps := (ps.toList.zip (vals x.1)).foldl (fun t (p, v) => t.setIfInBounds p v) a.tmps } := by
      rw [hd]
      congr 1
      rw [← Array.foldl_toList]
      simp
    rw [eact]
    obtain ⟨y1, y2, y3⟩ := asg_rel asg (zipT ps.toList xs[x.1] tm0) _ hasl z2 z1
    refine ev_round (w0 := ⟨W, onS S m'⟩) (hSm m') bd hbd _ _ _ _ m' _ W hob y1 y2 ?_
    intro e tm' H' m2 a2 W2 hke hr2 hn2 hd2
    have fin : ∀ H2, Le S tm' H' [] H2 → ∃ m3, Rel ⟨w, onS S m1⟩ X (Owm m1 (lookH (Ih y0))) (fun b => b ∈ ids H2) m3 (lookT tm0) (lookH H2) a W2 ∧ KeepsFrom w.heap.size W W2 ∧ Kpw w (Own X m1 (lookH (Ih y0))) W W2 := by
      intro H2 hl2
      obtain ⟨m3, hr3⟩ := hl2 ⟨W, onS S m'⟩ X _ m2 a2 W2 (hSm m') hr2
      have hr4 := hr.saved hok hr3
      refine ⟨m3, hr.unbase (hSm m1) (fun b hb => hb) hr4, ⟨hr3.fr.size, fun k o _ h0 ho => hr.noCell (nsH_look (hns y)) hr3 h0 ho⟩, hr3.fr.size, fun c hc hno => ?_⟩
      refine hr3.fr.block c (Nat.lt_of_lt_of_le hc hr.fr.size) (fun ho => ?_)
      rcases hr.own_old (.inr ho) with hx | hx
      · exact hno hx
      · have : w.heap.size ≤ c := hx
        omega
    cases e with
    | normal =>
      obtain ⟨z, hGz, hlz⟩ := hke
      obtain ⟨m3, q1, q2, q3⟩ := fin _ hlz
      exact ⟨q2, q3, z, m3, by simpa using hGz, q1⟩
    | exit j =>
      obtain ⟨H2, hl2, hn2, hkk⟩ := hke
      obtain ⟨m3, q1, q2, q3⟩ := fin _ hl2
      exact ⟨q2, .exit j, H2, m3, .inl ⟨j, rfl, rfl⟩, hn2, fun q hq => hkk (range_last (by simpa using hq)), q1⟩
    | ret =>
      obtain ⟨H2, hl2, hn2, hkk⟩ := hke
      obtain ⟨m3, q1, q2, q3⟩ := fin _ hl2
      exact ⟨q2, .ret, H2, m3, .inr ⟨rfl, rfl⟩, hn2, fun q hq => hkk (range_last (by simpa using hq)), q1⟩
  · rintro D ys W hD hS ⟨y, m', hg', hr⟩ hdf
    rw [hS] at hg'
    exact hk .normal tm0 (Ih y) m' W D (hend y hg') (hR1.unbase hB hSB hr) hD hdf
  · rintro D c pre W hD ⟨kk, _, hpre⟩ ⟨e, H2, m', hc, _, hke, hr⟩ hdf
    rcases hc with ⟨j, rfl, rfl⟩ | ⟨rfl, rfl⟩
    · exact wpIn_exit (hk (.exit j) tm0 H2 m' W D (hke kk hpre) (hR1.unbase hB hSB hr) hD hdf)
    · exact wpIn_ret (hk .ret tm0 H2 m' W D (hke kk hpre) (hR1.unbase hB hSB hr) hD hdf)
end
end Go.YtppifophcphdkaaE
