/-
  Parts of rows and of a variable's cells: cut out, copied to, cleared; records held together.
  Written by hand for this claim's session.
-/
import Derived.Test.YtbbcnmfmncgffaaEvLit
namespace Go.YtbbcnmfmncgffaaE
open Go.RowKit
set_option linter.unusedVariables false
set_option linter.unusedSimpArgs false
def evSliceOwn (P : Program) (t : TypeId) (tf : Nat → AV) (x : Operand) (lo hi mx : Option Operand) (H : Heap) (k : Kont) : Prop :=
  match mx with
  | some _ => False
  | none => match P.underlying t with
    | some (.slice e) => (match sizN P e with
      | some esz => match opd tf x with
        | .own b => match lookH H b with
          | (_, .row _ sz l) => match Nat.beq sz esz with
            | true => match bnd tf 0 lo, bnd tf l.length hi with
              | some p, some q => ∃ i' n' : Nat, (i' : Int) = p ∧ (n' : Int) = q - p ∧ 0 ≤ p ∧ p ≤ q ∧ q ≤ l.length ∧ k (.sub b sz i' n') [] [b] []
              | _, _ => False
            | false => False
          | _ => False
        | .sub b sz i n => match Nat.beq sz esz with
          | true => match bnd tf 0 lo, bnd tf n hi with
            | some p, some q => ∃ i' n' : Nat, (i' : Int) = i + p ∧ (n' : Int) = q - p ∧ 0 ≤ p ∧ p ≤ q ∧ q ≤ n ∧ k (.sub b sz i' n') [] [] []
            | _, _ => False
          | false => False
        | .fsub b sz i n N => match Nat.beq sz esz with
          | true => match bnd tf 0 lo, bnd tf n hi with
            | some p, some q => ∃ i' n' : Nat, (i' : Int) = i + p ∧ (n' : Int) = q - p ∧ 0 ≤ p ∧ p ≤ q ∧ q ≤ N - i ∧ i ≤ N ∧ k (.fsub b sz i' n' N) [] [] []
            | _, _ => False
          | false => False
        | _ => False
      | none => False)
    | some (.pointer arr) => (match P.underlying arr with
      | some (.array n e) => match sizN P e with
        | some 1 => match opd tf x with
          | .ptr b off => match bnd tf 0 lo, bnd tf n hi with
            | some p, some q => ∃ i' n' : Nat, (i' : Int) = off + p ∧ (n' : Int) = q - p ∧ 0 ≤ p ∧ p ≤ q ∧ q ≤ n ∧ k (.sub b 1 i' n') [] [] []
            | _, _ => False
          | _ => False
        | _ => False
      | _ => False)
    | _ => False
section
variable {P : Program} {o : Oper} {tf : Nat → AV} {hf : Hp}
theorem sub_cut {m : Nat → Option Value} {w : World} {O : Nat → Prop} {b sz i n p q g c : Nat} (hpq : p ≤ q) (hq : q ≤ n) (hc : n ≤ c) (hm : m b = some (.pointer (some ⟨g, 0, none⟩)) ∨ ∃ n' c', m b = some (.slice (some ⟨g, 0, none⟩) n' c') ∧ i + n ≤ n' ∧ i + c = c') :
    HA m w O (.sub b sz (i + p) (q - p)) (.slice (if c = p then some ⟨g, i * sz, none⟩ else some ((⟨g, i * sz, none⟩ : Addr).add (p * sz))) (q - p) (c - p)) := by
  refine .sub _ _ _ _ _ ?_
  have main : ∀ A, A = some ⟨g, (i + p) * sz, none⟩ → SubV m b sz (i + p) (q - p) (.slice A (q - p) (c - p)) := by
    rintro A rfl
    exact .inr ⟨g, c - p, by omega, rfl, hm.imp id fun ⟨n', c', h1, h2, h3⟩ => ⟨n', c', h1, by omega, by omega⟩⟩
  by_cases e : c = p
  · rw [if_pos e]
    by_cases p0 : p = 0
    · exact main _ (by rw [p0, Nat.add_zero])
    · have : q - p = 0 := by omega
      rw [this]
      exact .inl ⟨rfl, ⟨_, _, rfl⟩, fun h => absurd h (by omega)⟩
  · rw [if_neg e, add_plain]
    exact main _ (by rw [Nat.add_mul])
theorem ok_sliceOwn {t : TypeId} {x : Operand} {lo hi mx : Option Operand} {H : Heap} {k : Kont} (ho : o.op = .slice t x lo hi mx) (h : evSliceOwn P t tf x lo hi mx H k) (hH : hf = lookH H) : ∃ v R, OpLoc P o R tf hf v [] [] ∧ k v [] R [] := by
  have hop : ∀ tf', (∀ t ∈ tmpsOf o, tf' t = tf t) → ∀ z, z = x ∨ lo = some z ∨ hi = some z → opd tf' z = opd tf z := fun tf' ht z hz => tmps_same ht (by
    rw [ho]; simp [Op.operands]
    rcases hz with h | h | h
    · exact .inl h
    · exact .inr (.inl h)
    · exact .inr (.inr (.inl h)))
  have hbn : ∀ tf', (∀ t ∈ tmpsOf o, tf' t = tf t) → ∀ d z, (z = lo ∨ z = hi) → bnd tf' d z = bnd tf d z := by
    intro tf' ht d z hz
    cases z with
    | none => rfl
    | some y => unfold bnd; simp only; rw [hop tf' ht y (by rcases hz with h | h; exact .inr (.inl h.symm); exact .inr (.inr h.symm))]
  subst hH
  unfold evSliceOwn at h
  split at h
  · exact h.elim
  split at h
  · rename_i e hu
    split at h
    · rename_i esz he
      have hrun : ∀ (a : Act) (w : World) (A : Option Addr) (len cap p q : Nat), a.eval x = .slice A len cap → (Instr.sliceBounds true len cap (lo.map a.eval) (hi.map a.eval) none).run P w = .ok (p, q, cap) w → (execOp a.eval o).run P w = .ok (.value (.slice (if cap = p then A else A.map (·.add (p * esz))) (q - p) (cap - p))) w := by
        intro a w A len cap p q hy hb
        unfold execOp
        rw [ho]
        refine run_value ?_
        simp only [Instr.sliceAt, Sem.run_bind, run_underlying hu, Result.andThen_ok, Instr.slice, hy, Option.map_none, hb, sizN_run he, Sem.run_pure]
      split at h
      · rename_i b hx
        split at h
        · rename_i fz ty sz l hb
          split at h
          · rename_i hbe
            have := Nat.eq_of_beq_eq_true hbe
            subst this
            split at h
            · rename_i p q hp hq
              obtain ⟨i', n', hi', hn', h0, h1, h2, h⟩ := h
              obtain rfl : i' = p.toNat := by omega
              obtain rfl : n' = q.toNat - p.toNat := by omega
              refine ⟨_, [b], loc_read fun tf' hf' ht hh w0 X O0 D m a w hR => ?_, h⟩
              have h3 := opd_told hR x
              rw [hop tf' ht x (by simp), hx] at h3
              have h4 := hR.blk b
              rw [hh b (by simp), hb] at h4
              have hm := h3.own_eq
              obtain ⟨v, xs, hv, how, _⟩ := h4
              rw [hm] at hv
              simp at hv
              rcases how.2 with ⟨h5, h6⟩ | ⟨g, cap, cur, h5, _, _, hcap, _⟩
              · have hl0 : l.length = 0 := h6
                have hb := bounds_run (P := P) (b := true) (len := l.length) (cap := 0) hR (by omega) (by rw [hbn tf' ht _ _ (.inl rfl)]; exact hp) (by rw [hbn tf' ht _ _ (.inr rfl)]; exact hq) h0 h1 h2
                rw [hl0] at hb
                refine ⟨_, hrun a w none 0 0 _ _ (by rw [hv, h5]) hb, .sub _ _ _ _ _ (.inl ?_)⟩
                have : p.toNat = 0 := by omega
                rw [this, show q.toNat - 0 = 0 by omega]
                exact ⟨rfl, ⟨none, 0, rfl⟩, fun _ => rfl⟩
              · have hb := bounds_run (P := P) (b := true) (len := l.length) (cap := cap) hR hcap (by rw [hbn tf' ht _ _ (.inl rfl)]; exact hp) (by rw [hbn tf' ht _ _ (.inr rfl)]; exact hq) h0 h1 h2
                refine ⟨_, hrun a w _ l.length cap _ _ (by rw [hv, h5]) hb, ?_⟩
                have key := sub_cut (m := m) (w := w) (O := Own X m hf') (b := b) (sz := sz) (i := 0) (n := l.length) (p := p.toNat) (q := q.toNat) (g := g) (c := cap) (by omega) (by omega) hcap (.inr ⟨_, _, by rw [hm, hv, h5], by omega, by omega⟩)
                simp only [Nat.zero_add, Nat.zero_mul] at key
                rw [Option.map_some]
                exact key
            · exact h.elim
          · exact h.elim
        · exact h.elim
      · rename_i b sz i n hx
        split at h
        · rename_i hbe
          have := Nat.eq_of_beq_eq_true hbe
          subst this
          split at h
          · rename_i p q hp hq
            obtain ⟨i', n', hi', hn', h0, h1, h2, h⟩ := h
            obtain rfl : i' = i + p.toNat := by omega
            obtain rfl : n' = q.toNat - p.toNat := by omega
            refine ⟨_, [], loc_read fun tf' hf' ht hh w0 X O0 D m a w hR => ?_, h⟩
            have h3 := opd_told hR x
            rw [hop tf' ht x (by simp), hx] at h3
            generalize hz : a.eval x = z at h3
            cases h3 with
            | sub _ _ _ _ _ h3 =>
            rcases h3 with ⟨rfl, ⟨A, c, rfl⟩, hnil⟩ | ⟨g, c, hc, rfl, hm⟩
            · have hb := bounds_run (P := P) (b := true) (len := 0) (cap := c) hR (by omega) (by rw [hbn tf' ht _ _ (.inl rfl)]; exact hp) (by rw [hbn tf' ht _ _ (.inr rfl)]; exact hq) h0 h1 h2
              refine ⟨_, hrun a w A 0 c _ _ hz hb, .sub _ _ _ _ _ (.inl ?_)⟩
              rw [show q.toNat - p.toNat = 0 by omega]
              refine ⟨rfl, ⟨_, _, rfl⟩, fun hi => ?_⟩
              have h5 := hnil (by omega)
              simp only [Value.slice.injEq, true_and] at h5
              rw [h5.1, h5.2, Option.map_none, ite_self, Nat.zero_sub]
            · have hb := bounds_run (P := P) (b := true) (len := n) (cap := c) hR hc (by rw [hbn tf' ht _ _ (.inl rfl)]; exact hp) (by rw [hbn tf' ht _ _ (.inr rfl)]; exact hq) h0 h1 h2
              refine ⟨_, hrun a w _ n c _ _ hz hb, ?_⟩
              rw [Option.map_some]
              exact sub_cut (by omega) (by omega) hc hm
          · exact h.elim
        · exact h.elim
      · rename_i b sz i n N hx
        split at h
        · rename_i hbe
          have := Nat.eq_of_beq_eq_true hbe
          subst this
          split at h
          · rename_i p q hp hq
            obtain ⟨i', n', hi', hn', h0, h1, h2, h3', h⟩ := h
            obtain rfl : i' = i + p.toNat := by omega
            obtain rfl : n' = q.toNat - p.toNat := by omega
            refine ⟨_, [], loc_read fun tf' hf' ht hh w0 X O0 D m a w hR => ?_, h⟩
            have h3 := opd_told hR x
            rw [hop tf' ht x (by simp), hx] at h3
            generalize hz : a.eval x = z at h3
            cases h3 with
            | fsub _ _ _ _ _ _ h3 =>
            obtain ⟨g, o', rfl, hm, hin, hN, ho'⟩ := h3
            have hb : (Instr.sliceBounds true n (N - i) (lo.map a.eval) (hi.map a.eval) none).run P w = .ok (p.toNat, q.toNat, N - i) w := by
              unfold Instr.sliceBounds
              rcases bnd_run hR (by rw [hbn tf' ht _ _ (.inr rfl)]; exact hq) with ⟨rfl, rfl⟩ | ⟨z, κ, rfl, hz⟩
              · rcases bnd_run hR (by rw [hbn tf' ht _ _ (.inl rfl)]; exact hp) with ⟨rfl, rfl⟩ | ⟨z', κ', rfl, hz'⟩
                · simp
                · simp [hz', run_sliceBound (P := P) w κ' p n _ h0 (by omega)]
              · rcases bnd_run hR (by rw [hbn tf' ht _ _ (.inl rfl)]; exact hp) with ⟨rfl, rfl⟩ | ⟨z', κ', rfl, hz'⟩
                · simp [hz, run_sliceBound (P := P) w κ q (N - i) _ (by omega) (by omega)]
                · simp [hz, hz', run_sliceBound (P := P) w κ q (N - i) _ (by omega) (by omega), run_sliceBound (P := P) w κ' p q.toNat _ h0 (by omega)]
            refine ⟨_, hrun a w _ n (N - i) _ _ hz hb, .fsub _ _ _ _ _ _ ?_⟩
            rw [Option.map_some, add_plain, show N - i - p.toNat = N - (i + p.toNat) by omega]
            by_cases e : N - i = p.toNat
            · rw [if_pos e]
              exact ⟨g, o', rfl, hm, by omega, hN, fun e' => by omega⟩
            · rw [if_neg e]
              exact ⟨g, o' + p.toNat * sz, rfl, hm, by omega, hN, fun e' => by rw [ho' (by omega), Nat.add_mul]⟩
          · exact h.elim
        · exact h.elim
      · exact h.elim
    · exact h.elim
  · rename_i arr hu
    split at h
    · rename_i n e hu2
      split at h
      · rename_i he
        split at h
        · rename_i b off hx
          split at h
          · rename_i p q hp hq
            obtain ⟨i', n', hi', hn', h0, h1, h2, h⟩ := h
            obtain rfl : i' = off + p.toNat := by omega
            obtain rfl : n' = q.toNat - p.toNat := by omega
            refine ⟨_, [], loc_read fun tf' hf' ht hh w0 X O0 D m a w hR => ?_, h⟩
            have h3 := opd_told hR x
            rw [hop tf' ht x (by simp), hx] at h3
            obtain ⟨g, hy, hm⟩ := h3.ptr_eq
            have hb := bounds_run (P := P) (b := false) (len := n) (cap := n) hR (Nat.le_refl _) (by rw [hbn tf' ht _ _ (.inl rfl)]; exact hp) (by rw [hbn tf' ht _ _ (.inr rfl)]; exact hq) h0 h1 h2
            refine ⟨.slice (some (if n = p.toNat then ⟨g, off, none⟩ else (⟨g, off, none⟩ : Addr).add (p.toNat * 1))) (q.toNat - p.toNat) (n - p.toNat), ?_, ?_⟩
            · unfold execOp
              rw [ho]
              refine run_value ?_
              simp only [Instr.sliceAt, Sem.run_bind, run_underlying hu, Result.andThen_ok, Instr.slice, hy, asAddr, run_underlying hu2, Option.map_none, hb, sizN_run he, Sem.run_pure]
            · have key := sub_cut (m := m) (w := w) (O := Own X m hf') (b := b) (sz := 1) (i := off) (n := n) (p := p.toNat) (q := q.toNat) (g := g) (c := n) (by omega) (by omega) (Nat.le_refl _) (.inl hm)
              rw [Nat.mul_one] at key
              by_cases e : n = p.toNat
              · rw [if_pos e] at key ⊢; exact key
              · rw [if_neg e] at key ⊢; exact key
          · exact h.elim
        · exact h.elim
      · exact h.elim
    · exact h.elim
  · exact h.elim
end
end Go.YtbbcnmfmncgffaaE
