/-
  Operations that reckon addresses, and parts of slices.
  Written by hand for this claim's session.
-/
import Derived.Test.YtbbcnmfmncgffaaEvRead
import Derived.Laws.Slices
namespace Go.YtbbcnmfmncgffaaE
open Go.RowKit
set_option linter.unusedVariables false
set_option linter.unusedSimpArgs false
def sizN (P : Program) (t : TypeId) : Option Nat := (P.info? t).map (·.size)
theorem sizN_run {P : Program} {t : TypeId} {n : Nat} (h : sizN P t = some n) (w : World) : (sizeOf t).run P w = .ok n w := by
  obtain ⟨i, hi, hz⟩ := Option.map_eq_some_iff.1 h
  simp [sizeOf, typeInfo, hi, hz]
section
variable {P : Program} {o : Oper} {tf : Nat → AV} {hf : Hp}
/-! ### a field's address -/
def evFAddr (P : Program) (s : TypeId) (x : AV) (f : Nat) (k : Kont) : Prop :=
  match P.underlying s with
  | some (.struct fs) => match fs[f]? with
    | some fd => match sizN P fd.type with
      | some (_ + 1) => match x with
        | .ptr b off => k (.ptr b (off + fd.offset)) [] [] []
        | .rp b sz i j => k (.rp b sz i (j + fd.offset)) [] [] []
        | .t (.pt l) => match Nat.blt fd.offset l.length with
          | true => k (.t (.pt (l.drop fd.offset))) [] [] []
          | false => False
        | _ => False
      | _ => False
    | none => False
  | _ => False
theorem ok_faddr {s : TypeId} {x : Operand} {f : Nat} {k : Kont} (ho : o.op = .fieldAddr s x f) (h : evFAddr P s (opd tf x) f k) : ∃ v, OpLoc P o [] tf hf v [] [] ∧ k v [] [] [] := by
  have hop : ∀ tf', (∀ t ∈ tmpsOf o, tf' t = tf t) → opd tf' x = opd tf x := fun tf' ht => tmps_same ht (by rw [ho]; simp [Op.operands])
  unfold evFAddr at h
  split at h
  · rename_i fs hu
    split at h
    · rename_i fd hfd
      split at h
      · rename_i n hn
        have hrun : ∀ (a : Act) (w : World) (b off : Nat), a.eval x = .pointer (some ⟨b, off, none⟩) → (execOp a.eval o).run P w = .ok (.value (.pointer (some ⟨b, off + fd.offset, none⟩))) w := by
          intro a w b off hp
          unfold execOp
          rw [ho]
          refine run_value ?_
          simp [Instr.fieldAt, Instr.sureAddr, hp, run_underlying hu, hfd, fieldPlace, sizN_run hn, add_plain]
        split at h
        · rename_i b off hx
          refine ⟨_, loc_val fun tf' hf' ht => .val fun w0 X O0 D m a w hR => ?_, h⟩
          have h1 := opd_told hR x
          rw [hop tf' ht, hx] at h1
          obtain ⟨g, hy, hm⟩ := h1.ptr_eq
          exact ⟨_, hrun a w g off hy, .ptr _ _ _ hm⟩
        · rename_i b sz i j hx
          refine ⟨_, loc_val fun tf' hf' ht => .val fun w0 X O0 D m a w hR => ?_, h⟩
          have h1 := opd_told hR x
          rw [hop tf' ht, hx] at h1
          obtain ⟨g, n', c, hy, hm⟩ := h1.rp_eq
          refine ⟨_, hrun a w g _ hy, ?_⟩
          rw [Nat.add_assoc]
          exact .rp _ _ _ _ _ _ _ hm
        · rename_i l hx
          split at h
          · rename_i hlt
            have hlt' : fd.offset < l.length := Nat.le_of_ble_eq_true hlt
            refine ⟨_, loc_val fun tf' hf' ht => .val fun w0 X O0 D m a w hR => ?_, h⟩
            have h1 := opd_told hR x
            rw [hop tf' ht, hx] at h1
            obtain ⟨b, o', f', hy, hO, hb, ho1, hc, hv⟩ := h1.pt_eq
            refine ⟨_, hrun a w b o' hy, .t _ _ (.pt _ b _ (fun i => f' (fd.offset + i)) hO hb (fun y hy => ho1 y (List.mem_of_mem_drop hy)) (fun i hi => ?_) (fun i x hx => ?_))⟩
            · rw [List.length_drop] at hi
              rw [Nat.add_assoc]
              exact hc _ (by omega)
            · rw [List.getElem?_drop] at hx
              exact hv _ x hx
          · exact h.elim
        · exact h.elim
      · exact h.elim
    · exact h.elim
  · exact h.elim
/-! ### an element's address -/
/-- Of data: the pointer to element i. -/
theorem sl_elem {m : Nat → Option Value} {w : World} {O : Nat → Prop} {sz i : Nat} {l : List T} {y : Value} {x : T} (h : HA m w O (.t (.sl sz l)) y) (hx : l[i]? = some x) : ∃ (b o' c : Nat), y = .slice (some ⟨b, o', none⟩) l.length c ∧ HT w O (.pt x.cells) (.pointer (some ⟨b, o' + i * sz, none⟩)) := by
  have hi : i < l.length := (List.getElem?_eq_some_iff.1 hx).1
  cases h.t_ht with
  | nil _ A c => simp at hi
  | sl _ _ b o' c f hO hb hc hf hm ht =>
    have hfit := hf x (List.mem_of_getElem? hx)
    exact ⟨b, o', c, rfl, .pt _ b _ (fun j => f (i * sz + j)) hO hb hfit.2 (fun j hj => hm i j hi (by rw [hfit.1] at hj; exact hj)) (fun j y hy => ht i j x y hx hy)⟩
def evIAddr (P : Program) (t : TypeId) (x i : AV) (H : Heap) (k : Kont) : Prop :=
  match i with
  | .t (.v (.int _ n)) => match P.underlying t with
    | some (.slice e) => (match sizN P e with
      | some esz => match x with
        | .t (.sl sz l) => match Nat.beq sz esz with
          | true => 0 ≤ n ∧ ∃ e, l[n.toNat]? = some e ∧ k (.t (.pt e.cells)) [] [] []
          | false => False
        | .own b => match lookH H b with
          | (_, .row _ sz l) => match Nat.beq sz esz with
            | true => 0 ≤ n ∧ n < l.length ∧ k (.rp b sz n.toNat 0) [] [b] []
            | false => False
          | _ => False
        | .sub b sz o c => match lookH H b with
          | (_, .row _ sz' l) => match Nat.beq sz esz && Nat.beq sz' sz with
            | true => 0 ≤ n ∧ n < (c : Int) ∧ k (.rp b sz (o + n.toNat) 0) [] [b] []
            | false => False
          | _ => False
        | _ => False
      | none => False)
    | some (.array len e) => (match sizN P e with
      | some esz => match x with
        | .ptr b off => 0 ≤ n ∧ n < (len : Int) ∧ k (.ptr b (off + n.toNat * esz)) [] [] []
        | _ => False
      | none => False)
    | _ => False
  | _ => False
theorem ok_iaddr {t : TypeId} {x i : Operand} {H : Heap} {k : Kont} (ho : o.op = .indexAddr t x i) (h : evIAddr P t (opd tf x) (opd tf i) H k) (hH : hf = lookH H) : ∃ v R, OpLoc P o R tf hf v [] [] ∧ k v [] R [] := by
  subst hH
  have hop : ∀ tf', (∀ t ∈ tmpsOf o, tf' t = tf t) → ∀ z, z = x ∨ z = i → opd tf' z = opd tf z := fun tf' ht z hz => tmps_same ht (by rw [ho]; simp [Op.operands]; exact hz)
  unfold evIAddr at h
  split at h
  · rename_i κ n hi
    split at h
    · rename_i e hu
      split at h
      · rename_i esz he
        have hrun : ∀ (a : Act) (w : World) (b o' len c : Nat), a.eval i = .int κ n → a.eval x = .slice (some ⟨b, o', none⟩) len c → 0 ≤ n → n < len → (execOp a.eval o).run P w = .ok (.value (.pointer (some ⟨b, o' + n.toNat * esz, none⟩))) w := by
          intro a w b o' len c hp hq h0 h1
          unfold execOp
          rw [ho]
          refine run_value ?_
          simp [Instr.indexAt, hp, hq, asIntOf, run_underlying hu, sizN_run he, h0, h1, add_plain]
        split at h
        · rename_i sz l hx
          split at h
          · rename_i hb
            have := Nat.eq_of_beq_eq_true hb
            subst this
            obtain ⟨h0, el, hel, hk⟩ := h
            refine ⟨_, _, loc_val fun tf' hf' ht => .val fun w0 X O0 D m a w hR => ?_, hk⟩
            have h1 := opd_told hR x
            have h2 := opd_told hR i
            rw [hop tf' ht x (by simp), hx] at h1
            rw [hop tf' ht i (by simp), hi] at h2
            obtain ⟨b, o', c, hy, hpt⟩ := sl_elem h1 hel
            have hlt : n.toNat < l.length := (List.getElem?_eq_some_iff.1 hel).1
            exact ⟨_, hrun a w b o' l.length c h2.v_eq hy h0 (by omega), .t _ _ hpt⟩
          · exact h.elim
        · rename_i b hx
          split at h
          · rename_i fz ty sz l hb
            split at h
            · rename_i hbe
              have := Nat.eq_of_beq_eq_true hbe
              subst this
              obtain ⟨h0, h1', hk⟩ := h
              refine ⟨_, [b], loc_read fun tf' hf' ht hh w0 X O0 D m a w hR => ?_, hk⟩
              have h1 := opd_told hR x
              have h2 := opd_told hR i
              rw [hop tf' ht x (by simp), hx] at h1
              rw [hop tf' ht i (by simp), hi] at h2
              have h3 := hR.blk b
              rw [hh b (by simp), hb] at h3
              have hm := h1.own_eq
              obtain ⟨v, xs, hv, how, _⟩ := h3
              rw [hm] at hv
              simp at hv
              subst hv
              rcases how.2 with ⟨_, h4⟩ | ⟨g, cap, cur, h4, _⟩
              · omega
              · refine ⟨_, hrun a w g 0 l.length cap h2.v_eq h4 h0 h1', ?_⟩
                have : 0 + n.toNat * sz = n.toNat * sz + 0 := by omega
                rw [this]
                exact .rp _ _ _ _ _ _ _ (by rw [hm, h4])
            · exact h.elim
          · exact h.elim
        · rename_i b sz o' c hx
          split at h
          · rename_i fz ty sz' l hb
            split at h
            · rename_i hbe
              simp only [Bool.and_eq_true] at hbe
              have e1 := Nat.eq_of_beq_eq_true hbe.1
              have e2 := Nat.eq_of_beq_eq_true hbe.2
              subst e1
              subst e2
              obtain ⟨h0, h1', hk⟩ := h
              refine ⟨_, [b], loc_read fun tf' hf' ht hh w0 X O0 D m a w hR => ?_, hk⟩
              have h1 := opd_told hR x
              have h2 := opd_told hR i
              rw [hop tf' ht x (by simp), hx] at h1
              rw [hop tf' ht i (by simp), hi] at h2
              have h3 := hR.blk b
              rw [hh b (by simp), hb] at h3
              obtain ⟨v, xs, hv, how, _⟩ := h3
              generalize hz : a.eval x = z at h1
              cases h1 with
              | sub _ _ _ _ _ h1 =>
              rcases h1 with ⟨rfl, ⟨A, c', rfl⟩, hnil⟩ | ⟨g, c', hc, rfl, hm' | ⟨n', c2, hm', hin, hcc⟩⟩
              · omega
              · rw [hv] at hm'
                simp at hm'
                subst hm'
                rcases how.2 with ⟨e, _⟩ | ⟨_, _, _, e, _⟩ <;> cases e
              · refine ⟨_, hrun a w g (o' * sz') c c' h2.v_eq hz h0 h1', ?_⟩
                have : o' * sz' + n.toNat * sz' = (o' + n.toNat) * sz' + 0 := by rw [Nat.add_mul]; omega
                rw [this]
                exact .rp _ _ _ _ _ _ _ hm'
            · exact h.elim
          · exact h.elim
        · exact h.elim
      · exact h.elim
    · rename_i len e hu
      split at h
      · rename_i esz he
        split at h
        · rename_i b off hx
          obtain ⟨h0, h1', hk⟩ := h
          refine ⟨_, _, loc_val fun tf' hf' ht => .val fun w0 X O0 D m a w hR => ?_, hk⟩
          have h1 := opd_told hR x
          have h2 := opd_told hR i
          rw [hop tf' ht x (by simp), hx] at h1
          rw [hop tf' ht i (by simp), hi] at h2
          obtain ⟨g, hy, hm⟩ := h1.ptr_eq
          refine ⟨_, ?_, .ptr _ _ _ hm⟩
          unfold execOp
          rw [ho]
          refine run_value ?_
          simp [Instr.indexAt, Instr.sureAddr, h2.v_eq, hy, asIntOf, run_underlying hu, sizN_run he, h0, h1', add_plain]
        · exact h.elim
      · exact h.elim
    · exact h.elim
  · exact h.elim
/-! ### parts of slices and strings -/
/-- The bounds: numbers that are told. -/
def bndOf : Option AV → Nat → Option (Int)
  | none, d => some d
  | some (.t (.v (.int _ n))), _ => some n
  | _, _ => none
theorem slice_told {w : World} {O : Nat → Prop} {sz : Nat} {l : List T} {A : Option Addr} {c : Nat} (h : HT w O (.sl sz l) (.slice A l.length c)) {lo hi : Nat} (h1 : lo ≤ hi) (h2 : hi ≤ l.length) :
    HT w O (.sl sz ((l.take hi).drop lo)) (.slice (if c - lo = 0 then A else A.map (·.add (lo * sz))) (hi - lo) (c - lo)) := by
  have hlen : ((l.take hi).drop lo).length = hi - lo := by rw [List.length_drop, List.length_take]; omega
  by_cases e : hi - lo = 0
  · have : (l.take hi).drop lo = [] := List.eq_nil_of_length_eq_zero (by omega)
    rw [this, e]
    exact .nil _ _ _
  · generalize hn : l.length = n at h
    cases h with
    | nil _ A c => simp at h2; omega
    | sl _ _ b o' c f hO hb hc hf hm ht =>
      rw [if_neg (by omega)]
      simp only [Option.map_some, add_plain]
      rw [← hlen]
      have hget : ∀ i, i < hi - lo → ((l.take hi).drop lo)[i]? = l[lo + i]? := fun i hi' => by rw [List.getElem?_drop, List.getElem?_take, if_pos (by omega)]
      refine .sl _ _ b _ _ (fun q => f (lo * sz + q)) hO hb (by rw [hlen]; omega) (fun x hx => hf x (List.mem_of_mem_take (List.mem_of_mem_drop hx))) ?_ ?_
      · intro i j hi' hj
        have := hm (lo + i) j (by omega) hj
        rw [Nat.add_mul] at this
        rw [show o' + lo * sz + i * sz + j = o' + (lo * sz + i * sz) + j by omega, this]
        congr 2; omega
      · intro i j x z hx hz
        have hi' : i < hi - lo := by have := (List.getElem?_eq_some_iff.1 hx).1; omega
        rw [hget i hi'] at hx
        have := ht (lo + i) j x z hx hz
        rw [Nat.add_mul] at this
        rwa [show lo * sz + (i * sz + j) = lo * sz + i * sz + j by omega]
/-- A bound's operand. -/
def bnd (tf : Nat → AV) (d : Nat) : Option Operand → Option Int
  | none => some d
  | some x => match opd tf x with
    | .t (.v (.int _ n)) => some n
    | _ => none
def evSlice (P : Program) (t : TypeId) (tf : Nat → AV) (x : Operand) (lo hi mx : Option Operand) (H : Heap) (k : Kont) : Prop :=
  match mx, P.underlying t with
  | none, some (.slice e) => (match sizN P e with
    | some esz => match opd tf x with
      | .t (.sl sz l) => (match Nat.beq sz esz with
        | true => match bnd tf 0 lo, bnd tf l.length hi with
          | some a, some b => 0 ≤ a ∧ a ≤ b ∧ b ≤ l.length ∧ (match lo with
            | none => k (.t (.sl sz (l.take b.toNat))) [] [] []
            | some _ => match hi with
              | none => k (.t (.sl sz (l.drop a.toNat))) [] [] []
              | some _ => k (.t (.sl sz ((l.take b.toNat).drop a.toNat))) [] [] [])
          | _, _ => False
        | false => False)
      | _ => False
    | none => False)
  | none, some .string => match opd tf x with
    | .t (.v (.string s)) => match bnd tf 0 lo, bnd tf s.size hi with
      | some a, some b => 0 ≤ a ∧ a ≤ b ∧ b ≤ s.size ∧ k (.t (.v (.string (s.extract a.toNat b.toNat)))) [] [] []
      | _, _ => False
    | _ => False
  | _, _ => False
theorem bnd_run {tf' : Nat → AV} {hf' : Hp} {w0 : Bse} {X O0 D : Nat → Prop} {m : Nat → Option Value} {a : Act} {w : World} (hR : Rel w0 X O0 D m tf' hf' a w) {d : Nat} {x : Option Operand} {n : Int} (h : bnd tf' d x = some n) :
    (x = none ∧ n = d) ∨ ∃ z κ, x = some z ∧ a.eval z = .int κ n := by
  cases x with
  | none => simp [bnd] at h; exact .inl ⟨rfl, h.symm⟩
  | some z =>
    right
    unfold bnd at h
    simp only at h
    split at h
    · rename_i κ n' hz
      simp at h
      subst h
      have := opd_told hR z
      rw [hz] at this
      exact ⟨z, κ, rfl, this.v_eq⟩
    · cases h
theorem bounds_run {tf' : Nat → AV} {hf' : Hp} {w0 : Bse} {X O0 D : Nat → Prop} {m : Nat → Option Value} {a : Act} {w : World} (hR : Rel w0 X O0 D m tf' hf' a w) {b : Bool} {len cap : Nat} {lo hi : Option Operand} {p q : Int} (hlc : len ≤ cap) (h1 : bnd tf' 0 lo = some p) (h2 : bnd tf' len hi = some q) (h0 : 0 ≤ p) (hpq : p ≤ q) (hq : q ≤ len) :
    (Instr.sliceBounds b len cap (lo.map a.eval) (hi.map a.eval) none).run P w = .ok (p.toNat, q.toNat, cap) w := by
  unfold Instr.sliceBounds
  rcases bnd_run hR h2 with ⟨rfl, rfl⟩ | ⟨z, κ, rfl, hz⟩
  · rcases bnd_run hR h1 with ⟨rfl, rfl⟩ | ⟨z', κ', rfl, hz'⟩
    · simp
    · simp [hz', run_sliceBound (P := P) w κ' p len _ h0 (by omega)]
  · rcases bnd_run hR h1 with ⟨rfl, rfl⟩ | ⟨z', κ', rfl, hz'⟩
    · simp [hz, run_sliceBound (P := P) w κ q cap _ (by omega) (by omega)]
    · simp [hz, hz', run_sliceBound (P := P) w κ q cap _ (by omega) (by omega), run_sliceBound (P := P) w κ' p q.toNat _ h0 (by omega)]
theorem ok_slice {t : TypeId} {x : Operand} {lo hi mx : Option Operand} {H : Heap} {k : Kont} (ho : o.op = .slice t x lo hi mx) (h : evSlice P t tf x lo hi mx H k) : ∃ v, OpLoc P o [] tf hf v [] [] ∧ k v [] [] [] := by
  have hop : ∀ tf', (∀ t ∈ tmpsOf o, tf' t = tf t) → ∀ z, z = x ∨ lo = some z ∨ hi = some z → opd tf' z = opd tf z := fun tf' ht z hz => tmps_same ht (by
    rw [ho]; simp [Op.operands]
    rcases hz with h | h | h
    · exact .inl h
    · exact .inr (.inl h)
    · exact .inr (.inr (.inl h)))
  have hbn : ∀ tf', (∀ t ∈ tmpsOf o, tf' t = tf t) → ∀ d z, (z = lo ∨ z = hi) → bnd tf' d z = bnd tf d z := by
    intro tf' ht d z hz
    cases z with
    | none => rfl
    | some y => unfold bnd; simp only; rw [hop tf' ht y (by rcases hz with h | h; exact .inr (.inl h.symm); exact .inr (.inr h.symm))]
  unfold evSlice at h
  split at h
  · rename_i e hu
    split at h
    · rename_i esz he
      split at h
      · rename_i sz l hx
        split at h
        · rename_i hbe
          have := Nat.eq_of_beq_eq_true hbe
          subst this
          split at h
          · rename_i p q hp hq
            obtain ⟨h0, h1, h2, h⟩ := h
            have key : OpLoc P o [] tf hf (.t (.sl sz ((l.take q.toNat).drop p.toNat))) [] [] := by
              refine loc_val fun tf' hf' ht => .val fun w0 X O0 D m a w hR => ?_
              have h3 := opd_told hR x
              rw [hop tf' ht x (by simp), hx] at h3
              obtain ⟨A, c, hy, hc⟩ := h3.sl_eq
              rw [hy] at h3
              have hb := bounds_run (P := P) (b := true) (cap := c) hR hc (by rw [hbn tf' ht _ _ (.inl rfl)]; exact hp) (by rw [hbn tf' ht _ _ (.inr rfl)]; exact hq) h0 h1 h2
              refine ⟨_, ?_, .t _ _ (slice_told h3.t_ht (lo := p.toNat) (hi := q.toNat) (by omega) (by omega))⟩
              unfold execOp
              rw [ho]
              refine run_value ?_
              simp only [Instr.sliceAt, Sem.run_bind, run_underlying hu, Result.andThen_ok, Instr.slice, hy, Option.map_none, hb, sizN_run he, Sem.run_pure]
              congr 2
              by_cases e1 : c = p.toNat
              · rw [if_pos e1, if_pos (by omega)]
              · rw [if_neg e1, if_neg (by omega)]
            split at h
            · have e : ((l.take q.toNat).drop p.toNat) = l.take q.toNat := by
                have : p = 0 := by simp [bnd] at hp; omega
                rw [this]; simp
              rw [e] at key
              exact ⟨_, key, h⟩
            · split at h
              · have e : ((l.take q.toNat).drop p.toNat) = l.drop p.toNat := by
                  have : q = l.length := by simp [bnd] at hq; omega
                  rw [this]; simp
                rw [e] at key
                exact ⟨_, key, h⟩
              · exact ⟨_, key, h⟩
          · exact h.elim
        · exact h.elim
      · exact h.elim
    · exact h.elim
  · rename_i hu
    split at h
    · rename_i s hx
      split at h
      · rename_i p q hp hq
        obtain ⟨h0, h1, h2, h⟩ := h
        refine ⟨_, loc_val fun tf' hf' ht => .val fun w0 X O0 D m a w hR => ⟨_, ?_, .t _ _ (.v _)⟩, h⟩
        have h3 := opd_told hR x
        rw [hop tf' ht x (by simp), hx] at h3
        have hb := bounds_run (P := P) (b := false) (cap := s.size) hR (Nat.le_refl _) (by rw [hbn tf' ht _ _ (.inl rfl)]; exact hp) (by rw [hbn tf' ht _ _ (.inr rfl)]; exact hq) h0 h1 h2
        unfold execOp
        rw [ho]
        refine run_value ?_
        simp [Instr.sliceAt, run_underlying hu, Instr.slice, h3.v_eq, hb]
      · exact h.elim
    · exact h.elim
  · exact h.elim
/-! ### len, cap, min, max -/
def evLen (P : Program) (t : TypeId) (x : AV) (H : Heap) (k : Kont) : Prop :=
  match P.underlying t with
  | some (.slice _) => (match x with
    | .t (.sl _ l) => k (.int .i64 l.length) [] [] []
    | .t (.v (.slice _ n _)) => k (.int .i64 n) [] [] []
    | .own b => match lookH H b with
      | (_, .row _ _ l) => k (.int .i64 l.length) [] [b] []
      | _ => False
    | .sub _ _ _ n => k (.int .i64 n) [] [] []
    | .fsub _ _ _ n _ => k (.int .i64 n) [] [] []
    | _ => False)
  | some .string => (match x with
    | .t (.v (.string s)) => k (.int .i64 s.size) [] [] []
    | _ => False)
  | some (.array n _) => k (.int .i64 n) [] [] []
  | _ => False
theorem ok_len {t : TypeId} {x : Operand} {H : Heap} {k : Kont} (ho : o.op = .call { callee := .builtin .len, args := #[x], argTypes := #[t] }) (h : evLen P t (opd tf x) H k) (hH : hf = lookH H) : ∃ v R, OpLoc P o R tf hf v [] [] ∧ k v [] R [] := by
  subst hH
  have hop : ∀ tf', (∀ t ∈ tmpsOf o, tf' t = tf t) → opd tf' x = opd tf x := fun tf' ht => tmps_same ht (by rw [ho]; simp [Op.operands, Call.operands])
  have hrun : ∀ (a : Act) (w : World) (u : Value), (Builtin.len_ #[t] o.type #[a.eval x]).run P w = .ok u w → (execOp a.eval o).run P w = .ok (.value u) w := by
    intro a w u hu
    unfold execOp
    rw [ho]
    simp [resolve, invoke, Go.builtin, hu]
  unfold evLen at h
  split at h
  · rename_i e hu
    split at h
    · rename_i sz l hx
      refine ⟨_, [], loc_val fun tf' hf' ht => .val fun w0 X O0 D m a w hR => ⟨_, hrun a w _ ?_, .t _ _ (.v _)⟩, h⟩
      have h1 := opd_told hR x
      rw [hop tf' ht, hx] at h1
      obtain ⟨A, c, hy, _⟩ := h1.sl_eq
      simp [Builtin.len_, run_underlying hu, hy]; rfl
    · rename_i A n c hx
      refine ⟨_, [], loc_val fun tf' hf' ht => .val fun w0 X O0 D m a w hR => ⟨_, hrun a w _ ?_, .t _ _ (.v _)⟩, h⟩
      have h1 := opd_told hR x
      rw [hop tf' ht, hx] at h1
      simp [Builtin.len_, run_underlying hu, h1.v_eq]; rfl
    · rename_i b hx
      split at h
      · rename_i fz ty sz l hb
        refine ⟨_, [b], loc_read fun tf' hf' ht hh w0 X O0 D m a w hR => ⟨_, hrun a w _ ?_, .t _ _ (.v _)⟩, h⟩
        have h1 := opd_told hR x
        rw [hop tf' ht, hx] at h1
        have h3 := hR.blk b
        rw [hh b (by simp), hb] at h3
        have hm := h1.own_eq
        obtain ⟨v, xs, hv, how, _⟩ := h3
        rw [hm] at hv
        simp at hv
        rw [hv]
        rcases how.2 with ⟨h4, h5⟩ | ⟨g, cap, cur, h4, _⟩
        · rw [h4, h5]; simp [Builtin.len_, run_underlying hu]; rfl
        · rw [h4]; simp [Builtin.len_, run_underlying hu]; rfl
      · exact h.elim
    · rename_i b sz i n hx
      refine ⟨_, [], loc_val fun tf' hf' ht => .val fun w0 X O0 D m a w hR => ⟨_, hrun a w _ ?_, .t _ _ (.v _)⟩, h⟩
      have h1 := opd_told hR x
      rw [hop tf' ht, hx] at h1
      generalize a.eval x = z at h1
      cases h1 with
      | sub _ _ _ _ _ h1 =>
      rcases h1 with ⟨rfl, ⟨A, c', rfl⟩, hnil⟩ | ⟨g, c', hc, rfl, _⟩
      · simp [Builtin.len_, run_underlying hu]; rfl
      · simp [Builtin.len_, run_underlying hu]; rfl
    · rename_i b sz i n N hx
      refine ⟨_, [], loc_val fun tf' hf' ht => .val fun w0 X O0 D m a w hR => ⟨_, hrun a w _ ?_, .t _ _ (.v _)⟩, h⟩
      have h1 := opd_told hR x
      rw [hop tf' ht, hx] at h1
      generalize a.eval x = z at h1
      cases h1 with
      | fsub _ _ _ _ _ _ h1 =>
      obtain ⟨g, o', rfl, _⟩ := h1
      simp [Builtin.len_, run_underlying hu]; rfl
    · exact h.elim
  · rename_i hu
    split at h
    · rename_i s hx
      refine ⟨_, [], loc_val fun tf' hf' ht => .val fun w0 X O0 D m a w hR => ⟨_, hrun a w _ ?_, .t _ _ (.v _)⟩, h⟩
      have h1 := opd_told hR x
      rw [hop tf' ht, hx] at h1
      simp [Builtin.len_, run_underlying hu, h1.v_eq]; rfl
    · exact h.elim
  · rename_i n e hu
    refine ⟨_, [], loc_val fun tf' hf' ht => .val fun w0 X O0 D m a w hR => ⟨_, hrun a w _ ?_, .t _ _ (.v _)⟩, h⟩
    simp [Builtin.len_, run_underlying hu]; rfl
  · exact h.elim
def evMax (mx : Bool) (x y : AV) (k : Kont) : Prop :=
  match x, y with
  | .t (.v (.int κ a)), .t (.v (.int _ b)) => match mx with
    | true => k (.int κ (if b > a then b else a)) [] [] []
    | false => k (.int κ (if b < a then b else a)) [] [] []
  | _, _ => False
theorem ok_max {mx : Bool} {x y : Operand} {ts : Array TypeId} {k : Kont} (ho : o.op = .call { callee := .builtin (if mx then .max else .min), args := #[x, y], argTypes := ts }) (h : evMax mx (opd tf x) (opd tf y) k) : ∃ v, OpLoc P o [] tf hf v [] [] ∧ k v [] [] [] := by
  have hop : ∀ tf', (∀ t ∈ tmpsOf o, tf' t = tf t) → ∀ z, z = x ∨ z = y → opd tf' z = opd tf z := fun tf' ht z hz => tmps_same ht (by rw [ho]; simp [Op.operands, Call.operands]; exact hz)
  unfold evMax at h
  split at h
  · rename_i κ p κ' q hx hy
    have key : ∀ u, (∀ w : World, (if mx then Builtin.max_ ts o.type #[.int κ p, .int κ' q] else Builtin.min_ ts o.type #[.int κ p, .int κ' q] : Sem Value).run P w = .ok u w) → OpLoc P o [] tf hf (.t (.v u)) [] [] := by
      intro u hu
      refine loc_val fun tf' hf' ht => .val fun w0 X O0 D m a w hR => ⟨u, ?_, .t _ _ (.v u)⟩
      have h1 := opd_told hR x
      have h2 := opd_told hR y
      rw [hop tf' ht x (by simp), hx] at h1
      rw [hop tf' ht y (by simp), hy] at h2
      have := hu w
      unfold execOp
      rw [ho]
      cases mx
      · simp only [Bool.false_eq_true, if_false] at this ⊢
        simp [resolve, invoke, Go.builtin, h1.v_eq, h2.v_eq, this]
      · simp only [if_true] at this ⊢
        simp [resolve, invoke, Go.builtin, h1.v_eq, h2.v_eq, this]
    split at h
    · exact ⟨_, key _ (fun w => by simp [Builtin.max_, Builtin.max2]), h⟩
    · exact ⟨_, key _ (fun w => by simp [Builtin.min_, Builtin.min2]), h⟩
  · exact h.elim
end
end Go.YtbbcnmfmncgffaaE
