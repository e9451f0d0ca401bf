/-
  Operations that only read.
  Written by hand for this claim's session.
-/
import Derived.Test.YtbbcnmfmncgffaaEvOps
namespace Go.YtbbcnmfmncgffaaE
open Go.RowKit
set_option linter.unusedVariables false
set_option linter.unusedSimpArgs false
/-! ### lists, made plain -/
def plainL (l : List AV) (k : List AV → Prop) : Prop :=
  match l with
  | [] => k []
  | x :: l => evMove x fun x _ _ _ => plainL l fun l => k (x :: l)
theorem plainL_iff {l : List AV} {k : List AV → Prop} : plainL l k ↔ k l := by
  induction l generalizing k with
  | nil => rfl
  | cons x l ih => unfold plainL; rw [evMove_iff]; exact ih
/-- An aggregate of data is data. -/
def dataL : List AV → Option (List T)
  | [] => some []
  | .t x :: l => (match dataL l with
    | some r => some (x :: r)
    | none => none)
  | _ => none
theorem dataL_spec : ∀ {l : List AV} {r : List T}, dataL l = some r → l = r.map .t
  | [], r, h => by simp [dataL] at h; subst h; rfl
  | x :: l, r, h => by
    cases x with
    | t x =>
      unfold dataL at h
      split at h
      · rename_i r' hr
        simp at h
        subst h
        rw [dataL_spec hr]; rfl
      · cases h
    | _ => cases h
def aggK (l : List AV) (k : AV → Prop) : Prop :=
  match dataL l with
  | some r => k (.t (.agg r))
  | none => k (.agg l)
theorem aggK_spec {l : List AV} {k : AV → Prop} (h : aggK l k) : k (.agg l) ∨ ∃ r, l = r.map .t ∧ k (.t (.agg r)) := by
  unfold aggK at h
  split at h
  · rename_i r hr; exact .inr ⟨r, dataL_spec hr, h⟩
  · exact .inl h
theorem HA.norm {m : Nat → Option Value} {w : World} {O : Nat → Prop} {r : List T} {v : Value} (h : HA m w O (.agg (r.map .t)) v) : HA m w O (.t (.agg r)) v := by
  obtain ⟨vs, rfl, hl, hv⟩ := h.list_of_agg
  refine .t _ _ (.agg _ _ (by simpa using hl) (fun i x y hx hy => ?_))
  exact (hv i (.t x) y (by rw [List.getElem?_map, hx]; rfl) hy).t_ht
/-- How many cells, if it is an aggregate. -/
def aggN (P : Program) (t : TypeId) : Option (Option Nat) :=
  match P.underlying t with
  | some (.struct _) => (P.info? t).map fun i => some i.size
  | some (.array _ _) => (P.info? t).map fun i => some i.size
  | some _ => some none
  | none => none
theorem aggN_some {P : Program} {t : TypeId} {n : Nat} (h : aggN P t = some (some n)) (w : World) : (isAgg t).run P w = .ok true w ∧ (sizeOf t).run P w = .ok n w := by
  unfold aggN at h
  split at h
  · rename_i fs hu
    obtain ⟨i, hi, h⟩ := Option.map_eq_some_iff.1 h
    simp at h
    subst h
    exact ⟨by simp [isAgg, run_underlying hu], by simp [sizeOf, typeInfo, hi]⟩
  · rename_i a b hu
    obtain ⟨i, hi, h⟩ := Option.map_eq_some_iff.1 h
    simp at h
    subst h
    exact ⟨by simp [isAgg, run_underlying hu], by simp [sizeOf, typeInfo, hi]⟩
  · cases h
  · cases h
theorem aggN_none {P : Program} {t : TypeId} (h : aggN P t = some none) (w : World) : (isAgg t).run P w = .ok false w := by
  unfold aggN at h
  split at h
  · simp at h
  · simp at h
  · rename_i hs ha hu
    rename_i d
    cases d <;> first | exact (hs _ rfl).elim | exact (ha _ _ rfl).elim | simp [isAgg, run_underlying hu]
  · cases h
def selA (P : Program) (t : TypeId) (l : List AV) (off : Nat) (R : List Nat) (k : Kont) : Prop :=
  match aggN P t with
  | some (some n) => match Nat.ble (off + n) l.length with
    | true => plainL ((l.drop off).take n) fun l => aggK l fun v => k v [] R []
    | false => False
  | some none => match l[off]? with
    | some x => evMove x fun x _ _ _ => k x [] R []
    | none => False
  | none => False
def selT (P : Program) (t : TypeId) (l : List T) (off : Nat) (R : List Nat) (k : Kont) : Prop :=
  match aggN P t with
  | some (some n) => match Nat.ble (off + n) l.length with
    | true => k (.t (.agg ((l.drop off).take n))) [] R []
    | false => False
  | some none => match l[off]? with
    | some x => k (.t x) [] R []
    | none => False
  | none => False
/-- What a part of an aggregate's cells is. -/
inductive Sel (P : Program) (t : TypeId) (l : List AV) (off : Nat) : AV → Prop
  | agg (n : Nat) (h : aggN P t = some (some n)) (hl : off + n ≤ l.length) : Sel P t l off (.agg ((l.drop off).take n))
  | one (x : AV) (h : aggN P t = some none) (hx : l[off]? = some x) : Sel P t l off x
  | norm (r : List T) (n : Nat) (h : aggN P t = some (some n)) (hl : off + n ≤ l.length) (he : (l.drop off).take n = r.map .t) : Sel P t l off (.t (.agg r))
inductive SelT (P : Program) (t : TypeId) (l : List T) (off : Nat) : T → Prop
  | agg (n : Nat) (h : aggN P t = some (some n)) (hl : off + n ≤ l.length) : SelT P t l off (.agg ((l.drop off).take n))
  | one (x : T) (h : aggN P t = some none) (hx : l[off]? = some x) : SelT P t l off x
theorem selA_sel {P : Program} {t : TypeId} {l : List AV} {off : Nat} {R : List Nat} {k : Kont} (h : selA P t l off R k) : ∃ v, Sel P t l off v ∧ k v [] R [] := by
  unfold selA at h
  split at h
  · rename_i n hn
    split at h
    · rename_i hb
      rw [plainL_iff] at h
      rcases aggK_spec h with h | ⟨r, he, h⟩
      · exact ⟨_, .agg n hn (Nat.le_of_ble_eq_true hb), h⟩
      · exact ⟨_, .norm r n hn (Nat.le_of_ble_eq_true hb) he, h⟩
    · exact h.elim
  · rename_i hn
    split at h
    · rw [evMove_iff] at h
      exact ⟨_, .one _ hn (by assumption), h⟩
    · exact h.elim
  · exact h.elim
theorem selT_sel {P : Program} {t : TypeId} {l : List T} {off : Nat} {R : List Nat} {k : Kont} (h : selT P t l off R k) : ∃ v, SelT P t l off v ∧ k (.t v) [] R [] := by
  unfold selT at h
  split at h
  · rename_i n hn
    split at h
    · rename_i hb
      exact ⟨_, .agg n hn (Nat.le_of_ble_eq_true hb), h⟩
    · exact h.elim
  · rename_i hn
    split at h
    · exact ⟨_, .one _ hn (by assumption), h⟩
    · exact h.elim
  · exact h.elim
/-- A part of a value's cells, and of memory's. -/
theorem Sel.part {P : Program} {t : TypeId} {l : List AV} {off : Nat} {v : AV} (h : Sel P t l off v) {m : Nat → Option Value} {w : World} {O : Nat → Prop} {vs : List Value} (hl : vs.length = l.length) (hv : ∀ (i : Nat) x y, l[i]? = some x → vs[i]? = some y → HA m w O x y) (w' : World) :
    ∃ u, (Go.part t vs.toArray off).run P w' = .ok u w' ∧ HA m w O v u := by
  have key : ∀ n, aggN P t = some (some n) → off + n ≤ l.length → ∃ u, (Go.part t vs.toArray off).run P w' = .ok u w' ∧ HA m w O (.agg ((l.drop off).take n)) u := by
    intro n h hn
    obtain ⟨h1, h2⟩ := aggN_some h w'
    refine ⟨.agg (((vs.drop off).take n).toArray), ?_, .agg _ _ ?_ ?_⟩
    · simp [Go.part, h1, h2]
    · simp [hl]
    · intro i x y hx hy
      rw [List.getElem?_take] at hx hy
      split at hx
      · rename_i hi
        rw [if_pos hi] at hy
        rw [List.getElem?_drop] at hx hy
        exact hv _ x y hx hy
      · cases hx
  cases h with
  | agg n h hn => exact key n h hn
  | one x h hx =>
    have h1 := aggN_none h w'
    have hlt : off < l.length := (List.getElem?_eq_some_iff.1 hx).1
    obtain ⟨y, hy⟩ : ∃ y, vs[off]? = some y := ⟨vs[off], List.getElem?_eq_getElem (by omega)⟩
    refine ⟨y, ?_, hv off _ y hx hy⟩
    simp [Go.part, h1, hy]
  | norm r n h hn he =>
    obtain ⟨u, hu, hh⟩ := key n h hn
    rw [he] at hh
    exact ⟨u, hu, hh.norm⟩
theorem SelT.part {P : Program} {t : TypeId} {l : List T} {off : Nat} {v : T} (h : SelT P t l off v) {w : World} {O : Nat → Prop} {vs : List Value} (hl : vs.length = l.length) (hv : ∀ (i : Nat) x y, l[i]? = some x → vs[i]? = some y → HT w O x y) (w' : World) :
    ∃ u, (Go.part t vs.toArray off).run P w' = .ok u w' ∧ HT w O v u := by
  cases h with
  | agg n h hn =>
    obtain ⟨h1, h2⟩ := aggN_some h w'
    refine ⟨.agg (((vs.drop off).take n).toArray), ?_, .agg _ _ ?_ ?_⟩
    · simp [Go.part, h1, h2]
    · simp [hl]
    · intro i x y hx hy
      rw [List.getElem?_take] at hx hy
      split at hx
      · rename_i hi
        rw [if_pos hi] at hy
        rw [List.getElem?_drop] at hx hy
        exact hv _ x y hx hy
      · cases hx
  | one x h hx =>
    have h1 := aggN_none h w'
    have hlt : off < l.length := (List.getElem?_eq_some_iff.1 hx).1
    obtain ⟨y, hy⟩ : ∃ y, vs[off]? = some y := ⟨vs[off], List.getElem?_eq_getElem (by omega)⟩
    refine ⟨y, ?_, hv off _ y hx hy⟩
    simp [Go.part, h1, hy]
theorem add_plain (b o n : Nat) : (⟨b, o, none⟩ : Addr).add n = ⟨b, o + n, none⟩ := by
  unfold Addr.add
  by_cases h : n = 0
  · simp [h]
  · simp [h]
/-- The same of cells in memory, from base on. -/
theorem Sel.load {P : Program} {t : TypeId} {l : List AV} {off : Nat} {v : AV} (h : Sel P t l off v) {m : Nat → Option Value} {w : World} {O : Nat → Prop} {b base : Nat} {f : Nat → Value} (hc : ∀ i, i < l.length → w.cell? ⟨b, base + i, none⟩ = some (f i)) (hv : ∀ (i : Nat) x, l[i]? = some x → HA m w O x (f i)) :
    ∃ u, (loadVar t ⟨b, base + off, none⟩).run P w = .ok u w ∧ HA m w O v u := by
  have key : ∀ n, aggN P t = some (some n) → off + n ≤ l.length → ∃ u, (loadVar t ⟨b, base + off, none⟩).run P w = .ok u w ∧ HA m w O (.agg ((l.drop off).take n)) u := by
    intro n h hn
    obtain ⟨h1, h2⟩ := aggN_some h w
    refine ⟨.agg ((List.range n).map fun j => f (off + j)).toArray, ?_, .agg _ _ ?_ ?_⟩
    · have := run_loadCells (P := P) w ⟨b, base + off, none⟩ n (fun j => f (off + j)) (fun j hj => by rw [add_plain, Nat.add_assoc]; exact hc _ (by omega))
      simp [loadVar, h1, h2, this]
    · simp; omega
    · intro i x y hx hy
      rw [List.getElem?_take] at hx
      split at hx
      · rename_i hi
        rw [List.getElem?_drop] at hx
        rw [List.getElem?_map, List.getElem?_range hi] at hy
        simp at hy
        subst hy
        exact hv _ x hx
      · cases hx
  cases h with
  | agg n h hn => exact key n h hn
  | one x h hx =>
    have h1 := aggN_none h w
    refine ⟨f off, ?_, hv off _ hx⟩
    simp [loadVar, h1, hc off (List.getElem?_eq_some_iff.1 hx).1]
  | norm r n h hn he =>
    obtain ⟨u, hu, hh⟩ := key n h hn
    rw [he] at hh
    exact ⟨u, hu, hh.norm⟩
theorem SelT.load {P : Program} {t : TypeId} {l : List T} {off : Nat} {v : T} (h : SelT P t l off v) {w : World} {O : Nat → Prop} {b base : Nat} {f : Nat → Value} (hc : ∀ i, i < l.length → w.cell? ⟨b, base + i, none⟩ = some (f i)) (hv : ∀ (i : Nat) x, l[i]? = some x → HT w O x (f i)) :
    ∃ u, (loadVar t ⟨b, base + off, none⟩).run P w = .ok u w ∧ HT w O v u := by
  cases h with
  | agg n h hn =>
    obtain ⟨h1, h2⟩ := aggN_some h w
    refine ⟨.agg ((List.range n).map fun j => f (off + j)).toArray, ?_, .agg _ _ ?_ ?_⟩
    · have := run_loadCells (P := P) w ⟨b, base + off, none⟩ n (fun j => f (off + j)) (fun j hj => by rw [add_plain, Nat.add_assoc]; exact hc _ (by omega))
      simp [loadVar, h1, h2, this]
    · simp; omega
    · intro i x y hx hy
      rw [List.getElem?_take] at hx
      split at hx
      · rename_i hi
        rw [List.getElem?_drop] at hx
        rw [List.getElem?_map, List.getElem?_range hi] at hy
        simp at hy
        subst hy
        exact hv _ x hx
      · cases hx
  | one x h hx =>
    have h1 := aggN_none h w
    refine ⟨f off, ?_, hv off _ hx⟩
    simp [loadVar, h1, hc off (List.getElem?_eq_some_iff.1 hx).1]

section
variable {P : Program} {o : Oper} {tf : Nat → AV} {hf : Hp}
/-- An operation that reads blocks of one's own. -/
theorem loc_read {R : List Nat} {v : AV} (h : ∀ tf' hf', (∀ t ∈ tmpsOf o, tf' t = tf t) → (∀ b ∈ R, hf' b = hf b) → ∀ (w0 : Bse) (X O0 D : Nat → Prop) (m : Nat → Option Value) (a : Act) (w : World), Rel w0 X O0 D m tf' hf' a w →
    ∃ u, (execOp a.eval o).run P w = .ok (.value u) w ∧ HA m w (Own X m hf') v u) : OpLoc P o R tf hf v [] [] :=
  ⟨fun b hb => by simp [ids] at hb, fun tf' hf' ht hh => .val fun w0 X O0 D m a w hR => h tf' hf' ht hh w0 X O0 D m a w hR⟩
theorem run_value {s : Sem Value} {w w' : World} {u : Value} (h : s.run P w = .ok u w') : (do pure (Next.value (← s)) : Sem Next).run P w = .ok (.value u) w' := by simp [h]
theorem HA.ptr_eq {m : Nat → Option Value} {w : World} {O : Nat → Prop} {b off : Nat} {y : Value} (h : HA m w O (.ptr b off) y) : ∃ g, y = .pointer (some ⟨g, off, none⟩) ∧ m b = some (.pointer (some ⟨g, 0, none⟩)) := by
  cases h with | ptr _ _ g hm => exact ⟨g, rfl, hm⟩
theorem HA.rp_eq {m : Nat → Option Value} {w : World} {O : Nat → Prop} {b sz i j : Nat} {y : Value} (h : HA m w O (.rp b sz i j) y) : ∃ g n c, y = .pointer (some ⟨g, i * sz + j, none⟩) ∧ m b = some (.slice (some ⟨g, 0, none⟩) n c) := by
  cases h with | rp _ _ _ _ g n c hm => exact ⟨g, n, c, rfl, hm⟩
theorem HA.own_eq {m : Nat → Option Value} {w : World} {O : Nat → Prop} {b : Nat} {y : Value} (h : HA m w O (.own b) y) : m b = some y := by
  cases h with | own _ _ hm => exact hm
theorem HA.pt_eq {m : Nat → Option Value} {w : World} {O : Nat → Prop} {l : List T} {y : Value} (h : HA m w O (.t (.pt l)) y) : ∃ (b o : Nat) (f : Nat → Value), y = .pointer (some ⟨b, o, none⟩) ∧ ¬ O b ∧ b < w.heap.size ∧ (∀ y ∈ l, y.one = true) ∧ (∀ i, i < l.length → w.cell? ⟨b, o + i, none⟩ = some (f i)) ∧ ∀ (i : Nat) x, l[i]? = some x → HT w O x (f i) := by
  cases h.t_ht with | pt _ b o f h1 h2 h3 h4 h5 => exact ⟨b, o, f, rfl, h1, h2, h3, h4, h5⟩
/-- A row's cells. -/
theorem HB.row_cells {m : Nat → Option Value} {w : World} {O : Nat → Prop} {b ty sz g n c i : Nat} {l : List T} {x : T} (h : HB m w O b (.row ty sz l)) (hm : m b = some (.slice (some ⟨g, 0, none⟩) n c)) (hx : l[i]? = some x) :
    x.fits sz ∧ n = l.length ∧ ∃ f : Nat → Value, (∀ j, j < x.cells.length → w.cell? ⟨g, i * sz + j, none⟩ = some (f j)) ∧ ∀ (j : Nat) y, x.cells[j]? = some y → HT w O y (f j) := by
  obtain ⟨v, xs, h1, h2, h3, h4⟩ := h
  rw [hm] at h1
  simp at h1
  subst h1
  have hfit := h3 x (List.mem_of_getElem? hx)
  have hn : n = l.length := by
    rcases h2.2 with ⟨h, _⟩ | ⟨g', cap, cur, h, _⟩
    · simp at h
    · simp at h; exact h.2.1
  refine ⟨hfit, hn, fun j => xs.getD (i * sz + j) undef, fun j hj => ?_, fun j y hy => ?_⟩
  · obtain ⟨u, hu, _⟩ := h4 i j x _ hx (List.getElem?_eq_getElem hj)
    have hi : i < l.length := (List.getElem?_eq_some_iff.1 hx).1
    rw [hn] at h2
    rw [h2.cellAt (i * sz + j) (by rw [hfit.1] at hj; calc i * sz + j < i * sz + sz := by omega
                                                          _ = (i + 1) * sz := by rw [Nat.add_mul]; omega
                                                          _ ≤ l.length * sz := Nat.mul_le_mul_right _ hi), hu]
    simp [List.getD, hu]
  · obtain ⟨u, hu, ht⟩ := h4 i j x y hx hy
    simpa [List.getD, hu] using ht
/-! ### loads -/
def evLoad (P : Program) (t : TypeId) (p : AV) (H : Heap) (k : Kont) : Prop :=
  match p with
  | .ptr b off => match lookH H b with
    | (_, .box _ cells) => selA P t cells off [b] k
    | _ => False
  | .rp b sz i j => match lookH H b with
    | (_, .row _ sz' l) => match Nat.beq sz sz' with
      | true => ∃ e, l[i]? = some e ∧ selT P t e.cells j [b] k
      | false => False
    | _ => False
  | .t (.pt l) => selT P t l 0 [] k
  | _ => False
theorem ok_load {t : TypeId} {x : Operand} {H : Heap} {k : Kont} (ho : o.op = .load t x) (h : evLoad P t (opd tf x) H k) (hH : hf = lookH H) : ∃ v R, OpLoc P o R tf hf v [] [] ∧ k v [] R [] := by
  subst hH
  have hop : ∀ tf', (∀ t ∈ tmpsOf o, tf' t = tf t) → opd tf' x = opd tf x := fun tf' ht => tmps_same ht (by rw [ho]; simp [Op.operands])
  have hrun : ∀ (a : Act) (w : World) (p : Addr) (u : Value), a.eval x = .pointer (some p) → (loadVar t p).run P w = .ok u w → (execOp a.eval o).run P w = .ok (.value u) w := by
    intro a w p u hp hu
    unfold execOp
    rw [ho]
    refine run_value ?_
    simp [Instr.loadAt, Instr.sureAddr, hp, hu]
  unfold evLoad at h
  split at h
  · rename_i b off hx
    split at h
    · rename_i fz ty cells hb
      obtain ⟨v, hs, hk⟩ := selA_sel h
      refine ⟨v, [b], loc_read fun tf' hf' ht hh w0 X O0 D m a w hR => ?_, hk⟩
      have h1 := opd_told hR x
      rw [hop tf' ht, hx] at h1
      have h2 := hR.blk b
      rw [hh b (by simp), hb] at h2
      obtain ⟨g, vs, hm, hg, hl, _, hv⟩ := h2
      obtain ⟨g', hy, hm'⟩ := h1.ptr_eq
      rw [hm] at hm'
      simp at hm'
      subst hm'
      obtain ⟨u, hu, hh⟩ := hs.load (P := P) (t := t) (w := w) (b := g) (base := 0) (f := fun i => vs.getD i undef) (m := m) (O := Own X m hf') (fun i hi => by
        unfold World.cell?
        simp only [hg]
        simp [List.getD, show i < vs.length by omega]) (fun i x hx => hv i x _ hx (by
          have : i < vs.length := by have := (List.getElem?_eq_some_iff.1 hx).1; omega
          simp [List.getD, this]))
      exact ⟨u, hrun a w _ u hy (by simpa using hu), hh⟩
    · exact h.elim
  · rename_i b sz i j hx
    split at h
    · rename_i fz ty sz' l hb
      split at h
      · rename_i hbe
        have := Nat.eq_of_beq_eq_true hbe
        subst this
        obtain ⟨e, he, h⟩ := h
        obtain ⟨v, hs, hk⟩ := selT_sel h
        refine ⟨.t v, [b], loc_read fun tf' hf' ht hh w0 X O0 D m a w hR => ?_, hk⟩
        have h1 := opd_told hR x
        rw [hop tf' ht, hx] at h1
        have h2 := hR.blk b
        rw [hh b (by simp), hb] at h2
        obtain ⟨g, n, c, hy, hm⟩ := h1.rp_eq
        obtain ⟨_, _, f, hc, hv⟩ := HB.row_cells h2 hm he
        obtain ⟨u, hu, hh⟩ := hs.load (P := P) (t := t) (w := w) (b := g) (base := i * sz) (f := f) (O := Own X m hf') hc hv
        exact ⟨u, hrun a w _ u hy hu, .t _ _ hh⟩
      · exact h.elim
    · exact h.elim
  · rename_i l hx
    obtain ⟨v, hs, hk⟩ := selT_sel h
    refine ⟨.t v, [], loc_read fun tf' hf' ht hh w0 X O0 D m a w hR => ?_, hk⟩
    have h1 := opd_told hR x
    rw [hop tf' ht, hx] at h1
    obtain ⟨b, o', f, hy, _, _, _, hc, hv⟩ := h1.pt_eq
    obtain ⟨u, hu, hh⟩ := hs.load (P := P) (t := t) (w := w) (b := b) (base := o') (f := f) (O := Own X m hf') hc hv
    exact ⟨u, hrun a w _ u hy (by simpa using hu), .t _ _ hh⟩
  · exact h.elim
/-! ### parts -/
def evField (P : Program) (t : TypeId) (x : AV) (f : Nat) (k : Kont) : Prop :=
  match P.underlying t with
  | some (.struct fs) => match fs[f]? with
    | some fd => match x with
      | .agg l => selA P fd.type l fd.offset [] k
      | .t (.agg l) => selT P fd.type l fd.offset [] k
      | _ => False
    | none => False
  | _ => False
theorem ok_field {t : TypeId} {x : Operand} {f : Nat} {k : Kont} (ho : o.op = .field t x f) (h : evField P t (opd tf x) f k) : ∃ v, OpLoc P o [] tf hf v [] [] ∧ k v [] [] [] := by
  have hop : ∀ tf', (∀ t ∈ tmpsOf o, tf' t = tf t) → opd tf' x = opd tf x := fun tf' ht => tmps_same ht (by rw [ho]; simp [Op.operands])
  unfold evField at h
  split at h
  · rename_i fs hu
    split at h
    · rename_i fd hfd
      have hrun : ∀ (a : Act) (w : World) (vs : Array Value) (u : Value), a.eval x = .agg vs → (Go.part fd.type vs fd.offset).run P w = .ok u w → (execOp a.eval o).run P w = .ok (.value u) w := by
        intro a w vs u hp hu'
        unfold execOp
        rw [ho]
        refine run_value ?_
        simp [Instr.field, run_underlying hu, hfd, asAgg, hp, hu']
      split at h
      · rename_i l hx
        obtain ⟨v, hs, hk⟩ := selA_sel h
        refine ⟨v, loc_val fun tf' hf' ht => .val fun w0 X O0 D m a w hR => ?_, hk⟩
        have h1 := opd_told hR x
        rw [hop tf' ht, hx] at h1
        obtain ⟨vs, hy, hl, hv⟩ := h1.list_of_agg
        obtain ⟨u, hu', hh⟩ := hs.part hl hv w
        exact ⟨u, hrun a w _ u hy hu', hh⟩
      · rename_i l hx
        obtain ⟨v, hs, hk⟩ := selT_sel h
        refine ⟨.t v, loc_val fun tf' hf' ht => .val fun w0 X O0 D m a w hR => ?_, hk⟩
        have h1 := opd_told hR x
        rw [hop tf' ht, hx] at h1
        obtain ⟨vs, hy, hl, hv⟩ := h1.t_ht.list_of_agg
        obtain ⟨u, hu', hh⟩ := hs.part hl hv w
        exact ⟨u, hrun a w _ u hy hu', .t _ _ hh⟩
      · exact h.elim
    · exact h.elim
  · exact h.elim
def evExtract (x : AV) (i : Nat) (k : Kont) : Prop :=
  match x with
  | .tuple l => match l[i]? with
    | some y => evMove y k
    | none => False
  | .t (.tuple l) => match l[i]? with
    | some y => k (.t y) [] [] []
    | none => False
  | _ => False
theorem ok_extract {x : Operand} {i : Nat} {k : Kont} (ho : o.op = .extract x i) (h : evExtract (opd tf x) i k) : ∃ v, OpLoc P o [] tf hf v [] [] ∧ k v [] [] [] := by
  have hop : ∀ tf', (∀ t ∈ tmpsOf o, tf' t = tf t) → opd tf' x = opd tf x := fun tf' ht => tmps_same ht (by rw [ho]; simp [Op.operands])
  have hrun : ∀ (a : Act) (w : World) (vs : List Value) (u : Value), a.eval x = .tuple vs.toArray → vs[i]? = some u → (execOp a.eval o).run P w = .ok (.value u) w := by
    intro a w vs u hp hu
    unfold execOp
    rw [ho]
    refine run_value ?_
    simp [Instr.extract, hp, hu]
  unfold evExtract at h
  split at h
  · rename_i l hx
    split at h
    · rename_i y hy
      rw [evMove_iff] at h
      refine ⟨y, loc_val fun tf' hf' ht => .val fun w0 X O0 D m a w hR => ?_, h⟩
      have h1 := opd_told hR x
      rw [hop tf' ht, hx] at h1
      generalize hz : a.eval x = z at h1
      cases h1 with
      | tuple _ vs hl hv =>
        have hlt : i < vs.length := by have := (List.getElem?_eq_some_iff.1 hy).1; omega
        exact ⟨vs[i], hrun a w vs _ hz (List.getElem?_eq_getElem hlt), hv i _ _ hy (List.getElem?_eq_getElem hlt)⟩
    · exact h.elim
  · rename_i l hx
    split at h
    · rename_i y hy
      refine ⟨.t y, loc_val fun tf' hf' ht => .val fun w0 X O0 D m a w hR => ?_, h⟩
      have h1 := opd_told hR x
      rw [hop tf' ht, hx] at h1
      generalize hz : a.eval x = z at h1
      cases h1.t_ht with
      | tuple _ vs hl hv =>
        have hlt : i < vs.length := by have := (List.getElem?_eq_some_iff.1 hy).1; omega
        exact ⟨vs[i], hrun a w vs _ hz (List.getElem?_eq_getElem hlt), .t _ _ (hv i _ _ hy (List.getElem?_eq_getElem hlt))⟩
    · exact h.elim
  · exact h.elim
/-! ### nil checks, interfaces, functions, negations, numbers of another kind -/
def evNil (x : AV) (k : Kont) : Prop :=
  match x with
  | .ptr b o => k (.ptr b o) [] [] []
  | .rp b sz i j => k (.rp b sz i j) [] [] []
  | .t (.pt l) => k (.t (.pt l)) [] [] []
  | .iface t x => k (.iface t x) [] [] []
  | .t (.iface t x) => k (.t (.iface t x)) [] [] []
  | .fn (.func f) a c => k (.fn (.func f) a c) [] [] []
  | .t (.v (.func (.func f) a c)) => k (.t (.v (.func (.func f) a c))) [] [] []
  | .t (.fn (.func f) a c) => k (.t (.fn (.func f) a c)) [] [] []
  | _ => False
theorem ok_nil {x : Operand} {k : Kont} (ho : o.op = .nilCheck x) (h : evNil (opd tf x) k) : ∃ v, OpLoc P o [] tf hf v [] [] ∧ k v [] [] [] := by
  have hop : ∀ tf', (∀ t ∈ tmpsOf o, tf' t = tf t) → opd tf' x = opd tf x := fun tf' ht => tmps_same ht (by rw [ho]; simp [Op.operands])
  have key : ∀ k', (∀ (m : Nat → Option Value) (w : World) (O : Nat → Prop) (y : Value), HA m w O (opd tf x) y → (match y with | .pointer none | .nilIface | .nilFunc => False | .func (.method _) _ _ => False | _ => True)) → k' = opd tf x → OpLoc P o [] tf hf k' [] [] := by
    intro k' hk e
    subst e
    refine loc_val fun tf' hf' ht => .val fun w0 X O0 D m a w hR => ⟨a.eval x, ?_, by rw [← hop tf' ht]; exact opd_told hR x⟩
    have h1 := opd_told hR x
    rw [hop tf' ht] at h1
    have h2 := hk m w _ _ h1
    unfold execOp
    rw [ho]
    obtain ⟨y, hy⟩ : ∃ y, a.eval x = y := ⟨_, rfl⟩
    rw [hy] at h2
    simp only [hy]
    split <;> simp_all
  unfold evNil at h
  split at h
  · rename_i b o' hx; exact ⟨_, key _ (fun m w O y hy => by rw [hx] at hy; obtain ⟨g, rfl, _⟩ := hy.ptr_eq; trivial) hx.symm, h⟩
  · rename_i b sz i j hx; exact ⟨_, key _ (fun m w O y hy => by rw [hx] at hy; obtain ⟨g, n, c, rfl, _⟩ := hy.rp_eq; trivial) hx.symm, h⟩
  · rename_i l hx; exact ⟨_, key _ (fun m w O y hy => by rw [hx] at hy; obtain ⟨b, o', f, rfl, _⟩ := hy.pt_eq; trivial) hx.symm, h⟩
  · rename_i t x' hx; exact ⟨_, key _ (fun m w O y hy => by rw [hx] at hy; cases hy; trivial) hx.symm, h⟩
  · rename_i t x' hx; exact ⟨_, key _ (fun m w O y hy => by rw [hx] at hy; cases hy.t_ht; trivial) hx.symm, h⟩
  · rename_i f a c hx; exact ⟨_, key _ (fun m w O y hy => by rw [hx] at hy; cases hy; trivial) hx.symm, h⟩
  · rename_i f a c hx; exact ⟨_, key _ (fun m w O y hy => by rw [hx] at hy; rw [hy.v_eq]; trivial) hx.symm, h⟩
  · rename_i f a c hx; exact ⟨_, key _ (fun m w O y hy => by rw [hx] at hy; cases hy.t_ht; trivial) hx.symm, h⟩
  · exact h.elim
def evIface (P : Program) (t : TypeId) (x : AV) (k : Kont) : Prop :=
  match P.underlying t with
  | some (.interface _) => False
  | none => False
  | some _ => match x with
    | .t x => k (.t (.iface t x)) [] [] []
    | x => evMove x fun x _ _ _ => k (.iface t x) [] [] []
theorem ok_iface {t : TypeId} {x : Operand} {k : Kont} (ho : o.op = .makeInterface t x) (h : evIface P t (opd tf x) k) : ∃ v, OpLoc P o [] tf hf v [] [] ∧ k v [] [] [] := by
  have hop : ∀ tf', (∀ t ∈ tmpsOf o, tf' t = tf t) → opd tf' x = opd tf x := fun tf' ht => tmps_same ht (by rw [ho]; simp [Op.operands])
  unfold evIface at h
  split at h
  · exact h.elim
  · exact h.elim
  · rename_i d hd hu
    have hrun : ∀ (a : Act) (w : World), (execOp a.eval o).run P w = .ok (.value (.iface t (a.eval x))) w := by
      intro a w
      unfold execOp
      rw [ho]
      refine run_value ?_
      unfold Instr.makeInterface
      simp only [Sem.run_bind, run_underlying hu, Result.andThen_ok]
      cases d <;> first | exact (hd _ rfl).elim | rfl
    split at h
    · rename_i y hx
      refine ⟨_, loc_val fun tf' hf' ht => .val fun w0 X O0 D m a w hR => ⟨_, hrun a w, ?_⟩, h⟩
      have h1 := opd_told hR x
      rw [hop tf' ht, hx] at h1
      exact .t _ _ (.iface _ _ _ h1.t_ht)
    · rename_i hx
      rw [evMove_iff] at h
      refine ⟨_, loc_val fun tf' hf' ht => .val fun w0 X O0 D m a w hR => ⟨_, hrun a w, ?_⟩, h⟩
      have h1 := opd_told hR x
      rw [hop tf' ht] at h1
      exact .iface _ _ _ h1
theorem opds_told {tf : Nat → AV} {hf : Hp} {w0 : Bse} {X O0 D : Nat → Prop} {m : Nat → Option Value} {a : Act} {w : World} (hR : Rel w0 X O0 D m tf hf a w) (l : List Operand) :
    (l.map a.eval).length = (l.map (opd tf)).length ∧ ∀ (i : Nat) x y, (l.map (opd tf))[i]? = some x → (l.map a.eval)[i]? = some y → HA m w (Own X m hf) x y := by
  refine ⟨by simp, fun i x y hx hy => ?_⟩
  rw [List.getElem?_map] at hx hy
  cases h : l[i]? with
  | none => rw [h] at hx; cases hx
  | some z =>
    rw [h] at hx hy
    simp at hx hy
    subst hx; subst hy
    exact opd_told hR z
theorem ok_func {fn : Fn} {first caps : Array Operand} {k : Kont} (ho : o.op = .makeFunc fn first caps) (h : plainL (first.toList.map (opd tf)) fun a => plainL (caps.toList.map (opd tf)) fun c => k (.fn fn a c) [] [] []) : ∃ v, OpLoc P o [] tf hf v [] [] ∧ k v [] [] [] := by
  rw [plainL_iff, plainL_iff] at h
  refine ⟨_, loc_val fun tf' hf' ht => .val fun w0 X O0 D m a w hR => ⟨.func fn (first.toList.map a.eval).toArray (caps.toList.map a.eval).toArray, ?_, ?_⟩, h⟩
  · unfold execOp
    rw [ho]
    refine run_value ?_
    simp only [Instr.makeFunc, Sem.run_pure]
    congr 2 <;> (apply Array.ext'; simp)
  · have e : ∀ (l : List Operand), (∀ x ∈ l, x ∈ o.op.operands.toList) → l.map (opd tf) = l.map (opd tf') := fun l hl => List.map_congr_left fun x hx => (tmps_same ht (hl x hx)).symm
    rw [e _ (fun x hx => by rw [ho]; simp [Op.operands]; exact .inl (by simpa using hx)), e _ (fun x hx => by rw [ho]; simp [Op.operands]; exact .inr (by simpa using hx))]
    obtain ⟨h1, h2⟩ := opds_told hR first.toList
    obtain ⟨h3, h4⟩ := opds_told hR caps.toList
    exact .fn _ _ _ _ _ h1 h2 h3 h4
def evUn (op : UnOp) (x : AV) (k : Kont) : Prop :=
  match op, x with
  | .not, .t (.v (.bool b)) => k (.bool (!b)) [] [] []
  | .neg, .t (.v (.int κ n)) => k (.int κ (κ.wrap (0 - n))) [] [] []
  | .xor, .t (.v (.int κ n)) => k (.int κ (Go.bits .xor κ (if κ.signed then -1 else κ.max) n)) [] [] []
  | _, _ => False
theorem ok_un {op : UnOp} {t : TypeId} {x : Operand} {k : Kont} (ho : o.op = .unOp op t x) (h : evUn op (opd tf x) k) : ∃ v, OpLoc P o [] tf hf v [] [] ∧ k v [] [] [] := by
  have hop : ∀ tf', (∀ t ∈ tmpsOf o, tf' t = tf t) → opd tf' x = opd tf x := fun tf' ht => tmps_same ht (by rw [ho]; simp [Op.operands])
  have key : ∀ (vx u : Value), opd tf x = .t (.v vx) → (∀ w : World, (Op.unary op vx).run P w = .ok u w) → OpLoc P o [] tf hf (.t (.v u)) [] [] := by
    intro vx u hx hu
    refine loc_val fun tf' hf' ht => .val fun w0 X O0 D m a w hR => ⟨u, ?_, .t _ _ (.v u)⟩
    have h1 := opd_told hR x
    rw [hop tf' ht, hx] at h1
    unfold execOp
    rw [ho]
    refine run_value ?_
    rw [h1.v_eq]
    exact hu w
  unfold evUn at h
  split at h
  · rename_i hx; exact ⟨_, key _ _ hx (fun w => rfl), h⟩
  · rename_i hx; exact ⟨_, key _ _ hx (fun w => rfl), h⟩
  · rename_i hx; exact ⟨_, key _ _ hx (fun w => rfl), h⟩
  · exact h.elim
def evConv (P : Program) (s d : TypeId) (x : AV) (k : Kont) : Prop :=
  match P.underlying s, P.underlying d with
  | some _, some (.int κ) => match x with
    | .t (.v (.int _ n)) => k (.int κ (κ.wrap n)) [] [] []
    | _ => False
  | some _, some .string => match x with
    | .t (.v (.string s)) => k (.t (.v (.string s))) [] [] []
    | _ => False
  | _, _ => False
theorem ok_conv {s d : TypeId} {x : Operand} {k : Kont} (ho : o.op = .convert s d x) (h : evConv P s d (opd tf x) k) : ∃ v, OpLoc P o [] tf hf v [] [] ∧ k v [] [] [] := by
  have hop : ∀ tf', (∀ t ∈ tmpsOf o, tf' t = tf t) → opd tf' x = opd tf x := fun tf' ht => tmps_same ht (by rw [ho]; simp [Op.operands])
  have key : ∀ (vx u : Value), opd tf x = .t (.v vx) → (∀ w : World, (Go.convert s d vx).run P w = .ok u w) → OpLoc P o [] tf hf (.t (.v u)) [] [] := by
    intro vx u hx hu
    refine loc_val fun tf' hf' ht => .val fun w0 X O0 D m a w hR => ⟨u, ?_, .t _ _ (.v u)⟩
    have h1 := opd_told hR x
    rw [hop tf' ht, hx] at h1
    unfold execOp
    rw [ho]
    refine run_value ?_
    rw [h1.v_eq]
    exact hu w
  unfold evConv at h
  split at h
  · rename_i ds κ hs hd
    split at h
    · rename_i hx
      exact ⟨_, key _ _ hx (fun w => by simp [Go.convert, run_underlying hs, run_underlying hd, Conv.intToInt]), h⟩
    · exact h.elim
  · rename_i ds hs hd
    split at h
    · rename_i hx
      exact ⟨_, key _ _ hx (fun w => by simp [Go.convert, run_underlying hs, run_underlying hd]), h⟩
    · exact h.elim
  · exact h.elim
end
end Go.YtbbcnmfmncgffaaE
