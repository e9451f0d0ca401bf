/-
  Operations that make blocks and write them.
  Written by hand for this claim's session.
-/
import Derived.Test.YtbbcnmfmncgffaaEvAddr
import Derived.Laws.Cells
namespace Go.YtbbcnmfmncgffaaE
open Go.RowKit
set_option linter.unusedVariables false
set_option linter.unusedSimpArgs false
section
variable {w0 : Bse} {X O0 D : Nat → Prop} {m : Nat → Option Value} {tf : Nat → AV} {hf : Hp} {a : Act} {w : World}
theorem upH_in {hf : Hp} {W : Heap} {b : Nat} (h : b ∈ ids W) : upH hf W b = lookH W b := by unfold upH; rw [if_pos h]
theorem upH_out {hf : Hp} {W : Heap} {b : Nat} (h : b ∉ ids W) : upH hf W b = hf b := by unfold upH; rw [if_neg h]
/-- Blocks that are made or written. -/
theorem Rel.write (h : Rel w0 X O0 D m tf hf a w) (W : Heap) (N : List Nat) (Wr : Nat → Prop) {w' : World} {m' : Nat → Option Value} {d : Option Tmp} {v : AV} {val : Value} (hd : ∀ x, d = some x → x < a.tmps.size) (hw : But w Wr w')
    (hWr : ∀ c, Wr c → ∃ b ∈ ids W, (hf b).1 = false ∧ (hf b).2.live ∧ bk m b = some c) (hm : ∀ b, b ∉ N → m' b = m b) (hN : ∀ n ∈ N, n ∈ ids W) (hfr : ∀ n ∈ N, ¬ D n)
    (hblk : ∀ b ∈ ids W, ∀ O', (∀ c, O' c → Own X m hf c ∨ w.heap.size ≤ c) → (∀ b v, m b = some v → m' b = some v) → (∀ c, O' c ↔ Own X m' (upH hf W) c) → HB m' w' O' b (lookH W b).2)
    (hold : ∀ b ∈ ids W, (lookH W b).2.live → ∀ c, bk m' b = some c → (w.heap.size ≤ c ∨ ∃ b2 ∈ ids W, (hf b2).1 = false ∧ (hf b2).2.live ∧ bk m b2 = some c) ∧ ∀ b' ∈ ids W, b' ≠ b → ((lookH W b).1 = false ∨ (lookH W b').1 = false) → (lookH W b').2.live → bk m' b' ≠ some c)
    (hv : ∀ O', (∀ c, O' c → Own X m hf c ∨ w.heap.size ≤ c) → (∀ b v, m b = some v → m' b = some v) → (∀ c, O' c ↔ Own X m' (upH hf W) c) → HA m' w' O' v val) : Rel w0 X O0 (fun b => D b ∨ b ∈ N) m' (upT tf d v) (upH hf W) (a.put d val) w' := by
  have hext : ∀ b v, m b = some v → m' b = some v := by
    intro b v hb
    by_cases e : b ∈ N
    · rw [h.dom b (hfr b e)] at hb; cases hb
    · rw [hm b e]; exact hb
  refine h.step Wr hw (fun c hc => by obtain ⟨b, _, h1, h2, h3⟩ := hWr c hc; exact ⟨b, h1, h2, h3⟩) hext (fun b hb => ?_) (fun b => ?_) (fun t => ?_)
  · rw [hm b (fun e => hb (.inr e))]
    exact h.dom b (fun e => hb (.inl e))
  · by_cases e : b ∈ ids W
    · right
      rw [upH_in e]
      refine ⟨fun hO => hblk b e _ hO hext (fun c => Iff.rfl), fun hl c hc => ?_⟩
      obtain ⟨h1, h2⟩ := hold b e hl c hc
      refine ⟨h1.imp id (fun ⟨b2, _, h3, h4, h5⟩ => ⟨b2, h3, h4, h5⟩), fun b' hne hfz hl' hc' => ?_⟩
      by_cases e' : b' ∈ ids W
      · rw [upH_in e'] at hl' hfz
        exact h2 b' e' hne hfz hl' hc'
      · rw [upH_out e'] at hl'
        have hb' : bk m b' = some c := by
          unfold bk at hc' ⊢
          rw [hm b' (fun x => e' (hN b' x))] at hc'
          exact hc'
        rcases h1 with h1 | ⟨b2, hb2, h3, h4, h5⟩
        · have := (h.blk b').lt hl' hb'; omega
        · exact h.sep b2 b' (fun x => e' (x ▸ hb2)) h3 h4 hl' c h5 hb'
    · left
      refine ⟨upH_out e, hm b (fun x => e (hN b x)), fun c hl hc hx => ?_⟩
      obtain ⟨b2, hb2, h3, h4, h5⟩ := hWr c hx
      exact h.sep b2 b (fun x => e (x ▸ hb2)) h3 h4 hl c h5 hc
  · unfold upT
    by_cases e : d = some t
    · subst e
      rw [if_pos rfl, get_put_self (hd t rfl)]
      exact .inr fun hO => hv _ hO hext (fun c => Iff.rfl)
    · rw [if_neg e]
      refine .inl ⟨rfl, ?_⟩
      cases d with
      | none => rfl
      | some x => exact get_put (fun h => e (by rw [h]))
end
def upM (m : Nat → Option Value) (d : Nat) (v : Value) : Nat → Option Value := fun b => if b = d then some v else m b
theorem upM_self {m : Nat → Option Value} {d : Nat} {v : Value} : upM m d v d = some v := by simp [upM]
theorem upM_ne {m : Nat → Option Value} {d b : Nat} {v : Value} (h : b ≠ d) : upM m d v b = m b := by simp [upM, h]
theorem ids1 {d b : Nat} {x : Bool × Blk} : b ∈ ids [(d, x)] ↔ b = d := by simp [ids]
theorem lookH1 {d : Nat} {x : Bool × Blk} : lookH [(d, x)] d = x := by simp [lookH, look]
/-! ### a value's cells -/
def cellsA : AV → List AV
  | .agg l => l
  | .t (.agg l) => l.map .t
  | x => [x]
theorem HT.one_cell {w : World} {O : Nat → Prop} {x : T} {y : Value} (h : HT w O x y) (h1 : x.one = true) : y.oneCell' = true := by
  cases h <;> first | exact h1 | rfl | cases h1
theorem HA.one_cell {m : Nat → Option Value} {w : World} {O : Nat → Prop} {x : AV} {y : Value} (h : HA m w O x y) (h1 : x.one = true) : y.oneCell' = true := by
  cases h with
  | un => cases h1
  | t x y h => exact h.one_cell h1
  | own b v h h2 => exact h2
  | ptr => rfl
  | rp => rfl
  | sub _ _ _ _ _ h => exact h.cell
  | ab => rfl
  | fsub _ _ _ _ _ _ h => exact h.sub.cell
  | agg => cases h1
  | tuple => cases h1
  | iface => rfl
  | fn => rfl
theorem cells_one {v : Value} (h : v.oneCell' = true) : v.cells = #[v] := by cases v <;> first | rfl | cases h
theorem cells_told {m : Nat → Option Value} {w : World} {O : Nat → Prop} {x : AV} {v : Value} (h : HA m w O x v) (h1 : ∀ y ∈ cellsA x, y.one = true) :
    ∃ vs : List Value, v.cells = vs.toArray ∧ vs.length = (cellsA x).length ∧ (∀ u ∈ vs, u.oneCell' = true) ∧ ∀ (i : Nat) y u, (cellsA x)[i]? = some y → vs[i]? = some u → HA m w O y u := by
  have one : ∀ z, cellsA z = [z] → HA m w O z v → (∀ y ∈ cellsA z, y.one = true) → ∃ vs : List Value, v.cells = vs.toArray ∧ vs.length = (cellsA z).length ∧ (∀ u ∈ vs, u.oneCell' = true) ∧ ∀ (i : Nat) y u, (cellsA z)[i]? = some y → vs[i]? = some u → HA m w O y u := by
    intro z hz hh h1
    rw [hz] at h1 ⊢
    have ho := hh.one_cell (h1 z (by simp))
    refine ⟨[v], by rw [cells_one ho], rfl, by simpa using ho, fun i y u hy hu => ?_⟩
    cases i with
    | zero => simp at hy hu; subst hy; subst hu; exact hh
    | succ i => simp at hy
  have listed : ∀ (l : List AV) (vs : List Value), vs.length = l.length → (∀ (i : Nat) y u, l[i]? = some y → vs[i]? = some u → HA m w O y u) → (∀ y ∈ l, y.one = true) → ∀ u ∈ vs, u.oneCell' = true := by
    intro l vs hl hv ho u hu
    obtain ⟨i, hi, rfl⟩ := List.mem_iff_getElem.1 hu
    have hi' : i < l.length := by omega
    exact (hv i l[i] vs[i] (List.getElem?_eq_getElem hi') (List.getElem?_eq_getElem hi)).one_cell (ho _ (List.getElem_mem hi'))
  cases x with
  | agg l =>
    obtain ⟨vs, rfl, hl, hv⟩ := h.list_of_agg
    exact ⟨vs, rfl, hl, listed l vs hl hv h1, hv⟩
  | t x =>
    cases x with
    | agg l =>
      obtain ⟨vs, rfl, hl, hv⟩ := h.t_ht.list_of_agg
      have hv' : ∀ (i : Nat) y u, (l.map AV.t)[i]? = some y → vs[i]? = some u → HA m w O y u := by
        intro i y u hy hu
        rw [List.getElem?_map] at hy
        cases hx : l[i]? with
        | none => rw [hx] at hy; cases hy
        | some z => rw [hx] at hy; simp at hy; subst hy; exact .t _ _ (hv i z u hx hu)
      exact ⟨vs, rfl, by simpa [cellsA] using hl, listed _ vs (by simpa using hl) hv' h1, hv'⟩
    | _ => exact one _ rfl h h1
  | _ => exact one _ rfl h h1
section
variable {P : Program} {o : Oper} {tf : Nat → AV} {hf : Hp}
/-! ### a new block -/
theorem Rel.new {w0 : Bse} {X O0 D : Nat → Prop} {m : Nat → Option Value} {a : Act} {w : World} (h : Rel w0 X O0 D m tf hf a w) {w' : World} {n : Nat} {d : Option Tmp} {v : AV} {val bval : Value} {k : Blk} (hd : ∀ x, d = some x → x < a.tmps.size) (hn : ¬ D n) (hw : But w (fun _ => False) w')
    (hc : ∀ c, blockOf bval = some c → w.heap.size ≤ c)
    (hblk : ∀ m' O', (∀ c, O' c → Own X m hf c ∨ w.heap.size ≤ c) → (∀ b v, m b = some v → m' b = some v) → m' n = some bval → HB m' w' O' n k)
    (hv : ∀ m' O', (∀ c, O' c → Own X m hf c ∨ w.heap.size ≤ c) → (∀ b v, m b = some v → m' b = some v) → m' n = some bval → HA m' w' O' v val) : Rel w0 X O0 (fun b => D b ∨ b ∈ [n]) (upM m n bval) (upT tf d v) (upH hf [(n, false, k)]) (a.put d val) w' := by
  refine h.write [(n, false, k)] [n] (fun _ => False) hd hw (fun _ h => h.elim) (fun b hb => upM_ne (by simpa using hb)) (by simp [ids]) (by simpa using hn) ?_ ?_ ?_
  · intro b hb O' hO hext _
    obtain rfl := ids1.1 hb
    rw [lookH1]
    exact hblk _ O' hO hext upM_self
  · intro b hb hl c hbc
    obtain rfl := ids1.1 hb
    refine ⟨.inl (hc c ?_), fun b' hb' hne => absurd (ids1.1 hb') hne⟩
    simpa [bk, upM_self] using hbc
  · intro O' hO hext _
    exact hv _ O' hO hext upM_self
end
end Go.YtbbcnmfmncgffaaE
