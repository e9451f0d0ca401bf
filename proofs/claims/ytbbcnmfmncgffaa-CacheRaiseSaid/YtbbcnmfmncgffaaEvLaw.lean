/-
  From a contract to a law: what is handed in, and what is left.
  Written by hand for this claim's session.
-/
import Derived.Test.YtbbcnmfmncgffaaEvMore
namespace Go.YtbbcnmfmncgffaaE
open Go.RowKit
set_option linter.unusedVariables false
set_option linter.unusedSimpArgs false
theorem mem_none (w : World) : Mem ⟨w, fun _ => none⟩ (fun _ => False) (Owm (fun _ => none) (lookH [])) (fun b => b ∈ ids ([] : Heap)) (fun _ => none) (lookH []) w := by
  refine ⟨⟨#[], []⟩, fun t => .un _, fun b => trivial, fun _ _ => rfl, fun b b' _ _ hl => hl.elim, fun b c hl => hl.elim, fun c h => h.elim, fun b c hl => hl.elim, But.refl _ _, fun b v h => h⟩
theorem CtT.law {P : Program} {f : FuncId} {ts : List T} (ct : CtT P f ts (Ret (.bool true) [])) (w : World) (vals : List Value) (hl : vals.length = ts.length) (h : ∀ (i : Nat) t v, ts[i]? = some t → vals[i]? = some v → HT w (fun _ => False) t v) :
    Calls P f vals.toArray w fun e w' => e = .returned (.bool true) ∧ Below w.heap.size w w' := by
  refine (ct.2 w (fun _ => False) (fun _ => none) vals (mem_none w) (by rw [hl, List.length_map]) (fun i x v hx hv => ?_)).mono ?_
  · rw [List.getElem?_map] at hx
    obtain ⟨t, ht, rfl⟩ := Option.map_eq_some_iff.1 hx
    refine .t _ _ ((h i t v ht hv).mono (Keep.refl _ _) (fun c hc => ?_))
    rcases hc with hc | ⟨b, _, hb, _⟩
    · exact hc.elim
    · exact hb.elim
  · rintro e w' ⟨v, r, H', m', rfl, ⟨rfl, rfl⟩, hr, ⟨a, hR⟩⟩
    have hv := hr.v_eq
    refine ⟨by rw [hv], hR.fr.below (Nat.le_refl _) (fun c hc => ?_)⟩
    obtain ⟨b, _, hb, _⟩ := hc
    exact hb.elim
/-- A row of whole numbers that is handed in. -/
theorem HT.ofRow {k : IntKind} {w : World} {a : Option Addr} {len cap : Nat} {zs : List Int} {R : Prop}
    (h : (a = none ∧ len = 0 ∧ cap = 0 ∧ zs = []) ∨ ∃ x, a = some x ∧ len ≤ cap ∧ cap ≤ maxLen ∧ zs.length = cap ∧ (∀ i, i < zs.length → w.cell? (x.add i) = some (.int k (zs.getD i 0))) ∧ R) :
    HT w (fun _ => False) (.sl 1 ((zs.take len).map (T.int k))) (.slice a len cap) := by
  rcases h with ⟨rfl, rfl, rfl, rfl⟩ | ⟨⟨b, o, s⟩, rfl, h1, h2, h3, h4, h5⟩
  · exact .nil _ _ _
  · rcases Nat.eq_zero_or_pos len with rfl | hp
    · exact .nil _ _ _
    · have hl : ((zs.take len).map (T.int k)).length = len := by rw [List.length_map, List.length_take]; omega
      have h0 := h4 0 (by omega)
      have hs : s = none := by
        cases s with
        | none => rfl
        | some n =>
          simp only [Addr.add, if_true, World.cell?] at h0
          split at h0 <;> simp at h0
      subst hs
      have hb : b < w.heap.size := by
        simp only [Addr.add, if_true, World.cell?] at h0
        split at h0
        · rename_i c _ _ hc; exact (Array.getElem?_eq_some_iff.1 hc).1
        · cases h0
      have key := HT.sl (w := w) (O := fun _ => False) 1 ((zs.take len).map (T.int k)) b o cap (fun i => .int k (zs.getD i 0)) (fun h => h) hb (by omega) ?_ ?_ ?_
      · rw [hl] at key; exact key
      · intro x hx
        obtain ⟨n, _, rfl⟩ := List.mem_map.1 hx
        exact ⟨rfl, fun y hy => by rcases List.mem_singleton.1 hy with rfl; rfl⟩
      · intro i j hi hj
        rw [hl] at hi
        have hj0 : j = 0 := by omega
        subst hj0
        have h6 := h4 i (by omega)
        rw [Nat.mul_one, Nat.add_zero, Nat.add_zero]
        have e : (⟨b, o, none⟩ : Addr).add i = ⟨b, o + i, none⟩ := by
          unfold Addr.add
          split
          · rename_i e; subst e; rfl
          · rfl
        rw [e] at h6
        exact h6
      · intro i j x y hx hy
        rw [List.getElem?_map, List.getElem?_take] at hx
        split at hx
        · rename_i hi
          obtain ⟨n, hn, rfl⟩ := Option.map_eq_some_iff.1 hx
          cases j with
          | zero =>
            cases hy
            rw [Nat.mul_one, Nat.add_zero]
            have : zs.getD i 0 = n := by rw [List.getD_eq_getElem?_getD, hn]; rfl
            simp only [this]
            exact .v _
          | succ j => simp [T.cells] at hy
        · cases hx
theorem wf_u8 {n : Int} (h : (Lit.int .u8 n).wf = true) : 0 ≤ n ∧ n < 256 := by
  simp [Lit.wf, IntKind.min, IntKind.max, IntKind.signed, IntKind.bits] at h
  omega
theorem wf_i64 {n : Int} (h : (Lit.int .i64 n).wf = true) : -9223372036854775808 ≤ n ∧ n < 9223372036854775808 := by
  simp [Lit.wf, IntKind.min, IntKind.max, IntKind.signed, IntKind.bits] at h
  omega
end Go.YtbbcnmfmncgffaaE
