/-
  Rows: made, stored into, appended to.
  Written by hand for this claim's session.
-/
import Derived.Test.YtbbcnmfmncgffaaEvTree
namespace Go.YtbbcnmfmncgffaaE
open Go.RowKit
set_option linter.unusedVariables false
set_option linter.unusedSimpArgs false
def memN (b : Nat) : List Nat → Bool
  | [] => false
  | x :: l => bif Nat.beq x b then true else memN b l
theorem memN_iff {b : Nat} {l : List Nat} : memN b l = true ↔ b ∈ l := by
  induction l with
  | nil => simp [memN]
  | cons x l ih =>
    unfold memN
    cases h : Nat.beq x b with
    | true => have := Nat.eq_of_beq_eq_true h; simp [this]
    | false =>
      have hne : ¬ b = x := fun e => by subst e; simp at h
      simp [ih, hne]
/-- What is to be frozen of some blocks. -/
def frz (hf : Hp) : List Nat → List Nat → Heap
  | [], _ => []
  | b :: r, seen => match memN b seen with
    | true => frz hf r seen
    | false => match hf b with
      | (true, _) => frz hf r seen
      | (false, .dead) => frz hf r seen
      | (false, .box ty c) => (b, true, .box ty c) :: frz hf r (b :: seen)
      | (false, .row ty sz l) => (b, true, .row ty sz l) :: frz hf r (b :: seen)
      | (false, .arr ty sz l N) => (b, true, .arr ty sz l N) :: frz hf r (b :: seen)
theorem frz_spec {hf : Hp} : ∀ (l seen : List Nat), (∀ b ∈ ids (frz hf l seen), b ∈ l ∧ (hf b).1 = false ∧ (hf b).2.live ∧ lookH (frz hf l seen) b = (true, (hf b).2)) ∧ (∀ b ∈ l, (hf b).2.live → (hf b).1 = false → b ∈ ids (frz hf l seen) ∨ b ∈ seen)
  | [], seen => ⟨fun b hb => by simp [frz, ids] at hb, fun b hb => by simp at hb⟩
  | b :: r, seen => by
    obtain ⟨h1, h2⟩ := frz_spec (hf := hf) r seen
    obtain ⟨h3, h4⟩ := frz_spec (hf := hf) r (b :: seen)
    have skip : (∀ x ∈ ids (frz hf r seen), x ∈ b :: r ∧ (hf x).1 = false ∧ (hf x).2.live ∧ lookH (frz hf r seen) x = (true, (hf x).2)) := fun x hx => ⟨List.mem_cons_of_mem _ (h1 x hx).1, (h1 x hx).2⟩
    have put : ∀ k : Blk, k.live → hf b = (false, k) → (∀ x ∈ ids ((b, true, k) :: frz hf r (b :: seen)), x ∈ b :: r ∧ (hf x).1 = false ∧ (hf x).2.live ∧ lookH ((b, true, k) :: frz hf r (b :: seen)) x = (true, (hf x).2)) ∧
        (∀ x ∈ b :: r, (hf x).2.live → (hf x).1 = false → x ∈ ids ((b, true, k) :: frz hf r (b :: seen)) ∨ x ∈ seen) := by
      intro k hk hb
      refine ⟨fun x hx => ?_, fun x hx hl hf' => ?_⟩
      · by_cases e : x = b
        · subst e
          refine ⟨by simp, by rw [hb], by rw [hb]; exact hk, ?_⟩
          unfold lookH
          rw [look_cons, if_pos rfl, hb]
        · have hx' : x ∈ ids (frz hf r (b :: seen)) := by simpa [ids, e] using hx
          obtain ⟨p1, p2, p3, p4⟩ := h3 x hx'
          refine ⟨List.mem_cons_of_mem _ p1, p2, p3, ?_⟩
          unfold lookH at p4 ⊢
          rw [look_cons, if_neg (fun e' => e e'.symm), p4]
      · by_cases e : x = b
        · subst e; exact .inl (by simp [ids])
        · have hx' : x ∈ r := by simpa [e] using hx
          rcases h4 x hx' hl hf' with h | h
          · exact .inl (by simp [ids] at h ⊢; exact .inr h)
          · exact .inr (by simpa [e] using h)
    unfold frz
    split
    · rename_i hm
      refine ⟨skip, fun x hx hl hf' => ?_⟩
      rcases List.mem_cons.1 hx with rfl | hx
      · exact .inr (memN_iff.1 hm)
      · exact h2 x hx hl hf'
    · split
      · rename_i hb
        refine ⟨skip, fun x hx hl hf' => ?_⟩
        rcases List.mem_cons.1 hx with rfl | hx
        · rw [hb] at hf'; cases hf'
        · exact h2 x hx hl hf'
      · rename_i hb
        refine ⟨skip, fun x hx hl hf' => ?_⟩
        rcases List.mem_cons.1 hx with rfl | hx
        · rw [hb] at hl; exact hl.elim
        · exact h2 x hx hl hf'
      · rename_i ty c hb; exact put _ trivial hb
      · rename_i ty sz l hb; exact put _ trivial hb
      · rename_i ty sz l N hb; exact put _ trivial hb
theorem ids_append {α : Type} (W F : List (Nat × α)) (b : Nat) : b ∈ ids (W ++ F) ↔ b ∈ ids W ∨ b ∈ ids F := by
  unfold ids; rw [List.map_append, List.mem_append]
theorem upH_append (hf : Hp) (F W : Heap) : upH (upH hf F) W = upH hf (W ++ F) := by
  funext b
  by_cases h1 : b ∈ ids W
  · rw [upH_in h1, upH_in ((ids_append W F b).2 (.inl h1))]
    unfold lookH
    rw [look_append, if_pos h1]
  · rw [upH_out h1]
    by_cases h2 : b ∈ ids F
    · rw [upH_in h2, upH_in ((ids_append W F b).2 (.inr h2))]
      unfold lookH
      rw [look_append, if_neg h1]
    · rw [upH_out h2, upH_out (fun h => ((ids_append W F b).1 h).elim h1 h2)]
section
variable {w0 : Bse} {X O0 D : Nat → Prop} {m : Nat → Option Value} {tf : Nat → AV} {hf : Hp} {a : Act} {w : World}
theorem Rel.freeze (h : Rel w0 X O0 D m tf hf a w) (F : Heap) (hF : ∀ b ∈ ids F, (hf b).1 = false ∧ (hf b).2.live ∧ lookH F b = (true, (hf b).2)) : Rel w0 X O0 D m tf (upH hf F) a w := by
  refine h.step (fun _ => False) (But.refl _ _) (fun _ h => h.elim) (fun _ _ h => h) h.dom (fun b => ?_) (fun t => .inl ⟨rfl, rfl⟩)
  by_cases e : b ∈ ids F
  · right
    obtain ⟨h1, h2, h3⟩ := hF b e
    rw [upH_in e, h3]
    refine ⟨fun hO => (h.blk b).mono (Keep.refl _ _) hO (fun _ _ h => h) (fun _ _ _ => rfl), fun hl c hc => ⟨.inr ⟨b, h1, h2, hc⟩, fun b' hne _ hl' hc' => ?_⟩⟩
    have hl'' : (hf b').2.live := by
      by_cases e' : b' ∈ ids F
      · rw [upH_in e', (hF b' e').2.2] at hl'; exact hl'
      · rw [upH_out e'] at hl'; exact hl'
    exact h.sep b b' (fun e => hne e.symm) h1 h2 hl'' c hc hc'
  · exact .inl ⟨upH_out e, rfl, fun _ _ _ h => h⟩
/-- Data in blocks of one's own, told once for all. -/
theorem Rel.view (h : Rel w0 X O0 D m tf hf a w) {L : List Nat} {F : Heap} (hF : F = frz hf L []) : Rel w0 X O0 D m tf (upH hf F) a w ∧ ∀ (n : Nat) (x : AV) (t : T) (v : Value), toT hf n x = some t → (∀ b ∈ reach hf n x, b ∈ L) → HA m w (Own X m hf) x v → HT w (Own X m (upH hf F)) t v := by
  subst hF
  obtain ⟨h1, h2⟩ := frz_spec (hf := hf) L []
  have hR := h.freeze (frz hf L []) (fun b hb => (h1 b hb).2)
  refine ⟨hR, fun n x t v ht hr hv => ?_⟩
  have hsame : ∀ b, (upH hf (frz hf L []) b).2 = (hf b).2 := by
    intro b
    by_cases e : b ∈ ids (frz hf L [])
    · rw [upH_in e, (h1 b e).2.2.2]
    · rw [upH_out e]
  have hO : ∀ c, Own X m (upH hf (frz hf L [])) c → Own X m hf c := by
    rintro c (hx | ⟨b, hb1, hb2, hb3⟩)
    · exact .inl hx
    · refine .inr ⟨b, ?_, by rw [← hsame b]; exact hb2, hb3⟩
      by_cases e : b ∈ ids (frz hf L [])
      · exact (h1 b e).2.1
      · rw [upH_out e] at hb1; exact hb1
  refine toT_told h.blk hO n x t v ht (fun b hb c hc hOc => ?_) hv
  have hbL := hr b hb
  by_cases hl : (hf b).2.live
  · rcases hOc with hx | ⟨b2, hb1, hb2, hb3⟩
    · exact h.xsep b c hl hc hx
    · rw [hsame] at hb2
      have hfz : (upH hf (frz hf L []) b).1 = true := by
        by_cases e : (hf b).1 = false
        · rcases h2 b hbL hl e with h' | h'
          · rw [upH_in h', (h1 b h').2.2.2]
          · simp at h'
        · by_cases e' : b ∈ ids (frz hf L [])
          · rw [upH_in e', (h1 b e').2.2.2]
          · rw [upH_out e']; simpa using e
      have hne : b2 ≠ b := fun e => by rw [e, hfz] at hb1; cases hb1
      have hb1' : (hf b2).1 = false := by
        by_cases e : b2 ∈ ids (frz hf L [])
        · exact (h1 b2 e).2.1
        · rw [upH_out e] at hb1; exact hb1
      exact h.sep b2 b hne hb1' hb2 hl c hb3 hc
  · -- a dead block is none that is seen
    have key : ∀ (n : Nat) (x : AV) (t : T), toT hf n x = some t → ∀ b ∈ reach hf n x, (hf b).2.live := by
      intro n
      induction n with
      | zero => intro x t h; cases h
      | succ n ih =>
        have lst : ∀ (l : List AV) (l' : List T), mapO (toT hf n) l = some l' → ∀ b ∈ l.flatMap (reach hf n), (hf b).2.live := by
          intro l l' hm b hb
          obtain ⟨y, hy, hb⟩ := List.mem_flatMap.1 hb
          obtain ⟨h1, h2⟩ := mapO_spec hm
          obtain ⟨i, hi, rfl⟩ := List.mem_iff_getElem.1 hy
          exact ih _ _ (h2 i _ _ (List.getElem?_eq_getElem hi) (List.getElem?_eq_getElem (by omega))) b hb
        intro x t h b hb
        cases x with
        | own b' =>
          simp [reach] at hb; subst hb
          unfold toT at h; simp only at h
          split at h
          · rename_i heq; rw [heq]; trivial
          · cases h
        | ptr b' off =>
          unfold toT at h; unfold reach at hb; simp only at h hb
          split at h
          · rename_i heq
            rw [heq] at hb
            simp only at hb
            split at h
            · rename_i hm
              rcases List.mem_cons.1 hb with rfl | hb
              · rw [heq]; trivial
              · exact lst _ _ hm b hb
            · cases h
          · cases h
        | agg l =>
          unfold toT at h; unfold reach at hb; simp only at h hb
          split at h
          · rename_i hm; exact lst _ _ hm b hb
          · cases h
        | tuple l =>
          unfold toT at h; unfold reach at hb; simp only at h hb
          split at h
          · rename_i hm; exact lst _ _ hm b hb
          · cases h
        | iface t' x =>
          unfold toT at h; unfold reach at hb; simp only at h hb
          split at h
          · rename_i hm; exact ih _ _ hm b hb
          · cases h
        | fn f a c =>
          unfold toT at h; unfold reach at hb; simp only at h hb
          split at h
          · rename_i h1 h2
            rcases List.mem_append.1 hb with hb | hb
            · exact lst _ _ h1 b hb
            · exact lst _ _ h2 b hb
          · cases h
        | un => simp [reach] at hb
        | t x => simp [reach] at hb
        | rp => simp [reach] at hb
        | ab => simp [reach] at hb
        | fsub => simp [reach] at hb
        | sub b' sz i n' =>
          unfold toT at h; unfold reach at hb; simp only at h hb
          split at h
          · rename_i hk; rw [hk] at hb; rcases List.mem_singleton.1 hb with rfl; rw [hk]; trivial
          · rename_i hk; rw [hk] at hb
            split at h
            · split at h
              · rename_i hm
                rcases List.mem_cons.1 hb with rfl | hb
                · rw [hk]; trivial
                · exact lst _ _ hm b hb
              · cases h
            · cases h
          · cases h
    exact absurd (key n x t ht b hb) hl
end
end Go.YtbbcnmfmncgffaaE
