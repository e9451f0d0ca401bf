-- Written by hand for this claim's session.
import Derived.Test.YtbmljgahpicmbaaStGp
/-! what the laws say of the bytes -/
namespace Go.Proofs.YtbmljgahpicmbaaSt
open Go Go.YtbmljgahpicmbaaE
theorem E_mixed {l g : List Bool} (h : g ∈ E l) (b : Bool) : g ≠ List.replicate 8 b := by
  obtain ⟨m, rfl⟩ := E_mem h
  exact byte1_mixed m b
theorem take7 {g : List Bool} (h : g.length = 8) : ∃ c, g = g.take 7 ++ [c] := ⟨g[7], by rw [List.take_append_getElem, List.take_of_length_le (by omega)]⟩
theorem bits_mixed {g : List Bool} (h8 : g.length = 8) (hm : ∀ b, g ≠ List.replicate 8 b) : bits2 g = bits1 g := by
  obtain ⟨c, hc⟩ := take7 h8
  unfold bits2 bits1
  by_cases hz : g.take 7 = zeros
  · have e : c = true := by
      cases c
      · exact absurd (by rw [hc, hz]; rfl) (hm false)
      · rfl
    rw [if_pos (.inl (by rw [hc, hz, e])), if_pos (.inl hz)]
  · by_cases ho : g.take 7 = ones
    · have e : c = false := by
        cases c
        · rfl
        · exact absurd (by rw [hc, ho]; rfl) (hm true)
      rw [if_pos (.inr (by rw [hc, ho, e])), if_pos (.inr ho)]
    · rw [if_neg (c := g.take 7 = zeros ∨ g.take 7 = ones) (fun x => x.elim hz ho), if_neg]
      rintro (e | e)
      · exact hz (by rw [e]; rfl)
      · exact ho (by rw [e]; rfl)
theorem dec_mixed {s : List (List Bool)} (h8 : ∀ g ∈ s, g.length = 8) (hm : ∀ g ∈ s, ∀ b, g ≠ List.replicate 8 b) : dec2 s = dec s := by
  unfold dec2 dec
  rw [List.map_congr_left fun g hg => bits_mixed (h8 g hg) (hm g hg)]
def Mixed (s : List (List Bool)) : Prop := (∀ g ∈ s, g.length = 8) ∧ ∀ g ∈ s, ∀ b, g ≠ List.replicate 8 b
theorem E_Mixed (l : List Bool) : Mixed (E l) := ⟨fun _ h => E_len h, fun _ h b => E_mixed h b⟩
theorem got_mixed {s : List (List Bool)} (h : Mixed s) : got s = chop (dec s) := by unfold got; rw [dec_mixed h.1 h.2]
theorem got_E {a : List (List Bool)} (h8 : ∀ g ∈ a, g.length = 8) : chop (dec (E a.flatten)) = a := by
  obtain ⟨r, h1, h2⟩ := dec_enc a.flatten.length a.flatten (Nat.le_refl _)
  have e : dec (E a.flatten) = a.flatten ++ List.replicate r true := h2
  rw [e, chop_flat a _ h8 (by rw [List.length_replicate]; omega)]
theorem mapV_inj : ∀ {a b : List (List Bool)}, (∀ g ∈ a, g.length = 8) → (∀ g ∈ b, g.length = 8) → a.map V = b.map V → a = b
  | [], [], _, _, _ => rfl
  | [], y :: b, _, _, h => by cases h
  | x :: a, [], _, _, h => by cases h
  | x :: a, y :: b, h1, h2, h => by
    simp only [List.map_cons, List.cons.injEq] at h
    have e1 := V_inj ((h1 x (List.mem_cons_self ..)).trans (h2 y (List.mem_cons_self ..)).symm) h.1
    have e2 := mapV_inj (fun g hg => h1 g (List.mem_cons_of_mem _ hg)) (fun g hg => h2 g (List.mem_cons_of_mem _ hg)) h.2
    rw [e1, e2]
/-- Both read the same, or neither reads. -/
theorem read_same {s : List (List Bool)} (h8 : ∀ g ∈ s, g.length = 8) : ((E (got s).flatten).map V = s.map V ↔ (E (chop (dec s)).flatten).map V = s.map V) ∧ ((E (got s).flatten).map V = s.map V → got s = chop (dec s)) := by
  have key : ∀ t : List (List Bool), (E t.flatten).map V = s.map V → got s = chop (dec s) := by
    intro t h
    have e := mapV_inj (fun g hg => E_len hg) h8 h
    have hm := E_Mixed t.flatten
    rw [e] at hm
    exact got_mixed hm
  refine ⟨⟨fun h => ?_, fun h => ?_⟩, fun h => key _ h⟩
  · rw [← key _ h]; exact h
  · rw [key _ h]; exact h
end Go.Proofs.YtbmljgahpicmbaaSt
