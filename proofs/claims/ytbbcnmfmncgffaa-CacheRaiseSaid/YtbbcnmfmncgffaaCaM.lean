-- Written by hand for this claim's session.
import Derived.Test.YtbbcnmfmncgffaaCaK
open Go Go.YtbbcnmfmncgffaaE Go.Proofs
set_option maxRecDepth 100000
set_option autoImplicit false
namespace Go.Proofs.YtbbcnmfmncgffaaX
theorem ok_keep {c : C} (h : c.Ok) (g : Int) : C.Ok ⟨c.r, g, keep g c.s⟩ := by
  refine ⟨h.r0, h.r1, ?_, fun u hu => ?_, h.srt.sublist List.filter_sublist⟩
  · have := List.length_filter_le (fun u => !decide (u.c < g)) c.s
    have := h.len
    simp only [keep]; omega
  · have := (List.mem_filter.1 hu).2
    simp at this; exact this
theorem keep_keep (a b : Int) (l : List U) (h : a ≤ b) : keep b (keep a l) = keep b l := by
  unfold keep
  rw [List.filter_filter]
  apply List.filter_congr
  intro u _
  by_cases h1 : u.c < b <;> by_cases h2 : u.c < a <;> simp [h1, h2] <;> omega
theorem mx_eq (a b : Int) : mx a b = max a b := by unfold mx; omega
theorem mem_insU {l : List U} {u v : U} : v ∈ insU l u ↔ v = u ∨ v ∈ l := by
  classical
  unfold insU
  simp only [List.mem_append, List.mem_cons, List.mem_filter, decide_eq_true_eq, Bool.not_eq_true', decide_eq_false_iff_not]
  refine ⟨fun h => ?_, fun h => ?_⟩
  · rcases h with h | h | h
    · exact .inr h.1
    · exact .inl h
    · exact .inr h.1
  · rcases h with h | h
    · exact .inr (.inl h)
    · by_cases h2 : ltU v u
      · exact .inl ⟨h, h2⟩
      · exact .inr (.inr ⟨h, h2⟩)
theorem srt_insU {l : List U} {u : U} (hs : l.Pairwise ltU) (hu : u ∉ l) : (insU l u).Pairwise ltU := by
  classical
  unfold insU
  rw [List.pairwise_append, List.pairwise_cons]
  refine ⟨hs.sublist List.filter_sublist, ⟨fun v hv => ?_, hs.sublist List.filter_sublist⟩, fun v hv w hw => ?_⟩
  · obtain ⟨h1, h2⟩ := List.mem_filter.1 hv
    simp at h2
    rcases ltU_tri v u with h | rfl | h
    · exact absurd h h2
    · exact absurd h1 hu
    · exact h
  · have hv2 : ltU v u := by simpa using (List.mem_filter.1 hv).2
    rcases List.mem_cons.1 hw with rfl | hw
    · exact hv2
    · obtain ⟨h1, h2⟩ := List.mem_filter.1 hw
      simp at h2
      rcases ltU_tri w u with h | rfl | h
      · exact absurd h h2
      · exact absurd h1 hu
      · exact ltU_trans hv2 h
/-- Sorted rows of the same members are the same. -/
theorem srt_ext {l m : List U} (hl : l.Pairwise ltU) (hm : m.Pairwise ltU) (h : ∀ u, u ∈ l ↔ u ∈ m) : l = m := by
  induction l generalizing m with
  | nil =>
    cases m with
    | nil => rfl
    | cons x m => exact absurd ((h x).2 (List.mem_cons_self ..)) (by simp)
  | cons x l ih =>
    cases m with
    | nil => exact absurd ((h x).1 (List.mem_cons_self ..)) (by simp)
    | cons y m =>
      rw [List.pairwise_cons] at hl hm
      have e : x = y := by
        rcases List.mem_cons.1 ((h x).1 (List.mem_cons_self ..)) with e | h1
        · exact e
        · rcases List.mem_cons.1 ((h y).2 (List.mem_cons_self ..)) with e | h2
          · exact e.symm
          · exact absurd (ltU_trans (hm.1 x h1) (hl.1 y h2)) ltU_irrefl
      subst e
      rw [ih hl.2 hm.2 (fun u => ?_)]
      refine ⟨fun hu => ?_, fun hu => ?_⟩
      · rcases List.mem_cons.1 ((h u).1 (List.mem_cons_of_mem _ hu)) with rfl | h1
        · exact absurd (hl.1 u hu) ltU_irrefl
        · exact h1
      · rcases List.mem_cons.1 ((h u).2 (List.mem_cons_of_mem _ hu)) with rfl | h1
        · exact absurd (hm.1 u hu) ltU_irrefl
        · exact h1
theorem mem_keep {g : Int} {l : List U} {u : U} : u ∈ keep g l ↔ u ∈ l ∧ g ≤ u.c := by
  unfold keep
  rw [List.mem_filter]
  simp
theorem keep_insU {g : Int} {l : List U} {u : U} (hs : l.Pairwise ltU) (hu : u ∉ l) (hg : g ≤ u.c) : keep g (insU l u) = insU (keep g l) u := by
  refine srt_ext ((srt_insU hs hu).sublist List.filter_sublist) (srt_insU (hs.sublist List.filter_sublist) (fun h => hu (mem_keep.1 h).1)) (fun v => ?_)
  rw [mem_keep, mem_insU, mem_insU, mem_keep]
  refine ⟨fun ⟨h1, h2⟩ => h1.imp id fun h => ⟨h, h2⟩, fun h => ?_⟩
  rcases h with rfl | ⟨h1, h2⟩
  · exact ⟨.inl rfl, hg⟩
  · exact ⟨.inr h1, h2⟩
theorem ok_put {c : C} {u : U} (h : c.Ok) (h1 : ¬ u.c < c.f) (h2 : u ∉ c.s) (h3 : ¬ (c.s.length : Int) = c.r) : C.Ok ⟨c.r, c.f, insU c.s u⟩ := by
  refine ⟨h.r0, h.r1, ?_, fun v hv => ?_, srt_insU h.srt h2⟩
  · have := h.len
    simp only [insU_len]; omega
  · rcases mem_insU.1 hv with rfl | hv
    · simp only; omega
    · exact h.low v hv
end Go.Proofs.YtbbcnmfmncgffaaX
