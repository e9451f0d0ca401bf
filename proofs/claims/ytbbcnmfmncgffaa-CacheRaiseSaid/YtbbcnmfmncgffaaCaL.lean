-- Written by hand for this claim's session.
import Derived.Test.YtbbcnmfmncgffaaCaO
import Derived.Test.YtbbcnmfmncgffaaEvIn
open Go Go.YtbbcnmfmncgffaaE Go.Proofs
set_option maxRecDepth 100000
set_option autoImplicit false
namespace Go.Proofs.YtbbcnmfmncgffaaX
theorem len3 {α : Type} {l : List α} (h : l.length = 3) : ∃ a b c, l = [a, b, c] := by
  match l, h with
  | [a, b, c], _ => exact ⟨a, b, c, rfl⟩
theorem ex_U {n : Nat} {ts : List T} (h : WfC Try.prog n 27 ts) : ∃ u : U, mkE Try.prog 27 ts = u.T := by
  obtain ⟨hl, m, hf⟩ := h.struct Try.underlying27
  obtain ⟨a, b, c, rfl⟩ := len3 (hl.trans rfl)
  obtain ⟨x, hx, _⟩ := (hf _ (List.mem_cons_self ..)).int Try.underlying22
  obtain ⟨y, hy, _⟩ := (hf _ (List.mem_cons_of_mem _ (List.mem_cons_self ..))).int Try.underlying22
  obtain ⟨z, hz, _⟩ := (hf _ (List.mem_cons_of_mem _ (List.mem_cons_of_mem _ (List.mem_cons_self ..)))).int Try.underlying22
  replace hx : [a] = _ := hx
  replace hy : [b] = _ := hy
  replace hz : [c] = _ := hz
  simp only [List.cons.injEq, and_true] at hx hy hz
  subst hx hy hz
  exact ⟨⟨x, y, z⟩, rfl⟩
theorem ex_C {n : Nat} {ts : List T} (h : WfC Try.prog n 25 ts) : ∃ c : C, mkE Try.prog 25 ts = c.T := by
  obtain ⟨hl, m, hf⟩ := h.struct Try.underlying25
  obtain ⟨a, b, c, rfl⟩ := len3 (hl.trans rfl)
  obtain ⟨x, hx, _⟩ := (hf _ (List.mem_cons_self ..)).int Try.underlying3
  obtain ⟨y, hy, _⟩ := (hf _ (List.mem_cons_of_mem _ (List.mem_cons_self ..))).int Try.underlying22
  obtain ⟨l, m', hz, _, hl'⟩ := (hf _ (List.mem_cons_of_mem _ (List.mem_cons_of_mem _ (List.mem_cons_self ..)))).slice Try.underlying23
  obtain ⟨r, rfl, _⟩ := row_of (f := U.T) (p := fun _ => True) hl' (fun cs hcs => (ex_U hcs).imp fun u hu => ⟨hu, trivial⟩)
  replace hx : [a] = _ := hx
  replace hy : [b] = _ := hy
  replace hz : [c] = [.sl 3 (uses r)] := hz
  simp only [List.cons.injEq, and_true] at hx hy hz
  subst hx hy hz
  exact ⟨⟨x, y, r⟩, rfl⟩
theorem ex_Us {n : Nat} {ts : List T} (h : WfC Try.prog n 23 ts) : ∃ l : List U, mkE Try.prog 23 ts = .sl 3 (uses l) := by
  obtain ⟨l, m', rfl, _, hl'⟩ := h.slice Try.underlying23
  obtain ⟨r, rfl, _⟩ := row_of (f := U.T) (p := fun _ => True) hl' (fun cs hcs => (ex_U hcs).imp fun u hu => ⟨hu, trivial⟩)
  exact ⟨r, rfl⟩
theorem ex_u64s {n : Nat} {ts : List T} (h : WfC Try.prog n 41 ts) : ∃ l : List Int, mkE Try.prog 41 ts = .sl 1 (u64s l) := by
  obtain ⟨l, m', rfl, _, hl'⟩ := h.slice Try.underlying41
  obtain ⟨r, rfl, _⟩ := row_of (f := T.int .u64) (p := fun _ => True) hl' (fun cs hcs => by
    obtain ⟨x, rfl, _⟩ := hcs.int Try.underlying22
    exact ⟨x, rfl, trivial⟩)
  exact ⟨r, rfl⟩
end Go.Proofs.YtbbcnmfmncgffaaX
