import Derived.Test.YtgieppcadnhhaaaPs
/-! polynomials as lists of coefficients, lowest first -/
namespace Pl
/-- coefficients of a list -/
def co (l : List GF) : PS := fun k => l.getD k 0
theorem co_nil : co [] = PS.zero := by funext k; simp [co, PS.zero]
theorem co_cons (a : GF) (l : List GF) : co (a :: l) = PS.cons a (co l) := by
  funext k; cases k <;> simp [co, PS.cons]
theorem co_bd (l : List GF) : PS.Bd (co l) l.length := fun k hk => by
  simp [co, List.getElem?_eq_none hk]
theorem co_get (l : List GF) (k : Nat) (h : k < l.length) : co l k = l[k] := by
  simp [co, List.getElem?_eq_getElem h]
/-- without zeros behind -/
def pcons (a : GF) (m : List GF) : List GF := if a = 0 ∧ m = [] then [] else a :: m
def plain (l : List GF) : List GF := l.foldr pcons []
theorem co_pcons (a : GF) (m : List GF) : co (pcons a m) = PS.cons a (co m) := by
  unfold pcons
  split
  · next h => rw [h.1, h.2, co_nil, PS.cons_zero]
  · rw [co_cons]
theorem co_plain (l : List GF) : co (plain l) = co l := by
  induction l with
  | nil => rfl
  | cons a l ih => show co (pcons a (plain l)) = _; rw [co_pcons, ih, co_cons]
theorem plain_last (l : List GF) : ∀ h : plain l ≠ [], (plain l).getLast h ≠ 0 := by
  induction l with
  | nil => intro h; exact absurd rfl h
  | cons a l ih =>
    show ∀ h : pcons a (plain l) ≠ [], (pcons a (plain l)).getLast h ≠ 0
    revert ih
    generalize plain l = m
    intro ih h
    by_cases hm : m = []
    · subst hm
      unfold pcons
      by_cases ha : a = 0
      · exact absurd (by simp [pcons, ha]) h
      · simp [ha]
    · have e : pcons a m = a :: m := by simp [pcons, hm]
      simp only [e, List.getLast_cons hm]
      exact ih hm
/-- a list that ends in no zero -/
def Ends (l : List GF) : Prop := ∀ h : l ≠ [], l.getLast h ≠ 0
theorem ends_ne {l : List GF} (h : Ends l) (h0 : l ≠ []) : co l (l.length - 1) ≠ 0 := by
  have := h h0
  rw [List.getLast_eq_getElem] at this
  rw [co_get]
  · exact this
theorem ends_eq {l m : List GF} (hl : Ends l) (hm : Ends m) (e : co l = co m) : l = m := by
  have len : ∀ {l m : List GF}, Ends l → co l = co m → l.length ≤ m.length := by
    intro l m hl e
    by_cases h0 : l = []
    · subst h0; simp
    · have h1 := ends_ne hl h0
      rw [e] at h1
      have h2 : l.length ≠ 0 := by simpa using h0
      by_cases h3 : l.length ≤ m.length
      · exact h3
      · exact absurd (co_bd m _ (by omega)) h1
  have hlen : l.length = m.length := Nat.le_antisymm (len hl e) (len hm e.symm)
  apply List.ext_getElem hlen
  intro k h1 h2
  rw [← co_get, ← co_get, e]
theorem plain_ends (l : List GF) : Ends (plain l) := plain_last l
theorem plain_of_ends {l : List GF} (h : Ends l) : plain l = l := ends_eq (plain_ends l) h (co_plain l)
theorem plain_eq {l m : List GF} : plain l = plain m ↔ co l = co m :=
  ⟨fun h => by rw [← co_plain l, h, co_plain], fun h => ends_eq (plain_ends _) (plain_ends _) (by rw [co_plain, co_plain, h])⟩
theorem ends_nil : Ends [] := fun h => absurd rfl h
theorem plain_length (l : List GF) : (plain l).length ≤ l.length := by
  by_cases h0 : plain l = []
  · rw [h0]; simp
  · have h1 := ends_ne (plain_ends l) h0
    rw [co_plain] at h1
    have : (plain l).length ≠ 0 := by simpa using h0
    by_cases h : (plain l).length ≤ l.length
    · exact h
    · exact absurd (co_bd l _ (by omega)) h1
theorem plain_nil_iff (l : List GF) : plain l = [] ↔ co l = PS.zero := by
  rw [← co_nil, ← plain_eq]; rfl
/-- the plain list of a bounded series -/
def ofPS (f : PS) (n : Nat) : List GF := plain ((List.range n).map f)
theorem co_range {f : PS} {n : Nat} (h : PS.Bd f n) : co ((List.range n).map f) = f := by
  funext k
  by_cases hk : k < n
  · rw [co_get _ _ (by simpa using hk)]; simp
  · rw [co_bd _ _ (by simp; omega), h k (by omega)]
theorem co_ofPS {f : PS} {n : Nat} (h : PS.Bd f n) : co (ofPS f n) = f := by
  rw [ofPS, co_plain, co_range h]
end Pl
