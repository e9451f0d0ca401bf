-- Written by hand for this claim's session.
import Derived.Test.YtbmljgahpicmbaaStB
/-! and back -/
namespace Go.Proofs.YtbmljgahpicmbaaSt
open Go Go.YtbmljgahpicmbaaE
def chopN : Nat → List Bool → List (List Bool)
  | 0, _ => []
  | n + 1, l => if 8 ≤ l.length then l.take 8 :: chopN n (l.drop 8) else []
def chop (l : List Bool) : List (List Bool) := chopN l.length l
theorem chopN_fuel : ∀ (n m : Nat) (l : List Bool), l.length ≤ n → l.length ≤ m → chopN n l = chopN m l
  | 0, 0, _, _, _ => rfl
  | 0, m + 1, l, h, _ => by simp only [chopN]; rw [if_neg (by omega)]
  | n + 1, 0, l, _, h => by simp only [chopN]; rw [if_neg (by omega)]
  | n + 1, m + 1, l, h1, h2 => by
    simp only [chopN]
    by_cases h : 8 ≤ l.length
    · rw [if_pos h, if_pos h, chopN_fuel n m (l.drop 8) (by rw [List.length_drop]; omega) (by rw [List.length_drop]; omega)]
    · rw [if_neg h, if_neg h]
theorem chop_short {l : List Bool} (h : l.length < 8) : chop l = [] := by
  unfold chop
  cases e : l.length with
  | zero => rfl
  | succ n => simp only [chopN]; rw [if_neg (by omega)]
theorem chop_long {l : List Bool} (h : 8 ≤ l.length) : chop l = l.take 8 :: chop (l.drop 8) := by
  unfold chop
  rw [chopN_fuel l.length ((l.length - 1) + 1) l (Nat.le_refl _) (by omega)]
  simp only [chopN]
  rw [if_pos h, chopN_fuel (l.length - 1) (l.drop 8).length (l.drop 8) (by rw [List.length_drop]; omega) (Nat.le_refl _)]
theorem chop_app {a b : List Bool} (h : a.length = 8) : chop (a ++ b) = a :: chop b := by
  rw [chop_long (by rw [List.length_append]; omega), List.take_append_of_le_length (by omega), List.take_of_length_le (by omega), List.drop_append_of_le_length (by omega), List.drop_eq_nil_of_le (by omega), List.nil_append]
theorem chop_count : ∀ (n : Nat) (l : List Bool), l.length ≤ n → (chop l).length * 8 ≤ l.length
  | 0, l, h => by rw [chop_short (by omega)]; simp
  | n + 1, l, h => by
    by_cases c : 8 ≤ l.length
    · have := chop_count n (l.drop 8) (by rw [List.length_drop]; omega)
      rw [chop_long c, List.length_cons]
      rw [List.length_drop] at this
      omega
    · rw [chop_short (by omega)]; simp
theorem chop_mem : ∀ (n : Nat) (l : List Bool), l.length ≤ n → ∀ g ∈ chop l, g.length = 8
  | 0, l, h, g, hg => by rw [chop_short (by omega)] at hg; cases hg
  | n + 1, l, h, g, hg => by
    by_cases c : 8 ≤ l.length
    · rw [chop_long c] at hg
      rcases List.mem_cons.1 hg with rfl | hg
      · rw [List.length_take]; omega
      · exact chop_mem n (l.drop 8) (by rw [List.length_drop]; omega) g hg
    · rw [chop_short (by omega)] at hg; cases hg
theorem chop_flat : ∀ (g : List (List Bool)) (r : List Bool), (∀ x ∈ g, x.length = 8) → r.length < 8 → chop (g.flatten ++ r) = g
  | [], r, _, h => by rw [List.flatten_nil, List.nil_append, chop_short h]
  | x :: g, r, h1, h => by
    rw [List.flatten_cons, List.append_assoc, chop_app (h1 x (List.mem_cons_self ..)), chop_flat g r (fun y hy => h1 y (List.mem_cons_of_mem _ hy)) h]
/-- A byte's bits that are meant, where two bytes alone stand for seven. -/
def bits2 (g : List Bool) : List Bool := if g = zeros ++ [true] ∨ g = ones ++ [false] then g.take 7 else g
def dec2 (s : List (List Bool)) : List Bool := (s.map bits2).flatten
theorem bits2_len {g : List Bool} (h : g.length = 8) : (bits2 g).length ≤ 8 ∧ 7 ≤ (bits2 g).length := by
  unfold bits2
  split
  · rw [List.length_take]; omega
  · omega
theorem dec2_len (s : List (List Bool)) (h : ∀ x ∈ s, x.length = 8) : (dec2 s).length ≤ 8 * s.length := by
  induction s with
  | nil => simp [dec2]
  | cons x s ih =>
    have h1 := ih (fun y hy => h y (List.mem_cons_of_mem _ hy))
    have h2 := bits2_len (h x (List.mem_cons_self ..))
    have e : dec2 (x :: s) = bits2 x ++ dec2 s := rfl
    rw [e, List.length_append, List.length_cons]
    omega
theorem dec2_drop {s : List (List Bool)} {i : Nat} {x : List Bool} (h : s[i]? = some x) : dec2 (s.drop i) = bits2 x ++ dec2 (s.drop (i + 1)) := by
  obtain ⟨h1, h2⟩ := List.getElem?_eq_some_iff.1 h
  rw [List.drop_eq_getElem_cons h1, h2]
  rfl
/-- What stuff.Get reads. -/
def got (s : List (List Bool)) : List (List Bool) := chop (dec2 s)
theorem shr_take8 (l : List Bool) (n : Int) (h0 : 0 ≤ n) (h : n ≤ l.length) (h32 : n ≤ 8) : (V l).fdiv (2 ^ (min n.toNat 8)) = V (l.take (l.length - n.toNat)) := by
  have hm : min n.toNat 8 = min n.toNat 32 := by omega
  rw [hm]
  exact shr_take l n h0 h (by omega)
end Go.Proofs.YtbmljgahpicmbaaSt
