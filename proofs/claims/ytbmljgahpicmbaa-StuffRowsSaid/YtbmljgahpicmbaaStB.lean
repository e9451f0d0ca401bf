-- Written by hand for this claim's session.
import Derived.Test.YtbmljgahpicmbaaStA
/-! the bytes of a row of bits -/
namespace Go.Proofs.YtbmljgahpicmbaaSt
open Go Go.YtbmljgahpicmbaaE
def E (l : List Bool) : List (List Bool) := enc l.length l
theorem enc_fuel : ∀ (n m : Nat) (l : List Bool), l.length ≤ n → l.length ≤ m → enc n l = enc m l
  | 0, m, l, h, _ => by
    have : l = [] := List.length_eq_zero_iff.1 (by omega)
    subst this; rw [enc_nil, enc_nil]
  | n + 1, 0, l, _, h => by
    have : l = [] := List.length_eq_zero_iff.1 (by omega)
    subst this; rw [enc_nil, enc_nil]
  | n + 1, m + 1, l, h1, h2 => by
    by_cases hl : l = []
    · subst hl; rw [enc_nil, enc_nil]
    · have h4 := left1_length l hl
      simp only [enc, if_neg hl]
      rw [enc_fuel n m (left1 l) (by omega) (by omega)]
theorem E_nil : E [] = [] := rfl
theorem E_cons {l : List Bool} (hl : l ≠ []) : E l = byte1 l :: E (left1 l) := by
  have h4 := left1_length l hl
  have hp : 0 < l.length := List.length_pos_iff.2 hl
  unfold E
  rw [enc_fuel l.length ((l.length - 1) + 1) l (Nat.le_refl _) (by omega)]
  simp only [enc, if_neg hl]
  rw [enc_fuel (l.length - 1) (left1 l).length (left1 l) (by omega) (Nat.le_refl _)]
theorem E_count (l : List Bool) : (E l).length * 7 ≤ l.length + 6 ∧ l.length ≤ (E l).length * 8 := enc_count l.length l (Nat.le_refl _)
theorem E_mem {l g : List Bool} (h : g ∈ E l) : ∃ m, g = byte1 m := enc_mem _ _ _ h
theorem E_len {l g : List Bool} (h : g ∈ E l) : g.length = 8 := by obtain ⟨m, rfl⟩ := E_mem h; exact byte1_length m
theorem seven_app {h r : List Bool} (hh : 7 ≤ h.length) : seven (h ++ r) = seven h := by
  rw [seven_long hh, seven_long (by rw [List.length_append]; omega), List.take_append_of_le_length hh]
theorem byte1_app {h r : List Bool} (hh : 8 ≤ h.length) : byte1 (h ++ r) = byte1 h := by
  unfold byte1
  rw [seven_app (by omega), List.drop_append_of_le_length (by omega), List.drop_eq_getElem_cons (show 7 < h.length by omega)]
  rfl
theorem left1_app {h r : List Bool} (hh : 8 ≤ h.length) : left1 (h ++ r) = left1 h ++ r := by
  unfold left1
  rw [seven_app (by omega), List.drop_append_of_le_length (by omega), List.drop_append_of_le_length (by omega)]
  split <;> rfl
theorem E_app {h r : List Bool} (hh : 8 ≤ h.length) : E (h ++ r) = byte1 h :: E (left1 h ++ r) := by
  rw [E_cons (fun e => by rw [List.append_eq_nil_iff] at e; rw [e.1] at hh; simp at hh), byte1_app hh, left1_app hh]
theorem left1_len {h : List Bool} (hh : 8 ≤ h.length) : (left1 h).length + 8 = h.length ∨ (left1 h).length + 7 = h.length := by
  unfold left1
  split <;> rw [List.length_drop] <;> omega
theorem E_short {h : List Bool} (h0 : h ≠ []) (h7 : h.length ≤ 7) : E h = [byte1 (h ++ List.replicate (8 - h.length) true)] := by
  have e1 : left1 h = [] := by unfold left1; split <;> exact List.drop_eq_nil_of_le (by omega)
  rw [E_cons h0, e1, E_nil]
  congr 1
  have hs : seven (h ++ List.replicate (8 - h.length) true) = seven h := by
    unfold seven
    have e3 : h ++ List.replicate (8 - h.length) true ++ List.replicate 7 true = (h ++ List.replicate 7 true) ++ List.replicate (8 - h.length) true := by
      rw [List.append_assoc, List.append_assoc, List.replicate_append_replicate, List.replicate_append_replicate, Nat.add_comm]
    rw [e3, List.take_append_of_le_length (by simp)]
  unfold byte1
  rw [hs, List.drop_eq_nil_of_le h7]
  have e2 : ((h ++ List.replicate (8 - h.length) true).drop 7) = [true] := by
    rw [List.drop_append, List.drop_eq_nil_of_le h7, List.drop_replicate, show 8 - h.length - (7 - h.length) = 1 by omega]
    rfl
  rw [e2]
  rfl
theorem val_ones : ∀ n : Nat, val (List.replicate n true) = 2 ^ n - 1
  | 0 => rfl
  | n + 1 => by
    rw [List.replicate_succ', val_append, val_ones n, val_one]
    have := Nat.two_pow_pos n
    simp only [List.length_singleton, Nat.pow_succ, Bool.toNat_true]
    omega
theorem V_ones_of (n : Nat) (h : n ≤ 31) : IntKind.u32.wrap (IntKind.u32.wrap (1 * 2 ^ (min n 32)) - 1) = V (List.replicate n true) := by
  have hm : min n 32 = n := by omega
  have h5 : (2 : Nat) ^ n ≤ 2 ^ 31 := Nat.pow_le_pow_right (by decide) h
  have hpos := Nat.two_pow_pos n
  have e : (1 : Int) * 2 ^ n = ((2 ^ n : Nat) : Int) := by push_cast; omega
  have e2 : ((2 ^ n : Nat) : Int) - 1 = ((2 ^ n - 1 : Nat) : Int) := by omega
  rw [hm, e, wu32_of (n := 32) (by omega) (by omega), e2, wu32_of (n := 32) (by omega) (by omega)]
  unfold V
  rw [val_ones]
def bys (l : List Int) : List T := l.map (T.int .u8)
theorem bys_append (a b : List Int) : bys (a ++ b) = bys a ++ bys b := List.map_append
theorem bys_length (a : List Int) : (bys a).length = a.length := List.length_map _
theorem bys_get {l : List Int} {i : Nat} {x : Int} (h : l[i]? = some x) : (bys l)[i]? = some (.int .u8 x) := by unfold bys; rw [List.getElem?_map, h]; rfl
end Go.Proofs.YtbmljgahpicmbaaSt
