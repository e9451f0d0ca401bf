-- Written by hand for this claim's session.
import Derived.Test.YtbmljgahpicmbaaEvMore
/-! bits without long rows: the groups, and back -/
namespace Go.Proofs.YtbmljgahpicmbaaSt
/-- The first seven bits, ones where there are none. -/
def seven (l : List Bool) : List Bool := (l ++ List.replicate 7 true).take 7
theorem seven_length (l : List Bool) : (seven l).length = 7 := by
  unfold seven
  rw [List.length_take, List.length_append, List.length_replicate]; omega
def zeros : List Bool := List.replicate 7 false
def ones : List Bool := List.replicate 7 true
/-- The first group's byte, and what is left. -/
def byte1 (l : List Bool) : List Bool := if seven l = zeros then zeros ++ [true] else if seven l = ones then ones ++ [false] else seven l ++ [(l.drop 7).headD true]
def left1 (l : List Bool) : List Bool := if seven l = zeros ∨ seven l = ones then l.drop 7 else l.drop 8
def enc : Nat → List Bool → List (List Bool)
  | 0, _ => []
  | n + 1, l => if l = [] then [] else byte1 l :: enc n (left1 l)
/-- A byte's bits that are meant. -/
def bits1 (g : List Bool) : List Bool := if g.take 7 = zeros ∨ g.take 7 = ones then g.take 7 else g
def dec (s : List (List Bool)) : List Bool := (s.map bits1).flatten
theorem byte1_length (l : List Bool) : (byte1 l).length = 8 := by
  unfold byte1
  split
  · rfl
  · split
    · rfl
    · rw [List.length_append, seven_length]; rfl
theorem byte1_take (l : List Bool) : (byte1 l).take 7 = seven l := by
  unfold byte1
  split
  · rename_i h; rw [h]; rfl
  · split
    · rename_i h; rw [h]; rfl
    · rw [List.take_append_of_le_length (by rw [seven_length]; exact Nat.le_refl _), List.take_of_length_le (by rw [seven_length]; exact Nat.le_refl _)]
theorem left1_length (l : List Bool) (h : l ≠ []) : (left1 l).length < l.length := by
  have : 0 < l.length := List.length_pos_iff.2 h
  unfold left1
  split <;> rw [List.length_drop] <;> omega
theorem seven_long {l : List Bool} (h : 7 ≤ l.length) : seven l = l.take 7 := by
  unfold seven
  rw [List.take_append_of_le_length h]
theorem seven_short {l : List Bool} (h : l.length ≤ 7) : seven l = l ++ List.replicate (7 - l.length) true := by
  unfold seven
  rw [List.take_append, List.take_of_length_le h, List.take_replicate, Nat.min_eq_left (by omega)]
/-- What one byte means, and what is left, are the bits, with ones behind where it is the last. -/
theorem bits1_byte1 (l : List Bool) (h : l ≠ []) : ∃ r, r ≤ 7 ∧ bits1 (byte1 l) ++ left1 l = l ++ List.replicate r true ∧ (left1 l ≠ [] → r = 0) := by
  have hp : 0 < l.length := List.length_pos_iff.2 h
  have hb : bits1 (byte1 l) = if seven l = zeros ∨ seven l = ones then seven l else seven l ++ [(l.drop 7).headD true] := by
    unfold bits1
    rw [byte1_take]
    by_cases c : seven l = zeros ∨ seven l = ones
    · rw [if_pos c, if_pos c]
    · rw [if_neg c, if_neg c]
      unfold byte1
      rw [if_neg (fun x => c (.inl x)), if_neg (fun x => c (.inr x))]
  rw [hb]
  unfold left1
  by_cases c : seven l = zeros ∨ seven l = ones
  · rw [if_pos c, if_pos c]
    by_cases hl : 7 ≤ l.length
    · exact ⟨0, by omega, by rw [seven_long hl, List.take_append_drop]; simp, fun _ => rfl⟩
    · refine ⟨7 - l.length, by omega, ?_, fun x => absurd (List.drop_eq_nil_of_le (by omega)) x⟩
      rw [seven_short (by omega), List.drop_eq_nil_of_le (by omega), List.append_nil]
  · rw [if_neg c, if_neg c]
    by_cases hl : 8 ≤ l.length
    · refine ⟨0, by omega, ?_, fun _ => rfl⟩
      rw [seven_long (by omega), List.drop_eq_getElem_cons (show 7 < l.length by omega)]
      simp only [List.headD_cons, List.replicate_zero, List.append_nil]
      rw [List.append_assoc, List.singleton_append, ← List.drop_eq_getElem_cons (show 7 < l.length by omega), List.take_append_drop]
    · refine ⟨8 - l.length, by omega, ?_, fun x => absurd (List.drop_eq_nil_of_le (by omega)) x⟩
      rw [seven_short (by omega), List.drop_eq_nil_of_le (show l.length ≤ 7 by omega), List.drop_eq_nil_of_le (show l.length ≤ 8 by omega), List.append_nil, List.append_assoc]
      congr 1
      show List.replicate (7 - l.length) true ++ [true] = _
      rw [show 8 - l.length = (7 - l.length) + 1 by omega, List.replicate_succ']
theorem enc_nil (n : Nat) : enc n [] = [] := by cases n <;> simp [enc]
theorem dec_enc : ∀ (n : Nat) (l : List Bool), l.length ≤ n → ∃ r, r ≤ 7 ∧ dec (enc n l) = l ++ List.replicate r true := by
  intro n
  induction n with
  | zero =>
    intro l h
    have : l = [] := List.length_eq_zero_iff.1 (by omega)
    subst this
    exact ⟨0, by omega, rfl⟩
  | succ n ih =>
    intro l h
    by_cases hl : l = []
    · subst hl; exact ⟨0, by omega, by rw [enc_nil]; rfl⟩
    · obtain ⟨r, h1, h2, h3⟩ := bits1_byte1 l hl
      have h4 := left1_length l hl
      obtain ⟨r', h5, h6⟩ := ih (left1 l) (by omega)
      have e : enc (n + 1) l = byte1 l :: enc n (left1 l) := by simp [enc, hl]
      have e2 : dec (enc (n + 1) l) = bits1 (byte1 l) ++ dec (enc n (left1 l)) := by rw [e]; rfl
      by_cases hz : left1 l = []
      · refine ⟨r, h1, ?_⟩
        rw [e2, hz, enc_nil]
        rw [hz] at h2
        exact h2
      · refine ⟨r', h5, ?_⟩
        have := h3 hz
        subst this
        rw [e2, h6, ← List.append_assoc, h2]; simp
theorem enc_count : ∀ (n : Nat) (l : List Bool), l.length ≤ n → (enc n l).length * 7 ≤ l.length + 6 ∧ l.length ≤ (enc n l).length * 8 := by
  intro n
  induction n with
  | zero =>
    intro l h
    have : l.length = 0 := by omega
    exact ⟨by simp [enc], by omega⟩
  | succ n ih =>
    intro l h
    by_cases hl : l = []
    · subst hl; rw [enc_nil]; simp
    · have h4 := left1_length l hl
      have hp : 0 < l.length := List.length_pos_iff.2 hl
      obtain ⟨h5, h6⟩ := ih (left1 l) (by omega)
      have e : enc (n + 1) l = byte1 l :: enc n (left1 l) := by simp [enc, hl]
      rw [e, List.length_cons]
      have hlen : (left1 l).length + 7 ≤ l.length ∨ (left1 l).length = 0 := by
        unfold left1
        split <;> rw [List.length_drop] <;> omega
      have hlen2 : l.length ≤ (left1 l).length + 8 := by
        unfold left1
        split <;> rw [List.length_drop] <;> omega
      constructor
      · rcases hlen with hlen | hlen
        · omega
        · have : left1 l = [] := List.length_eq_zero_iff.1 hlen
          rw [this, enc_nil]
          simp; omega
      · omega
theorem enc_mem : ∀ (n : Nat) (l : List Bool), ∀ g ∈ enc n l, ∃ m : List Bool, g = byte1 m := by
  intro n
  induction n with
  | zero => intro l g hg; cases hg
  | succ n ih =>
    intro l g hg
    by_cases hl : l = []
    · subst hl; rw [enc_nil] at hg; cases hg
    · have e : enc (n + 1) l = byte1 l :: enc n (left1 l) := by simp [enc, hl]
      rw [e] at hg
      rcases List.mem_cons.1 hg with h | h
      · exact ⟨l, h⟩
      · exact ih _ g h
/-- No byte is of like bits alone. -/
theorem byte1_mixed (l : List Bool) (b : Bool) : byte1 l ≠ List.replicate 8 b := by
  intro h
  have h7 := byte1_take l
  rw [h] at h7
  have h8 : (List.replicate 8 b).take 7 = List.replicate 7 b := by simp
  rw [h8] at h7
  unfold byte1 at h
  cases b with
  | false =>
    have hz : seven l = zeros := h7.symm
    rw [if_pos hz] at h; exact absurd h (by decide)
  | true =>
    have ho : seven l = ones := h7.symm
    rw [if_neg (by rw [ho]; decide), if_pos ho] at h
    exact absurd h (by decide)
end Go.Proofs.YtbmljgahpicmbaaSt
/-! rows of bits as whole numbers -/
namespace Go.Proofs.YtbmljgahpicmbaaSt
open Go
def val (l : List Bool) : Nat := l.foldl (fun v b => 2 * v + b.toNat) 0
theorem foldl_val : ∀ (l : List Bool) (v : Nat), l.foldl (fun v b => 2 * v + b.toNat) v = v * 2 ^ l.length + val l
  | [], v => by simp [val]
  | b :: l, v => by
    unfold val
    rw [List.foldl_cons, List.foldl_cons, foldl_val l (2 * v + b.toNat), foldl_val l (2 * 0 + b.toNat), List.length_cons, Nat.pow_succ, Nat.add_mul, Nat.add_mul]
    have : v * (2 ^ l.length * 2) = 2 * v * 2 ^ l.length := by rw [Nat.mul_comm (2 ^ l.length) 2, ← Nat.mul_assoc, Nat.mul_comm v 2]
    rw [this]; omega
theorem val_nil : val [] = 0 := rfl
theorem val_append (a b : List Bool) : val (a ++ b) = val a * 2 ^ b.length + val b := by
  rw [← foldl_val b (val a)]
  unfold val
  rw [List.foldl_append]
theorem val_one (b : Bool) : val [b] = b.toNat := by cases b <;> rfl
theorem val_lt : ∀ (l : List Bool), val l < 2 ^ l.length
  | [] => by simp [val]
  | b :: l => by
    have h := val_lt l
    rw [← List.singleton_append, val_append, val_one, List.length_append, Nat.pow_add]
    have : b.toNat ≤ 1 := by cases b <;> decide
    have h2 : b.toNat * 2 ^ l.length ≤ 1 * 2 ^ l.length := Nat.mul_le_mul_right _ this
    simp only [List.length_singleton]
    omega
theorem val_inj : ∀ {a b : List Bool}, a.length = b.length → val a = val b → a = b
  | [], b, h, _ => (List.length_eq_zero_iff.1 h.symm).symm
  | x :: a, [], h, _ => by cases h
  | x :: a, y :: b, h, hv => by
    have hl : a.length = b.length := by simpa using h
    rw [← List.singleton_append, ← List.singleton_append (l := b), val_append, val_append, val_one, val_one, ← hl] at hv
    have h1 := val_lt a
    have h2 := val_lt b
    rw [← hl] at h2
    have hxy : x.toNat = y.toNat := by
      have e1 : (x.toNat * 2 ^ a.length + val a) / 2 ^ a.length = x.toNat := by rw [Nat.add_comm, Nat.add_mul_div_right _ _ (Nat.two_pow_pos _), Nat.div_eq_of_lt h1]; omega
      have e2 : (y.toNat * 2 ^ a.length + val b) / 2 ^ a.length = y.toNat := by rw [Nat.add_comm, Nat.add_mul_div_right _ _ (Nat.two_pow_pos _), Nat.div_eq_of_lt h2]; omega
      rw [← e1, ← e2, hv]
    have hx : x = y := by cases x <;> cases y <;> simp_all
    subst hx
    rw [val_inj hl (by omega)]
theorem val_take (l : List Bool) (k : Nat) : val l / 2 ^ (l.length - k) = val (l.take k) := by
  have h : val l = val (l.take k) * 2 ^ (l.length - k) + val (l.drop k) := by
    conv => lhs; rw [← List.take_append_drop k l, val_append, List.length_drop]
  have h2 := val_lt (l.drop k)
  rw [List.length_drop] at h2
  rw [h, Nat.add_comm, Nat.add_mul_div_right _ _ (Nat.two_pow_pos _), Nat.div_eq_of_lt h2]
  omega
theorem val_drop (l : List Bool) (k : Nat) : val l % 2 ^ (l.length - k) = val (l.drop k) := by
  have h : val l = val (l.take k) * 2 ^ (l.length - k) + val (l.drop k) := by
    conv => lhs; rw [← List.take_append_drop k l, val_append, List.length_drop]
  have h2 := val_lt (l.drop k)
  rw [List.length_drop] at h2
  rw [h, Nat.add_comm, Nat.add_mul_mod_self_right, Nat.mod_eq_of_lt h2]
/-- A row of bits as Go's number. -/
def V (l : List Bool) : Int := (val l : Nat)
theorem wu32 (n : Int) : IntKind.u32.wrap n = n % 4294967296 := by
  simp [IntKind.wrap, IntKind.signed, IntKind.bits]
theorem wu8 (n : Int) : IntKind.u8.wrap n = n % 256 := by
  simp [IntKind.wrap, IntKind.signed, IntKind.bits]
theorem pow_le32 {n : Nat} (h : n ≤ 32) : 2 ^ n ≤ 4294967296 := by
  have := Nat.pow_le_pow_right (n := 2) (by decide) h
  simpa using this
theorem wu32_of {v : Nat} {n : Nat} (hn : n ≤ 32) (h : v < 2 ^ n) : IntKind.u32.wrap (v : Int) = (v : Int) := by
  rw [wu32]
  have := pow_le32 hn
  exact Int.emod_eq_of_lt (by omega) (by omega)
theorem bits_nat32 (f : BinOp) (g : Nat → Nat → Nat) (hg : ∀ a b : Nat, a < 2 ^ 32 → b < 2 ^ 32 → Go.bits f .u32 a b = IntKind.u32.wrap ((g a b : Nat) : Int)) (a b : Nat) (ha : a < 2 ^ 32) (hb : b < 2 ^ 32) (hr : g a b < 2 ^ 32) : Go.bits f .u32 a b = ((g a b : Nat) : Int) := by
  rw [hg a b ha hb, wu32_of (n := 32) (by omega) hr]
theorem or32 (a b : Nat) (ha : a < 2 ^ 32) (hb : b < 2 ^ 32) : Go.bits .or .u32 a b = ((a ||| b : Nat) : Int) := by
  refine bits_nat32 .or (· ||| ·) (fun a b ha hb => ?_) a b ha hb (Nat.or_lt_two_pow ha hb)
  have e : ∀ x y : BitVec 32, x.toNat = a → y.toNat = b → (x ||| y).toNat = (a ||| b) := fun x y hx hy => by rw [BitVec.toNat_or, hx, hy]
  have e1 : ∀ n : Nat, n < 2 ^ 32 → (BitVec.ofInt 32 (n : Int)).toNat = n := fun n hn => by rw [BitVec.ofInt_natCast, BitVec.toNat_ofNat, Nat.mod_eq_of_lt hn]
  exact congrArg (fun n : Nat => IntKind.u32.wrap (n : Int)) (e _ _ (e1 a ha) (e1 b hb))
theorem and32 (a b : Nat) (ha : a < 2 ^ 32) (hb : b < 2 ^ 32) : Go.bits .and .u32 a b = ((a &&& b : Nat) : Int) := by
  refine bits_nat32 .and (· &&& ·) (fun a b ha hb => ?_) a b ha hb (Nat.lt_of_le_of_lt Nat.and_le_left ha)
  have e : ∀ x y : BitVec 32, x.toNat = a → y.toNat = b → (x &&& y).toNat = (a &&& b) := fun x y hx hy => by rw [BitVec.toNat_and, hx, hy]
  have e1 : ∀ n : Nat, n < 2 ^ 32 → (BitVec.ofInt 32 (n : Int)).toNat = n := fun n hn => by rw [BitVec.ofInt_natCast, BitVec.toNat_ofNat, Nat.mod_eq_of_lt hn]
  exact congrArg (fun n : Nat => IntKind.u32.wrap (n : Int)) (e _ _ (e1 a ha) (e1 b hb))
/-- Bits put behind. -/
theorem or_put (a b : List Bool) (n : Int) (hn : n = b.length) (h : a.length + b.length ≤ 32) : Go.bits .or .u32 (IntKind.u32.wrap (V a * 2 ^ (min n.toNat 32))) (V b) = V (a ++ b) := by
  subst hn
  have h1 := val_lt a
  have h2 := val_lt b
  have hm : min ((b.length : Int)).toNat 32 = b.length := by omega
  have h4 := pow_le32 h
  have h5 : 2 ^ b.length ≤ 4294967296 := pow_le32 (by omega)
  have h3 : val a * 2 ^ b.length + 2 ^ b.length ≤ 2 ^ (a.length + b.length) := by
    rw [Nat.pow_add]
    have : (val a + 1) * 2 ^ b.length ≤ 2 ^ a.length * 2 ^ b.length := Nat.mul_le_mul_right _ h1
    rw [Nat.add_mul] at this
    omega
  have e : V a * 2 ^ (min ((b.length : Int)).toNat 32) = ((val a * 2 ^ b.length : Nat) : Int) := by
    rw [hm]; unfold V; push_cast; rfl
  have hpos := Nat.two_pow_pos b.length
  rw [e, wu32_of (n := 32) (by omega) (by simp; omega)]
  unfold V
  rw [or32 _ _ (by simp; omega) (by simp; omega), val_append]
  congr 1
  rw [Nat.mul_comm, Nat.two_pow_add_eq_or_of_lt h2]
/-- Bits at the front. -/
theorem shr_take (l : List Bool) (n : Int) (h0 : 0 ≤ n) (h : n ≤ l.length) (h32 : n ≤ 32) : (V l).fdiv (2 ^ (min n.toNat 32)) = V (l.take (l.length - n.toNat)) := by
  have hm : min n.toNat 32 = n.toNat := by omega
  rw [hm]
  unfold V
  rw [Int.fdiv_eq_ediv_of_nonneg _ (by exact Int.le_of_lt (Int.pow_pos (by decide)))]
  have h2 := val_take l (l.length - n.toNat)
  rw [show l.length - (l.length - n.toNat) = n.toNat by omega] at h2
  rw [← h2]
  push_cast
  rfl
/-- Bits at the end. -/
theorem and_drop (l : List Bool) (n : Int) (h0 : 0 ≤ n) (h : n ≤ l.length) (hl : l.length ≤ 31) : Go.bits .and .u32 (V l) (IntKind.u32.wrap (IntKind.u32.wrap (1 * 2 ^ (min n.toNat 32)) - 1)) = V (l.drop (l.length - n.toNat)) := by
  have hm : min n.toNat 32 = n.toNat := by omega
  have h5 : (2 : Nat) ^ n.toNat ≤ 2 ^ 31 := Nat.pow_le_pow_right (by decide) (by omega)
  have h6 : (2 : Nat) ^ l.length ≤ 2 ^ 31 := Nat.pow_le_pow_right (by decide) hl
  have hpos := Nat.two_pow_pos n.toNat
  have h1 := val_lt l
  have e : (1 : Int) * 2 ^ n.toNat = ((2 ^ n.toNat : Nat) : Int) := by push_cast; omega
  have e2 : ((2 ^ n.toNat : Nat) : Int) - 1 = ((2 ^ n.toNat - 1 : Nat) : Int) := by omega
  rw [hm, e, wu32_of (n := 32) (by omega) (by omega), e2, wu32_of (n := 32) (by omega) (by omega)]
  unfold V
  rw [and32 _ _ (by omega) (by omega), Nat.and_two_pow_sub_one_eq_mod]
  have h2 := val_drop l (l.length - n.toNat)
  rw [show l.length - (l.length - n.toNat) = n.toNat by omega] at h2
  rw [h2]
theorem V_nonneg (l : List Bool) : 0 ≤ V l := by unfold V; omega
theorem V_lt8 {l : List Bool} (h : l.length ≤ 8) : V l < 256 := by
  have := val_lt l
  have h2 : 2 ^ l.length ≤ 2 ^ 8 := Nat.pow_le_pow_right (by decide) h
  unfold V
  have : (2 : Nat) ^ 8 = 256 := by decide
  omega
theorem V_inj {a b : List Bool} (h : a.length = b.length) (hv : V a = V b) : a = b := val_inj h (by unfold V at hv; omega)
/-- Every byte is eight bits. -/
theorem ex_bits : ∀ (n v : Nat), v < 2 ^ n → ∃ l : List Bool, l.length = n ∧ val l = v
  | 0, v, h => ⟨[], rfl, by simp at h; simp [val, h]⟩
  | n + 1, v, h => by
    obtain ⟨l, h1, h2⟩ := ex_bits n (v / 2) (by rw [Nat.pow_succ] at h; omega)
    refine ⟨l ++ [decide (v % 2 = 1)], by simp [h1], ?_⟩
    rw [val_append, h2, val_one]
    simp only [List.length_singleton, Nat.pow_one]
    by_cases c : v % 2 = 1
    · simp [c]; omega
    · simp [c]; omega
theorem ex_bytes : ∀ (b : List Int), (∀ x ∈ b, 0 ≤ x ∧ x < 256) → ∃ g : List (List Bool), (∀ x ∈ g, x.length = 8) ∧ g.map V = b
  | [], _ => ⟨[], by simp, rfl⟩
  | x :: b, h => by
    obtain ⟨g, h1, h2⟩ := ex_bytes b (fun y hy => h y (List.mem_cons_of_mem _ hy))
    have hx := h x (List.mem_cons_self ..)
    obtain ⟨l, h3, h4⟩ := ex_bits 8 x.toNat (by omega)
    refine ⟨l :: g, fun y hy => ?_, ?_⟩
    · rcases List.mem_cons.1 hy with rfl | hy
      · exact h3
      · exact h1 y hy
    · rw [List.map_cons, h2]
      congr 1
      unfold V
      rw [h4]; omega
end Go.Proofs.YtbmljgahpicmbaaSt
