/-- the field of 256 elements -/
structure GF where
  b : BitVec 8
deriving DecidableEq

namespace GF
@[ext] theorem ext' {x y : GF} (h : x.b = y.b) : x = y := by cases x; cases y; simp_all

def add (x y : GF) : GF := ⟨x.b ^^^ y.b⟩
def dblB (a : BitVec 8) : BitVec 8 := (a <<< 1) ^^^ (if a.msb then 45#8 else 0#8)
def dbl (x : GF) : GF := ⟨dblB x.b⟩
instance : Add GF := ⟨add⟩
instance : Zero GF := ⟨⟨0#8⟩⟩
instance : One GF := ⟨⟨1#8⟩⟩
theorem add_def (x y : GF) : x + y = ⟨x.b ^^^ y.b⟩ := rfl
theorem zero_def : (0 : GF) = ⟨0#8⟩ := rfl
theorem one_def : (1 : GF) = ⟨1#8⟩ := rfl
theorem add_assoc (x y z : GF) : x + y + z = x + (y + z) := by simp [add_def, BitVec.xor_assoc]
theorem add_comm (x y : GF) : x + y = y + x := by simp [add_def, BitVec.xor_comm]
theorem add_left_comm (x y z : GF) : x + (y + z) = y + (x + z) := by rw [← add_assoc, add_comm x y, add_assoc]
theorem add_self (x : GF) : x + x = 0 := by simp [add_def, zero_def]
theorem add_zero (x : GF) : x + 0 = x := by simp [add_def, zero_def]
theorem zero_add (x : GF) : 0 + x = x := by simp [add_def, zero_def]
theorem add_cancel (x y : GF) : x + (x + y) = y := by rw [← add_assoc, add_self, zero_add]
theorem add_eq_zero {x y : GF} : x + y = 0 ↔ x = y := by
  constructor
  · intro h; have := congrArg (x + ·) h; simp only [add_cancel, add_zero] at this; exact this.symm
  · rintro rfl; exact add_self _
instance : Std.Associative (α := GF) (· + ·) := ⟨add_assoc⟩
instance : Std.Commutative (α := GF) (· + ·) := ⟨add_comm⟩

theorem dblB_xor (a c : BitVec 8) : dblB (a ^^^ c) = dblB a ^^^ dblB c := by
  have h : (a ^^^ c).msb = Bool.xor a.msb c.msb := by simp
  unfold dblB
  rw [h, BitVec.shiftLeft_xor_distrib]
  have e : ∀ u v p : BitVec 8, u ^^^ p ^^^ (v ^^^ p) = u ^^^ v := by
    intro u v p
    rw [show u ^^^ p ^^^ (v ^^^ p) = u ^^^ v ^^^ (p ^^^ p) by ac_rfl, BitVec.xor_self, BitVec.xor_zero]
  cases a.msb <;> cases c.msb
  · simp
  · simp; ac_rfl
  · simp; ac_rfl
  · simp only [Bool.xor_self, Bool.false_eq_true, if_true, if_false, BitVec.xor_zero]; exact (e _ _ _).symm
theorem dbl_add (x y : GF) : dbl (x + y) = dbl x + dbl y := by simp [dbl, add_def, dblB_xor]
theorem dbl_zero : dbl 0 = 0 := by decide

/-- product: k bits of c -/
def mulB : Nat → GF → Nat → GF
  | 0, _, _ => 0
  | k + 1, a, c => (if c % 2 = 1 then a else 0) + mulB k (dbl a) (c / 2)
def mul (x y : GF) : GF := mulB 8 x y.b.toNat
instance : Mul GF := ⟨mul⟩
theorem mul_def (x y : GF) : x * y = mulB 8 x y.b.toNat := rfl
theorem mulB_dbl (k : Nat) : ∀ (a : GF) (c : Nat), mulB k (dbl a) c = dbl (mulB k a c) := by
  induction k with
  | zero => intro a c; exact dbl_zero.symm
  | succ k ih =>
    intro a c
    simp only [mulB, dbl_add, ih]
    split <;> simp [dbl_zero]
theorem mulB_add (k : Nat) : ∀ (a a' : GF) (c : Nat), mulB k (a + a') c = mulB k a c + mulB k a' c := by
  induction k with
  | zero => intro a a' c; exact (add_zero 0).symm
  | succ k ih =>
    intro a a' c
    simp only [mulB, dbl_add, ih]
    split
    · ac_rfl
    · simp only [zero_add]
theorem mulB_zero (k : Nat) : ∀ c, mulB k 0 c = 0 := by
  induction k with
  | zero => intro c; rfl
  | succ k ih => intro c; simp only [mulB, dbl_zero, ih, add_zero]; split <;> rfl
theorem dbl_mul (a c : GF) : dbl a * c = dbl (a * c) := mulB_dbl 8 a _
theorem add_mul (a a' c : GF) : (a + a') * c = a * c + a' * c := mulB_add 8 a a' _
theorem zero_mul (c : GF) : 0 * c = 0 := mulB_zero 8 _

instance decAll (p : GF → Prop) [DecidablePred p] : Decidable (∀ x, p x) :=
  decidable_of_iff (∀ i : Fin 256, p ⟨⟨i⟩⟩) ⟨fun h x => h x.b.toFin, fun h _ => h _⟩
theorem one_mul (c : GF) : 1 * c = c := by revert c; decide +kernel

def dblN : Nat → GF → GF
  | 0, a => a
  | n + 1, a => dbl (dblN n a)
theorem dblN_add (m n : Nat) (a : GF) : dblN (m + n) a = dblN m (dblN n a) := by
  induction m with
  | zero => simp [dblN]
  | succ m ih => rw [show m + 1 + n = m + n + 1 by omega]; simp only [dblN, ih]
theorem dblN_mul (n : Nat) (a c : GF) : dblN n a * c = dblN n (a * c) := by
  induction n with
  | zero => rfl
  | succ n ih => simp only [dblN, dbl_mul, ih]
/-- powers of 2 -/
def ex (n : Nat) : GF := dblN n 1
theorem ex_mul (m n : Nat) : ex m * ex n = ex (m + n) := by
  unfold ex; rw [dblN_mul, one_mul, ← dblN_add]
/-- logarithm -/
def lgFrom : Nat → Nat → GF → GF → Nat
  | 0, n, _, _ => n
  | k + 1, n, x, a => if x = a then n else lgFrom k (n + 1) (dbl x) a
def lg (a : GF) : Nat := lgFrom 255 0 1 a
theorem ex_lg : ∀ a : GF, a ≠ 0 → ex (lg a) = a := by decide +kernel
theorem lg_lt : ∀ a : GF, a ≠ 0 → lg a < 255 := by decide +kernel
theorem ex_255 : ex 255 = 1 := by decide +kernel
theorem lg_ex : ∀ n < 255, lg (ex n) = n := by decide +kernel
theorem ex_ne : ∀ n < 255, ex n ≠ 0 := by decide +kernel
theorem ex_add_255 (n : Nat) : ex (n + 255) = ex n := by
  unfold ex; rw [dblN_add]; exact congrArg (dblN n) ex_255
theorem ex_mod (n : Nat) : ex n = ex (n % 255) := by
  have h : ∀ q r, ex (r + 255 * q) = ex r := by
    intro q r
    induction q with
    | zero => rfl
    | succ q ih => rw [show r + 255 * (q + 1) = r + 255 * q + 255 by omega, ex_add_255, ih]
  conv => lhs; rw [← Nat.mod_add_div n 255]
  exact h _ _
theorem ex_ne_zero (n : Nat) : ex n ≠ 0 := by rw [ex_mod]; exact ex_ne _ (Nat.mod_lt _ (by omega))
theorem mul_zero (a : GF) : a * 0 = 0 := by revert a; decide +kernel
theorem mul_comm (a c : GF) : a * c = c * a := by
  by_cases ha : a = 0
  · subst ha; rw [zero_mul, mul_zero]
  by_cases hc : c = 0
  · subst hc; rw [zero_mul, mul_zero]
  rw [← ex_lg a ha, ← ex_lg c hc, ex_mul, ex_mul, Nat.add_comm]
theorem mul_assoc (a c d : GF) : a * c * d = a * (c * d) := by
  by_cases ha : a = 0
  · subst ha; simp only [zero_mul]
  by_cases hc : c = 0
  · subst hc; simp only [zero_mul, mul_zero]
  by_cases hd : d = 0
  · subst hd; simp only [mul_zero]
  rw [← ex_lg a ha, ← ex_lg c hc, ← ex_lg d hd]; simp only [ex_mul, Nat.add_assoc]
theorem mul_left_comm (a c d : GF) : a * (c * d) = c * (a * d) := by rw [← mul_assoc, mul_comm a c, mul_assoc]
theorem mul_one (a : GF) : a * 1 = a := by rw [mul_comm, one_mul]
theorem mul_add (a c d : GF) : a * (c + d) = a * c + a * d := by rw [mul_comm, add_mul, mul_comm c, mul_comm d]
instance : Std.Associative (α := GF) (· * ·) := ⟨mul_assoc⟩
instance : Std.Commutative (α := GF) (· * ·) := ⟨mul_comm⟩
theorem one_ne_zero : (1 : GF) ≠ 0 := by decide
theorem mul_eq_zero {a c : GF} : a * c = 0 ↔ a = 0 ∨ c = 0 := by
  constructor
  · intro h
    by_cases ha : a = 0
    · exact Or.inl ha
    by_cases hc : c = 0
    · exact Or.inr hc
    rw [← ex_lg a ha, ← ex_lg c hc, ex_mul] at h
    exact absurd h (ex_ne_zero _)
  · rintro (rfl | rfl)
    · exact zero_mul _
    · exact mul_zero _
/-- inverse -/
def inv (a : GF) : GF := if a = 0 then 0 else ex (255 - lg a)
theorem mul_inv (a : GF) (h : a ≠ 0) : a * inv a = 1 := by
  unfold inv; rw [if_neg h]
  conv => lhs; lhs; rw [← ex_lg a h]
  have := lg_lt a h
  rw [ex_mul, show lg a + (255 - lg a) = 255 by omega, ex_255]
theorem mul_cancel {a c d : GF} (h : a ≠ 0) (e : a * c = a * d) : c = d := by
  have : inv a * (a * c) = inv a * (a * d) := by rw [e]
  rw [← mul_assoc, ← mul_assoc, mul_comm (inv a), mul_inv a h, one_mul, one_mul] at this; exact this
end GF
