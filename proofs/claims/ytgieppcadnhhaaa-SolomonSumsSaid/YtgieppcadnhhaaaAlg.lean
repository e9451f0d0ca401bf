/- The field, series, sums, polynomials: plain texts with no program in sight. -/
import Derived.Below
import Derived.OpenShut
import Derived.IntWalk
import Derived.Laws.BytesArg
section
/-! wraps as remainders -/
namespace Go.Ar
open Go Go.RowKit
theorem wu8 (n : Int) : IntKind.u8.wrap n = n % 256 := by
  simp [IntKind.wrap, IntKind.bits, IntKind.signed]
theorem w64 {n : Int} (h : -9223372036854775808 ≤ n) (h' : n ≤ 9223372036854775807) : wrap64 n = n := by
  unfold wrap64; omega
theorem tmodp (a b : Int) (h : 0 ≤ a) : Int.tmod a b = a % b := Int.tmod_eq_emod_of_nonneg h
theorem wi64 {n : Int} (h : -9223372036854775808 ≤ n) (h' : n ≤ 9223372036854775807) : IntKind.i64.wrap n = n := by
  rw [IntKind.wrap_i64]; omega
end Go.Ar
end
section
/-- the field of 256 elements -/
structure GF where
  b : BitVec 8
deriving DecidableEq

namespace GF
@[ext] theorem ext' {x y : GF} (h : x.b = y.b) : x = y := by cases x; cases y; simp_all

def add (x y : GF) : GF := ⟨x.b ^^^ y.b⟩
def dblB (a : BitVec 8) : BitVec 8 := (a <<< 1) ^^^ (if a.msb then 45#8 else 0#8)
def dbl (x : GF) : GF := ⟨dblB x.b⟩
instance : Add GF := ⟨add⟩
instance : Zero GF := ⟨⟨0#8⟩⟩
instance : One GF := ⟨⟨1#8⟩⟩
theorem add_def (x y : GF) : x + y = ⟨x.b ^^^ y.b⟩ := rfl
theorem zero_def : (0 : GF) = ⟨0#8⟩ := rfl
theorem add_assoc (x y z : GF) : x + y + z = x + (y + z) := by simp [add_def, BitVec.xor_assoc]
theorem add_comm (x y : GF) : x + y = y + x := by simp [add_def, BitVec.xor_comm]
theorem add_self (x : GF) : x + x = 0 := by simp [add_def, zero_def]
theorem add_zero (x : GF) : x + 0 = x := by simp [add_def, zero_def]
theorem zero_add (x : GF) : 0 + x = x := by simp [add_def, zero_def]
theorem add_cancel (x y : GF) : x + (x + y) = y := by rw [← add_assoc, add_self, zero_add]
theorem add_eq_zero {x y : GF} : x + y = 0 ↔ x = y := by
  constructor
  · intro h; have := congrArg (x + ·) h; simp only [add_cancel, add_zero] at this; exact this.symm
  · rintro rfl; exact add_self _
instance : Std.Associative (α := GF) (· + ·) := ⟨add_assoc⟩
instance : Std.Commutative (α := GF) (· + ·) := ⟨add_comm⟩

theorem dblB_xor (a c : BitVec 8) : dblB (a ^^^ c) = dblB a ^^^ dblB c := by
  have h : (a ^^^ c).msb = Bool.xor a.msb c.msb := by simp
  unfold dblB
  rw [h, BitVec.shiftLeft_xor_distrib]
  have e : ∀ u v p : BitVec 8, u ^^^ p ^^^ (v ^^^ p) = u ^^^ v := by
    intro u v p
    rw [show u ^^^ p ^^^ (v ^^^ p) = u ^^^ v ^^^ (p ^^^ p) by ac_rfl, BitVec.xor_self, BitVec.xor_zero]
  cases a.msb <;> cases c.msb
  · simp
  · simp; ac_rfl
  · simp; ac_rfl
  · simp only [Bool.xor_self, Bool.false_eq_true, if_true, if_false, BitVec.xor_zero]; exact (e _ _ _).symm
theorem dbl_add (x y : GF) : dbl (x + y) = dbl x + dbl y := by simp [dbl, add_def, dblB_xor]
theorem dbl_zero : dbl 0 = 0 := by decide

/-- product: k bits of c -/
def mulB : Nat → GF → Nat → GF
  | 0, _, _ => 0
  | k + 1, a, c => (if c % 2 = 1 then a else 0) + mulB k (dbl a) (c / 2)
def mul (x y : GF) : GF := mulB 8 x y.b.toNat
instance : Mul GF := ⟨mul⟩
theorem mulB_dbl (k : Nat) : ∀ (a : GF) (c : Nat), mulB k (dbl a) c = dbl (mulB k a c) := by
  induction k with
  | zero => intro a c; exact dbl_zero.symm
  | succ k ih =>
    intro a c
    simp only [mulB, dbl_add, ih]
    split <;> simp [dbl_zero]
theorem mulB_add (k : Nat) : ∀ (a a' : GF) (c : Nat), mulB k (a + a') c = mulB k a c + mulB k a' c := by
  induction k with
  | zero => intro a a' c; exact (add_zero 0).symm
  | succ k ih =>
    intro a a' c
    simp only [mulB, dbl_add, ih]
    split
    · ac_rfl
    · simp only [zero_add]
theorem mulB_zero (k : Nat) : ∀ c, mulB k 0 c = 0 := by
  induction k with
  | zero => intro c; rfl
  | succ k ih => intro c; simp only [mulB, dbl_zero, ih, add_zero]; split <;> rfl
theorem dbl_mul (a c : GF) : dbl a * c = dbl (a * c) := mulB_dbl 8 a _
theorem add_mul (a a' c : GF) : (a + a') * c = a * c + a' * c := mulB_add 8 a a' _
theorem zero_mul (c : GF) : 0 * c = 0 := mulB_zero 8 _

instance decAll (p : GF → Prop) [DecidablePred p] : Decidable (∀ x, p x) :=
  decidable_of_iff (∀ i : Fin 256, p ⟨⟨i⟩⟩) ⟨fun h x => h x.b.toFin, fun h _ => h _⟩
theorem one_mul (c : GF) : 1 * c = c := by revert c; decide +kernel

def dblN : Nat → GF → GF
  | 0, a => a
  | n + 1, a => dbl (dblN n a)
theorem dblN_add (m n : Nat) (a : GF) : dblN (m + n) a = dblN m (dblN n a) := by
  induction m with
  | zero => simp [dblN]
  | succ m ih => rw [show m + 1 + n = m + n + 1 by omega]; simp only [dblN, ih]
theorem dblN_mul (n : Nat) (a c : GF) : dblN n a * c = dblN n (a * c) := by
  induction n with
  | zero => rfl
  | succ n ih => simp only [dblN, dbl_mul, ih]
/-- powers of 2 -/
def ex (n : Nat) : GF := dblN n 1
theorem ex_mul (m n : Nat) : ex m * ex n = ex (m + n) := by
  unfold ex; rw [dblN_mul, one_mul, ← dblN_add]
/-- logarithm -/
def lgFrom : Nat → Nat → GF → GF → Nat
  | 0, n, _, _ => n
  | k + 1, n, x, a => if x = a then n else lgFrom k (n + 1) (dbl x) a
def lg (a : GF) : Nat := lgFrom 255 0 1 a
theorem ex_lg : ∀ a : GF, a ≠ 0 → ex (lg a) = a := by decide +kernel
theorem lg_lt : ∀ a : GF, a ≠ 0 → lg a < 255 := by decide +kernel
theorem ex_255 : ex 255 = 1 := by decide +kernel
theorem lg_ex : ∀ n < 255, lg (ex n) = n := by decide +kernel
theorem ex_ne : ∀ n < 255, ex n ≠ 0 := by decide +kernel
theorem ex_add_255 (n : Nat) : ex (n + 255) = ex n := by
  unfold ex; rw [dblN_add]; exact congrArg (dblN n) ex_255
theorem ex_mod (n : Nat) : ex n = ex (n % 255) := by
  have h : ∀ q r, ex (r + 255 * q) = ex r := by
    intro q r
    induction q with
    | zero => rfl
    | succ q ih => rw [show r + 255 * (q + 1) = r + 255 * q + 255 by omega, ex_add_255, ih]
  conv => lhs; rw [← Nat.mod_add_div n 255]
  exact h _ _
theorem ex_ne_zero (n : Nat) : ex n ≠ 0 := by rw [ex_mod]; exact ex_ne _ (Nat.mod_lt _ (by omega))
theorem mul_zero (a : GF) : a * 0 = 0 := by revert a; decide +kernel
theorem mul_comm (a c : GF) : a * c = c * a := by
  by_cases ha : a = 0
  · subst ha; rw [zero_mul, mul_zero]
  by_cases hc : c = 0
  · subst hc; rw [zero_mul, mul_zero]
  rw [← ex_lg a ha, ← ex_lg c hc, ex_mul, ex_mul, Nat.add_comm]
theorem mul_assoc (a c d : GF) : a * c * d = a * (c * d) := by
  by_cases ha : a = 0
  · subst ha; simp only [zero_mul]
  by_cases hc : c = 0
  · subst hc; simp only [zero_mul, mul_zero]
  by_cases hd : d = 0
  · subst hd; simp only [mul_zero]
  rw [← ex_lg a ha, ← ex_lg c hc, ← ex_lg d hd]; simp only [ex_mul, Nat.add_assoc]
theorem mul_left_comm (a c d : GF) : a * (c * d) = c * (a * d) := by rw [← mul_assoc, mul_comm a c, mul_assoc]
theorem mul_one (a : GF) : a * 1 = a := by rw [mul_comm, one_mul]
theorem mul_add (a c d : GF) : a * (c + d) = a * c + a * d := by rw [mul_comm, add_mul, mul_comm c, mul_comm d]
instance : Std.Associative (α := GF) (· * ·) := ⟨mul_assoc⟩
instance : Std.Commutative (α := GF) (· * ·) := ⟨mul_comm⟩
theorem one_ne_zero : (1 : GF) ≠ 0 := by decide
theorem mul_eq_zero {a c : GF} : a * c = 0 ↔ a = 0 ∨ c = 0 := by
  constructor
  · intro h
    by_cases ha : a = 0
    · exact Or.inl ha
    by_cases hc : c = 0
    · exact Or.inr hc
    rw [← ex_lg a ha, ← ex_lg c hc, ex_mul] at h
    exact absurd h (ex_ne_zero _)
  · rintro (rfl | rfl)
    · exact zero_mul _
    · exact mul_zero _
/-- inverse -/
def inv (a : GF) : GF := if a = 0 then 0 else ex (255 - lg a)
theorem mul_inv (a : GF) (h : a ≠ 0) : a * inv a = 1 := by
  unfold inv; rw [if_neg h]
  conv => lhs; lhs; rw [← ex_lg a h]
  have := lg_lt a h
  rw [ex_mul, show lg a + (255 - lg a) = 255 by omega, ex_255]
theorem mul_cancel {a c d : GF} (h : a ≠ 0) (e : a * c = a * d) : c = d := by
  have : inv a * (a * c) = inv a * (a * d) := by rw [e]
  rw [← mul_assoc, ← mul_assoc, mul_comm (inv a), mul_inv a h, one_mul, one_mul] at this; exact this
end GF
end
section
/-! power series over GF -/
abbrev PS := Nat → GF
namespace PS
def tail (f : PS) : PS := fun n => f (n + 1)
def cons (a : GF) (f : PS) : PS := fun n => match n with | 0 => a | n + 1 => f n
def zero : PS := fun _ => 0
def add (f g : PS) : PS := fun n => f n + g n
def smul (a : GF) (f : PS) : PS := fun n => a * f n
def conv (f g : PS) : Nat → GF
  | 0 => f 0 * g 0
  | k + 1 => f 0 * g (k + 1) + conv (tail f) g k
def C (a : GF) : PS := cons a zero
theorem tail_add (f g : PS) : tail (add f g) = add (tail f) (tail g) := rfl
theorem tail_smul (a : GF) (f : PS) : tail (smul a f) = smul a (tail f) := rfl
theorem tail_cons (a : GF) (f : PS) : tail (cons a f) = f := rfl
theorem cons_eta (f : PS) : cons (f 0) (tail f) = f := by funext n; cases n <;> rfl
theorem cons_zero : cons 0 zero = zero := by funext n; cases n <;> rfl
theorem tail_zero : tail zero = zero := rfl
theorem add_comm (f g : PS) : add f g = add g f := by funext n; exact GF.add_comm _ _
theorem add_assoc (f g h : PS) : add (add f g) h = add f (add g h) := by funext n; exact GF.add_assoc _ _ _
theorem add_zero (f : PS) : add f zero = f := by funext n; exact GF.add_zero _
theorem zero_add (f : PS) : add zero f = f := by funext n; exact GF.zero_add _
theorem add_self (f : PS) : add f f = zero := by funext n; exact GF.add_self _
theorem add_cancel (f g : PS) : add f (add f g) = g := by rw [← add_assoc, add_self, zero_add]
theorem add_eq_zero {f g : PS} (h : add f g = zero) : f = g := by
  funext n; exact GF.add_eq_zero.1 (congrFun h n)
instance : Std.Associative add := ⟨add_assoc⟩
instance : Std.Commutative add := ⟨add_comm⟩
theorem smul_add (a : GF) (f g : PS) : smul a (add f g) = add (smul a f) (smul a g) := by
  funext n; exact GF.mul_add _ _ _
theorem smul_zero (a : GF) : smul a zero = zero := by funext n; exact GF.mul_zero _
theorem zero_smul (f : PS) : smul 0 f = zero := by funext n; exact GF.zero_mul _
theorem one_smul (f : PS) : smul 1 f = f := by funext n; exact GF.one_mul _

theorem conv_tail (f g : PS) : tail (conv f g) = add (smul (f 0) (tail g)) (conv (tail f) g) := rfl
theorem conv_add_left (k : Nat) : ∀ f f' g : PS, conv (add f f') g k = conv f g k + conv f' g k := by
  induction k with
  | zero => intro f f' g; exact GF.add_mul _ _ _
  | succ k ih => intro f f' g; simp only [conv, tail_add, ih]; simp only [add, GF.add_mul]; ac_rfl
theorem conv_add_right (k : Nat) : ∀ f g g' : PS, conv f (add g g') k = conv f g k + conv f g' k := by
  induction k with
  | zero => intro f g g'; exact GF.mul_add _ _ _
  | succ k ih => intro f g g'; simp only [conv, ih]; simp only [add, GF.mul_add]; ac_rfl
theorem conv_smul_left (k : Nat) : ∀ (a : GF) (f g : PS), conv (smul a f) g k = a * conv f g k := by
  induction k with
  | zero => intro a f g; exact GF.mul_assoc _ _ _
  | succ k ih => intro a f g; simp only [conv, tail_smul, ih, GF.mul_add]; simp only [smul, GF.mul_assoc]
theorem conv_right (k : Nat) : ∀ f g : PS, conv f g (k + 1) = f (k + 1) * g 0 + conv f (tail g) k := by
  induction k with
  | zero => intro f g; simp only [conv, tail]; exact GF.add_comm _ _
  | succ k ih =>
    intro f g
    have h := ih (tail f) g
    rw [conv, h]; simp only [conv, tail]; ac_rfl
theorem conv_comm' (k : Nat) : ∀ f g : PS, conv f g k = conv g f k := by
  induction k with
  | zero => intro f g; exact GF.mul_comm _ _
  | succ k ih => intro f g; rw [conv_right, ih]; simp only [conv]; rw [GF.mul_comm]
theorem conv_assoc' (k : Nat) : ∀ f g h : PS, conv (conv f g) h k = conv f (conv g h) k := by
  induction k with
  | zero => intro f g h; exact GF.mul_assoc _ _ _
  | succ k ih =>
    intro f g h
    rw [conv, conv_tail, conv_add_left, conv_smul_left, ih]
    simp only [conv, GF.mul_add, GF.mul_assoc, GF.add_assoc]
theorem conv_comm (f g : PS) : conv f g = conv g f := funext fun k => conv_comm' k f g
theorem conv_assoc (f g h : PS) : conv (conv f g) h = conv f (conv g h) := funext fun k => conv_assoc' k f g h
theorem add_conv (f f' g : PS) : conv (add f f') g = add (conv f g) (conv f' g) := funext fun k => conv_add_left k f f' g
theorem conv_add (f g g' : PS) : conv f (add g g') = add (conv f g) (conv f g') := funext fun k => conv_add_right k f g g'
instance : Std.Associative conv := ⟨conv_assoc⟩
instance : Std.Commutative conv := ⟨conv_comm⟩
theorem zero_conv (g : PS) : conv zero g = zero := by
  have := add_conv zero zero g
  rw [add_zero] at this
  have h2 := congrArg (add (conv zero g)) this
  rw [add_self, add_zero] at h2; exact h2.symm
theorem conv_zero (f : PS) : conv f zero = zero := by rw [conv_comm, zero_conv]
theorem C_conv (a : GF) (g : PS) : conv (C a) g = smul a g := by
  funext k
  cases k with
  | zero => rfl
  | succ k => show a * g (k + 1) + conv (tail (C a)) g k = _; rw [C, tail_cons, zero_conv]; exact GF.add_zero _
theorem one_conv (g : PS) : conv (C 1) g = g := by rw [C_conv, one_smul]
theorem cons_conv (a : GF) (f g : PS) : conv (cons a f) g = add (smul a g) (cons 0 (conv f g)) := by
  funext k
  cases k with
  | zero => exact (GF.add_zero _).symm
  | succ k => rfl
theorem conv_cons0 (f g : PS) : conv (cons 0 f) g = cons 0 (conv f g) := by
  rw [cons_conv, zero_smul, zero_add]

/-- times x^n -/
def shift : Nat → PS → PS
  | 0, f => f
  | n + 1, f => cons 0 (shift n f)
theorem shift_conv (n : Nat) (f g : PS) : conv (shift n f) g = shift n (conv f g) := by
  induction n with
  | zero => rfl
  | succ n ih => simp only [shift]; rw [conv_cons0, ih]
theorem conv_shift (n : Nat) (f g : PS) : conv f (shift n g) = shift n (conv f g) := by
  rw [conv_comm, shift_conv, conv_comm]
theorem shift_lt (n : Nat) : ∀ (f : PS) (k : Nat), k < n → shift n f k = 0 := by
  induction n with
  | zero => intro f k h; omega
  | succ n ih =>
    intro f k h
    cases k with
    | zero => rfl
    | succ k => exact ih f k (by omega)
theorem shift_ge (n : Nat) : ∀ (f : PS) (k : Nat), shift n f (k + n) = f k := by
  induction n with
  | zero => intro f k; rfl
  | succ n ih => intro f k; exact ih f k
theorem shift_ge' (n : Nat) (f : PS) (k : Nat) (h : n ≤ k) : shift n f k = f (k - n) := by
  have := shift_ge n f (k - n); rwa [Nat.sub_add_cancel h] at this
theorem shift_add (m n : Nat) (f : PS) : shift m (shift n f) = shift (m + n) f := by
  induction m with
  | zero => rw [Nat.zero_add]; rfl
  | succ m ih => rw [show m + 1 + n = m + n + 1 by omega]; simp only [shift, ih]

/-- fewer than n coefficients -/
def Bd (f : PS) (n : Nat) : Prop := ∀ k, n ≤ k → f k = 0
theorem Bd.mono {f : PS} {m n : Nat} (h : Bd f m) (hm : m ≤ n) : Bd f n := fun k hk => h k (by omega)
theorem Bd.tail {f : PS} {n : Nat} (h : Bd f (n + 1)) : Bd (tail f) n := fun k hk => h (k + 1) (by omega)
theorem Bd.zero (n : Nat) : Bd zero n := fun _ _ => rfl
theorem Bd.cons {a : GF} {f : PS} {n : Nat} (h : Bd f n) : Bd (cons a f) (n + 1) := fun k hk => by
  cases k with
  | zero => omega
  | succ k => exact h k (by omega)
theorem Bd.add {f g : PS} {n : Nat} (h : Bd f n) (h' : Bd g n) : Bd (add f g) n := fun k hk => by
  show f k + g k = 0; rw [h k hk, h' k hk]; exact GF.add_zero _
theorem Bd.smul {f : PS} {n : Nat} (a : GF) (h : Bd f n) : Bd (smul a f) n := fun k hk => by
  show a * f k = 0; rw [h k hk]; exact GF.mul_zero _
theorem Bd.shift {f : PS} {n : Nat} (m : Nat) (h : Bd f n) : Bd (shift m f) (m + n) := fun k hk => by
  rw [shift_ge' m f k (by omega)]; exact h _ (by omega)
theorem Bd.eq_zero {f : PS} (h : Bd f 0) : f = PS.zero := funext fun k => h k (by omega)
theorem Bd.conv {m : Nat} : ∀ {f g : PS} {n : Nat}, Bd f (m + 1) → Bd g n → Bd (conv f g) (m + n) := by
  induction m with
  | zero =>
    intro f g n hf hg
    have : f = C (f 0) := by rw [← cons_eta f, (Bd.tail hf).eq_zero]; rfl
    rw [this, C_conv]; exact (hg.smul _).mono (by omega)
  | succ m ih =>
    intro f g n hf hg
    rw [← cons_eta f, cons_conv]
    refine Bd.add ((hg.smul _).mono (by omega)) ?_
    have := Bd.cons (a := 0) (ih (Bd.tail hf) hg)
    exact this.mono (by omega)
theorem Bd.conv' {f g : PS} {m n : Nat} (hf : Bd f m) (hg : Bd g n) : Bd (PS.conv f g) (m + n) :=
  (Bd.conv (hf.mono (Nat.le_succ m)) hg)
theorem conv_top {m : Nat} : ∀ {f g : PS} {d : Nat}, Bd f (m + 1) → Bd g (d + 1) → conv f g (m + d) = f m * g d := by
  induction m with
  | zero =>
    intro f g d hf hg
    have : f = C (f 0) := by rw [← cons_eta f, (Bd.tail hf).eq_zero]; rfl
    rw [Nat.zero_add]
    conv => lhs; rw [this]
    rw [C_conv]; rfl
  | succ m ih =>
    intro f g d hf hg
    rw [← cons_eta f, cons_conv]
    have := ih (Bd.tail hf) hg
    rw [show m + 1 + d = m + d + 1 by omega]
    show f 0 * g (m + d + 1) + conv (tail f) g (m + d) = f (m + 1) * g d
    rw [hg _ (by omega), GF.mul_zero, GF.zero_add, this]; rfl
/-- a bounded series that is not zero has a top -/
theorem Bd.top {f : PS} {n : Nat} (h : Bd f n) : f = PS.zero ∨ ∃ m, m < n ∧ Bd f (m + 1) ∧ f m ≠ 0 := by
  induction n with
  | zero => exact Or.inl h.eq_zero
  | succ n ih =>
    by_cases hn : f n = 0
    · have h' : Bd f n := fun k hk => by
        by_cases e : k = n
        · rw [e]; exact hn
        · exact h k (by omega)
      rcases ih h' with h | ⟨m, hm, h1, h2⟩
      · exact Or.inl h
      · exact Or.inr ⟨m, by omega, h1, h2⟩
    · exact Or.inr ⟨n, by omega, h, hn⟩
/-- the value, of n coefficients -/
def ev : Nat → PS → GF → GF
  | 0, _, _ => 0
  | n + 1, f, x => f 0 + x * ev n (tail f) x
theorem ev_zero (n : Nat) (x : GF) : ev n zero x = 0 := by
  induction n with
  | zero => rfl
  | succ n ih => simp only [ev, tail_zero, ih, GF.mul_zero]; exact GF.add_zero _
theorem ev_add (n : Nat) : ∀ (f g : PS) (x : GF), ev n (add f g) x = ev n f x + ev n g x := by
  induction n with
  | zero => intro f g x; exact (GF.add_zero 0).symm
  | succ n ih => intro f g x; simp only [ev, tail_add, ih, GF.mul_add]; simp only [add]; ac_rfl
theorem ev_smul (n : Nat) : ∀ (a : GF) (f : PS) (x : GF), ev n (smul a f) x = a * ev n f x := by
  induction n with
  | zero => intro a f x; exact (GF.mul_zero a).symm
  | succ n ih => intro a f x; simp only [ev, tail_smul, ih, GF.mul_add, smul, GF.mul_left_comm]
theorem ev_more {n : Nat} : ∀ {f : PS} {m : Nat} (x : GF), Bd f n → n ≤ m → ev m f x = ev n f x := by
  induction n with
  | zero => intro f m x h _; rw [h.eq_zero, ev_zero, ev_zero]
  | succ n ih =>
    intro f m x h hm
    obtain ⟨m, rfl⟩ : ∃ t, m = t + 1 := ⟨m - 1, by omega⟩
    simp only [ev, ih x (Bd.tail h) (Nat.le_of_succ_le_succ hm)]
theorem ev_cons0 (n : Nat) (f : PS) (x : GF) : ev (n + 1) (cons 0 f) x = x * ev n f x := by
  show 0 + x * ev n (tail (cons 0 f)) x = _; rw [GF.zero_add]; rfl
theorem ev_conv {m : Nat} : ∀ {f g : PS} {n : Nat} (x : GF), Bd f m → Bd g n → ev (m + n) (conv f g) x = ev m f x * ev n g x := by
  induction m with
  | zero => intro f g n x h _; rw [h.eq_zero, zero_conv, ev_zero, ev_zero, GF.zero_mul]
  | succ m ih =>
    intro f g n x hf hg
    conv => lhs; rw [← cons_eta f, cons_conv]
    rw [show m + 1 + n = m + n + 1 by omega, ev_add, ev_smul, ev_cons0, ih x (Bd.tail hf) hg, ev_more x hg (by omega)]
    simp only [ev, GF.add_mul, GF.mul_assoc]
/-- top-down: one coefficient more -/
theorem ev_snoc (n : Nat) : ∀ (f : PS) (x : GF) , ev (n + 1) f x = ev n f x + f n * ev (n + 1) (shift n (C 1)) x := by
  induction n with
  | zero =>
    intro f x; show f 0 + x * 0 = 0 + f 0 * (1 + x * 0); simp only [GF.mul_zero, GF.add_zero, GF.zero_add, GF.mul_one]
  | succ n ih =>
    intro f x
    have h : ev (n + 1 + 1) (shift (n + 1) (C 1)) x = x * ev (n + 1) (shift n (C 1)) x := ev_cons0 _ _ _
    rw [h, ev, ih (tail f) x, GF.mul_add]; simp only [ev]
    show f 0 + (x * ev n (tail f) x + x * (f (n+1) * _)) = _
    rw [GF.add_assoc, GF.mul_left_comm]
end PS
end
section
/-! polynomials as lists of coefficients, lowest first -/
namespace Pl
/-- coefficients of a list -/
def co (l : List GF) : PS := fun k => l.getD k 0
theorem co_nil : co [] = PS.zero := by funext k; simp [co, PS.zero]
theorem co_cons (a : GF) (l : List GF) : co (a :: l) = PS.cons a (co l) := by
  funext k; cases k <;> simp [co, PS.cons]
theorem co_bd (l : List GF) : PS.Bd (co l) l.length := fun k hk => by
  simp [co, List.getElem?_eq_none hk]
theorem co_get (l : List GF) (k : Nat) (h : k < l.length) : co l k = l[k] := by
  simp [co, List.getElem?_eq_getElem h]
/-- without zeros behind -/
def pcons (a : GF) (m : List GF) : List GF := if a = 0 ∧ m = [] then [] else a :: m
def plain (l : List GF) : List GF := l.foldr pcons []
theorem co_pcons (a : GF) (m : List GF) : co (pcons a m) = PS.cons a (co m) := by
  unfold pcons
  split
  · next h => rw [h.1, h.2, co_nil, PS.cons_zero]
  · rw [co_cons]
theorem co_plain (l : List GF) : co (plain l) = co l := by
  induction l with
  | nil => rfl
  | cons a l ih => show co (pcons a (plain l)) = _; rw [co_pcons, ih, co_cons]
theorem plain_last (l : List GF) : ∀ h : plain l ≠ [], (plain l).getLast h ≠ 0 := by
  induction l with
  | nil => intro h; exact absurd rfl h
  | cons a l ih =>
    show ∀ h : pcons a (plain l) ≠ [], (pcons a (plain l)).getLast h ≠ 0
    revert ih
    generalize plain l = m
    intro ih h
    by_cases hm : m = []
    · subst hm
      unfold pcons
      by_cases ha : a = 0
      · exact absurd (by simp [pcons, ha]) h
      · simp [ha]
    · have e : pcons a m = a :: m := by simp [pcons, hm]
      simp only [e, List.getLast_cons hm]
      exact ih hm
/-- a list that ends in no zero -/
def Ends (l : List GF) : Prop := ∀ h : l ≠ [], l.getLast h ≠ 0
theorem ends_ne {l : List GF} (h : Ends l) (h0 : l ≠ []) : co l (l.length - 1) ≠ 0 := by
  have := h h0
  rw [List.getLast_eq_getElem] at this
  rw [co_get]
  · exact this
theorem ends_eq {l m : List GF} (hl : Ends l) (hm : Ends m) (e : co l = co m) : l = m := by
  have len : ∀ {l m : List GF}, Ends l → co l = co m → l.length ≤ m.length := by
    intro l m hl e
    by_cases h0 : l = []
    · subst h0; simp
    · have h1 := ends_ne hl h0
      rw [e] at h1
      have h2 : l.length ≠ 0 := by simpa using h0
      by_cases h3 : l.length ≤ m.length
      · exact h3
      · exact absurd (co_bd m _ (by omega)) h1
  have hlen : l.length = m.length := Nat.le_antisymm (len hl e) (len hm e.symm)
  apply List.ext_getElem hlen
  intro k h1 h2
  rw [← co_get, ← co_get, e]
theorem plain_ends (l : List GF) : Ends (plain l) := plain_last l
theorem plain_of_ends {l : List GF} (h : Ends l) : plain l = l := ends_eq (plain_ends l) h (co_plain l)
theorem plain_eq {l m : List GF} : plain l = plain m ↔ co l = co m :=
  ⟨fun h => by rw [← co_plain l, h, co_plain], fun h => ends_eq (plain_ends _) (plain_ends _) (by rw [co_plain, co_plain, h])⟩
theorem ends_nil : Ends [] := fun h => absurd rfl h
theorem plain_length (l : List GF) : (plain l).length ≤ l.length := by
  by_cases h0 : plain l = []
  · rw [h0]; simp
  · have h1 := ends_ne (plain_ends l) h0
    rw [co_plain] at h1
    have : (plain l).length ≠ 0 := by simpa using h0
    by_cases h : (plain l).length ≤ l.length
    · exact h
    · exact absurd (co_bd l _ (by omega)) h1
theorem plain_nil_iff (l : List GF) : plain l = [] ↔ co l = PS.zero := by
  rw [← co_nil, ← plain_eq]; rfl
theorem co_range {f : PS} {n : Nat} (h : PS.Bd f n) : co ((List.range n).map f) = f := by
  funext k
  by_cases hk : k < n
  · rw [co_get _ _ (by simpa using hk)]; simp
  · rw [co_bd _ _ (by simp; omega), h k (by omega)]
end Pl
end
section
/-! sums, powers, roots -/
namespace GF
def pw (x : GF) : Nat → GF
  | 0 => 1
  | n + 1 => x * pw x n
theorem pw_add (x : GF) (m n : Nat) : pw x (m + n) = pw x m * pw x n := by
  induction m with
  | zero => rw [Nat.zero_add]; exact (one_mul _).symm
  | succ m ih => rw [show m + 1 + n = m + n + 1 by omega]; simp only [pw, ih, mul_assoc]
theorem pw_ex (a n : Nat) : pw (ex a) n = ex (a * n) := by
  induction n with
  | zero => rfl
  | succ n ih => rw [pw, ih, ex_mul, Nat.mul_succ, Nat.add_comm]
theorem pw_mul (x : GF) (m n : Nat) : pw x (m * n) = pw (pw x m) n := by
  induction n with
  | zero => rfl
  | succ n ih => rw [Nat.mul_succ, Nat.add_comm, pw_add, ih]; rfl
theorem pw_255 (x : GF) (h : x ≠ 0) : pw x 255 = 1 := by
  rw [← ex_lg x h, pw_ex, Nat.mul_comm, ex_mod, Nat.mul_mod_right]; rfl
theorem ex_inj {m n : Nat} (hm : m < 255) (hn : n < 255) (h : ex m = ex n) : m = n := by
  rw [← lg_ex m hm, h, lg_ex n hn]
theorem inv_unique {a c : GF} (h : a * c = 1) : c = inv a := by
  have ha : a ≠ 0 := by rintro rfl; rw [zero_mul] at h; exact one_ne_zero h.symm
  exact mul_cancel ha (by rw [h, mul_inv a ha])
theorem inv_pw (a : GF) (h : a ≠ 0) : pw a 254 = inv a := inv_unique (by
  have := pw_255 a h; exact this)
/-- a sum of n -/
def sm : Nat → (Nat → GF) → GF
  | 0, _ => 0
  | n + 1, f => sm n f + f n
theorem sm_congr {n : Nat} {f g : Nat → GF} (h : ∀ i < n, f i = g i) : sm n f = sm n g := by
  induction n with
  | zero => rfl
  | succ n ih => simp only [sm]; rw [ih (fun i hi => h i (by omega)), h n (by omega)]
theorem sm_zero (n : Nat) : sm n (fun _ => 0) = 0 := by
  induction n with
  | zero => rfl
  | succ n ih => simp only [sm, ih]; exact add_zero _
theorem sm_eq_zero {n : Nat} {f : Nat → GF} (h : ∀ i < n, f i = 0) : sm n f = 0 := by
  rw [sm_congr h, sm_zero]
theorem sm_add (n : Nat) (f g : Nat → GF) : sm n (fun i => f i + g i) = sm n f + sm n g := by
  induction n with
  | zero => exact (add_zero 0).symm
  | succ n ih => simp only [sm, ih]; ac_rfl
theorem sm_mul (n : Nat) (a : GF) (f : Nat → GF) : sm n (fun i => a * f i) = a * sm n f := by
  induction n with
  | zero => exact (mul_zero a).symm
  | succ n ih => simp only [sm, ih, mul_add]
theorem sm_swap (m n : Nat) (f : Nat → Nat → GF) : sm m (fun i => sm n (fun k => f i k)) = sm n (fun k => sm m (fun i => f i k)) := by
  induction m with
  | zero => simp only [sm]; exact (sm_zero n).symm
  | succ m ih => simp only [sm, ih]; rw [← sm_add]
theorem sm_front (n : Nat) (f : Nat → GF) : sm (n + 1) f = f 0 + sm n (fun i => f (i + 1)) := by
  induction n with
  | zero => simp only [sm]; rw [zero_add, add_zero]
  | succ n ih => rw [sm, ih]; simp only [sm]; ac_rfl
theorem sm_one {n : Nat} {f : Nat → GF} (j : Nat) (hj : j < n) (h : ∀ i < n, i ≠ j → f i = 0) : sm n f = f j := by
  induction n with
  | zero => omega
  | succ n ih =>
    rw [sm]
    by_cases e : j = n
    · subst e; rw [sm_eq_zero (fun i hi => h i (by omega) (by omega)), zero_add]
    · rw [ih (by omega) (fun i hi => h i (by omega)), h n (by omega) (by omega), add_zero]
end GF
namespace PS
open GF
theorem ev_sm (n : Nat) : ∀ (f : PS) (x : GF), ev n f x = sm n (fun i => f i * pw x i) := by
  induction n with
  | zero => intro f x; rfl
  | succ n ih =>
    intro f x
    rw [ev, ih, sm_front, ← sm_mul]
    show _ = f 0 * 1 + _
    rw [GF.mul_one]
    congr 1
    exact sm_congr fun i _ => by show x * (f (i + 1) * pw x i) = f (i + 1) * (x * pw x i); ac_rfl
/-- the product of x + 2^j, j in a list -/
def roots : List Nat → PS
  | [] => C 1
  | j :: l => conv (cons (ex j) (C 1)) (roots l)
theorem roots_bd (l : List Nat) : Bd (roots l) (l.length + 1) := by
  induction l with
  | nil => exact Bd.cons (Bd.zero 0)
  | cons j l ih =>
    have h : Bd (cons (ex j) (C 1)) 2 := Bd.cons (Bd.cons (Bd.zero 0))
    exact (Bd.conv (m := 1) h ih).mono (by simp; omega)
theorem roots_ev (l : List Nat) (x : GF) : ev (l.length + 1) (roots l) x = l.foldr (fun j v => (x + ex j) * v) 1 := by
  induction l with
  | nil => show 1 + x * 0 = 1; rw [GF.mul_zero, GF.add_zero]
  | cons j l ih =>
    have h : Bd (cons (ex j) (C 1)) 2 := Bd.cons (Bd.cons (Bd.zero 0))
    have e : ev 2 (cons (ex j) (C 1)) x = x + ex j := by
      show ex j + x * (1 + x * 0) = _; rw [GF.mul_zero, GF.add_zero, GF.mul_one, GF.add_comm]
    have hb := Bd.conv (m := 1) h (roots_bd l)
    show ev (l.length + 1 + 1) (conv _ _) x = (x + ex j) * _
    rw [← ih, ← e, ← ev_conv x h (roots_bd l)]
    exact (ev_more x (hb.mono (by omega)) (by omega)).symm
theorem foldr_ne {l : List Nat} {x : GF} (h : ∀ j ∈ l, x ≠ ex j) : l.foldr (fun j v => (x + ex j) * v) 1 ≠ 0 := by
  induction l with
  | nil => exact one_ne_zero
  | cons j l ih =>
    intro e
    rcases mul_eq_zero.1 e with e | e
    · exact h j (by simp) (GF.add_eq_zero.1 e)
    · exact ih (fun k hk => h k (by simp [hk])) e
theorem foldr_eq {l : List Nat} {x : GF} (j : Nat) (hj : j ∈ l) (h : x = ex j) : l.foldr (fun j v => (x + ex j) * v) 1 = 0 := by
  induction l with
  | nil => simp at hj
  | cons i l ih =>
    show (x + ex i) * _ = 0
    by_cases e : j = i
    · subst e; rw [h, GF.add_self, GF.zero_mul]
    · rw [ih (by simpa [e] using hj), GF.mul_zero]
/-- THE LEAST DISTANCE: n ≤ 255 values, no more than k of them not 0 (at places out of a list), k sums -/
theorem distance {n k : Nat} (hn : n ≤ 255) {f : Nat → GF} (J : List Nat) (hJ : J.length ≤ k) (hz : ∀ j < n, f j ≠ 0 → j ∈ J)
    (hs : ∀ i < k, sm n (fun j => f j * ex (j * (i + 1))) = 0) : ∀ j < n, f j = 0 := by
  intro t ht
  by_cases h0 : f t = 0
  · exact h0
  exfalso
  have hJt := hz t ht h0
  let L := J.filter (fun j => decide (j ≠ t) && decide (j < 255))
  have hL : L.length < J.length := by
    have : ∃ x ∈ J, ¬ (decide (x ≠ t) && decide (x < 255)) = true := ⟨t, hJt, by simp⟩
    exact List.length_filter_lt_length_iff_exists.2 this
  let Q := roots L
  have hb : Bd Q (L.length + 1) := roots_bd L
  -- the sum of the sums, by Q's coefficients
  have key : sm n (fun j => f j * ex j * ev (L.length + 1) Q (ex j)) = 0 := by
    have e1 : ∀ j, f j * ex j * ev (L.length + 1) Q (ex j) = sm (L.length + 1) (fun i => Q i * (f j * ex (j * (i + 1)))) := by
      intro j
      rw [ev_sm, ← sm_mul]
      refine sm_congr fun i _ => ?_
      rw [pw_ex, Nat.mul_succ, Nat.add_comm, ← ex_mul]; ac_rfl
    rw [sm_congr (fun j _ => e1 j), sm_swap]
    refine sm_eq_zero fun i hi => ?_
    rw [sm_mul, hs i (by omega), GF.mul_zero]
  rw [sm_one t ht] at key
  · rcases mul_eq_zero.1 key with e | e
    · rcases mul_eq_zero.1 e with e | e
      · exact h0 e
      · exact ex_ne_zero _ e
    · rw [roots_ev] at e
      refine foldr_ne ?_ e
      intro j hj he
      simp only [L, List.mem_filter, Bool.and_eq_true, decide_eq_true_eq] at hj
      exact hj.2.1 (ex_inj hj.2.2 (by omega) he.symm)
  · intro j hj hne
    by_cases h1 : f j = 0
    · rw [h1, GF.zero_mul, GF.zero_mul]
    · rw [roots_ev, foldr_eq j ?_ rfl, GF.mul_zero]
      simp only [L, List.mem_filter, Bool.and_eq_true, decide_eq_true_eq]
      exact ⟨hz j hj h1, hne, by omega⟩
end PS
end
section
/-! slopes; the shortest register; the values at the places -/
namespace PS
open GF
def geo (a : GF) : PS := fun i => pw a i
/-- the sum of e j * 2^j / (1 + 2^j x) -/
def sg (e : Nat → GF) : List Nat → PS
  | [] => zero
  | j :: l => add (smul (e j * ex j) (geo (ex j))) (sg e l)
/-! the register -/
structure Reg (S : PS) (n : Nat) (c w : PS) (size gap : Nat) (last : GF) : Prop where
  one : c 0 = 1
  bd : Bd c (size + 1)
  gen : ∀ i, size ≤ i → i < n → conv c S i = 0
  lne : last ≠ 0
  gap1 : 1 ≤ gap
  was : ∃ k, Bd w (k + 1) ∧ k + gap + size = n + 1 ∧ (gap ≤ n → (∀ i, k ≤ i → i < n - gap → conv w S i = 0) ∧ conv w S (n - gap) = last)
/-- what comes of a step that is off by d -/
def next (c w : PS) (gap : Nat) (a : GF) : PS := add c (smul a (shift gap w))
end PS
end
section
/-! elements as whole numbers; Go's operations on bits -/
namespace Go.Ar
open Go
theorem bits_xor (k : IntKind) (j : Nat) (hj : j ≤ k.bits) (hk : ∀ n : Int, 0 ≤ n → n < 2 ^ j → k.wrap n = n) (a b : Nat) (ha : a < 2 ^ j) (hb : b < 2 ^ j) :
    Go.bits .xor k a b = ((a ^^^ b : Nat) : Int) := by
  have hp : 2 ^ j ≤ 2 ^ k.bits := Nat.pow_le_pow_right (by decide) hj
  have ha' : a % 2 ^ k.bits = a := Nat.mod_eq_of_lt (Nat.lt_of_lt_of_le ha hp)
  have hb' : b % 2 ^ k.bits = b := Nat.mod_eq_of_lt (Nat.lt_of_lt_of_le hb hp)
  have cast : ∀ n : Nat, n < 2 ^ j → ((n : Nat) : Int) < 2 ^ j := fun n h => by exact_mod_cast h
  simp only [Go.bits, BitVec.ofInt_natCast, BitVec.toNat_xor, BitVec.toNat_ofNat, ha', hb']
  exact hk _ (Int.natCast_nonneg _) (cast _ (Nat.xor_lt_two_pow ha hb))
theorem xor_u8 (a b : Nat) (ha : a < 256) (hb : b < 256) : Go.bits .xor .u8 a b = ((a ^^^ b : Nat) : Int) :=
  bits_xor .u8 8 (by decide) (fun n h0 h1 => by rw [wu8]; omega) a b ha hb
theorem and1_i64 (a : Nat) (ha : a < 2 ^ 62) : Go.bits .and .i64 a 1 = ((a % 2 : Nat) : Int) := by
  have h : a % 2 ^ 64 = a := Nat.mod_eq_of_lt (by omega)
  have e : Go.bits .and .i64 a 1 = IntKind.i64.wrap ((a &&& 1 : Nat) : Int) := by
    show IntKind.i64.wrap (((BitVec.ofInt 64 (a : Int)) &&& (BitVec.ofInt 64 1)).toNat : Int) = _
    rw [BitVec.ofInt_natCast, BitVec.toNat_and, BitVec.toNat_ofNat, h]; rfl
  rw [e, Nat.and_one_is_mod]
  exact wi64 (by omega) (by omega)
end Go.Ar
namespace GF
/-- an element as a whole number -/
def I (x : GF) : Int := (x.b.toNat : Int)
theorem I_bd (x : GF) : 0 ≤ I x ∧ I x ≤ 255 := by unfold I; have := x.b.isLt; omega
theorem I_inj {x y : GF} (h : I x = I y) : x = y := by
  unfold I at h; apply GF.ext'; apply BitVec.eq_of_toNat_eq; omega
theorem I_eq {x y : GF} : I x = I y ↔ x = y := ⟨I_inj, fun h => by rw [h]⟩
def ofI (n : Int) : GF := ⟨BitVec.ofNat 8 n.toNat⟩
theorem I_ofI {n : Int} (h0 : 0 ≤ n) (h1 : n ≤ 255) : I (ofI n) = n := by
  unfold I ofI; simp only [BitVec.toNat_ofNat]; omega
theorem ex_I {n : Int} (h : (Go.Lit.int .u8 n).wf = true) : ∃ x, n = I x := by
  have := Go.bounds_u8 h; exact ⟨ofI n, (I_ofI this.1 this.2).symm⟩
theorem I_zero : I 0 = 0 := rfl
theorem I_eq_zero {x : GF} : I x = 0 ↔ x = 0 := by rw [← I_zero, I_eq]
theorem xor (x y : GF) : Go.bits .xor .u8 (I x) (I y) = I (x + y) := by
  unfold I; rw [Go.Ar.xor_u8 _ _ x.b.isLt y.b.isLt, add_def, BitVec.toNat_xor]
end GF
namespace GF
end GF
end
section
/- Bytes as a string, back. -/
namespace Go.Str
open Go
theorem loop_eq (b : ByteArray) : ∀ (n i : Nat) (r : List UInt8), b.size = i + n → ByteArray.toList.loop b i r = r.reverse ++ b.data.toList.drop i := by
  intro n
  induction n with
  | zero =>
    intro i r h
    rw [ByteArray.toList.loop, if_neg (by omega), List.drop_of_length_le (by rw [Array.length_toList]; show b.size ≤ i; omega), List.append_nil]
  | succ n ih =>
    intro i r h
    have hi : i < b.data.toList.length := by rw [Array.length_toList]; show i < b.size; omega
    rw [ByteArray.toList.loop, if_pos (by omega), ih (i + 1) _ (by omega), List.reverse_cons, List.append_assoc, List.drop_eq_getElem_cons hi]
    have : b.get! i = b.data.toList[i] := by
      show b.data[i]! = _
      rw [getElem!_pos b.data i (by rw [← Array.length_toList]; exact hi), Array.getElem_toList]
    rw [this]; rfl
theorem toList_eq (b : ByteArray) : b.toList = b.data.toList := by
  have := loop_eq b b.size 0 [] (by omega)
  exact this.trans (by simp)
theorem toList_strOf (l : List Int) : (strOfNums l).toList = l.map fun n => UInt8.ofNat n.toNat := by
  rw [toList_eq]; rfl
theorem I_byte (a : GF) : (UInt8.ofNat (GF.I a).toNat).toNat = (GF.I a).toNat := by
  have := GF.I_bd a
  rw [UInt8.toNat_ofNat']
  exact Nat.mod_eq_of_lt (by omega)
theorem inj {x y : List GF} (h : (strOfNums (x.map GF.I)).toList = (strOfNums (y.map GF.I)).toList) : x = y := by
  rw [toList_strOf, toList_strOf, List.map_map, List.map_map] at h
  induction x generalizing y with
  | nil => cases y with
    | nil => rfl
    | cons c y => cases h
  | cons a x ih => cases y with
    | nil => cases h
    | cons c y =>
      simp only [List.map_cons, List.cons.injEq, Function.comp] at h
      have e2 := congrArg UInt8.toNat h.1
      rw [I_byte, I_byte] at e2
      have h1 := GF.I_bd a
      have h2 := GF.I_bd c
      rw [GF.I_inj (show GF.I a = GF.I c by omega), ih h.2]
end Go.Str
end
