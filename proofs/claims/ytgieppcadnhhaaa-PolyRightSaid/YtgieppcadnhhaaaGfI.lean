import Derived.Test.YtgieppcadnhhaaaGf
import Derived.Test.YtgieppcadnhhaaaSm
import Derived.Test.YtgieppcadnhhaaaAr
/-! elements as whole numbers; Go's operations on bits -/
namespace Go.Ar
open Go
theorem bits_xor (k : IntKind) (j : Nat) (hj : j ≤ k.bits) (hk : ∀ n : Int, 0 ≤ n → n < 2 ^ j → k.wrap n = n) (a b : Nat) (ha : a < 2 ^ j) (hb : b < 2 ^ j) :
    Go.bits .xor k a b = ((a ^^^ b : Nat) : Int) := by
  have hp : 2 ^ j ≤ 2 ^ k.bits := Nat.pow_le_pow_right (by decide) hj
  have ha' : a % 2 ^ k.bits = a := Nat.mod_eq_of_lt (Nat.lt_of_lt_of_le ha hp)
  have hb' : b % 2 ^ k.bits = b := Nat.mod_eq_of_lt (Nat.lt_of_lt_of_le hb hp)
  have cast : ∀ n : Nat, n < 2 ^ j → ((n : Nat) : Int) < 2 ^ j := fun n h => by exact_mod_cast h
  simp only [Go.bits, BitVec.ofInt_natCast, BitVec.toNat_xor, BitVec.toNat_ofNat, ha', hb']
  exact hk _ (Int.natCast_nonneg _) (cast _ (Nat.xor_lt_two_pow ha hb))
theorem xor_i64 (a b : Nat) (ha : a < 2 ^ 62) (hb : b < 2 ^ 62) : Go.bits .xor .i64 a b = ((a ^^^ b : Nat) : Int) :=
  bits_xor .i64 62 (by decide) (fun n h0 h1 => by
    exact wi64 (by omega) (by omega)) a b ha hb
theorem xor_u8 (a b : Nat) (ha : a < 256) (hb : b < 256) : Go.bits .xor .u8 a b = ((a ^^^ b : Nat) : Int) :=
  bits_xor .u8 8 (by decide) (fun n h0 h1 => by rw [wu8]; omega) a b ha hb
theorem and1_u8 (a : Nat) (ha : a < 256) : Go.bits .and .u8 a 1 = ((a % 2 : Nat) : Int) := by
  have h : a % 2 ^ 8 = a := Nat.mod_eq_of_lt ha
  have e : Go.bits .and .u8 a 1 = IntKind.u8.wrap ((a &&& 1 : Nat) : Int) := by
    show IntKind.u8.wrap (((BitVec.ofInt 8 (a : Int)) &&& (BitVec.ofInt 8 1)).toNat : Int) = _
    rw [BitVec.ofInt_natCast, BitVec.toNat_and, BitVec.toNat_ofNat, h]; rfl
  rw [e, wu8, Nat.and_one_is_mod]; omega
theorem and1_i64 (a : Nat) (ha : a < 2 ^ 62) : Go.bits .and .i64 a 1 = ((a % 2 : Nat) : Int) := by
  have h : a % 2 ^ 64 = a := Nat.mod_eq_of_lt (by omega)
  have e : Go.bits .and .i64 a 1 = IntKind.i64.wrap ((a &&& 1 : Nat) : Int) := by
    show IntKind.i64.wrap (((BitVec.ofInt 64 (a : Int)) &&& (BitVec.ofInt 64 1)).toNat : Int) = _
    rw [BitVec.ofInt_natCast, BitVec.toNat_and, BitVec.toNat_ofNat, h]; rfl
  rw [e, Nat.and_one_is_mod]
  exact wi64 (by omega) (by omega)
end Go.Ar
namespace GF
/-- an element as a whole number -/
def I (x : GF) : Int := (x.b.toNat : Int)
theorem I_bd (x : GF) : 0 ≤ I x ∧ I x ≤ 255 := by unfold I; have := x.b.isLt; omega
theorem I_inj {x y : GF} (h : I x = I y) : x = y := by
  unfold I at h; apply GF.ext'; apply BitVec.eq_of_toNat_eq; omega
theorem I_eq {x y : GF} : I x = I y ↔ x = y := ⟨I_inj, fun h => by rw [h]⟩
def ofI (n : Int) : GF := ⟨BitVec.ofNat 8 n.toNat⟩
theorem I_ofI {n : Int} (h0 : 0 ≤ n) (h1 : n ≤ 255) : I (ofI n) = n := by
  unfold I ofI; simp only [BitVec.toNat_ofNat]; omega
theorem ofI_I (x : GF) : ofI (I x) = x := I_inj (I_ofI (I_bd x).1 (I_bd x).2)
theorem ex_I {n : Int} (h : (Go.Lit.int .u8 n).wf = true) : ∃ x, n = I x := by
  have := Go.bounds_u8 h; exact ⟨ofI n, (I_ofI this.1 this.2).symm⟩
theorem I_zero : I 0 = 0 := rfl
theorem I_one : I 1 = 1 := rfl
theorem I_eq_zero {x : GF} : I x = 0 ↔ x = 0 := by rw [← I_zero, I_eq]
theorem xor (x y : GF) : Go.bits .xor .u8 (I x) (I y) = I (x + y) := by
  unfold I; rw [Go.Ar.xor_u8 _ _ x.b.isLt y.b.isLt, add_def, BitVec.toNat_xor]
end GF
namespace GF
/-- the product of two polynomials over two elements, from bit i of c on, d bits -/
def clN : Nat → Nat → Nat → Nat → Nat → Nat
  | 0, _, _, _, p => p
  | d + 1, i, a, c, p => clN d (i + 1) a c (if c / 2 ^ i % 2 = 1 then p ^^^ (a * 2 ^ i) else p)
/-- what is left of it -/
def redN : Nat → Nat → Nat
  | 0, p => p % 256
  | d + 1, p => redN d (if p / 2 ^ (8 + d) % 2 = 1 then p ^^^ (301 * 2 ^ d) else p)
theorem odd_xor (p q i : Nat) : (p ^^^ q) / 2 ^ i % 2 = (p / 2 ^ i % 2 + q / 2 ^ i % 2) % 2 := by
  have h : ∀ n : Nat, n / 2 ^ i % 2 = (n.testBit i).toNat := fun n => by
    rw [Nat.testBit_eq_decide_div_mod_eq]; by_cases e : n / 2 ^ i % 2 = 1 <;> simp [e] <;> omega
  rw [h, h, h, Nat.testBit_xor]
  cases p.testBit i <;> cases q.testBit i <;> rfl
theorem redN_xor (d : Nat) : ∀ p q, redN d (p ^^^ q) = redN d p ^^^ redN d q := by
  induction d with
  | zero => intro p q; simp only [redN]; rw [show (256 : Nat) = 2 ^ 8 from rfl, Nat.xor_mod_two_pow]
  | succ d ih =>
    intro p q
    simp only [redN]
    rw [← ih, odd_xor]
    have hp : p / 2 ^ (8 + d) % 2 = 0 ∨ p / 2 ^ (8 + d) % 2 = 1 := by omega
    have hq : q / 2 ^ (8 + d) % 2 = 0 ∨ q / 2 ^ (8 + d) % 2 = 1 := by omega
    congr 1
    have c : ∀ u v t : Nat, u ^^^ v = u ^^^ t ^^^ (v ^^^ t) := by
      intro u v t
      rw [show u ^^^ t ^^^ (v ^^^ t) = u ^^^ v ^^^ (t ^^^ t) by ac_rfl, Nat.xor_self, Nat.xor_zero]
    rcases hp with hp | hp <;> rcases hq with hq | hq <;> simp [hp, hq]
    · rw [Nat.xor_assoc]
    · rw [Nat.xor_assoc, Nat.xor_assoc, Nat.xor_comm q]
    · exact c _ _ _
def dblK : Nat → GF → GF
  | 0, x => x
  | n + 1, x => dblK n (dbl x)
theorem red_shift : ∀ i < 8, ∀ x : GF, redN 7 (x.b.toNat * 2 ^ i) = (dblK i x).b.toNat := by decide +kernel
theorem dblK_dbl (n : Nat) : ∀ x, dblK n (dbl x) = dblK (n + 1) x := fun _ => rfl
theorem dbl_dblK (n : Nat) : ∀ x, dbl (dblK n x) = dblK (n + 1) x := by
  induction n with
  | zero => intro x; rfl
  | succ n ih => intro x; exact ih (dbl x)
theorem red_cl_l (d : Nat) : ∀ (i : Nat) (x : GF) (c p : Nat) (q : GF), i + d = 8 → redN 7 p = q.b.toNat →
    redN 7 (clN d i x.b.toNat c p) = (q + mulB d (dblK i x) (c / 2 ^ i)).b.toNat := by
  induction d with
  | zero => intro i x c p q hi h; simp only [clN, mulB, add_zero]; exact h
  | succ d ih =>
    intro i x c p q hi h
    simp only [clN, mulB]
    rw [dbl_dblK, Nat.div_div_eq_div_mul, ← Nat.pow_succ]
    by_cases e : c / 2 ^ i % 2 = 1
    · rw [if_pos e, if_pos e, ih (i + 1) x c _ (q + dblK i x) (by omega)]
      · rw [add_assoc]
      · rw [redN_xor, h, red_shift i (by omega), add_def, BitVec.toNat_xor]
    · rw [if_neg e, if_neg e, ih (i + 1) x c p q (by omega) h, zero_add]
theorem red_cl (x y : GF) : ((redN 7 (clN 8 0 x.b.toNat y.b.toNat 0) : Nat) : Int) = I (x * y) := by
  have := red_cl_l 8 0 x y.b.toNat 0 0 rfl rfl
  rw [this, zero_add]
  show _ = ((mulB 8 x y.b.toNat).b.toNat : Int)
  simp [dblK]
end GF
