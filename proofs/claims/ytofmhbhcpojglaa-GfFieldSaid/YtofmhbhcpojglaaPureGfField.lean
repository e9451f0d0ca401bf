/- GfField is proved: sums and products of any three elements of the field keep its laws, and each element but 0 has an inverse. No conditions. -/
import Derived.Test.YtofmhbhcpojglaaWalkGfField
import Derived.Test.YtofmhbhcpojglaaGfI
namespace Go.Proofs.Ytofmhbhcpojglaa.Pure
open Go Go.RowKit Go.Proofs.Ytofmhbhcpojglaa.PGfField Go.Proofs.YtofmhbhcpojglaaW.PrintWords Go.Proofs.YtofmhbhcpojglaaW.PrintLast Go.Proofs.YtofmhbhcpojglaaW.PrintMore
open Go.Ar
namespace GfFieldLaw
theorem g_double : ∀ x : GF, gf_double.f (GF.I x) = some (GF.I (GF.dbl x)) := by decide +kernel
theorem g_add (x y : GF) : gf_Add.f (GF.I x) (GF.I y) = some (GF.I (x + y)) := by
  unfold gf_Add.f; rw [GF.xor]
theorem g_mul_l (n : Nat) : ∀ (k : Nat) (a p : GF) (c : Nat), c < 2 ^ n → n < k → gf_Mul.l0 k (GF.I a) (c : Int) (GF.I p) = some (GF.I (p + GF.mulB n a c)) := by
  induction n with
  | zero =>
    intro k a p c hc hk
    obtain ⟨k, rfl⟩ : ∃ m, k = m + 1 := ⟨k - 1, by omega⟩
    have : c = 0 := by simpa using hc
    subst this
    simp only [gf_Mul.l0]
    rw [if_neg (by decide)]; simp only [GF.mulB, GF.add_zero]
  | succ n ih =>
    intro k a p c hc hk
    obtain ⟨k, rfl⟩ : ∃ m, k = m + 1 := ⟨k - 1, by omega⟩
    by_cases h0 : c = 0
    · subst h0
      have z : ∀ n a, GF.mulB n a 0 = 0 := by
        intro n
        induction n with
        | zero => intro a; rfl
        | succ n ih => intro a; simp only [GF.mulB]; rw [if_neg (by decide), show 0 / 2 = 0 from rfl, ih]; rfl
      simp only [gf_Mul.l0]
      rw [if_neg (by decide), z, GF.add_zero]
    · have hb : c / 2 < 2 ^ n := by rw [Nat.pow_succ] at hc; omega
      have e := fun p => ih k (GF.dbl a) p (c / 2) hb (by omega)
      simp only [gf_Mul.l0, g_double, Option.bind_some, GF.xor]
      rw [if_pos (by omega), show (c : Int) / 2 = ((c / 2 : Nat) : Int) by omega, e, e]
      have ha : (Go.bits .and .u8 (c : Int) 1 > 0) ↔ c % 2 = 1 := by
        have : Go.bits .and .u8 (c : Int) 1 = ((c % 2 : Nat) : Int) := by
          have h : Go.bits .and .u8 (c : Int) 1 = IntKind.u8.wrap (((c % 256) &&& 1 : Nat) : Int) := by
            show IntKind.u8.wrap (((BitVec.ofInt 8 (c : Int)) &&& (BitVec.ofInt 8 1)).toNat : Int) = _
            rw [BitVec.ofInt_natCast, BitVec.toNat_and, BitVec.toNat_ofNat]; rfl
          rw [h, wu8, Nat.and_one_is_mod]; omega
        rw [this]; omega
      simp only [GF.mulB, ha]
      split
      · rw [GF.add_assoc]
      · rw [GF.zero_add]
theorem g_mul (k : Nat) (hk : 8 < k) (x y : GF) : gf_Mul.f k (GF.I x) (GF.I y) = some (GF.I (x * y)) := by
  unfold gf_Mul.f
  have := g_mul_l 8 k x 0 y.b.toNat (by have := y.b.isLt; omega) hk
  rw [GF.zero_add] at this
  exact this
theorem g_pow_l (n : Nat) : ∀ (k : Nat) (a p : GF) (c : Nat), c < 2 ^ n → n ≤ 16 → n + 8 < k → gf_Pow.l0 k (GF.I a) (c : Int) (GF.I p) = some (GF.I (p * GF.pw a c)) := by
  induction n with
  | zero =>
    intro k a p c hc hn hk
    obtain ⟨k, rfl⟩ : ∃ m, k = m + 1 := ⟨k - 1, by omega⟩
    have : c = 0 := by simpa using hc
    subst this
    simp only [gf_Pow.l0]
    rw [if_neg (by decide), GF.pw, GF.mul_one]
  | succ n ih =>
    intro k a p c hc hn hk
    obtain ⟨k, rfl⟩ : ∃ m, k = m + 1 := ⟨k - 1, by omega⟩
    by_cases h0 : c = 0
    · subst h0
      simp only [gf_Pow.l0]
      rw [if_neg (by decide), GF.pw, GF.mul_one]
    · have hb : c / 2 < 2 ^ n := by rw [Nat.pow_succ] at hc; omega
      have h16 : c < 2 ^ 62 := Nat.lt_of_lt_of_le hc (Nat.pow_le_pow_right (by decide) (by omega))
      have e := fun p => ih k (a * a) p (c / 2) hb (by omega) (by omega)
      simp only [gf_Pow.l0, g_mul k (by omega), Option.bind_some]
      rw [if_pos (by omega), show (c : Int) / 2 = ((c / 2 : Nat) : Int) by omega, e, e, and1_i64 c h16]
      have sq : GF.pw (a * a) (c / 2) = GF.pw a (2 * (c / 2)) := by
        rw [GF.pw_mul]; congr 1; exact congrArg (a * ·) (GF.mul_one a).symm
      rw [sq]
      split
      · rw [GF.mul_assoc]
        conv => rhs; rw [show c = 1 + 2 * (c / 2) by omega, GF.pw_add]
        rw [show GF.pw a 1 = a from GF.mul_one a]
      · conv => rhs; rw [show c = 2 * (c / 2) by omega]
/-- Go's power -/
def g_powv (x : GF) (n : Int) : GF := if x = 0 then (if n = 0 then 1 else 0) else GF.pw x (n % 255).toNat
theorem g_pow (k : Nat) (hk : 24 < k) (x : GF) (n : Int) :
    gf_Pow.f k (GF.I x) n = some (GF.I (g_powv x n)) := by
  unfold gf_Pow.f g_powv
  by_cases hx : x = 0
  · subst hx; rw [if_pos GF.I_zero, if_pos rfl]; split <;> rfl
  · have : ¬ GF.I x = 0 := fun e => hx (GF.I_eq_zero.1 e)
    rw [if_neg this, if_neg hx]
    have e : Int.tmod (wrap64 ((Int.tmod n 255) + 255)) 255 = ((n % 255).toNat : Int) := by
      have h : Int.tmod n 255 = n % 255 ∨ Int.tmod n 255 = n % 255 - 255 := by
        rw [Int.tmod_eq_emod]; split <;> simp
      have hb := Int.emod_nonneg n (show (255 : Int) ≠ 0 by decide)
      have hb2 := Int.emod_lt_of_pos n (show (0 : Int) < 255 by decide)
      rw [w64 (by omega) (by omega), tmodp _ _ (by omega)]
      omega
    have hb2 := Int.emod_lt_of_pos n (show (0 : Int) < 255 by decide)
    have hb := Int.emod_nonneg n (show (255 : Int) ≠ 0 by decide)
    rw [e]
    have := g_pow_l 8 k x 1 (n % 255).toNat (by omega) (by omega) (by omega)
    rw [GF.one_mul] at this
    exact this
theorem g_inv (k : Nat) (hk : 24 < k) (x : GF) : gf_Inv.f k (GF.I x) = some (if x = 0 then (0, 1) else (GF.I (GF.inv x), 0)) := by
  unfold gf_Inv.f
  by_cases hx : x = 0
  · subst hx; rw [if_pos GF.I_zero, if_pos rfl]
  · have : ¬ GF.I x = 0 := fun e => hx (GF.I_eq_zero.1 e)
    rw [if_neg this, if_neg hx, g_pow k hk x 254]
    simp only [Option.bind_some, g_powv]
    rw [if_neg hx, show ((254 : Int) % 255).toNat = 254 from rfl, GF.inv_pw x hx]
theorem awake : wristbandlaw07_awake.f 300 = some true := by decide +kernel
end GfFieldLaw
open GfFieldLaw
theorem GfField : wristbandlaw07_GfField.Pure := by
  intro a0 a1 a2 h0 h1 h2
  obtain ⟨a, rfl⟩ := GF.ex_I h0
  obtain ⟨b, rfl⟩ := GF.ex_I h1
  obtain ⟨c, rfl⟩ := GF.ex_I h2
  refine ⟨300, ?_⟩
  unfold wristbandlaw07_GfField.f
  rw [awake]; simp only [Option.bind_some, if_true]
  have m := fun x y => g_mul 300 (by omega) x y
  have m0 : ∀ x : GF, gf_Mul.f 300 (GF.I x) 0 = some 0 := fun x => by have := m x 0; rwa [GF.mul_zero, GF.I_zero] at this
  have m1 : ∀ x : GF, gf_Mul.f 300 (GF.I x) 1 = some (GF.I x) := fun x => by have := m x 1; rwa [GF.mul_one, GF.I_one] at this
  have a0 : ∀ x : GF, gf_Add.f (GF.I x) 0 = some (GF.I x) := fun x => by have := g_add x 0; rwa [GF.add_zero, GF.I_zero] at this
  have m' := fun x y => g_mul 299 (by omega) x y
  simp only [m, m0, m1, g_add, a0, Option.bind_some, GF.mul_assoc, GF.mul_comm b a, GF.mul_add, GF.add_self, GF.I_zero, if_true, bne_self_eq_false]
  simp only [wristbandlaw07_GfField.j0, g_inv 299 (by omega), m', Option.bind_some]
  by_cases ha : a = 0
  · subst ha; simp [GF.zero_mul, GF.I_zero]
  · have hne : ¬ GF.I a = 0 := fun e => ha (GF.I_eq_zero.1 e)
    simp [ha, hne, m', GF.mul_inv a ha, GF.I_one]
    rw [Bool.eq_iff_iff]; simp [GF.I_eq_zero, GF.mul_eq_zero, ha]
end Go.Proofs.Ytofmhbhcpojglaa.Pure
