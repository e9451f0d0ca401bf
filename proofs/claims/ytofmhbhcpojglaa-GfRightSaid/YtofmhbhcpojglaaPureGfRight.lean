/- GfRight is proved: sums, products, powers, inverses and logarithms of all elements are what the reference reckons. No conditions. -/
import Derived.Test.YtofmhbhcpojglaaPGfRightx3
import Derived.Test.YtofmhbhcpojglaaGfI
namespace Go.Proofs.Ytofmhbhcpojglaa.Pure
open Go Go.RowKit Go.Proofs.Ytofmhbhcpojglaa.PGfRight Go.Proofs.YtofmhbhcpojglaaW.PrintWords Go.Proofs.YtofmhbhcpojglaaW.PrintLast Go.Proofs.YtofmhbhcpojglaaW.PrintMore
open Go.Ar
namespace GfRightLaw
theorem g_double : ∀ x : GF, gf_double.f (GF.I x) = some (GF.I (GF.dbl x)) := by decide +kernel
theorem g_add (x y : GF) : gf_Add.f (GF.I x) (GF.I y) = some (GF.I (x + y)) := by
  unfold gf_Add.f; rw [GF.xor]
theorem g_mul_l (n : Nat) : ∀ (k : Nat) (a p : GF) (c : Nat), c < 2 ^ n → n < k → gf_Mul.l0 k (GF.I a) (c : Int) (GF.I p) = some (GF.I (p + GF.mulB n a c)) := by
  induction n with
  | zero =>
    intro k a p c hc hk
    obtain ⟨k, rfl⟩ : ∃ m, k = m + 1 := ⟨k - 1, by omega⟩
    have : c = 0 := by simpa using hc
    subst this
    simp only [gf_Mul.l0]
    rw [if_neg (by decide)]; simp only [GF.mulB, GF.add_zero]
  | succ n ih =>
    intro k a p c hc hk
    obtain ⟨k, rfl⟩ : ∃ m, k = m + 1 := ⟨k - 1, by omega⟩
    by_cases h0 : c = 0
    · subst h0
      have z : ∀ n a, GF.mulB n a 0 = 0 := by
        intro n
        induction n with
        | zero => intro a; rfl
        | succ n ih => intro a; simp only [GF.mulB]; rw [if_neg (by decide), show 0 / 2 = 0 from rfl, ih]; rfl
      simp only [gf_Mul.l0]
      rw [if_neg (by decide), z, GF.add_zero]
    · have hb : c / 2 < 2 ^ n := by rw [Nat.pow_succ] at hc; omega
      have e := fun p => ih k (GF.dbl a) p (c / 2) hb (by omega)
      simp only [gf_Mul.l0, g_double, Option.bind_some, GF.xor]
      rw [if_pos (by omega), show (c : Int) / 2 = ((c / 2 : Nat) : Int) by omega, e, e]
      have ha : (Go.bits .and .u8 (c : Int) 1 > 0) ↔ c % 2 = 1 := by
        have : Go.bits .and .u8 (c : Int) 1 = ((c % 2 : Nat) : Int) := by
          have h : Go.bits .and .u8 (c : Int) 1 = IntKind.u8.wrap (((c % 256) &&& 1 : Nat) : Int) := by
            show IntKind.u8.wrap (((BitVec.ofInt 8 (c : Int)) &&& (BitVec.ofInt 8 1)).toNat : Int) = _
            rw [BitVec.ofInt_natCast, BitVec.toNat_and, BitVec.toNat_ofNat]; rfl
          rw [h, wu8, Nat.and_one_is_mod]; omega
        rw [this]; omega
      simp only [GF.mulB, ha]
      split
      · rw [GF.add_assoc]
      · rw [GF.zero_add]
theorem g_mul (k : Nat) (hk : 8 < k) (x y : GF) : gf_Mul.f k (GF.I x) (GF.I y) = some (GF.I (x * y)) := by
  unfold gf_Mul.f
  have := g_mul_l 8 k x 0 y.b.toNat (by have := y.b.isLt; omega) hk
  rw [GF.zero_add] at this
  exact this
theorem g_pow_l (n : Nat) : ∀ (k : Nat) (a p : GF) (c : Nat), c < 2 ^ n → n ≤ 16 → n + 8 < k → gf_Pow.l0 k (GF.I a) (c : Int) (GF.I p) = some (GF.I (p * GF.pw a c)) := by
  induction n with
  | zero =>
    intro k a p c hc hn hk
    obtain ⟨k, rfl⟩ : ∃ m, k = m + 1 := ⟨k - 1, by omega⟩
    have : c = 0 := by simpa using hc
    subst this
    simp only [gf_Pow.l0]
    rw [if_neg (by decide), GF.pw, GF.mul_one]
  | succ n ih =>
    intro k a p c hc hn hk
    obtain ⟨k, rfl⟩ : ∃ m, k = m + 1 := ⟨k - 1, by omega⟩
    by_cases h0 : c = 0
    · subst h0
      simp only [gf_Pow.l0]
      rw [if_neg (by decide), GF.pw, GF.mul_one]
    · have hb : c / 2 < 2 ^ n := by rw [Nat.pow_succ] at hc; omega
      have h16 : c < 2 ^ 62 := Nat.lt_of_lt_of_le hc (Nat.pow_le_pow_right (by decide) (by omega))
      have e := fun p => ih k (a * a) p (c / 2) hb (by omega) (by omega)
      simp only [gf_Pow.l0, g_mul k (by omega), Option.bind_some]
      rw [if_pos (by omega), show (c : Int) / 2 = ((c / 2 : Nat) : Int) by omega, e, e, and1_i64 c h16]
      have sq : GF.pw (a * a) (c / 2) = GF.pw a (2 * (c / 2)) := by
        rw [GF.pw_mul]; congr 1; exact congrArg (a * ·) (GF.mul_one a).symm
      rw [sq]
      split
      · rw [GF.mul_assoc]
        conv => rhs; rw [show c = 1 + 2 * (c / 2) by omega, GF.pw_add]
        rw [show GF.pw a 1 = a from GF.mul_one a]
      · conv => rhs; rw [show c = 2 * (c / 2) by omega]
/-- Go's power -/
def g_powv (x : GF) (n : Int) : GF := if x = 0 then (if n = 0 then 1 else 0) else GF.pw x (n % 255).toNat
theorem g_pow (k : Nat) (hk : 24 < k) (x : GF) (n : Int) :
    gf_Pow.f k (GF.I x) n = some (GF.I (g_powv x n)) := by
  unfold gf_Pow.f g_powv
  by_cases hx : x = 0
  · subst hx; rw [if_pos GF.I_zero, if_pos rfl]; split <;> rfl
  · have : ¬ GF.I x = 0 := fun e => hx (GF.I_eq_zero.1 e)
    rw [if_neg this, if_neg hx]
    have e : Int.tmod (wrap64 ((Int.tmod n 255) + 255)) 255 = ((n % 255).toNat : Int) := by
      have h : Int.tmod n 255 = n % 255 ∨ Int.tmod n 255 = n % 255 - 255 := by
        rw [Int.tmod_eq_emod]; split <;> simp
      have hb := Int.emod_nonneg n (show (255 : Int) ≠ 0 by decide)
      have hb2 := Int.emod_lt_of_pos n (show (0 : Int) < 255 by decide)
      rw [w64 (by omega) (by omega), tmodp _ _ (by omega)]
      omega
    have hb2 := Int.emod_lt_of_pos n (show (0 : Int) < 255 by decide)
    have hb := Int.emod_nonneg n (show (255 : Int) ≠ 0 by decide)
    rw [e]
    have := g_pow_l 8 k x 1 (n % 255).toNat (by omega) (by omega) (by omega)
    rw [GF.one_mul] at this
    exact this
theorem g_inv (k : Nat) (hk : 24 < k) (x : GF) : gf_Inv.f k (GF.I x) = some (if x = 0 then (0, 1) else (GF.I (GF.inv x), 0)) := by
  unfold gf_Inv.f
  by_cases hx : x = 0
  · subst hx; rw [if_pos GF.I_zero, if_pos rfl]
  · have : ¬ GF.I x = 0 := fun e => hx (GF.I_eq_zero.1 e)
    rw [if_neg this, if_neg hx, g_pow k hk x 254]
    simp only [Option.bind_some, g_powv]
    rw [if_neg hx, show ((254 : Int) % 255).toNat = 254 from rfl, GF.inv_pw x hx]
theorem g_exp (k : Nat) (hk : 24 < k) (n : Int) :
    gf_Exp.f k n = some (GF.I (GF.ex (n % 255).toNat)) := by
  unfold gf_Exp.f
  have h := g_pow k hk (GF.ex 1) n
  rw [show GF.I (GF.ex 1) = 2 from rfl] at h
  rw [h]; simp only [Option.bind_some, g_powv]
  rw [if_neg (by decide), GF.pw_ex, Nat.one_mul]
def g_lgres (n : Nat) : Int × Int := if n < 255 then ((n : Int), 0) else (0, 1)
theorem g_log_l (d : Nat) : ∀ (k n : Nat) (a : GF), n + d = 255 → d < k →
    gf_Log.l0 k (GF.I a) (GF.I (GF.ex n)) (n : Int) = some (g_lgres (GF.lgFrom d n (GF.ex n) a)) := by
  induction d with
  | zero =>
    intro k n a hn hk
    obtain ⟨k, rfl⟩ : ∃ m, k = m + 1 := ⟨k - 1, by omega⟩
    have e : g_lgres (GF.lgFrom 0 n (GF.ex n) a) = (0, 1) := if_neg (by show ¬ n < 255; omega)
    rw [e]
    simp only [gf_Log.l0]
    rw [if_neg (by omega)]
  | succ d ih =>
    intro k n a hn hk
    obtain ⟨k, rfl⟩ : ∃ m, k = m + 1 := ⟨k - 1, by omega⟩
    simp only [gf_Log.l0, GF.lgFrom]
    rw [if_pos (by omega)]
    by_cases e : GF.ex n = a
    · rw [if_pos (by rw [e]), if_pos e, g_lgres, if_pos (by omega)]
    · rw [if_neg (fun h => e (GF.I_inj h)), if_neg e, g_double, Option.bind_some, w64 (by omega) (by omega)]
      have := ih k (n + 1) a (by omega) (by omega)
      exact this
theorem lg_zero : GF.lg 0 = 255 := by decide +kernel
theorem g_log (k : Nat) (hk : 255 < k) (a : GF) : gf_Log.f k (GF.I a) = some (if a = 0 then (0, 1) else ((GF.lg a : Int), 0)) := by
  unfold gf_Log.f
  have h : gf_Log.l0 k (GF.I a) 1 0 = some (g_lgres (GF.lg a)) := g_log_l 255 k 0 a rfl hk
  rw [h]
  by_cases h0 : a = 0
  · subst h0; rw [lg_zero]; rfl
  · rw [g_lgres, if_pos (GF.lg_lt a h0), if_neg h0]
theorem r_bit (i : Nat) : ∀ (k n j : Nat), n < 2 ^ 62 → i + j < 64 → i < k → wristbandref07_bit.l0 k (n : Int) ((i + j : Nat) : Int) (j : Int) = some (((n / 2 ^ i % 2 : Nat)) : Int) := by
  induction i with
  | zero =>
    intro k n j hn hi hk
    obtain ⟨k, rfl⟩ : ∃ m, k = m + 1 := ⟨k - 1, by omega⟩
    simp only [wristbandref07_bit.l0]
    rw [if_neg (by omega), tmodp _ _ (by omega)]; simp
  | succ i ih =>
    intro k n j hn hi hk
    obtain ⟨k, rfl⟩ : ∃ m, k = m + 1 := ⟨k - 1, by omega⟩
    simp only [wristbandref07_bit.l0]
    rw [if_pos (by omega), tdivp _ _ (by omega), w64 (n := (n : Int) / 2) (by omega) (by omega), w64 (n := (j : Int) + 1) (by omega) (by omega)]
    have := ih k (n / 2) (j + 1) (by omega) (by omega) (by omega)
    rw [show i + (j + 1) = i + 1 + j by omega] at this
    rw [show ((n : Int) / 2) = ((n / 2 : Nat) : Int) by omega, show ((j : Int) + 1) = ((j + 1 : Nat) : Int) by omega, this]
    rw [Nat.div_div_eq_div_mul, Nat.pow_succ, Nat.mul_comm 2]
theorem r_bitf (k n i : Nat) (hn : n < 2 ^ 62) (hi : i < 64) (hk : i < k) : wristbandref07_bit.f k (n : Int) (i : Int) = some ((n / 2 ^ i % 2 : Nat) : Int) := by
  unfold wristbandref07_bit.f
  exact r_bit i k n 0 hn (by omega) hk
theorem r_pow_l (d : Nat) : ∀ (k j : Nat), j + d < 62 → d < k → wristbandref07_power.l0 k ((j + d : Nat) : Int) ((2 ^ j : Nat) : Int) (j : Int) = some ((2 ^ (j + d) : Nat) : Int) := by
  induction d with
  | zero =>
    intro k j hj hk
    obtain ⟨k, rfl⟩ : ∃ m, k = m + 1 := ⟨k - 1, by omega⟩
    simp only [wristbandref07_power.l0]
    rw [if_neg (by omega)]; rfl
  | succ d ih =>
    intro k j hj hk
    obtain ⟨k, rfl⟩ : ∃ m, k = m + 1 := ⟨k - 1, by omega⟩
    simp only [wristbandref07_power.l0]
    have hb : 2 ^ j < 2 ^ 62 := Nat.pow_lt_pow_right (by decide) (by omega)
    generalize hq : 2 ^ j = q at *
    rw [if_pos (by omega), w64 (n := 2 * (q : Int)) (by omega) (by omega), w64 (n := (j : Int) + 1) (by omega) (by omega)]
    have := ih k (j + 1) (by omega) (by omega)
    rw [show j + 1 + d = j + (d + 1) by omega] at this
    rw [← this]
    congr 1
    rw [Nat.pow_succ, hq]; omega
theorem r_powf (k i : Nat) (hi : i < 62) (hk : i < k) : wristbandref07_power.f k (i : Int) = some ((2 ^ i : Nat) : Int) := by
  unfold wristbandref07_power.f
  have := r_pow_l i k 0 (by omega) hk
  rw [Nat.zero_add] at this
  exact this
theorem r_red (d : Nat) : ∀ (k p : Nat), p < 2 ^ 15 → d ≤ 7 → d + 16 < k → wristbandref07_Mul.l1 k (p : Int) ((7 + d : Nat) : Int) = some ((GF.redN d p : Nat) : Int) := by
  induction d with
  | zero =>
    intro k p hp hd hk
    obtain ⟨k, rfl⟩ : ∃ m, k = m + 1 := ⟨k - 1, by omega⟩
    simp only [wristbandref07_Mul.l1]
    rw [if_neg (by omega)]; simp only [GF.redN]; congr 1
  | succ d ih =>
    intro k p hp hd hk
    obtain ⟨k, rfl⟩ : ∃ m, k = m + 1 := ⟨k - 1, by omega⟩
    simp only [wristbandref07_Mul.l1]
    rw [if_pos (by omega), r_bitf k p (7 + (d + 1)) (by omega) (by omega) (by omega)]
    simp only [Option.bind_some]
    rw [w64 (n := ((7 + (d + 1) : Nat) : Int) - 8) (by omega) (by omega), w64 (n := ((7 + (d + 1) : Nat) : Int) - 1) (by omega) (by omega)]
    rw [show ((7 + (d + 1) : Nat) : Int) - 8 = (d : Int) by omega, show ((7 + (d + 1) : Nat) : Int) - 1 = ((7 + d : Nat) : Int) by omega]
    rw [r_powf k d (by omega) (by omega)]
    simp only [Option.bind_some, GF.redN]
    have hb : 2 ^ d ≤ 2 ^ 6 := Nat.pow_le_pow_right (by decide) (by omega)
    rw [show 8 + d = 7 + (d + 1) by omega]
    generalize 2 ^ d = q at *
    by_cases e : p / 2 ^ (7 + (d + 1)) % 2 = 1
    · rw [if_pos (by omega), if_pos e, w64 (by omega) (by omega), show (301 : Int) * (q : Int) = ((301 * q : Nat) : Int) by omega, xor_i64 _ _ (by omega) (by omega)]
      exact ih k _ (Nat.xor_lt_two_pow hp (by omega)) (by omega) (by omega)
    · rw [if_neg (by omega), if_neg e]
      exact ih k p hp (by omega) (by omega)
theorem r_mul_l (d : Nat) : ∀ (k i : Nat) (x y : GF) (p : Nat), i + d = 8 → p < 2 ^ 15 → d + 40 < k →
    wristbandref07_Mul.l0 k (GF.I x) (GF.I y) (p : Int) (i : Int) = some ((GF.redN 7 (GF.clN d i x.b.toNat y.b.toNat p) : Nat) : Int) := by
  induction d with
  | zero =>
    intro k i x y p hi hp hk
    obtain ⟨k, rfl⟩ : ∃ m, k = m + 1 := ⟨k - 1, by omega⟩
    simp only [wristbandref07_Mul.l0]
    rw [if_neg (by omega)]
    exact r_red 7 k p hp (by omega) (by omega)
  | succ d ih =>
    intro k i x y p hi hp hk
    obtain ⟨k, rfl⟩ : ∃ m, k = m + 1 := ⟨k - 1, by omega⟩
    have hx := x.b.isLt
    have hy := y.b.isLt
    simp only [wristbandref07_Mul.l0]
    have by_ := GF.I_bd y
    have bx_ := GF.I_bd x
    rw [if_pos (by omega), w64 (n := GF.I y) (by omega) (by omega), w64 (n := GF.I x) (by omega) (by omega), w64 (n := (i : Int) + 1) (by omega) (by omega)]
    have e1 : wristbandref07_bit.f k (GF.I y) (i : Int) = some ((y.b.toNat / 2 ^ i % 2 : Nat) : Int) := r_bitf k y.b.toNat i (by omega) (by omega) (by omega)
    rw [e1, r_powf k i (by omega) (by omega)]
    simp only [Option.bind_some, GF.clN]
    have hb : 2 ^ i ≤ 2 ^ 7 := Nat.pow_le_pow_right (by decide) (by omega)
    have hm : x.b.toNat * 2 ^ i < 2 ^ 15 := Nat.lt_of_lt_of_le (Nat.mul_lt_mul_of_pos_right hx (Nat.two_pow_pos i)) (by omega)
    by_cases e : y.b.toNat / 2 ^ i % 2 = 1
    · have e2 : GF.I x * ((2 ^ i : Nat) : Int) = ((x.b.toNat * 2 ^ i : Nat) : Int) := by unfold GF.I; rw [Int.natCast_mul]
      rw [if_pos (by omega), if_pos e, e2, w64 (by omega) (by omega), xor_i64 _ _ (by omega) (by omega)]
      exact ih k (i + 1) x y _ (by omega) (Nat.xor_lt_two_pow hp hm) (by omega)
    · rw [if_neg (by omega), if_neg e]
      exact ih k (i + 1) x y p (by omega) hp (by omega)
theorem r_mul (k : Nat) (hk : 50 < k) (x y : GF) : wristbandref07_Mul.f k (GF.I x) (GF.I y) = some (GF.I (x * y)) := by
  unfold wristbandref07_Mul.f
  have := r_mul_l 8 k 0 x y 0 rfl (by decide) (by omega)
  rw [GF.red_cl] at this
  exact this
theorem r_pow_loop (d : Nat) : ∀ (k i : Nat) (x p : GF) (n : Nat), i + d = n → n < 1000 → d + 60 < k → wristbandref07_Pow.l0 k (GF.I x) (n : Int) (GF.I p) (i : Int) = some (GF.I (p * GF.pw x d)) := by
  induction d with
  | zero =>
    intro k i x p n hi hn hk
    obtain ⟨k, rfl⟩ : ∃ m, k = m + 1 := ⟨k - 1, by omega⟩
    simp only [wristbandref07_Pow.l0]
    rw [if_neg (by omega), GF.pw, GF.mul_one]
  | succ d ih =>
    intro k i x p n hi hn hk
    obtain ⟨k, rfl⟩ : ∃ m, k = m + 1 := ⟨k - 1, by omega⟩
    simp only [wristbandref07_Pow.l0]
    rw [if_pos (by omega), r_mul k (by omega), Option.bind_some, w64 (by omega) (by omega)]
    have := ih k (i + 1) x (p * x) n (by omega) hn (by omega)
    rw [show ((i : Int) + 1) = ((i + 1 : Nat) : Int) by omega, this, GF.pw, GF.mul_assoc]
theorem r_pow (k : Nat) (hk : 400 < k) (x : GF) (n : Int) :
    wristbandref07_Pow.f k (GF.I x) n = some (GF.I (g_powv x n)) := by
  unfold wristbandref07_Pow.f g_powv
  by_cases hx : x = 0
  · subst hx; rw [if_pos GF.I_zero, if_pos rfl]; split <;> rfl
  · rw [if_neg (fun e => hx (GF.I_eq_zero.1 e)), if_neg hx]
    have hb := Int.emod_nonneg n (show (255 : Int) ≠ 0 by decide)
    have hb2 := Int.emod_lt_of_pos n (show (0 : Int) < 255 by decide)
    have h : Int.tmod n 255 = n % 255 ∧ 0 ≤ Int.tmod n 255 ∨ Int.tmod n 255 = n % 255 - 255 ∧ Int.tmod n 255 < 0 := by
      rw [Int.tmod_eq_emod]; split <;> simp <;> omega
    obtain ⟨k, rfl⟩ : ∃ m, k = m + 1 := ⟨k - 1, by omega⟩
    have core := r_pow_loop (n % 255).toNat k 0 x 1 (n % 255).toNat (by omega) (by omega) (by omega)
    rw [GF.one_mul, show (((n % 255).toNat : Nat) : Int) = n % 255 by omega] at core
    rcases h with ⟨e, h⟩ | ⟨e, h⟩
    · rw [if_neg (by omega), e]; simp only [wristbandref07_Pow.j0]; exact core
    · rw [if_pos h, e, w64 (by omega) (by omega), show n % 255 - 255 + 255 = n % 255 by omega]; simp only [wristbandref07_Pow.j0]; exact core
theorem r_exp (k : Nat) (hk : 400 < k) (n : Int) :
    wristbandref07_Exp.f k n = some (GF.I (GF.ex (n % 255).toNat)) := by
  unfold wristbandref07_Exp.f
  have h := r_pow k hk (GF.ex 1) n
  rw [show GF.I (GF.ex 1) = 2 from rfl] at h
  rw [h]; simp only [Option.bind_some, g_powv]
  rw [if_neg (by decide), GF.pw_ex, Nat.one_mul]
theorem r_inv_l (d : Nat) : ∀ (k i : Nat) (x : GF), x ≠ 0 → i + d = (GF.inv x).b.toNat → 1 ≤ i → d + 60 < k → wristbandref07_Inv.l0 k (GF.I x) (i : Int) = some (GF.I (GF.inv x)) := by
  induction d with
  | zero =>
    intro k i x hx hi h1 hk
    obtain ⟨k, rfl⟩ : ∃ m, k = m + 1 := ⟨k - 1, by omega⟩
    have hb := (GF.inv x).b.isLt
    have e : (i : Int) = GF.I (GF.inv x) := by unfold GF.I; omega
    simp only [wristbandref07_Inv.l0]
    rw [if_pos (by omega), show (i : Int) % 256 = GF.I (GF.inv x) by omega, r_mul k (by omega), GF.mul_inv x hx]; rfl
  | succ d ih =>
    intro k i x hx hi h1 hk
    obtain ⟨k, rfl⟩ : ∃ m, k = m + 1 := ⟨k - 1, by omega⟩
    have hb := (GF.inv x).b.isLt
    obtain ⟨z, hz⟩ : ∃ z, (i : Int) = GF.I z := ⟨GF.ofI i, (GF.I_ofI (by omega) (by omega)).symm⟩
    simp only [wristbandref07_Inv.l0]
    rw [if_pos (by omega), show (i : Int) % 256 = GF.I z by omega, r_mul k (by omega), Option.bind_some]
    rw [if_neg, w64 (by omega) (by omega)]
    · exact ih k (i + 1) x hx (by omega) (by omega) (by omega)
    · intro e
      have e2 : x * z = 1 := GF.I_inj e
      have e3 := GF.inv_unique e2
      have : GF.I z = ((GF.inv x).b.toNat : Int) := by rw [e3]; rfl
      omega
theorem r_inv (k : Nat) (hk : 400 < k) (x : GF) (hx : x ≠ 0) : wristbandref07_Inv.f k (GF.I x) = some (GF.I (GF.inv x)) := by
  unfold wristbandref07_Inv.f
  have hb := (GF.inv x).b.isLt
  have h0 : 1 ≤ (GF.inv x).b.toNat := by
    have : (GF.inv x).b.toNat ≠ 0 := fun e => GF.inv_ne hx (GF.ext' (BitVec.eq_of_toNat_eq e))
    omega
  exact r_inv_l ((GF.inv x).b.toNat - 1) k 1 x hx (by omega) (by omega) (by omega)
theorem awake : wristbandlaw07_awake.f 300 = some true := by decide +kernel
theorem r_log_l (d : Nat) : ∀ (k i : Nat) (x : GF), i + d = 255 → (∀ j < i, GF.ex j ≠ x) → d + 410 < k →
    wristbandref07_Log.l0 k (GF.I x) (i : Int) = some (if x = 0 then -1 else (GF.lg x : Int)) := by
  induction d with
  | zero =>
    intro k i x hi hj hk
    obtain ⟨k, rfl⟩ : ∃ m, k = m + 1 := ⟨k - 1, by omega⟩
    simp only [wristbandref07_Log.l0]
    rw [if_neg (by omega)]
    by_cases h : x = 0
    · rw [if_pos h]
    · exact absurd (GF.ex_lg x h) (hj _ (by have := GF.lg_lt x h; omega))
  | succ d ih =>
    intro k i x hi hj hk
    obtain ⟨k, rfl⟩ : ∃ m, k = m + 1 := ⟨k - 1, by omega⟩
    simp only [wristbandref07_Log.l0]
    rw [if_pos (by omega), r_exp k (by omega), Option.bind_some, show ((i : Int) % 255).toNat = i by omega]
    by_cases e : GF.ex i = x
    · rw [if_pos (by rw [e])]
      have h0 : x ≠ 0 := by rw [← e]; exact GF.ex_ne_zero _
      rw [if_neg h0, ← e, GF.lg_ex i (by omega)]
    · rw [if_neg (fun h => e (GF.I_inj h)), w64 (by omega) (by omega)]
      exact ih k (i + 1) x (by omega) (fun j hj' => by
        by_cases h : j = i
        · rw [h]; exact e
        · exact hj j (by omega)) (by omega)
theorem r_log (k : Nat) (hk : 700 < k) (x : GF) : wristbandref07_Log.f k (GF.I x) = some (if x = 0 then -1 else (GF.lg x : Int)) := by
  unfold wristbandref07_Log.f
  exact r_log_l 255 k 0 x rfl (fun j h => by omega) (by omega)
end GfRightLaw
open GfRightLaw
theorem GfRight : wristbandlaw07_GfRight.Pure := by
  intro a0 a1 n h0 h1 hn
  obtain ⟨a, rfl⟩ := GF.ex_I h0
  obtain ⟨b, rfl⟩ := GF.ex_I h1
  refine ⟨800, ?_⟩
  unfold wristbandlaw07_GfRight.f
  have aw : wristbandlaw07_awake.f 800 = some true := by decide +kernel
  rw [aw]; simp only [Option.bind_some, if_true]
  rw [g_inv 800 (by omega), g_log 800 (by omega), r_log 800 (by omega)]
  simp only [Option.bind_some]
  have core : wristbandlaw07_GfRight.j0 800 (GF.I a) (GF.I b) n false = some true := by
    simp only [wristbandlaw07_GfRight.j0, g_add, g_mul 799 (by omega), r_mul 799 (by omega), g_pow 799 (by omega), r_pow 799 (by omega), g_exp 799 (by omega), r_exp 799 (by omega), Option.bind_some, GF.xor, if_true]
    simp
  by_cases ha : a = 0
  · subst ha
    rw [if_pos GF.I_zero]
    exact core
  · rw [if_neg (fun e => ha (GF.I_eq_zero.1 e)), if_neg ha, if_neg ha, if_neg ha, r_inv 800 (by omega) a ha]
    simp only [if_true, Option.bind_some, bne_self_eq_false]
    exact core
end Go.Proofs.Ytofmhbhcpojglaa.Pure
