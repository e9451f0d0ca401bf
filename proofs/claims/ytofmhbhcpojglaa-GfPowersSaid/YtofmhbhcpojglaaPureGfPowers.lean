/- GfPowers is proved: powers, logarithms and squares of the field's elements keep the laws that the statement names, for all elements and exponents. No conditions. -/
import Derived.Test.YtofmhbhcpojglaaPGfPowersx2
import Derived.Test.YtofmhbhcpojglaaGfI
namespace Go.Proofs.Ytofmhbhcpojglaa.Pure
open Go Go.RowKit Go.Proofs.Ytofmhbhcpojglaa.PGfPowers Go.Proofs.YtofmhbhcpojglaaW.PrintWords Go.Proofs.YtofmhbhcpojglaaW.PrintLast Go.Proofs.YtofmhbhcpojglaaW.PrintMore
open Go.Ar
namespace GfPowersLaw
theorem g_double : ∀ x : GF, gf_double.f (GF.I x) = some (GF.I (GF.dbl x)) := by decide +kernel
theorem g_add (x y : GF) : gf_Add.f (GF.I x) (GF.I y) = some (GF.I (x + y)) := by
  unfold gf_Add.f; rw [GF.xor]
theorem g_mul_l (n : Nat) : ∀ (k : Nat) (a p : GF) (c : Nat), c < 2 ^ n → n < k → gf_Mul.l0 k (GF.I a) (c : Int) (GF.I p) = some (GF.I (p + GF.mulB n a c)) := by
  induction n with
  | zero =>
    intro k a p c hc hk
    obtain ⟨k, rfl⟩ : ∃ m, k = m + 1 := ⟨k - 1, by omega⟩
    have : c = 0 := by simpa using hc
    subst this
    simp only [gf_Mul.l0]
    rw [if_neg (by decide)]; simp only [GF.mulB, GF.add_zero]
  | succ n ih =>
    intro k a p c hc hk
    obtain ⟨k, rfl⟩ : ∃ m, k = m + 1 := ⟨k - 1, by omega⟩
    by_cases h0 : c = 0
    · subst h0
      have z : ∀ n a, GF.mulB n a 0 = 0 := by
        intro n
        induction n with
        | zero => intro a; rfl
        | succ n ih => intro a; simp only [GF.mulB]; rw [if_neg (by decide), show 0 / 2 = 0 from rfl, ih]; rfl
      simp only [gf_Mul.l0]
      rw [if_neg (by decide), z, GF.add_zero]
    · have hb : c / 2 < 2 ^ n := by rw [Nat.pow_succ] at hc; omega
      have e := fun p => ih k (GF.dbl a) p (c / 2) hb (by omega)
      simp only [gf_Mul.l0, g_double, Option.bind_some, GF.xor]
      rw [if_pos (by omega), show (c : Int) / 2 = ((c / 2 : Nat) : Int) by omega, e, e]
      have ha : (Go.bits .and .u8 (c : Int) 1 > 0) ↔ c % 2 = 1 := by
        have : Go.bits .and .u8 (c : Int) 1 = ((c % 2 : Nat) : Int) := by
          have h : Go.bits .and .u8 (c : Int) 1 = IntKind.u8.wrap (((c % 256) &&& 1 : Nat) : Int) := by
            show IntKind.u8.wrap (((BitVec.ofInt 8 (c : Int)) &&& (BitVec.ofInt 8 1)).toNat : Int) = _
            rw [BitVec.ofInt_natCast, BitVec.toNat_and, BitVec.toNat_ofNat]; rfl
          rw [h, wu8, Nat.and_one_is_mod]; omega
        rw [this]; omega
      simp only [GF.mulB, ha]
      split
      · rw [GF.add_assoc]
      · rw [GF.zero_add]
theorem g_mul (k : Nat) (hk : 8 < k) (x y : GF) : gf_Mul.f k (GF.I x) (GF.I y) = some (GF.I (x * y)) := by
  unfold gf_Mul.f
  have := g_mul_l 8 k x 0 y.b.toNat (by have := y.b.isLt; omega) hk
  rw [GF.zero_add] at this
  exact this
theorem g_pow_l (n : Nat) : ∀ (k : Nat) (a p : GF) (c : Nat), c < 2 ^ n → n ≤ 16 → n + 8 < k → gf_Pow.l0 k (GF.I a) (c : Int) (GF.I p) = some (GF.I (p * GF.pw a c)) := by
  induction n with
  | zero =>
    intro k a p c hc hn hk
    obtain ⟨k, rfl⟩ : ∃ m, k = m + 1 := ⟨k - 1, by omega⟩
    have : c = 0 := by simpa using hc
    subst this
    simp only [gf_Pow.l0]
    rw [if_neg (by decide), GF.pw, GF.mul_one]
  | succ n ih =>
    intro k a p c hc hn hk
    obtain ⟨k, rfl⟩ : ∃ m, k = m + 1 := ⟨k - 1, by omega⟩
    by_cases h0 : c = 0
    · subst h0
      simp only [gf_Pow.l0]
      rw [if_neg (by decide), GF.pw, GF.mul_one]
    · have hb : c / 2 < 2 ^ n := by rw [Nat.pow_succ] at hc; omega
      have h16 : c < 2 ^ 62 := Nat.lt_of_lt_of_le hc (Nat.pow_le_pow_right (by decide) (by omega))
      have e := fun p => ih k (a * a) p (c / 2) hb (by omega) (by omega)
      simp only [gf_Pow.l0, g_mul k (by omega), Option.bind_some]
      rw [if_pos (by omega), show (c : Int) / 2 = ((c / 2 : Nat) : Int) by omega, e, e, and1_i64 c h16]
      have sq : GF.pw (a * a) (c / 2) = GF.pw a (2 * (c / 2)) := by
        rw [GF.pw_mul]; congr 1; exact congrArg (a * ·) (GF.mul_one a).symm
      rw [sq]
      split
      · rw [GF.mul_assoc]
        conv => rhs; rw [show c = 1 + 2 * (c / 2) by omega, GF.pw_add]
        rw [show GF.pw a 1 = a from GF.mul_one a]
      · conv => rhs; rw [show c = 2 * (c / 2) by omega]
/-- Go's power -/
def g_powv (x : GF) (n : Int) : GF := if x = 0 then (if n = 0 then 1 else 0) else GF.pw x (n % 255).toNat
theorem g_pow (k : Nat) (hk : 24 < k) (x : GF) (n : Int) :
    gf_Pow.f k (GF.I x) n = some (GF.I (g_powv x n)) := by
  unfold gf_Pow.f g_powv
  by_cases hx : x = 0
  · subst hx; rw [if_pos GF.I_zero, if_pos rfl]; split <;> rfl
  · have : ¬ GF.I x = 0 := fun e => hx (GF.I_eq_zero.1 e)
    rw [if_neg this, if_neg hx]
    have e : Int.tmod (wrap64 ((Int.tmod n 255) + 255)) 255 = ((n % 255).toNat : Int) := by
      have h : Int.tmod n 255 = n % 255 ∨ Int.tmod n 255 = n % 255 - 255 := by
        rw [Int.tmod_eq_emod]; split <;> simp
      have hb := Int.emod_nonneg n (show (255 : Int) ≠ 0 by decide)
      have hb2 := Int.emod_lt_of_pos n (show (0 : Int) < 255 by decide)
      rw [w64 (by omega) (by omega), tmodp _ _ (by omega)]
      omega
    have hb2 := Int.emod_lt_of_pos n (show (0 : Int) < 255 by decide)
    have hb := Int.emod_nonneg n (show (255 : Int) ≠ 0 by decide)
    rw [e]
    have := g_pow_l 8 k x 1 (n % 255).toNat (by omega) (by omega) (by omega)
    rw [GF.one_mul] at this
    exact this
theorem g_inv (k : Nat) (hk : 24 < k) (x : GF) : gf_Inv.f k (GF.I x) = some (if x = 0 then (0, 1) else (GF.I (GF.inv x), 0)) := by
  unfold gf_Inv.f
  by_cases hx : x = 0
  · subst hx; rw [if_pos GF.I_zero, if_pos rfl]
  · have : ¬ GF.I x = 0 := fun e => hx (GF.I_eq_zero.1 e)
    rw [if_neg this, if_neg hx, g_pow k hk x 254]
    simp only [Option.bind_some, g_powv]
    rw [if_neg hx, show ((254 : Int) % 255).toNat = 254 from rfl, GF.inv_pw x hx]
theorem g_exp (k : Nat) (hk : 24 < k) (n : Int) :
    gf_Exp.f k n = some (GF.I (GF.ex (n % 255).toNat)) := by
  unfold gf_Exp.f
  have h := g_pow k hk (GF.ex 1) n
  rw [show GF.I (GF.ex 1) = 2 from rfl] at h
  rw [h]; simp only [Option.bind_some, g_powv]
  rw [if_neg (by decide), GF.pw_ex, Nat.one_mul]
def g_lgres (n : Nat) : Int × Int := if n < 255 then ((n : Int), 0) else (0, 1)
theorem g_log_l (d : Nat) : ∀ (k n : Nat) (a : GF), n + d = 255 → d < k →
    gf_Log.l0 k (GF.I a) (GF.I (GF.ex n)) (n : Int) = some (g_lgres (GF.lgFrom d n (GF.ex n) a)) := by
  induction d with
  | zero =>
    intro k n a hn hk
    obtain ⟨k, rfl⟩ : ∃ m, k = m + 1 := ⟨k - 1, by omega⟩
    have e : g_lgres (GF.lgFrom 0 n (GF.ex n) a) = (0, 1) := if_neg (by show ¬ n < 255; omega)
    rw [e]
    simp only [gf_Log.l0]
    rw [if_neg (by omega)]
  | succ d ih =>
    intro k n a hn hk
    obtain ⟨k, rfl⟩ : ∃ m, k = m + 1 := ⟨k - 1, by omega⟩
    simp only [gf_Log.l0, GF.lgFrom]
    rw [if_pos (by omega)]
    by_cases e : GF.ex n = a
    · rw [if_pos (by rw [e]), if_pos e, g_lgres, if_pos (by omega)]
    · rw [if_neg (fun h => e (GF.I_inj h)), if_neg e, g_double, Option.bind_some, w64 (by omega) (by omega)]
      have := ih k (n + 1) a (by omega) (by omega)
      exact this
theorem lg_zero : GF.lg 0 = 255 := by decide +kernel
theorem g_log (k : Nat) (hk : 255 < k) (a : GF) : gf_Log.f k (GF.I a) = some (if a = 0 then (0, 1) else ((GF.lg a : Int), 0)) := by
  unfold gf_Log.f
  have h : gf_Log.l0 k (GF.I a) 1 0 = some (g_lgres (GF.lg a)) := g_log_l 255 k 0 a rfl hk
  rw [h]
  by_cases h0 : a = 0
  · subst h0; rw [lg_zero]; rfl
  · rw [g_lgres, if_pos (GF.lg_lt a h0), if_neg h0]
theorem awake : wristbandlaw07_awake.f 300 = some true := by decide +kernel
theorem pw_int (x : GF) (h : x ≠ 0) (m n : Int) : GF.pw x (m % 255).toNat * GF.pw x (n % 255).toNat = GF.pw x ((m + n) % 255).toNat := by
  rw [← GF.pw_add, GF.pw_mod x h]
  congr 1
  omega
theorem ex_lgn (a : GF) (h : a ≠ 0) : GF.ex ((GF.lg a : Int) % 255).toNat = a := by
  have := GF.lg_lt a h
  rw [show ((GF.lg a : Int) % 255).toNat = GF.lg a by omega, GF.ex_lg a h]
theorem lg_mul (a b : GF) (ha : a ≠ 0) (hb : b ≠ 0) : GF.lg (a * b) = (GF.lg a + GF.lg b) % 255 := by
  conv => lhs; rw [← GF.ex_lg a ha, ← GF.ex_lg b hb, GF.ex_mul, GF.ex_mod]
  exact GF.lg_ex _ (Nat.mod_lt _ (by omega))
theorem bounds_i16 {n : Int} (h : (Lit.int .i16 n).wf = true) : -32768 ≤ n ∧ n ≤ 32767 := by
  simpa [Lit.wf, IntKind.min, IntKind.max, IntKind.signed, IntKind.bits] using h
theorem pv (x : GF) (h : x ≠ 0) (n : Int) : g_powv x n = GF.pw x (n % 255).toNat := by unfold g_powv; rw [if_neg h]
theorem pv0 (n : Int) (h : n ≠ 0) : g_powv 0 n = 0 := by unfold g_powv; rw [if_pos rfl, if_neg h]
theorem sq (x : GF) : g_powv x 2 = x * x := by
  by_cases h : x = 0
  · subst h; rfl
  · rw [pv x h]; show x * (x * 1) = _; rw [GF.mul_one]
theorem tail_ok (a b : GF) (k : Nat) (hk : 260 ≤ k) : wristbandlaw07_GfPowers.j0 (k + 2) (GF.I a) (GF.I b) false = some true := by
  simp only [wristbandlaw07_GfPowers.j0, g_log (k + 1) (by omega), Option.bind_some]
  rw [if_neg (by simp)]
  by_cases ha : a = 0
  · subst ha
    rw [if_pos rfl, if_neg (by simp)]
    simp only [wristbandlaw07_GfPowers.j1, GF.I_zero, if_true]
  · rw [if_neg ha]
    simp only [if_true]
    by_cases hb : b = 0
    · subst hb
      simp [wristbandlaw07_GfPowers.j1, GF.I_zero]
    · rw [if_neg hb]
      have hab : ¬ a * b = 0 := by rw [GF.mul_eq_zero]; simp [ha, hb]
      have h1 := GF.lg_lt a ha
      have h2 := GF.lg_lt b hb
      simp only [wristbandlaw07_GfPowers.j1, g_mul k (by omega), g_log k (by omega), g_exp k (by omega), Option.bind_some]
      rw [if_neg hab, ex_lgn a ha, w64 (by omega) (by omega), tmodp _ _ (by omega), lg_mul a b ha hb]
      simp
      omega
end GfPowersLaw
open GfPowersLaw
theorem GfPowers : wristbandlaw07_GfPowers.Pure := by
  intro a0 a1 m n h0 h1 h2 h3
  obtain ⟨a, rfl⟩ := GF.ex_I h0
  obtain ⟨b, rfl⟩ := GF.ex_I h1
  have hm := bounds_i16 h2
  have hn := bounds_i16 h3
  refine ⟨300, ?_⟩
  unfold wristbandlaw07_GfPowers.f
  rw [awake]; simp only [Option.bind_some, if_true]
  rw [w64 (n := m) (by omega) (by omega), w64 (n := n) (by omega) (by omega), w64 (n := m + n) (by omega) (by omega)]
  simp only [g_pow 300 (by omega), g_mul 300 (by omega), g_add, Option.bind_some, sq, GF.sq_add, bne_self_eq_false]
  have t := tail_ok a b 298 (by omega)
  by_cases ha : a = 0
  · subst ha; rw [if_pos GF.I_zero]; exact t
  · rw [if_neg (fun e => ha (GF.I_eq_zero.1 e)), if_pos (by rw [pv a ha, pv a ha, pv a ha, pw_int a ha])]; exact t
end Go.Proofs.Ytofmhbhcpojglaa.Pure
