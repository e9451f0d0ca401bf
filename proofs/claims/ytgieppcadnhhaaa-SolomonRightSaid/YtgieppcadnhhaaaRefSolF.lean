/- What the reference of layer 9 reckons, told of polynomials over the field. -/
import Derived.Test.YtgieppcadnhhaaaPx12
import Derived.Test.YtgieppcadnhhaaaPx13
import Derived.Test.YtgieppcadnhhaaaPx14
import Derived.Test.YtgieppcadnhhaaaPx15
import Derived.Test.YtgieppcadnhhaaaPx16
import Derived.Test.YtgieppcadnhhaaaPolyF
import Derived.Test.YtgieppcadnhhaaaRefPolyF
import Derived.Test.YtgieppcadnhhaaaSolF
namespace Go.Proofs.Ytgieppcadnhhaaa.RefSolF
open Go Go.RowKit Go.Proofs.Ytgieppcadnhhaaa.P Go.Proofs.YtgieppcadnhhaaaW.PrintWords Go.Proofs.YtgieppcadnhhaaaW.PrintLast Go.Proofs.YtgieppcadnhhaaaW.PrintMore
open Go.Ar Pl Go.Proofs.Ytgieppcadnhhaaa.PolyF Go.Proofs.Ytgieppcadnhhaaa.RefPolyF Go.Proofs.Ytgieppcadnhhaaa.SolF
namespace Gf
theorem r_bit (i : Nat) : ∀ (k n j : Nat), n < 2 ^ 62 → i + j < 64 → i < k → wristbandref07_bit.l0 k (n : Int) ((i + j : Nat) : Int) (j : Int) = some (((n / 2 ^ i % 2 : Nat)) : Int) := by
  induction i with
  | zero =>
    intro k n j hn hi hk
    obtain ⟨k, rfl⟩ : ∃ m, k = m + 1 := ⟨k - 1, by omega⟩
    simp only [wristbandref07_bit.l0]
    rw [if_neg (by omega), tmodp _ _ (by omega)]; simp
  | succ i ih =>
    intro k n j hn hi hk
    obtain ⟨k, rfl⟩ : ∃ m, k = m + 1 := ⟨k - 1, by omega⟩
    simp only [wristbandref07_bit.l0]
    rw [if_pos (by omega), tdivp _ _ (by omega), w64 (n := (n : Int) / 2) (by omega) (by omega), w64 (n := (j : Int) + 1) (by omega) (by omega)]
    have := ih k (n / 2) (j + 1) (by omega) (by omega) (by omega)
    rw [show i + (j + 1) = i + 1 + j by omega] at this
    rw [show ((n : Int) / 2) = ((n / 2 : Nat) : Int) by omega, show ((j : Int) + 1) = ((j + 1 : Nat) : Int) by omega, this]
    rw [Nat.div_div_eq_div_mul, Nat.pow_succ, Nat.mul_comm 2]
theorem r_bitf (k n i : Nat) (hn : n < 2 ^ 62) (hi : i < 64) (hk : i < k) : wristbandref07_bit.f k (n : Int) (i : Int) = some ((n / 2 ^ i % 2 : Nat) : Int) := by
  unfold wristbandref07_bit.f
  exact r_bit i k n 0 hn (by omega) hk
theorem r_pow_l (d : Nat) : ∀ (k j : Nat), j + d < 62 → d < k → wristbandref07_power.l0 k ((j + d : Nat) : Int) ((2 ^ j : Nat) : Int) (j : Int) = some ((2 ^ (j + d) : Nat) : Int) := by
  induction d with
  | zero =>
    intro k j hj hk
    obtain ⟨k, rfl⟩ : ∃ m, k = m + 1 := ⟨k - 1, by omega⟩
    simp only [wristbandref07_power.l0]
    rw [if_neg (by omega)]; rfl
  | succ d ih =>
    intro k j hj hk
    obtain ⟨k, rfl⟩ : ∃ m, k = m + 1 := ⟨k - 1, by omega⟩
    simp only [wristbandref07_power.l0]
    have hb : 2 ^ j < 2 ^ 62 := Nat.pow_lt_pow_right (by decide) (by omega)
    generalize hq : 2 ^ j = q at *
    rw [if_pos (by omega), w64 (n := 2 * (q : Int)) (by omega) (by omega), w64 (n := (j : Int) + 1) (by omega) (by omega)]
    have := ih k (j + 1) (by omega) (by omega)
    rw [show j + 1 + d = j + (d + 1) by omega] at this
    rw [← this]
    congr 1
    rw [Nat.pow_succ, hq]; omega
theorem r_powf (k i : Nat) (hi : i < 62) (hk : i < k) : wristbandref07_power.f k (i : Int) = some ((2 ^ i : Nat) : Int) := by
  unfold wristbandref07_power.f
  have := r_pow_l i k 0 (by omega) hk
  rw [Nat.zero_add] at this
  exact this
theorem r_red (d : Nat) : ∀ (k p : Nat), p < 2 ^ 15 → d ≤ 7 → d + 16 < k → wristbandref07_Mul.l1 k (p : Int) ((7 + d : Nat) : Int) = some ((GF.redN d p : Nat) : Int) := by
  induction d with
  | zero =>
    intro k p hp hd hk
    obtain ⟨k, rfl⟩ : ∃ m, k = m + 1 := ⟨k - 1, by omega⟩
    simp only [wristbandref07_Mul.l1]
    rw [if_neg (by omega)]; simp only [GF.redN]; congr 1
  | succ d ih =>
    intro k p hp hd hk
    obtain ⟨k, rfl⟩ : ∃ m, k = m + 1 := ⟨k - 1, by omega⟩
    simp only [wristbandref07_Mul.l1]
    rw [if_pos (by omega), r_bitf k p (7 + (d + 1)) (by omega) (by omega) (by omega)]
    simp only [Option.bind_some]
    rw [w64 (n := ((7 + (d + 1) : Nat) : Int) - 8) (by omega) (by omega), w64 (n := ((7 + (d + 1) : Nat) : Int) - 1) (by omega) (by omega)]
    rw [show ((7 + (d + 1) : Nat) : Int) - 8 = (d : Int) by omega, show ((7 + (d + 1) : Nat) : Int) - 1 = ((7 + d : Nat) : Int) by omega]
    rw [r_powf k d (by omega) (by omega)]
    simp only [Option.bind_some, GF.redN]
    have hb : 2 ^ d ≤ 2 ^ 6 := Nat.pow_le_pow_right (by decide) (by omega)
    rw [show 8 + d = 7 + (d + 1) by omega]
    generalize 2 ^ d = q at *
    by_cases e : p / 2 ^ (7 + (d + 1)) % 2 = 1
    · rw [if_pos (by omega), if_pos e, w64 (by omega) (by omega), show (301 : Int) * (q : Int) = ((301 * q : Nat) : Int) by omega, xor_i64 _ _ (by omega) (by omega)]
      exact ih k _ (Nat.xor_lt_two_pow hp (by omega)) (by omega) (by omega)
    · rw [if_neg (by omega), if_neg e]
      exact ih k p hp (by omega) (by omega)
theorem r_mul_l (d : Nat) : ∀ (k i : Nat) (x y : GF) (p : Nat), i + d = 8 → p < 2 ^ 15 → d + 40 < k →
    wristbandref07_Mul.l0 k (GF.I x) (GF.I y) (p : Int) (i : Int) = some ((GF.redN 7 (GF.clN d i x.b.toNat y.b.toNat p) : Nat) : Int) := by
  induction d with
  | zero =>
    intro k i x y p hi hp hk
    obtain ⟨k, rfl⟩ : ∃ m, k = m + 1 := ⟨k - 1, by omega⟩
    simp only [wristbandref07_Mul.l0]
    rw [if_neg (by omega)]
    exact r_red 7 k p hp (by omega) (by omega)
  | succ d ih =>
    intro k i x y p hi hp hk
    obtain ⟨k, rfl⟩ : ∃ m, k = m + 1 := ⟨k - 1, by omega⟩
    have hx := x.b.isLt
    have hy := y.b.isLt
    simp only [wristbandref07_Mul.l0]
    have by_ := GF.I_bd y
    have bx_ := GF.I_bd x
    rw [if_pos (by omega), w64 (n := GF.I y) (by omega) (by omega), w64 (n := GF.I x) (by omega) (by omega), w64 (n := (i : Int) + 1) (by omega) (by omega)]
    have e1 : wristbandref07_bit.f k (GF.I y) (i : Int) = some ((y.b.toNat / 2 ^ i % 2 : Nat) : Int) := r_bitf k y.b.toNat i (by omega) (by omega) (by omega)
    rw [e1, r_powf k i (by omega) (by omega)]
    simp only [Option.bind_some, GF.clN]
    have hb : 2 ^ i ≤ 2 ^ 7 := Nat.pow_le_pow_right (by decide) (by omega)
    have hm : x.b.toNat * 2 ^ i < 2 ^ 15 := Nat.lt_of_lt_of_le (Nat.mul_lt_mul_of_pos_right hx (Nat.two_pow_pos i)) (by omega)
    by_cases e : y.b.toNat / 2 ^ i % 2 = 1
    · have e2 : GF.I x * ((2 ^ i : Nat) : Int) = ((x.b.toNat * 2 ^ i : Nat) : Int) := by unfold GF.I; rw [Int.natCast_mul]
      rw [if_pos (by omega), if_pos e, e2, w64 (by omega) (by omega), xor_i64 _ _ (by omega) (by omega)]
      exact ih k (i + 1) x y _ (by omega) (Nat.xor_lt_two_pow hp hm) (by omega)
    · rw [if_neg (by omega), if_neg e]
      exact ih k (i + 1) x y p (by omega) hp (by omega)
theorem r_mul (k : Nat) (hk : 50 < k) (x y : GF) : wristbandref07_Mul.f k (GF.I x) (GF.I y) = some (GF.I (x * y)) := by
  unfold wristbandref07_Mul.f
  have := r_mul_l 8 k 0 x y 0 rfl (by decide) (by omega)
  rw [GF.red_cl] at this
  exact this
theorem r_pow_loop (d : Nat) : ∀ (k i : Nat) (x p : GF) (n : Nat), i + d = n → n < 1000 → d + 60 < k → wristbandref07_Pow.l0 k (GF.I x) (n : Int) (GF.I p) (i : Int) = some (GF.I (p * GF.pw x d)) := by
  induction d with
  | zero =>
    intro k i x p n hi hn hk
    obtain ⟨k, rfl⟩ : ∃ m, k = m + 1 := ⟨k - 1, by omega⟩
    simp only [wristbandref07_Pow.l0]
    rw [if_neg (by omega), GF.pw, GF.mul_one]
  | succ d ih =>
    intro k i x p n hi hn hk
    obtain ⟨k, rfl⟩ : ∃ m, k = m + 1 := ⟨k - 1, by omega⟩
    simp only [wristbandref07_Pow.l0]
    rw [if_pos (by omega), r_mul k (by omega), Option.bind_some, w64 (by omega) (by omega)]
    have := ih k (i + 1) x (p * x) n (by omega) hn (by omega)
    rw [show ((i : Int) + 1) = ((i + 1 : Nat) : Int) by omega, this, GF.pw, GF.mul_assoc]
theorem r_pow (k : Nat) (hk : 400 < k) (x : GF) (n : Int) :
    wristbandref07_Pow.f k (GF.I x) n = some (GF.I (g_powv x n)) := by
  unfold wristbandref07_Pow.f g_powv
  by_cases hx : x = 0
  · subst hx; rw [if_pos GF.I_zero, if_pos rfl]; split <;> rfl
  · rw [if_neg (fun e => hx (GF.I_eq_zero.1 e)), if_neg hx]
    have hb := Int.emod_nonneg n (show (255 : Int) ≠ 0 by decide)
    have hb2 := Int.emod_lt_of_pos n (show (0 : Int) < 255 by decide)
    have h : Int.tmod n 255 = n % 255 ∧ 0 ≤ Int.tmod n 255 ∨ Int.tmod n 255 = n % 255 - 255 ∧ Int.tmod n 255 < 0 := by
      rw [Int.tmod_eq_emod]; split <;> simp <;> omega
    obtain ⟨k, rfl⟩ : ∃ m, k = m + 1 := ⟨k - 1, by omega⟩
    have core := r_pow_loop (n % 255).toNat k 0 x 1 (n % 255).toNat (by omega) (by omega) (by omega)
    rw [GF.one_mul, show (((n % 255).toNat : Nat) : Int) = n % 255 by omega] at core
    rcases h with ⟨e, h⟩ | ⟨e, h⟩
    · rw [if_neg (by omega), e]; simp only [wristbandref07_Pow.j0]; exact core
    · rw [if_pos h, e, w64 (by omega) (by omega), show n % 255 - 255 + 255 = n % 255 by omega]; simp only [wristbandref07_Pow.j0]; exact core
theorem r_exp (k : Nat) (hk : 400 < k) (n : Int) :
    wristbandref07_Exp.f k n = some (GF.I (GF.ex (n % 255).toNat)) := by
  unfold wristbandref07_Exp.f
  have h := r_pow k hk (GF.ex 1) n
  rw [show GF.I (GF.ex 1) = 2 from rfl] at h
  rw [h]; simp only [Option.bind_some, g_powv]
  rw [if_neg (by decide), GF.pw_ex, Nat.one_mul]
end Gf
theorem r_gen_l (n : Nat) (hn : n ≤ 64) : ∀ (d k i : Nat), i + d = n → d + 10000 ≤ k → wristbandref09_Gen.l0 k (n : Int) (M (genl i)) ((i + 1 : Nat) : Int) = some (M (genl n)) := by
  intro d
  induction d with
  | zero =>
    intro k i h hk
    obtain ⟨k, rfl⟩ : ∃ m, k = m + 1 := ⟨k - 1, by omega⟩
    simp only [wristbandref09_Gen.l0]
    rw [if_neg (by omega), show i = n by omega]
  | succ d ih =>
    intro k i h hk
    obtain ⟨k, rfl⟩ : ∃ m, k = m + 1 := ⟨k - 1, by omega⟩
    simp only [wristbandref09_Gen.l0]
    rw [if_pos (by omega), w64 (by omega) (by omega), Gf.r_exp k (by omega), Option.bind_some, show ((((i + 1 : Nat) : Int)) % 255).toNat = i + 1 by omega]
    have hm : ((genl i).length + 2) * (2 * (genl i).length + 4) + 100 + (genl i).length + 2 ≤ k := by
      rw [genl_length]
      have := Nat.mul_le_mul (show i + 1 + 2 ≤ 66 by omega) (show 2 * (i + 1) + 4 ≤ 132 by omega); omega
    obtain ⟨m, e1, e2, e3, _⟩ := r_mul8 k (genl i) [GF.ex (i + 1), 1] (by rw [genl_length]; simp; omega) hm
    have : m = genl (i + 1) := ends_eq e2 (genl_ends _) (by rw [e3, genl_co, genl_co, pair_co]; rfl)
    rw [show ([GF.I (GF.ex (i + 1)), 1] : List Int) = M [GF.ex (i + 1), 1] from rfl, e1, Option.bind_some, this, show ((i + 1 : Nat) : Int) + 1 = ((i + 1 + 1 : Nat) : Int) by omega]
    exact ih k (i + 1) (by omega) (by omega)
theorem r_gen (k : Nat) (hk : 11000 ≤ k) (n : Nat) (h2 : n ≤ 64) : wristbandref09_Gen.f k (n : Int) = some (M (genl n)) := by
  unfold wristbandref09_Gen.f
  rw [show ([1] : List Int) = M (genl 0) from rfl, show (1 : Int) = ((0 + 1 : Nat) : Int) from rfl]
  exact r_gen_l n h2 n k 0 (by omega) (by omega)
theorem r_error (k : Nat) (hk : 0 < k) (b : List GF) (n : Nat) (h1 : 1 ≤ n) (h2 : n ≤ 64) : wristbandref09_Error.f k (M b) (n : Int) = some (if b.length < n then 2 else if 255 < b.length then 4 else 0) := by
  obtain ⟨k, rfl⟩ : ∃ m, k = m + 1 := ⟨k - 1, by omega⟩
  unfold wristbandref09_Error.f
  rw [if_neg (by omega), decide_eq_false (show ¬ (n : Int) > 64 by omega)]
  simp only [wristbandref09_Error.j0]
  rw [if_neg (by simp), M_length]
  by_cases c1 : b.length < n
  · rw [if_pos (by omega), if_pos c1]
  · rw [if_neg (by omega), if_neg c1]
    by_cases c2 : 255 < b.length
    · rw [if_pos (by omega), if_pos c2]
    · rw [if_neg (by omega), if_neg c2]
theorem r_turned_l (b : List GF) (hb : b.length < 1000000) : ∀ (i k : Nat), i ≤ b.length → i < k → wristbandref09_Turned.l0 k (M b) (M (b.drop i).reverse) ((i : Int) - 1) = some (M b.reverse) := by
  intro i
  induction i with
  | zero =>
    intro k h hk
    obtain ⟨k, rfl⟩ : ∃ m, k = m + 1 := ⟨k - 1, by omega⟩
    simp only [wristbandref09_Turned.l0]
    rw [if_neg (by omega)]; rfl
  | succ i ih =>
    intro k h hk
    obtain ⟨k, rfl⟩ : ∃ m, k = m + 1 := ⟨k - 1, by omega⟩
    simp only [wristbandref09_Turned.l0]
    rw [show ((i + 1 : Nat) : Int) - 1 = (i : Int) by omega, if_pos (by omega), if_pos (by omega), if_pos (by rw [M_length]; omega), if_pos (by rw [M_length, List.length_reverse, List.length_drop]; omega), w64 (by omega) (by omega), rd_M, M_snoc, Int.toNat_natCast]
    have : (b.drop (i + 1)).reverse ++ [co b i] = (b.drop i).reverse := by
      rw [List.drop_eq_getElem_cons (show i < b.length by omega), List.reverse_cons, co_get b i (by omega)]
    rw [this]
    exact ih k (by omega) (by omega)
theorem r_turned (b : List GF) (hb : b.length < 1000000) (k : Nat) (hk : b.length < k) : wristbandref09_Turned.f k (M b) = some (M b.reverse) := by
  unfold wristbandref09_Turned.f
  have := r_turned_l b hb b.length k (Nat.le_refl _) hk
  rw [List.drop_length] at this
  rw [M_length, w64 (by omega) (by omega)]
  exact this
theorem r_signs_l (b : List GF) (hb : b.length ≤ 300) (n : Nat) (h2 : n ≤ 64) : ∀ (d k i : Nat), i + d = n → d + 1000 ≤ k → wristbandref09_Signs.l0 k (M b) (n : Int) (M (signs b i)) ((i + 1 : Nat) : Int) = some (M (signs b n)) := by
  intro d
  induction d with
  | zero =>
    intro k i h hk
    obtain ⟨k, rfl⟩ : ∃ m, k = m + 1 := ⟨k - 1, by omega⟩
    simp only [wristbandref09_Signs.l0]
    rw [if_neg (by omega), show i = n by omega]
  | succ d ih =>
    intro k i h hk
    obtain ⟨k, rfl⟩ : ∃ m, k = m + 1 := ⟨k - 1, by omega⟩
    simp only [wristbandref09_Signs.l0]
    rw [if_pos (by omega), r_turned b (by omega) k (by omega), Option.bind_some, w64 (by omega) (by omega), Gf.r_exp k (by omega), Option.bind_some, show ((((i + 1 : Nat) : Int)) % 255).toNat = i + 1 by omega,
      r_eval k _ _ (by rw [List.length_reverse]; omega) (by rw [List.length_reverse]; omega), Option.bind_some, if_pos (by rw [M_length, signs_length]; omega), List.length_reverse, M_snoc]
    rw [show signs b i ++ [PS.ev b.length (co b.reverse) (GF.ex (i + 1))] = signs b (i + 1) from (signs_succ b i).symm, show ((i + 1 : Nat) : Int) + 1 = ((i + 1 + 1 : Nat) : Int) by omega]
    exact ih k (i + 1) (by omega) (by omega)
theorem r_signs (k : Nat) (hk : 2000 ≤ k) (b : List GF) (hb : b.length ≤ 300) (n : Nat) (h2 : n ≤ 64) : wristbandref09_Signs.f k (M b) (n : Int) = some (M (signs b n)) := by
  unfold wristbandref09_Signs.f
  rw [show ([] : List Int) = M (signs b 0) from rfl, show (1 : Int) = ((0 + 1 : Nat) : Int) from rfl]
  exact r_signs_l b hb n h2 n k 0 (by omega) (by omega)
theorem r_fine_l (b : List GF) (n : Nat) (h2 : n ≤ 64) : ∀ (d k i : Nat), i + d = n → d < k → (∀ j, j < i → sg b j = 0) → ∃ t, wristbandref09_Fine.l0 k (M (signs b n)) (i : Int) = some t ∧ (t = true ↔ OK b n) := by
  intro d
  induction d with
  | zero =>
    intro k i h hk ha
    obtain ⟨k, rfl⟩ : ∃ m, k = m + 1 := ⟨k - 1, by omega⟩
    simp only [wristbandref09_Fine.l0]
    rw [if_neg (by rw [M_length, signs_length]; omega)]
    exact ⟨true, rfl, by simp only [true_iff]; intro j hj; exact ha j (by omega)⟩
  | succ d ih =>
    intro k i h hk ha
    obtain ⟨k, rfl⟩ : ∃ m, k = m + 1 := ⟨k - 1, by omega⟩
    simp only [wristbandref09_Fine.l0]
    rw [if_pos (by rw [M_length, signs_length]; omega), if_pos (by omega), rd_M, Int.toNat_natCast, co_signs b n i (by omega), w64 (by omega) (by omega), show (i : Int) + 1 = ((i + 1 : Nat) : Int) by omega]
    by_cases e : sg b i = 0
    · rw [if_pos (GF.I_eq_zero.2 e)]
      refine ih k (i + 1) (by omega) (by omega) (fun j hj => ?_)
      by_cases hj' : j < i
      · exact ha j hj'
      · rw [show j = i by omega]; exact e
    · rw [if_neg (fun h => e (GF.I_eq_zero.1 h))]
      exact ⟨false, rfl, by simp only [Bool.false_eq_true, false_iff]; intro h; exact e (h i (by omega))⟩
theorem r_fine (k : Nat) (hk : 2000 ≤ k) (b : List GF) (hb : b.length ≤ 300) (n : Nat) (h1 : 1 ≤ n) (h2 : n ≤ 64) :
    ∃ t, wristbandref09_Fine.f k (M b) (n : Int) = some t ∧ (t = true ↔ n ≤ b.length ∧ b.length ≤ 255 ∧ OK b n) := by
  unfold wristbandref09_Fine.f
  rw [r_error k (by omega) b n h1 h2, Option.bind_some]
  by_cases c1 : b.length < n
  · rw [if_pos c1]; exact ⟨false, rfl, by simp; omega⟩
  · rw [if_neg c1]
    by_cases c2 : 255 < b.length
    · rw [if_pos c2]; exact ⟨false, rfl, by simp; omega⟩
    · rw [if_neg c2, if_pos rfl, r_signs k hk b hb n h2, Option.bind_some]
      obtain ⟨t, e1, e2⟩ := r_fine_l b n h2 n k 0 (by omega) (by omega) (fun j hj => by omega)
      exact ⟨t, e1, e2.trans ⟨fun h => ⟨by omega, by omega, h⟩, fun h => h.2.2⟩⟩
/-! ### the register -/
def newreg (n : Nat) (reg : List GF) (top : GF) : List GF := (List.range n).map (fun j => (if j = 0 then 0 else co reg (j - 1)) + top * gen n j)
theorem newreg_length (n : Nat) (reg : List GF) (top : GF) : (newreg n reg top).length = n := by unfold newreg; rw [List.length_map, List.length_range]
theorem newreg_co (n : Nat) (reg : List GF) (top : GF) (j : Nat) : co (newreg n reg top) j = if j < n then (if j = 0 then 0 else co reg (j - 1)) + top * gen n j else 0 := by
  by_cases h : j < n
  · rw [if_pos h]
    unfold newreg
    show ((List.range n).map _).getD j 0 = _
    rw [List.getD_eq_getElem?_getD, List.getElem?_map, List.getElem?_range h]; rfl
  · rw [if_neg h]; exact co_bd _ j (by rw [newreg_length]; omega)
theorem shift_cons (n : Nat) (a : GF) (f : PS) (j : Nat) : PS.shift n (PS.cons a f) j = if j < n then 0 else if j = n then a else f (j - n - 1) := by
  by_cases h : j < n
  · rw [if_pos h, PS.shift_lt n _ j h]
  · rw [if_neg h, PS.shift_ge' n _ j (by omega)]
    by_cases h2 : j = n
    · rw [if_pos h2, h2, Nat.sub_self]; rfl
    · rw [if_neg h2]
      obtain ⟨m, hm⟩ : ∃ m, j - n = m + 1 := ⟨j - n - 1, by omega⟩
      rw [hm]; rfl
theorem step (n : Nat) (hn : 1 ≤ n) (a : PS) (reg : List GF) (hr : reg.length = n) (f : PS) (x : GF) (e : PS.add (PS.conv a (gen n)) (co reg) = PS.shift n f) :
    PS.add (PS.conv (PS.add (PS.cons 0 a) (PS.C (x + co reg (n - 1)))) (gen n)) (co (newreg n reg (x + co reg (n - 1)))) = PS.shift n (PS.cons x f) := by
  have e2 : PS.conv a (gen n) = PS.add (PS.shift n f) (co reg) := by rw [← e, PS.add_assoc, PS.add_self, PS.add_zero]
  rw [PS.add_conv, PS.conv_cons0, PS.C_conv, e2]
  funext j
  rw [shift_cons]
  show PS.cons 0 (PS.add (PS.shift n f) (co reg)) j + (x + co reg (n - 1)) * gen n j + co (newreg n reg (x + co reg (n - 1))) j = _
  rw [newreg_co]
  cases j with
  | zero =>
    rw [if_pos (by omega), if_pos rfl, if_pos (by omega)]
    show 0 + _ + (0 + _) = (0 : GF)
    rw [GF.zero_add]
    exact GF.add_self _
  | succ m =>
    show PS.shift n f m + co reg m + _ + _ = _
    by_cases c1 : m + 1 < n
    · rw [if_pos c1, if_neg (by omega), if_pos c1, PS.shift_lt n f m (by omega), Nat.add_sub_cancel, GF.zero_add, GF.add_self]
    · rw [if_neg c1, if_neg c1, GF.add_zero]
      by_cases c2 : m + 1 = n
      · rw [if_pos c2, PS.shift_lt n f m (by omega), GF.zero_add, c2, gen_top, GF.mul_one, show n - 1 = m by omega, GF.add_comm x, GF.add_cancel]
      · rw [if_neg c2, co_bd reg m (by omega), gen_bd n (m + 1) (by omega), GF.mul_zero, GF.add_zero, GF.add_zero, PS.shift_ge' n f m (by omega)]
        congr 1; omega
theorem r_put_1 (d : List GF) (n : Nat) (hn : 1 ≤ n) (hn2 : n ≤ 64) (reg : List GF) (hr : reg.length = n) (i : Nat) (hi : i < 1000) (top : GF) (R : Option (List Int) → Prop) (F : Nat) (hF : 100 ≤ F)
    (hnext : ∀ k, F ≤ k → R (wristbandref09_Put.l0 k (M d) (n : Int) (M (genl n)) (M (newreg n reg top)) ((i + 1 : Nat) : Int))) : ∀ (kk k : Nat) (g : List GF), kk < n → g.length = n →
    (∀ j, j ≤ kk → co g j = co reg j) → (∀ j, kk < j → j < n → co g j = co (newreg n reg top) j) → F + kk + 1 ≤ k →
    R (wristbandref09_Put.l1 k (M d) (n : Int) (M (genl n)) (M g) (i : Int) (GF.I top) (kk : Int)) := by
  intro kk
  induction kk with
  | zero =>
    intro k g hk hg h1 h2 hF
    obtain ⟨k, rfl⟩ : ∃ m, k = m + 1 := ⟨k - 1, by omega⟩
    simp only [wristbandref09_Put.l1]
    rw [if_neg (by omega), if_pos (by rw [M_length, genl_length]; omega), rd_M, genl_co, Gf.r_mul k (by omega), Option.bind_some, if_pos (by rw [M_length]; omega), M_set, w64 (by omega) (by omega), show (i : Int) + 1 = ((i + 1 : Nat) : Int) by omega]
    have : g.set (0 : Int).toNat (top * gen n (0 : Int).toNat) = newreg n reg top := by
      apply co_inj (by rw [List.length_set, newreg_length, hg])
      funext j
      show (g.set 0 _).getD j 0 = _
      rw [List.getD_eq_getElem?_getD, List.getElem?_set]
      by_cases c : 0 = j
      · rw [if_pos c, if_pos (by omega), newreg_co, if_pos (by omega), if_pos c.symm, GF.zero_add, ← c]; rfl
      · rw [if_neg c, ← List.getD_eq_getElem?_getD]
        by_cases c2 : j < n
        · exact h2 j (by omega) c2
        · rw [newreg_co, if_neg c2]; exact co_bd g j (by omega)
    rw [this]
    exact hnext k (by omega)
  | succ kk ih =>
    intro k g hk hg h1 h2 hF
    obtain ⟨k, rfl⟩ : ∃ m, k = m + 1 := ⟨k - 1, by omega⟩
    simp only [wristbandref09_Put.l1]
    rw [if_pos (by omega), show ((kk + 1 : Nat) : Int) - 1 = (kk : Int) by omega, w64 (by omega) (by omega), if_pos (by omega), if_pos (by rw [M_length]; omega), if_pos (by omega), if_pos (by rw [M_length, genl_length]; omega), rd_M, genl_co, Gf.r_mul k (by omega), Option.bind_some,
      if_pos (by rw [M_length]; omega), rd_M, GF.xor, M_set, Int.toNat_natCast, Int.toNat_natCast]
    refine ih k _ (by omega) (by rw [List.length_set, hg]) (fun j hj => ?_) (fun j hj hj2 => ?_) (by omega)
    · show (g.set (kk + 1) _).getD j 0 = _
      rw [List.getD_eq_getElem?_getD, List.getElem?_set_ne (by omega), ← List.getD_eq_getElem?_getD]
      exact h1 j (by omega)
    · show (g.set (kk + 1) _).getD j 0 = _
      rw [List.getD_eq_getElem?_getD, List.getElem?_set]
      by_cases c : kk + 1 = j
      · rw [if_pos c, if_pos (by omega), newreg_co, if_pos hj2, if_neg (by omega), ← c, Nat.add_sub_cancel, h1 kk (by omega)]; rfl
      · rw [if_neg c, ← List.getD_eq_getElem?_getD]
        exact h2 j (by omega) hj2
theorem r_put_0 (d : List GF) (n : Nat) (hd : d.length ≤ 255) (hn : 1 ≤ n) (hn2 : n ≤ 64) : ∀ (e k i : Nat) (reg : List GF) (a : PS) (m : Nat), i + e = d.length → reg.length = n → PS.Bd a m →
    PS.add (PS.conv a (gen n)) (co reg) = PS.shift n (co (d.take i).reverse) → e * (n + 2) + 1000 ≤ k → ∃ c : List GF, c.length = n ∧ wristbandref09_Put.l0 k (M d) (n : Int) (M (genl n)) (M reg) (i : Int) = some (M (d ++ c)) ∧ OK (d ++ c) n := by
  intro e
  induction e with
  | zero =>
    intro k i reg a m hi hr ha he hk
    obtain ⟨k, rfl⟩ : ∃ m, k = m + 1 := ⟨k - 1, by omega⟩
    simp only [wristbandref09_Put.l0]
    rw [if_neg (by rw [M_length]; omega), Option.bind_some, if_pos (by rw [M_length]; simp; omega), List.nil_append, Option.bind_some, r_turned reg (by omega) k (by omega), Option.bind_some, if_pos (by rw [M_length, M_length, List.length_reverse]; omega), M_append]
    refine ⟨reg.reverse, by rw [List.length_reverse, hr], rfl, OK_of_mul ha ?_⟩
    rw [List.take_of_length_le (by omega)] at he
    rw [List.reverse_append, List.reverse_reverse]
    funext j
    have e2 : PS.conv a (gen n) = PS.add (PS.shift n (co d.reverse)) (co reg) := by rw [← he, PS.add_assoc, PS.add_self, PS.add_zero]
    rw [e2, co_append, hr]
    show PS.shift n (co d.reverse) j + co reg j = _
    by_cases c : j < n
    · rw [if_pos c, PS.shift_lt n _ j c, GF.zero_add]
    · rw [if_neg c, PS.shift_ge' n _ j (by omega), co_bd reg j (by omega), GF.add_zero]
  | succ e ih =>
    intro k i reg a m hi hr ha he hk
    obtain ⟨k, rfl⟩ : ∃ m, k = m + 1 := ⟨k - 1, by omega⟩
    simp only [wristbandref09_Put.l0]
    rw [Nat.add_mul] at hk
    rw [if_pos (by rw [M_length]; omega), if_pos (by omega), w64 (by omega) (by omega), if_pos (by omega), if_pos (by rw [M_length]; omega), rd_M, rd_M, GF.xor, Int.toNat_natCast, show ((n : Int) - 1).toNat = n - 1 by omega, show (n : Int) - 1 = ((n - 1 : Nat) : Int) by omega]
    have e3 : co (d.take (i + 1)).reverse = PS.cons (co d i) (co (d.take i).reverse) := by
      rw [List.take_succ_eq_append_getElem (show i < d.length by omega), List.reverse_append, List.reverse_singleton, List.singleton_append, co_cons, co_get d i (by omega)]
    refine r_put_1 d n hn hn2 reg hr i (by omega) (co d i + co reg (n - 1)) (fun o => ∃ c : List GF, c.length = n ∧ o = some (M (d ++ c)) ∧ OK (d ++ c) n) (e * (n + 2) + 1000) (by omega) (fun k' hk' => ?_) (n - 1) k reg (by omega) hr (fun j _ => rfl) (fun j h1 h2 => by omega) (by omega)
    exact ih k' (i + 1) _ _ (m + 1) (by omega) (newreg_length ..) (PS.Bd.add (PS.Bd.cons ha) ((PS.Bd.cons (PS.Bd.zero 0)).mono (by omega))) (by rw [e3]; exact step n hn a reg hr _ _ he) hk'
theorem r_put (k : Nat) (hk : 30000 ≤ k) (d : List GF) (n : Nat) (h1 : 1 ≤ n) (h2 : n ≤ 64) (h : d.length + n ≤ 255) : ∃ c : List GF, c.length = n ∧ wristbandref09_Put.f k (M d) (n : Int) = some (M (d ++ c)) ∧ OK (d ++ c) n := by
  unfold wristbandref09_Put.f
  rw [r_gen k (by omega) n h2, Option.bind_some, if_pos (by omega), if_pos (by omega), Int.toNat_natCast, M_zeros]
  refine r_put_0 d n (by omega) h1 h2 d.length k 0 (List.replicate n 0) PS.zero 0 (by omega) (List.length_replicate) (PS.Bd.zero 0) ?_ ?_
  · rw [PS.zero_conv, co_zeros, List.take_zero, List.reverse_nil, co_nil, PS.add_zero, shift_zero]
  · have := Nat.mul_le_mul (show d.length ≤ 255 by omega) (show n + 2 ≤ 66 by omega); omega
end Go.Proofs.Ytgieppcadnhhaaa.RefSolF
