/- What the reference of layer 8 reckons, told of polynomials over the field. -/
import Derived.Test.YtgieppcadnhhaaaPx11
import Derived.Test.YtgieppcadnhhaaaPx12
import Derived.Test.YtgieppcadnhhaaaPx13
import Derived.Test.YtgieppcadnhhaaaPx14
import Derived.Test.YtgieppcadnhhaaaPolyF
namespace Go.Proofs.Ytgieppcadnhhaaa.RefPolyF
open Go Go.RowKit Go.Proofs.Ytgieppcadnhhaaa.P Go.Proofs.YtgieppcadnhhaaaW.PrintWords Go.Proofs.YtgieppcadnhhaaaW.PrintLast Go.Proofs.YtgieppcadnhhaaaW.PrintMore
open Go.Ar Pl Go.Proofs.Ytgieppcadnhhaaa.PolyF
theorem r_bit (i : Nat) : ∀ (k n j : Nat), n < 2 ^ 62 → i + j < 64 → i < k → wristbandref07_bit.l0 k (n : Int) ((i + j : Nat) : Int) (j : Int) = some (((n / 2 ^ i % 2 : Nat)) : Int) := by
  induction i with
  | zero =>
    intro k n j hn hi hk
    obtain ⟨k, rfl⟩ : ∃ m, k = m + 1 := ⟨k - 1, by omega⟩
    simp only [wristbandref07_bit.l0]
    rw [if_neg (by omega), tmodp _ _ (by omega)]; simp
  | succ i ih =>
    intro k n j hn hi hk
    obtain ⟨k, rfl⟩ : ∃ m, k = m + 1 := ⟨k - 1, by omega⟩
    simp only [wristbandref07_bit.l0]
    rw [if_pos (by omega), tdivp _ _ (by omega), w64 (n := (n : Int) / 2) (by omega) (by omega), w64 (n := (j : Int) + 1) (by omega) (by omega)]
    have := ih k (n / 2) (j + 1) (by omega) (by omega) (by omega)
    rw [show i + (j + 1) = i + 1 + j by omega] at this
    rw [show ((n : Int) / 2) = ((n / 2 : Nat) : Int) by omega, show ((j : Int) + 1) = ((j + 1 : Nat) : Int) by omega, this]
    rw [Nat.div_div_eq_div_mul, Nat.pow_succ, Nat.mul_comm 2]
theorem r_bitf (k n i : Nat) (hn : n < 2 ^ 62) (hi : i < 64) (hk : i < k) : wristbandref07_bit.f k (n : Int) (i : Int) = some ((n / 2 ^ i % 2 : Nat) : Int) := by
  unfold wristbandref07_bit.f
  exact r_bit i k n 0 hn (by omega) hk
theorem r_pow_l (d : Nat) : ∀ (k j : Nat), j + d < 62 → d < k → wristbandref07_power.l0 k ((j + d : Nat) : Int) ((2 ^ j : Nat) : Int) (j : Int) = some ((2 ^ (j + d) : Nat) : Int) := by
  induction d with
  | zero =>
    intro k j hj hk
    obtain ⟨k, rfl⟩ : ∃ m, k = m + 1 := ⟨k - 1, by omega⟩
    simp only [wristbandref07_power.l0]
    rw [if_neg (by omega)]; rfl
  | succ d ih =>
    intro k j hj hk
    obtain ⟨k, rfl⟩ : ∃ m, k = m + 1 := ⟨k - 1, by omega⟩
    simp only [wristbandref07_power.l0]
    have hb : 2 ^ j < 2 ^ 62 := Nat.pow_lt_pow_right (by decide) (by omega)
    generalize hq : 2 ^ j = q at *
    rw [if_pos (by omega), w64 (n := 2 * (q : Int)) (by omega) (by omega), w64 (n := (j : Int) + 1) (by omega) (by omega)]
    have := ih k (j + 1) (by omega) (by omega)
    rw [show j + 1 + d = j + (d + 1) by omega] at this
    rw [← this]
    congr 1
    rw [Nat.pow_succ, hq]; omega
theorem r_powf (k i : Nat) (hi : i < 62) (hk : i < k) : wristbandref07_power.f k (i : Int) = some ((2 ^ i : Nat) : Int) := by
  unfold wristbandref07_power.f
  have := r_pow_l i k 0 (by omega) hk
  rw [Nat.zero_add] at this
  exact this
theorem r_red (d : Nat) : ∀ (k p : Nat), p < 2 ^ 15 → d ≤ 7 → d + 16 < k → wristbandref07_Mul.l1 k (p : Int) ((7 + d : Nat) : Int) = some ((GF.redN d p : Nat) : Int) := by
  induction d with
  | zero =>
    intro k p hp hd hk
    obtain ⟨k, rfl⟩ : ∃ m, k = m + 1 := ⟨k - 1, by omega⟩
    simp only [wristbandref07_Mul.l1]
    rw [if_neg (by omega)]; simp only [GF.redN]; congr 1
  | succ d ih =>
    intro k p hp hd hk
    obtain ⟨k, rfl⟩ : ∃ m, k = m + 1 := ⟨k - 1, by omega⟩
    simp only [wristbandref07_Mul.l1]
    rw [if_pos (by omega), r_bitf k p (7 + (d + 1)) (by omega) (by omega) (by omega)]
    simp only [Option.bind_some]
    rw [w64 (n := ((7 + (d + 1) : Nat) : Int) - 8) (by omega) (by omega), w64 (n := ((7 + (d + 1) : Nat) : Int) - 1) (by omega) (by omega)]
    rw [show ((7 + (d + 1) : Nat) : Int) - 8 = (d : Int) by omega, show ((7 + (d + 1) : Nat) : Int) - 1 = ((7 + d : Nat) : Int) by omega]
    rw [r_powf k d (by omega) (by omega)]
    simp only [Option.bind_some, GF.redN]
    have hb : 2 ^ d ≤ 2 ^ 6 := Nat.pow_le_pow_right (by decide) (by omega)
    rw [show 8 + d = 7 + (d + 1) by omega]
    generalize 2 ^ d = q at *
    by_cases e : p / 2 ^ (7 + (d + 1)) % 2 = 1
    · rw [if_pos (by omega), if_pos e, w64 (by omega) (by omega), show (301 : Int) * (q : Int) = ((301 * q : Nat) : Int) by omega, xor_i64 _ _ (by omega) (by omega)]
      exact ih k _ (Nat.xor_lt_two_pow hp (by omega)) (by omega) (by omega)
    · rw [if_neg (by omega), if_neg e]
      exact ih k p hp (by omega) (by omega)
theorem r_mul_l (d : Nat) : ∀ (k i : Nat) (x y : GF) (p : Nat), i + d = 8 → p < 2 ^ 15 → d + 40 < k →
    wristbandref07_Mul.l0 k (GF.I x) (GF.I y) (p : Int) (i : Int) = some ((GF.redN 7 (GF.clN d i x.b.toNat y.b.toNat p) : Nat) : Int) := by
  induction d with
  | zero =>
    intro k i x y p hi hp hk
    obtain ⟨k, rfl⟩ : ∃ m, k = m + 1 := ⟨k - 1, by omega⟩
    simp only [wristbandref07_Mul.l0]
    rw [if_neg (by omega)]
    exact r_red 7 k p hp (by omega) (by omega)
  | succ d ih =>
    intro k i x y p hi hp hk
    obtain ⟨k, rfl⟩ : ∃ m, k = m + 1 := ⟨k - 1, by omega⟩
    have hx := x.b.isLt
    have hy := y.b.isLt
    simp only [wristbandref07_Mul.l0]
    have by_ := GF.I_bd y
    have bx_ := GF.I_bd x
    rw [if_pos (by omega), w64 (n := GF.I y) (by omega) (by omega), w64 (n := GF.I x) (by omega) (by omega), w64 (n := (i : Int) + 1) (by omega) (by omega)]
    have e1 : wristbandref07_bit.f k (GF.I y) (i : Int) = some ((y.b.toNat / 2 ^ i % 2 : Nat) : Int) := r_bitf k y.b.toNat i (by omega) (by omega) (by omega)
    rw [e1, r_powf k i (by omega) (by omega)]
    simp only [Option.bind_some, GF.clN]
    have hb : 2 ^ i ≤ 2 ^ 7 := Nat.pow_le_pow_right (by decide) (by omega)
    have hm : x.b.toNat * 2 ^ i < 2 ^ 15 := Nat.lt_of_lt_of_le (Nat.mul_lt_mul_of_pos_right hx (Nat.two_pow_pos i)) (by omega)
    by_cases e : y.b.toNat / 2 ^ i % 2 = 1
    · have e2 : GF.I x * ((2 ^ i : Nat) : Int) = ((x.b.toNat * 2 ^ i : Nat) : Int) := by unfold GF.I; rw [Int.natCast_mul]
      rw [if_pos (by omega), if_pos e, e2, w64 (by omega) (by omega), xor_i64 _ _ (by omega) (by omega)]
      exact ih k (i + 1) x y _ (by omega) (Nat.xor_lt_two_pow hp hm) (by omega)
    · rw [if_neg (by omega), if_neg e]
      exact ih k (i + 1) x y p (by omega) hp (by omega)
theorem r_mul (k : Nat) (hk : 50 < k) (x y : GF) : wristbandref07_Mul.f k (GF.I x) (GF.I y) = some (GF.I (x * y)) := by
  unfold wristbandref07_Mul.f
  have := r_mul_l 8 k 0 x y 0 rfl (by decide) (by omega)
  rw [GF.red_cl] at this
  exact this
theorem r_plain_l (l : List GF) (h : l.length < 140737488355328) : ∀ (n k : Nat), n ≤ l.length → PS.Bd (co l) n → n < k → wristbandref08_Plain.l0 k (M l) (n : Int) = some (M (plain l)) := by
  intro n
  induction n with
  | zero =>
    intro k hn hb hk
    obtain ⟨k, rfl⟩ : ∃ m, k = m + 1 := ⟨k - 1, by omega⟩
    simp only [wristbandref08_Plain.l0]
    rw [if_neg (by omega), Option.bind_some, if_pos (by omega), if_pos (by omega)]
    rw [show ((0 : Nat) : Int).toNat = 0 from rfl, List.take_zero, if_pos (by simp)]
    have : plain l = [] := (plain_nil_iff l).2 hb.eq_zero
    rw [this]; rfl
  | succ n ih =>
    intro k hn hb hk
    obtain ⟨k, rfl⟩ : ∃ m, k = m + 1 := ⟨k - 1, by omega⟩
    simp only [wristbandref08_Plain.l0]
    rw [if_pos (by omega), show ((n + 1 : Nat) : Int) - 1 = (n : Int) by omega, w64 (by omega) (by omega), if_pos (by omega), if_pos (by rw [M_length]; omega), rd_M, Int.toNat_natCast]
    by_cases e : co l n = 0
    · rw [if_pos (GF.I_eq_zero.2 e)]
      refine ih k (by omega) (fun j hj => ?_) (by omega)
      by_cases x : j = n
      · rw [x]; exact e
      · exact hb j (by omega)
    · rw [if_neg (fun x => e (GF.I_eq_zero.1 x)), Option.bind_some, if_pos (by omega), if_pos (by rw [M_length]; omega), Int.toNat_natCast, M_take]
      have ht : Top (co l) (n + 1) := ⟨hb, .inr e⟩
      rw [ht.unique (Top.plain l), take_plain, if_pos (by have := plain_length l; rw [M_length]; simp; omega)]
      rfl
theorem r_plain (l : List GF) (h : l.length < 140737488355328) (k : Nat) (hk : l.length < k) : wristbandref08_Plain.f k (M l) = some (M (plain l)) := by
  unfold wristbandref08_Plain.f
  rw [M_length]
  exact r_plain_l l h l.length k (Nat.le_refl _) (co_bd l) hk
theorem r_isplain {l : List GF} (h : l.length < 140737488355328) {k : Nat} (hk : l.length < k) : Is (wristbandref08_Plain.f k (M l)) (co l) l.length := ⟨Pl.plain l, r_plain l h k hk, plain_ends l, co_plain l, plain_length l⟩
theorem r_at (l : List GF) (i : Int) (h : 0 ≤ i) : wristbandref08_At.f (M l) i = some (GF.I (co l i.toNat)) := by
  unfold wristbandref08_At.f
  rw [if_neg (by omega), M_length]
  by_cases e : i ≥ (l.length : Int)
  · rw [if_pos e, co_bd l _ (by omega)]; rfl
  · rw [if_neg e, if_pos h, if_pos (by omega), rd_M]
theorem r_eval_l (l : List GF) (x : GF) (hl : l.length < 1000000) : ∀ (d k i : Nat), i + d = l.length → d + 60 < k →
    wristbandref08_Eval.l0 k (M l) (GF.I x) (GF.I (PS.ev i (co l) x)) (GF.I (GF.pw x i)) (i : Int) = some (GF.I (PS.ev l.length (co l) x)) := by
  intro d
  induction d with
  | zero =>
    intro k i hi hk
    obtain ⟨k, rfl⟩ : ∃ m, k = m + 1 := ⟨k - 1, by omega⟩
    simp only [wristbandref08_Eval.l0, M_length]
    rw [if_neg (by omega), show i = l.length by omega]
  | succ d ih =>
    intro k i hi hk
    obtain ⟨k, rfl⟩ : ∃ m, k = m + 1 := ⟨k - 1, by omega⟩
    simp only [wristbandref08_Eval.l0, M_length]
    rw [if_pos (by omega), if_pos (by omega), rd_M, Int.toNat_natCast, r_mul k (by omega), Option.bind_some, r_mul k (by omega), Option.bind_some, GF.xor, w64 (by omega) (by omega), show (i : Int) + 1 = ((i + 1 : Nat) : Int) by omega]
    have e := ih k (i + 1) (by omega) (by omega)
    rw [PS.ev_snoc i (co l) x, ev_pw, show GF.pw x (i + 1) = GF.pw x i * x by show x * GF.pw x i = _; rw [GF.mul_comm]] at e
    exact e
theorem r_eval (k : Nat) (l : List GF) (x : GF) (hl : l.length < 1000000) (hk : l.length + 60 < k) : wristbandref08_Eval.f k (M l) (GF.I x) = some (GF.I (PS.ev l.length (co l) x)) := by
  unfold wristbandref08_Eval.f
  exact r_eval_l l x hl l.length k 0 (by omega) hk
/-! ### products -/
theorem r_mul_1 (p q : List GF) (o : List GF) (kk : Nat) (hl : p.length + q.length < 1000000) (ho : o.length < 1000000) (hkk : kk < 1000000) (R : Option (List Int) → Prop) (F : Nat) (hF : 60 < F)
    (hnext : ∀ k, F ≤ k → R (wristbandref08_Mul.l0 k (M p) (M q) (M (o ++ [PS.conv (co p) (co q) kk])) ((kk + 1 : Nat) : Int))) :
    ∀ (d k i : Nat), i + d = min (kk + 1) p.length → F + 2 * d + 2 ≤ k → R (wristbandref08_Mul.l1 k (M p) (M q) (M o) (kk : Int) (GF.I (GF.sm i (fun i => co p i * co q (kk - i)))) (i : Int)) := by
  intro d
  induction d with
  | zero =>
    intro k i hi hk
    obtain ⟨k, rfl⟩ : ∃ m, k = m + 2 := ⟨k - 2, by omega⟩
    have hj : wristbandref08_Mul.l1 (k + 2) (M p) (M q) (M o) (kk : Int) (GF.I (GF.sm i (fun i => co p i * co q (kk - i)))) (i : Int) = wristbandref08_Mul.j2 (k + 1) (M p) (M q) (M o) (kk : Int) (GF.I (GF.sm i (fun i => co p i * co q (kk - i)))) (i : Int) false := by
      simp only [wristbandref08_Mul.l1, M_length]
      by_cases e : (i : Int) ≤ (kk : Int)
      · rw [if_pos e, show decide ((i : Int) < (p.length : Int)) = false by simp; omega]
      · rw [if_neg e]
    rw [hj]
    simp only [wristbandref08_Mul.j2, Bool.false_eq_true, if_false]
    have he : GF.sm i (fun i => co p i * co q (kk - i)) = PS.conv (co p) (co q) kk := by
      rw [PS.conv_sm]
      refine (GF.sm_more (by omega) (fun j h1 h2 => ?_)).symm
      rw [co_bd p j (by omega), GF.zero_mul]
    rw [if_pos (by rw [M_length]; omega), he, M_snoc, w64 (by omega) (by omega), show (kk : Int) + 1 = ((kk + 1 : Nat) : Int) by omega]
    exact hnext k (by omega)
  | succ d ih =>
    intro k i hi hk
    obtain ⟨k, rfl⟩ : ∃ m, k = m + 2 := ⟨k - 2, by omega⟩
    simp only [wristbandref08_Mul.l1, wristbandref08_Mul.j2, M_length]
    rw [if_pos (by omega), if_pos (by simp; omega), if_pos (by omega), if_pos (by omega), w64 (n := (kk : Int) - i) (by omega) (by omega), r_at q _ (by omega), Option.bind_some, rd_M, Int.toNat_natCast, r_mul k (by omega), Option.bind_some, GF.xor,
      show ((kk : Int) - (i : Int)).toNat = kk - i by omega, w64 (by omega) (by omega), show (i : Int) + 1 = ((i + 1 : Nat) : Int) by omega]
    exact ih k (i + 1) (by omega) (by omega)
theorem r_mul_0 (p q : List GF) (hl : p.length + q.length < 1000000) : ∀ (d k kk : Nat) (o : List GF), kk + d = p.length + q.length → o.length = kk → (∀ j, co o j = if j < kk then PS.conv (co p) (co q) j else 0) → d * (2 * p.length + 4) + 100 + p.length + q.length ≤ k →
    Is (wristbandref08_Mul.l0 k (M p) (M q) (M o) (kk : Int)) (PS.conv (co p) (co q)) (p.length + q.length) := by
  intro d
  induction d with
  | zero =>
    intro k kk o hkk ho hc hk
    obtain ⟨k, rfl⟩ : ∃ m, k = m + 1 := ⟨k - 1, by omega⟩
    simp only [wristbandref08_Mul.l0, M_length]
    rw [w64 (by omega) (by omega), if_neg (by omega)]
    obtain ⟨m, h1, h2, h3, h4⟩ := r_isplain (l := o) (by omega) (k := k) (by omega)
    rw [h1, Option.bind_some]
    refine ⟨m, rfl, h2, ?_, by omega⟩
    rw [h3]
    funext j
    rw [hc j]
    split
    · rfl
    · exact ((co_bd p).conv' (co_bd q) j (by omega)).symm
  | succ d ih =>
    intro k kk o hkk ho hc hk
    obtain ⟨k, rfl⟩ : ∃ m, k = m + 1 := ⟨k - 1, by omega⟩
    have hk2 : d * (2 * p.length + 4) + 100 + p.length + q.length + (2 * p.length + 3) ≤ k := by rw [Nat.add_mul] at hk; omega
    simp only [wristbandref08_Mul.l0, M_length]
    rw [w64 (by omega) (by omega), if_pos (by omega)]
    refine r_mul_1 p q o kk hl (by omega) (by omega) (fun z => Is z _ _) (d * (2 * p.length + 4) + 100 + p.length + q.length) (by omega) ?_ (min (kk + 1) p.length) k 0 (by omega) (by omega)
    intro k hk
    refine ih k (kk + 1) _ (by omega) (by rw [List.length_append, ho]; rfl) ?_ hk
    intro j
    rw [co_snoc, ho]
    show co o j + PS.shift kk _ j = _
    rw [hc j]
    by_cases h : j < kk
    · rw [if_pos h, if_pos (by omega), PS.shift_lt kk _ j h, GF.add_zero]
    · rw [if_neg h, PS.shift_ge' kk _ j (by omega), GF.zero_add]
      by_cases e : j = kk
      · rw [if_pos (by omega), e, Nat.sub_self]; rfl
      · rw [if_neg (by omega)]
        obtain ⟨t, ht⟩ : ∃ t, j - kk = t + 1 := ⟨j - kk - 1, by omega⟩
        rw [ht]; rfl
theorem r_mul8 (k : Nat) (p q : List GF) (hl : p.length + q.length < 1000000) (hk : (p.length + q.length) * (2 * p.length + 4) + 100 + p.length + q.length ≤ k) : Is (wristbandref08_Mul.f k (M p) (M q)) (PS.conv (co p) (co q)) (p.length + q.length) := by
  unfold wristbandref08_Mul.f
  exact r_mul_0 p q hl (p.length + q.length) k 0 [] (by omega) rfl (fun j => by rw [co_nil, if_neg (by omega)]; rfl) hk
/-! ### slopes -/
/-! ### quotients -/
end Go.Proofs.Ytgieppcadnhhaaa.RefPolyF
