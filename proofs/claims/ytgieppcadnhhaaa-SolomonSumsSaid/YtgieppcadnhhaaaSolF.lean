/- What solomon's functions reckon, told of polynomials over the field. -/
import Derived.Test.YtgieppcadnhhaaaPx3
import Derived.Test.YtgieppcadnhhaaaPx5
import Derived.Test.YtgieppcadnhhaaaPx6
import Derived.Test.YtgieppcadnhhaaaPx8
import Derived.Test.YtgieppcadnhhaaaPx9
import Derived.Test.YtgieppcadnhhaaaPx11
import Derived.Test.YtgieppcadnhhaaaPolyF
namespace Go.Proofs.Ytgieppcadnhhaaa.SolF
open Go Go.RowKit Go.Proofs.Ytgieppcadnhhaaa.P Go.Proofs.YtgieppcadnhhaaaW.PrintWords Go.Proofs.YtgieppcadnhhaaaW.PrintLast Go.Proofs.YtgieppcadnhhaaaW.PrintMore
open Go.Ar Pl Go.Proofs.Ytgieppcadnhhaaa.PolyF
theorem g_exp (k : Nat) (hk : 24 < k) (n : Int) :
    gf_Exp.f k n = some (GF.I (GF.ex (n % 255).toNat)) := by
  unfold gf_Exp.f
  have h := g_pow k hk (GF.ex 1) n
  rw [show GF.I (GF.ex 1) = 2 from rfl] at h
  rw [h]; simp only [Option.bind_some, g_powv]
  rw [if_neg (by decide), GF.pw_ex, Nat.one_mul]
/-! ### the generator -/
def lin1 (a : GF) : PS := PS.cons a (PS.C 1)
theorem lin1_bd (a : GF) : PS.Bd (lin1 a) 2 := PS.Bd.cons (PS.Bd.cons (PS.Bd.zero 0))
def gen : Nat → PS
  | 0 => PS.C 1
  | n + 1 => PS.conv (gen n) (lin1 (GF.ex (n + 1)))
theorem gen_bd : ∀ n, PS.Bd (gen n) (n + 1)
  | 0 => PS.Bd.cons (PS.Bd.zero 0)
  | n + 1 => (PS.Bd.conv (gen_bd n) (lin1_bd _)).mono (by omega)
theorem gen_top : ∀ n, gen n n = 1
  | 0 => rfl
  | n + 1 => by
    show PS.conv (gen n) (lin1 _) (n + 1) = 1
    rw [PS.conv_top (gen_bd n) (lin1_bd _), gen_top n, GF.one_mul]; rfl
theorem ev_lin1 (a x : GF) : PS.ev 2 (lin1 a) x = a + x := by
  show a + x * (1 + x * 0) = a + x
  rw [GF.mul_zero, GF.add_zero, GF.mul_one]
theorem gen_ev : ∀ n i, 1 ≤ i → i ≤ n → PS.ev (n + 1) (gen n) (GF.ex i) = 0
  | 0, i, h, h' => by omega
  | n + 1, i, h, h' => by
    have e : PS.ev (n + 1 + 2) (gen (n + 1)) (GF.ex i) = PS.ev (n + 1) (gen n) (GF.ex i) * PS.ev 2 (lin1 (GF.ex (n + 1))) (GF.ex i) := PS.ev_conv _ (gen_bd n) (lin1_bd _)
    rw [← PS.ev_more _ (gen_bd (n + 1)) (show n + 1 + 1 ≤ n + 1 + 2 by omega), e, ev_lin1]
    by_cases hi : i ≤ n
    · rw [gen_ev n i h hi, GF.zero_mul]
    · rw [show i = n + 1 by omega, GF.add_self, GF.mul_zero]
def genl (n : Nat) : List GF := (List.range (n + 1)).map (gen n)
theorem genl_co (n : Nat) : co (genl n) = gen n := co_range (gen_bd n)
theorem genl_length (n : Nat) : (genl n).length = n + 1 := by unfold genl; rw [List.length_map, List.length_range]
theorem genl_ends (n : Nat) : Pl.Ends (genl n) := by
  intro h
  have e := co_get (genl n) n (by rw [genl_length]; omega)
  rw [genl_co, gen_top] at e
  rw [List.getLast_eq_getElem]
  simp only [genl_length, Nat.add_sub_cancel]
  rw [← e]
  exact GF.one_ne_zero
theorem pair_co (a : GF) : co [a, 1] = lin1 a := by rw [co_cons, co_cons, co_nil]; rfl
theorem gen_l (n : Nat) (hn : n ≤ 64) : ∀ (d k i : Nat), i + d = n → d + 400 ≤ k → solomon_Gen.l0 k (M (genl i)) (n : Int) (i : Int) = some (M (genl n), 0) := by
  intro d
  induction d with
  | zero =>
    intro k i h hk
    obtain ⟨k, rfl⟩ : ∃ m, k = m + 1 := ⟨k - 1, by omega⟩
    simp only [solomon_Gen.l0]
    rw [if_neg (by omega), show i = n by omega]
  | succ d ih =>
    intro k i h hk
    obtain ⟨k, rfl⟩ : ∃ m, k = m + 1 := ⟨k - 1, by omega⟩
    simp only [solomon_Gen.l0]
    rw [if_pos (by omega), w64 (by omega) (by omega), g_exp k (by omega), Option.bind_some, show ((((i : Int) + 1) % 255).toNat) = i + 1 by omega]
    obtain ⟨m, e1, e2, e3, _⟩ := f_mul k (genl i) [GF.ex (i + 1), 1] (by rw [genl_length]; simp; omega) (by rw [genl_length]; simp; omega)
    have : m = genl (i + 1) := ends_eq e2 (genl_ends _) (by rw [e3, genl_co, genl_co, pair_co]; rfl)
    rw [show ([GF.I (GF.ex (i + 1)), 1] : List Int) = M [GF.ex (i + 1), 1] from rfl, e1, Option.bind_some, this]
    exact ih k (i + 1) (by omega) (by omega)
theorem f_gen (k : Nat) (hk : 1000 ≤ k) (n : Nat) (h1 : 1 ≤ n) (h2 : n ≤ 64) : solomon_Gen.f k (n : Int) = some (M (genl n), 0) := by
  obtain ⟨k, rfl⟩ : ∃ m, k = m + 1 := ⟨k - 1, by omega⟩
  unfold solomon_Gen.f
  rw [if_neg (by omega), decide_eq_false (show ¬ (n : Int) > 64 by omega)]
  simp only [solomon_Gen.j0]
  rw [if_neg (by simp), show ([1] : List Int) = M (genl 0) from rfl]
  exact gen_l n h2 n k 0 (by omega) (by omega)
/-! ### turned -/
theorem rev_l (l : List Int) (hb : l.length < 140737488355328) : ∀ (d k i : Nat) (x : List Int), x.length = l.length → l.length ≤ 2 * i + 2 * d + 1 → i ≤ l.length → d < k →
    (∀ p, p < l.length → x[p]? = if p < i ∨ l.length ≤ p + i then l[l.length - 1 - p]? else l[p]?) → slices_Reverse_byte_byte.l0 k x (i : Int) ((l.length : Int) - 1 - (i : Int)) = some l.reverse := by
  intro d
  have fin : ∀ (i : Nat) (x : List Int), x.length = l.length → l.length ≤ 2 * i + 1 → (∀ p, p < l.length → x[p]? = if p < i ∨ l.length ≤ p + i then l[l.length - 1 - p]? else l[p]?) → x = l.reverse := by
    intro i x hx hi he
    apply List.ext_getElem?
    intro p
    by_cases hp : p < l.length
    · rw [he p hp, List.getElem?_reverse hp]
      split
      · rfl
      · congr 1; omega
    · rw [List.getElem?_eq_none (by omega), List.getElem?_eq_none (by rw [List.length_reverse]; omega)]
  induction d with
  | zero =>
    intro k i x hx h1 h2 hk he
    obtain ⟨k, rfl⟩ : ∃ m, k = m + 1 := ⟨k - 1, by omega⟩
    simp only [slices_Reverse_byte_byte.l0]
    rw [if_neg (by omega), fin i x hx (by omega) he]
  | succ d ih =>
    intro k i x hx h1 h2 hk he
    obtain ⟨k, rfl⟩ : ∃ m, k = m + 1 := ⟨k - 1, by omega⟩
    simp only [slices_Reverse_byte_byte.l0]
    by_cases hlt : (i : Int) < (l.length : Int) - 1 - (i : Int)
    · rw [if_pos hlt, if_pos (by omega), if_pos (by omega), if_pos (by omega), if_pos (by omega), w64 (by omega) (by omega), w64 (by omega) (by omega), show (l.length : Int) - 1 - (i : Int) - 1 = (l.length : Int) - 1 - ((i + 1 : Nat) : Int) by omega,
        show (i : Int) + 1 = ((i + 1 : Nat) : Int) by omega]
      refine ih k (i + 1) _ (by rw [List.length_set, List.length_set, hx]) (by omega) (by omega) (by omega) (fun p hp => ?_)
      have j : (((l.length : Int) - 1 - (i : Int)) : Int).toNat = l.length - 1 - i := by omega
      have ei := he i (by omega)
      rw [if_neg (by omega)] at ei
      have ej := he (l.length - 1 - i) (by omega)
      rw [if_neg (by omega)] at ej
      unfold rd
      rw [j, Int.toNat_natCast, List.getD_eq_getElem?_getD, List.getD_eq_getElem?_getD, ei, ej, List.getElem?_set, List.getElem?_set]
      by_cases c1 : l.length - 1 - i = p
      · rw [if_pos c1, if_pos (by rw [List.length_set]; omega), if_pos (by omega), show l.length - 1 - p = i by omega, List.getElem?_eq_getElem (by omega), Option.getD_some]
      · rw [if_neg c1]
        by_cases c2 : i = p
        · rw [if_pos c2, if_pos (by omega), if_pos (by omega), ← c2, List.getElem?_eq_getElem (show l.length - 1 - i < l.length by omega), Option.getD_some]
        · rw [if_neg c2, he p hp]
          by_cases c3 : p < i ∨ l.length ≤ p + i
          · rw [if_pos c3, if_pos (by omega)]
          · rw [if_neg c3, if_neg (by omega)]
    · rw [if_neg hlt, fin i x hx (by omega) he]
theorem M_reverse (l : List GF) : (M l).reverse = M l.reverse := by unfold M; rw [List.map_reverse]
theorem f_turned (k : Nat) (l : List GF) (h : l.length < 140737488355328) (hk : l.length < k) : solomon_turned.f k (M l) = some (M l.reverse) := by
  unfold solomon_turned.f slices_Clone_byte_byte.f
  rw [if_pos (by rw [M_length]; exact h), Option.bind_some]
  unfold slices_Reverse_byte_byte.f
  rw [w64 (by omega) (by rw [M_length]; omega), show ((M l).length : Int) - 1 = ((M l).length : Int) - 1 - ((0 : Nat) : Int) by omega]
  have := rev_l (M l) (by rw [M_length]; exact h) l.length k 0 (M l) rfl (by rw [M_length]; omega) (by omega) hk (fun p hp => by rw [if_neg (by omega)])
  rw [show ((0 : Nat) : Int) = 0 from rfl] at this ⊢
  rw [this, Option.bind_some, M_reverse]
/-! ### values at the powers of two -/
/-- The value of the word b at the (i+1)-th power of 2. -/
def sg (b : List GF) (i : Nat) : GF := PS.ev b.length (co b.reverse) (GF.ex (i + 1))
def OK (b : List GF) (n : Nat) : Prop := ∀ i, i < n → sg b i = 0
def signs (b : List GF) (n : Nat) : List GF := (List.range n).map (sg b)
theorem signs_length (b : List GF) (n : Nat) : (signs b n).length = n := by unfold signs; rw [List.length_map, List.length_range]
theorem signs_succ (b : List GF) (n : Nat) : signs b (n + 1) = signs b n ++ [sg b n] := by unfold signs; rw [List.range_succ, List.map_append]; rfl
theorem co_signs (b : List GF) (n i : Nat) (hi : i < n) : co (signs b n) i = sg b i := by
  unfold co signs
  rw [List.getD_eq_getElem?_getD, List.getElem?_map, List.getElem?_range hi]; rfl
theorem OK_signs (b : List GF) (n : Nat) : OK b n ↔ plain (signs b n) = [] := by
  rw [plain_nil_iff]
  constructor
  · intro h
    funext i
    by_cases hi : i < n
    · rw [co_signs b n i hi, h i hi]; rfl
    · exact co_bd _ i (by rw [signs_length]; omega)
  · intro h i hi
    rw [← co_signs b n i hi, h]; rfl
theorem sg_sum (b : List GF) (i : Nat) : sg b i = GF.sm b.length (fun j => co b.reverse j * GF.ex (j * (i + 1))) := by
  unfold sg
  rw [PS.ev_sm]
  exact GF.sm_congr (fun j _ => by rw [GF.pw_ex, Nat.mul_comm])
theorem co_inj {x y : List GF} (hl : x.length = y.length) (h : co x = co y) : x = y := by
  apply List.ext_getElem hl
  intro i h1 h2
  rw [← co_get x i h1, ← co_get y i h2, h]
/-- Two fine words that differ in at most as many places as there are checks are one. -/
theorem dist {x y : List GF} {n : Nat} (hl : x.length = y.length) (h255 : x.length ≤ 255) (J : List Nat) (hJ : J.length ≤ n) (hd : ∀ j, j < x.length → co x.reverse j ≠ co y.reverse j → j ∈ J) (hx : OK x n) (hy : OK y n) : x = y := by
  have h := PS.distance (n := x.length) (k := n) h255 (f := fun j => co x.reverse j + co y.reverse j) J hJ (fun j hj hne => hd j hj (fun e => hne (GF.add_eq_zero.2 e))) (fun i hi => by
    have e1 := hx i hi
    have e2 := hy i hi
    rw [sg_sum] at e1 e2
    rw [← hl] at e2
    rw [GF.sm_congr (g := fun j => co x.reverse j * GF.ex (j * (i + 1)) + co y.reverse j * GF.ex (j * (i + 1))) (fun j _ => GF.add_mul _ _ _), GF.sm_add, e1, e2, GF.add_zero])
  have : x.reverse = y.reverse := by
    apply co_inj (by rw [List.length_reverse, List.length_reverse, hl])
    funext j
    by_cases hj : j < x.length
    · exact GF.add_eq_zero.1 (h j hj)
    · rw [co_bd x.reverse j (by rw [List.length_reverse]; omega), co_bd y.reverse j (by rw [List.length_reverse]; omega)]
  simpa using congrArg List.reverse this
theorem co_append (x y : List GF) (j : Nat) : co (x ++ y) j = if j < x.length then co x j else co y (j - x.length) := by
  simp only [co, List.getD_eq_getElem?_getD]
  split
  · rename_i h; rw [List.getElem?_append_left h]
  · rename_i h; rw [List.getElem?_append_right (by omega)]
/-- Checks are unique. -/
theorem checks_unique {d c c' : List GF} {n : Nat} (hc : c.length = n) (hc' : c'.length = n) (h : d.length + n ≤ 255) (h1 : OK (d ++ c) n) (h2 : OK (d ++ c') n) : c = c' := by
  have := dist (x := d ++ c) (y := d ++ c') (by simp [hc, hc']) (by simp [hc]; exact h) (List.range n) (by simp) (fun j hj hne => by
    rw [List.mem_range]
    apply Classical.byContradiction
    intro hn
    apply hne
    rw [List.reverse_append, List.reverse_append, co_append, co_append, if_neg (by rw [List.length_reverse]; omega), if_neg (by rw [List.length_reverse]; omega), List.length_reverse, List.length_reverse, hc, hc']) h1 h2
  exact List.append_cancel_left this
theorem OK_of_mul {b : List GF} {n : Nat} {a : PS} {m : Nat} (ha : PS.Bd a m) (h : PS.conv a (gen n) = co b.reverse) : OK b n := by
  intro i hi
  have e : PS.ev (m + (n + 1)) (PS.conv a (gen n)) (GF.ex (i + 1)) = PS.ev (m + (n + 1)) a (GF.ex (i + 1)) * PS.ev (m + (n + 1)) (gen n) (GF.ex (i + 1)) := by
    rw [PS.ev_conv _ ha (gen_bd n), PS.ev_more _ ha (show m ≤ m + (n + 1) by omega), PS.ev_more _ (gen_bd n) (show n + 1 ≤ m + (n + 1) by omega)]
  rw [PS.ev_more _ (gen_bd n) (by omega), gen_ev n (i + 1) (by omega) (by omega), GF.mul_zero, h] at e
  unfold sg
  have hb : PS.Bd (co b.reverse) b.length := by have := co_bd b.reverse; rwa [List.length_reverse] at this
  by_cases hm : b.length ≤ m + (n + 1)
  · rw [← PS.ev_more _ hb hm, e]
  · have hb2 : PS.Bd (co b.reverse) (m + (n + 1)) := by rw [← h]; exact PS.Bd.conv' ha (gen_bd n)
    rw [PS.ev_more _ hb2 (by omega), e]
/-! ### Put -/
theorem M_flat (x y : List GF) : ([M x, M y] : List (List Int)).flatten = M (x ++ y) := by simp [M]
theorem put_l (r : List GF) (hr : r.length ≤ 255) : ∀ (e k i : Nat) (w : List GF), i + e = r.length → e ≤ w.length → w.length ≤ 1000 → e < k →
    solomon_Put.l0 k (M (r.take i ++ w).reverse) (M r) (r.length : Int) (i : Int) = some (M (r ++ w.drop e).reverse, 0) := by
  intro e
  induction e with
  | zero =>
    intro k i w h1 h2 h3 hk
    obtain ⟨k, rfl⟩ : ∃ m, k = m + 1 := ⟨k - 1, by omega⟩
    simp only [solomon_Put.l0]
    rw [if_neg (by omega), List.take_of_length_le (by omega)]; rfl
  | succ e ih =>
    intro k i w h1 h2 h3 hk
    obtain ⟨k, rfl⟩ : ∃ m, k = m + 1 := ⟨k - 1, by omega⟩
    obtain ⟨v, w, rfl⟩ : ∃ v u, w = v :: u := by cases w with
      | nil => simp at h2
      | cons v u => exact ⟨v, u, rfl⟩
    rw [List.length_cons] at h2 h3
    have hL : (M (r.take i ++ v :: w).reverse).length = i + (w.length + 1) := by rw [M_length, List.length_reverse, List.length_append, List.length_take, List.length_cons]; omega
    simp only [solomon_Put.l0]
    rw [hL, M_length, if_pos (by omega), if_pos (by omega), if_pos (by omega), w64 (n := ((i + (w.length + 1) : Nat) : Int) - 1) (by omega) (by omega), w64 (n := ((i + (w.length + 1) : Nat) : Int) - 1 - i) (by omega) (by omega), if_pos (by omega), if_pos (by omega), w64 (by omega) (by omega),
      show (((i + (w.length + 1) : Nat) : Int) - 1 - (i : Int)).toNat = w.length by omega, rd_M, M_set, Int.toNat_natCast, show (i : Int) + 1 = ((i + 1 : Nat) : Int) by omega]
    have e2 : (r.take i ++ v :: w).reverse.set w.length (co r i) = (r.take (i + 1) ++ w).reverse := by
      rw [List.take_succ_eq_append_getElem (by omega), List.reverse_append, List.reverse_append, List.reverse_append, List.reverse_cons, List.append_assoc, co_get r i (by omega)]
      rw [List.set_append_right _ _ (by rw [List.length_reverse]; exact Nat.le_refl _), List.length_reverse, Nat.sub_self]
      rfl
    rw [e2, ih k (i + 1) w (by omega) (by omega) (by omega) (by omega)]
    rfl
theorem f_put_long (k : Nat) (hk : 1000 ≤ k) (b : List GF) (n : Nat) (h1 : 1 ≤ n) (h2 : n ≤ 64) (h : 255 < b.length + n) : solomon_Put.f k (M b) (n : Int) = some ([], 4) := by
  unfold solomon_Put.f
  rw [f_gen k hk n h1 h2, Option.bind_some, if_pos rfl, if_pos (by rw [M_length, w64 (by omega) (by omega)]; omega)]
theorem f_put (k : Nat) (hk : 1000 ≤ k) (d : List GF) (n : Nat) (h1 : 1 ≤ n) (h2 : n ≤ 64) (h : d.length + n ≤ 255) : ∃ c : List GF, c.length = n ∧ solomon_Put.f k (M d) (n : Int) = some (M (d ++ c), 0) ∧ OK (d ++ c) n := by
  unfold solomon_Put.f
  rw [f_gen k hk n h1 h2, Option.bind_some, if_pos rfl, if_neg (by rw [M_length, w64 (by omega) (by omega)]; omega), if_pos (by omega), if_pos (by omega), Int.toNat_natCast, M_zeros]
  unfold slices_Concat_byte_byte.f
  have hl : (d ++ List.replicate n (0 : GF)).length = d.length + n := by rw [List.length_append, List.length_replicate]
  rw [M_flat, if_pos (by rw [M_length, hl]; omega), Option.bind_some, f_turned k _ (by rw [hl]; omega) (by rw [hl]; omega), Option.bind_some]
  have hp : plain (genl n) = genl n := plain_of_ends (genl_ends n)
  obtain ⟨a, r, e1, e2, e3, e4, e5, e6⟩ := f_quo k (by omega) (d ++ List.replicate n (0 : GF)).reverse (genl n) (by rw [List.length_reverse, hl]; omega) (by rw [genl_length]; omega) (by rw [hp]; intro h0; have := genl_length n; rw [h0] at this; simp at this)
  rw [hp, genl_length] at e4
  rw [e1, Option.bind_some]
  show ∃ c : List GF, c.length = n ∧ solomon_Put.l0 k (M (d ++ List.replicate n (0 : GF))) (M r) ((M r).length : Int) 0 = some (M (d ++ c), 0) ∧ OK (d ++ c) n
  have e7 := put_l r (by omega) r.length k 0 (d ++ List.replicate n (0 : GF)).reverse (by omega) (by rw [List.length_reverse, hl]; omega) (by rw [List.length_reverse, hl]; omega) (by omega)
  rw [List.take_zero, List.nil_append, List.reverse_reverse] at e7
  rw [M_length]
  have e8 : (d ++ List.replicate n (0 : GF)).reverse.drop r.length = List.replicate (n - r.length) 0 ++ d.reverse := by
    rw [List.reverse_append, List.reverse_replicate, List.drop_append, List.drop_replicate, List.length_replicate, show r.length - n = 0 by omega, List.drop_zero]
  rw [e8] at e7
  refine ⟨(r ++ List.replicate (n - r.length) 0).reverse, by rw [List.length_reverse, List.length_append, List.length_replicate]; omega, ?_, ?_⟩
  · rw [show (0 : Int) = ((0 : Nat) : Int) from rfl, e7, ← List.append_assoc, List.reverse_append, List.reverse_reverse]; rfl
  · refine OK_of_mul (co_bd a) ?_
    rw [List.reverse_append, List.reverse_reverse]
    rw [genl_co] at e6
    have e9 : co (r ++ List.replicate (n - r.length) 0 ++ d.reverse) = PS.add (co (d ++ List.replicate n (0 : GF)).reverse) (co r) := by
      rw [List.reverse_append, List.reverse_replicate]
      funext j
      show _ = co (List.replicate n 0 ++ d.reverse) j + co r j
      rw [co_append, co_append, co_append, List.length_append, List.length_replicate, List.length_replicate, show r.length + (n - r.length) = n by omega, co_zeros, co_zeros]
      by_cases c1 : j < n
      · rw [if_pos c1, if_pos c1]
        show _ = (0 : GF) + co r j
        rw [GF.zero_add]
        by_cases c2 : j < r.length
        · rw [if_pos c2]
        · rw [if_neg c2, co_bd r j (by omega)]; rfl
      · rw [if_neg c1, if_neg c1, co_bd r j (by omega), GF.add_zero]
    rw [e9, ← e6, PS.add_assoc, PS.add_self, PS.add_zero]
/-! ### Signs, Fine -/
theorem signs_l (b : List GF) (h : b.length ≤ 255) (n : Nat) (h2 : n ≤ 64) : ∀ (d k i : Nat), i + d = n → d + 100 ≤ k → solomon_Signs.l0 k (M b.reverse) (M (signs b i)) (n : Int) (i : Int) = some (M (signs b n), 0) := by
  intro d
  induction d with
  | zero =>
    intro k i h hk
    obtain ⟨k, rfl⟩ : ∃ m, k = m + 1 := ⟨k - 1, by omega⟩
    simp only [solomon_Signs.l0]
    rw [if_neg (by omega), show i = n by omega]
  | succ d ih =>
    intro k i h hk
    obtain ⟨k, rfl⟩ : ∃ m, k = m + 1 := ⟨k - 1, by omega⟩
    simp only [solomon_Signs.l0]
    rw [if_pos (by omega), w64 (by omega) (by omega), g_exp k (by omega), Option.bind_some, show ((((i : Int) + 1) % 255).toNat) = i + 1 by omega, f_eval k (by omega) _ _ (by rw [List.length_reverse]; omega), Option.bind_some, if_pos (by rw [M_length, signs_length]; omega), List.length_reverse, M_snoc]
    rw [show signs b i ++ [PS.ev b.length (co b.reverse) (GF.ex (i + 1))] = signs b (i + 1) from (signs_succ b i).symm]
    exact ih k (i + 1) (by omega) (by omega)
theorem f_signs_all (k : Nat) (hk : 1000 ≤ k) (b : List GF) (hb : b.length < 140737488355328) (n : Nat) (h1 : 1 ≤ n) (h2 : n ≤ 64) :
    solomon_Signs.f k (M b) (n : Int) = some (if b.length < n then ([], 2) else if 255 < b.length then ([], 4) else (M (signs b n), 0)) := by
  obtain ⟨k, rfl⟩ : ∃ m, k = m + 1 := ⟨k - 1, by omega⟩
  unfold solomon_Signs.f
  rw [if_neg (by omega), decide_eq_false (show ¬ (n : Int) > 64 by omega)]
  simp only [solomon_Signs.j0]
  rw [if_neg (by simp), M_length]
  by_cases c1 : b.length < n
  · rw [if_pos (by omega), if_pos c1]
  · rw [if_neg (by omega), if_neg c1]
    by_cases c2 : 255 < b.length
    · rw [if_pos (by omega), if_pos c2]
    · rw [if_neg (by omega), if_neg c2, f_turned k b hb (by omega), Option.bind_some, show ([] : List Int) = M (signs b 0) from rfl]
      exact signs_l b (by omega) n h2 n k 0 (by omega) (by omega)
theorem f_fine_all (k : Nat) (hk : 1000 ≤ k) (b : List GF) (hb : b.length < 140737488355328) (n : Nat) (h1 : 1 ≤ n) (h2 : n ≤ 64) :
    ∃ t, solomon_Fine.f k (M b) (n : Int) = some t ∧ (t = true ↔ n ≤ b.length ∧ b.length ≤ 255 ∧ OK b n) := by
  unfold solomon_Fine.f
  rw [f_signs_all k hk b hb n h1 h2, Option.bind_some]
  by_cases c1 : b.length < n
  · rw [if_pos c1]; exact ⟨false, rfl, by simp; omega⟩
  · rw [if_neg c1]
    by_cases c2 : 255 < b.length
    · rw [if_pos c2]; exact ⟨false, rfl, by simp; omega⟩
    · rw [if_neg c2, if_pos rfl]
      dsimp only
      rw [f_degree _ (by rw [signs_length]; omega), Option.bind_some]
      refine ⟨_, rfl, ?_⟩
      rw [decide_eq_true_iff, OK_signs]
      constructor
      · intro h
        exact ⟨by omega, by omega, List.length_eq_zero_iff.1 (by omega)⟩
      · rintro ⟨_, _, h⟩
        rw [h]; decide
end Go.Proofs.Ytgieppcadnhhaaa.SolF
