/- What the functions of poly reckon, told of polynomials over the field. -/
import Derived.Test.YtgieppcadnhhaaaPx2
import Derived.Test.YtgieppcadnhhaaaPx3
import Derived.Test.YtgieppcadnhhaaaPx4
import Derived.Test.YtgieppcadnhhaaaPx5
import Derived.Test.YtgieppcadnhhaaaPx10
import Derived.Test.YtgieppcadnhhaaaAlg


namespace Go.Proofs.Ytgieppcadnhhaaa.PolyF
open Go Go.RowKit Go.Proofs.Ytgieppcadnhhaaa.P Go.Proofs.YtgieppcadnhhaaaW.PrintWords Go.Proofs.YtgieppcadnhhaaaW.PrintLast Go.Proofs.YtgieppcadnhhaaaW.PrintMore
open Go.Ar Pl
theorem g_double : ∀ x : GF, gf_double.f (GF.I x) = some (GF.I (GF.dbl x)) := by decide +kernel
theorem g_add (x y : GF) : gf_Add.f (GF.I x) (GF.I y) = some (GF.I (x + y)) := by
  unfold gf_Add.f; rw [GF.xor]
theorem g_mul_l (n : Nat) : ∀ (k : Nat) (a p : GF) (c : Nat), c < 2 ^ n → n < k → gf_Mul.l0 k (GF.I a) (c : Int) (GF.I p) = some (GF.I (p + GF.mulB n a c)) := by
  induction n with
  | zero =>
    intro k a p c hc hk
    obtain ⟨k, rfl⟩ : ∃ m, k = m + 1 := ⟨k - 1, by omega⟩
    have : c = 0 := by simpa using hc
    subst this
    simp only [gf_Mul.l0]
    rw [if_neg (by decide)]; simp only [GF.mulB, GF.add_zero]
  | succ n ih =>
    intro k a p c hc hk
    obtain ⟨k, rfl⟩ : ∃ m, k = m + 1 := ⟨k - 1, by omega⟩
    by_cases h0 : c = 0
    · subst h0
      have z : ∀ n a, GF.mulB n a 0 = 0 := by
        intro n
        induction n with
        | zero => intro a; rfl
        | succ n ih => intro a; simp only [GF.mulB]; rw [if_neg (by decide), show 0 / 2 = 0 from rfl, ih]; rfl
      simp only [gf_Mul.l0]
      rw [if_neg (by decide), z, GF.add_zero]
    · have hb : c / 2 < 2 ^ n := by rw [Nat.pow_succ] at hc; omega
      have e := fun p => ih k (GF.dbl a) p (c / 2) hb (by omega)
      simp only [gf_Mul.l0, g_double, Option.bind_some, GF.xor]
      rw [if_pos (by omega), show (c : Int) / 2 = ((c / 2 : Nat) : Int) by omega, e, e]
      have ha : (Go.bits .and .u8 (c : Int) 1 > 0) ↔ c % 2 = 1 := by
        have : Go.bits .and .u8 (c : Int) 1 = ((c % 2 : Nat) : Int) := by
          have h : Go.bits .and .u8 (c : Int) 1 = IntKind.u8.wrap (((c % 256) &&& 1 : Nat) : Int) := by
            show IntKind.u8.wrap (((BitVec.ofInt 8 (c : Int)) &&& (BitVec.ofInt 8 1)).toNat : Int) = _
            rw [BitVec.ofInt_natCast, BitVec.toNat_and, BitVec.toNat_ofNat]; rfl
          rw [h, wu8, Nat.and_one_is_mod]; omega
        rw [this]; omega
      simp only [GF.mulB, ha]
      split
      · rw [GF.add_assoc]
      · rw [GF.zero_add]
theorem g_mul (k : Nat) (hk : 8 < k) (x y : GF) : gf_Mul.f k (GF.I x) (GF.I y) = some (GF.I (x * y)) := by
  unfold gf_Mul.f
  have := g_mul_l 8 k x 0 y.b.toNat (by have := y.b.isLt; omega) hk
  rw [GF.zero_add] at this
  exact this
theorem g_pow_l (n : Nat) : ∀ (k : Nat) (a p : GF) (c : Nat), c < 2 ^ n → n ≤ 16 → n + 8 < k → gf_Pow.l0 k (GF.I a) (c : Int) (GF.I p) = some (GF.I (p * GF.pw a c)) := by
  induction n with
  | zero =>
    intro k a p c hc hn hk
    obtain ⟨k, rfl⟩ : ∃ m, k = m + 1 := ⟨k - 1, by omega⟩
    have : c = 0 := by simpa using hc
    subst this
    simp only [gf_Pow.l0]
    rw [if_neg (by decide), GF.pw, GF.mul_one]
  | succ n ih =>
    intro k a p c hc hn hk
    obtain ⟨k, rfl⟩ : ∃ m, k = m + 1 := ⟨k - 1, by omega⟩
    by_cases h0 : c = 0
    · subst h0
      simp only [gf_Pow.l0]
      rw [if_neg (by decide), GF.pw, GF.mul_one]
    · have hb : c / 2 < 2 ^ n := by rw [Nat.pow_succ] at hc; omega
      have h16 : c < 2 ^ 62 := Nat.lt_of_lt_of_le hc (Nat.pow_le_pow_right (by decide) (by omega))
      have e := fun p => ih k (a * a) p (c / 2) hb (by omega) (by omega)
      simp only [gf_Pow.l0, g_mul k (by omega), Option.bind_some]
      rw [if_pos (by omega), show (c : Int) / 2 = ((c / 2 : Nat) : Int) by omega, e, e, and1_i64 c h16]
      have sq : GF.pw (a * a) (c / 2) = GF.pw a (2 * (c / 2)) := by
        rw [GF.pw_mul]; congr 1; exact congrArg (a * ·) (GF.mul_one a).symm
      rw [sq]
      split
      · rw [GF.mul_assoc]
        conv => rhs; rw [show c = 1 + 2 * (c / 2) by omega, GF.pw_add]
        rw [show GF.pw a 1 = a from GF.mul_one a]
      · conv => rhs; rw [show c = 2 * (c / 2) by omega]
/-- Go's power -/
def g_powv (x : GF) (n : Int) : GF := if x = 0 then (if n = 0 then 1 else 0) else GF.pw x (n % 255).toNat
theorem g_pow (k : Nat) (hk : 24 < k) (x : GF) (n : Int) :
    gf_Pow.f k (GF.I x) n = some (GF.I (g_powv x n)) := by
  unfold gf_Pow.f g_powv
  by_cases hx : x = 0
  · subst hx; rw [if_pos GF.I_zero, if_pos rfl]; split <;> rfl
  · have : ¬ GF.I x = 0 := fun e => hx (GF.I_eq_zero.1 e)
    rw [if_neg this, if_neg hx]
    have e : Int.tmod (wrap64 ((Int.tmod n 255) + 255)) 255 = ((n % 255).toNat : Int) := by
      have h : Int.tmod n 255 = n % 255 ∨ Int.tmod n 255 = n % 255 - 255 := by
        rw [Int.tmod_eq_emod]; split <;> simp
      have hb := Int.emod_nonneg n (show (255 : Int) ≠ 0 by decide)
      have hb2 := Int.emod_lt_of_pos n (show (0 : Int) < 255 by decide)
      rw [w64 (by omega) (by omega), tmodp _ _ (by omega)]
      omega
    have hb2 := Int.emod_lt_of_pos n (show (0 : Int) < 255 by decide)
    have hb := Int.emod_nonneg n (show (255 : Int) ≠ 0 by decide)
    rw [e]
    have := g_pow_l 8 k x 1 (n % 255).toNat (by omega) (by omega) (by omega)
    rw [GF.one_mul] at this
    exact this
theorem g_inv (k : Nat) (hk : 24 < k) (x : GF) : gf_Inv.f k (GF.I x) = some (if x = 0 then (0, 1) else (GF.I (GF.inv x), 0)) := by
  unfold gf_Inv.f
  by_cases hx : x = 0
  · subst hx; rw [if_pos GF.I_zero, if_pos rfl]
  · have : ¬ GF.I x = 0 := fun e => hx (GF.I_eq_zero.1 e)
    rw [if_neg this, if_neg hx, g_pow k hk x 254]
    simp only [Option.bind_some, g_powv]
    rw [if_neg hx, show ((254 : Int) % 255).toNat = 254 from rfl, GF.inv_pw x hx]
/-- A polynomial's coefficients as the program holds them. -/
def M (l : List GF) : List Int := l.map GF.I
theorem M_length (l : List GF) : (M l).length = l.length := List.length_map ..
theorem M_get (l : List GF) (n : Nat) : (M l)[n]?.getD 0 = GF.I (co l n) := by
  unfold M co
  rw [List.getElem?_map, List.getD_eq_getElem?_getD]
  cases l[n]? with
  | none => rfl
  | some x => rfl
theorem rd_M (l : List GF) (i : Int) : rd (M l) i = GF.I (co l i.toNat) := M_get l i.toNat
theorem M_take (l : List GF) (n : Nat) : (M l).take n = M (l.take n) := by unfold M; rw [List.map_take]
theorem M_set (l : List GF) (n : Nat) (x : GF) : (M l).set n (GF.I x) = M (l.set n x) := by unfold M; rw [List.map_set]
theorem M_snoc (l : List GF) (x : GF) : M l ++ [GF.I x] = M (l ++ [x]) := by unfold M; rw [List.map_append]; rfl
theorem M_zeros (n : Nat) : List.replicate n (0 : Int) = M (List.replicate n 0) := by unfold M; rw [List.map_replicate]; rfl
theorem ex_M {l : List Int} (h : ∀ x ∈ l, (Lit.int .u8 x).wf = true) : ∃ p, l = M p := by
  induction l with
  | nil => exact ⟨[], rfl⟩
  | cons a l ih =>
    obtain ⟨p, hp⟩ := ih (fun x hx => h x (List.mem_cons_of_mem _ hx))
    obtain ⟨x, hx⟩ := GF.ex_I (h a (List.mem_cons_self ..))
    exact ⟨x :: p, by rw [hp, hx]; rfl⟩
/-! ### coefficients of lists -/
theorem co_set (l : List GF) (n : Nat) (t : GF) (h : n < l.length) : co (l.set n (co l n + t)) = PS.add (co l) (PS.shift n (PS.C t)) := by
  funext k
  simp only [co, PS.add, List.getD_eq_getElem?_getD, List.getElem?_set]
  by_cases e : n = k
  · subst e
    rw [if_pos rfl, if_pos h, Option.getD_some, PS.shift_ge' n _ n (Nat.le_refl _), Nat.sub_self]
    rfl
  · rw [if_neg e]
    by_cases hk : k < n
    · rw [PS.shift_lt n _ k hk, GF.add_zero]
    · rw [PS.shift_ge' n _ k (by omega)]
      obtain ⟨m, hm⟩ : ∃ m, k - n = m + 1 := ⟨k - n - 1, by omega⟩
      rw [hm]
      show _ = _ + (0 : GF)
      rw [GF.add_zero]
theorem co_snoc (l : List GF) (t : GF) : co (l ++ [t]) = PS.add (co l) (PS.shift l.length (PS.C t)) := by
  funext k
  simp only [co, PS.add, List.getD_eq_getElem?_getD]
  by_cases e : k < l.length
  · rw [List.getElem?_append_left e, PS.shift_lt _ _ k e, GF.add_zero]
  · rw [List.getElem?_append_right (by omega), PS.shift_ge' _ _ k (by omega), show l[k]? = none from List.getElem?_eq_none (by omega)]
    by_cases e2 : k - l.length = 0
    · rw [e2]; show t = 0 + t; rw [GF.zero_add]
    · obtain ⟨m, hm⟩ : ∃ m, k - l.length = m + 1 := ⟨k - l.length - 1, by omega⟩
      rw [hm]; show (0 : GF) = 0 + 0; rw [GF.add_zero]
theorem co_take_succ (l : List GF) (n : Nat) (h : n < l.length) : co (l.take (n + 1)) = PS.add (co (l.take n)) (PS.shift n (PS.C (co l n))) := by
  have e : l.take (n + 1) = l.take n ++ [co l n] := by rw [co_get l n h, List.take_succ_eq_append_getElem h]
  rw [e, co_snoc, List.length_take, Nat.min_eq_left (by omega)]
theorem co_zeros (n : Nat) : co (List.replicate n 0) = PS.zero := by
  funext k
  simp only [co, PS.zero, List.getD_eq_getElem?_getD, List.getElem?_replicate]
  split <;> rfl
/-- How far a polynomial goes. -/
def Top (f : PS) (t : Nat) : Prop := PS.Bd f t ∧ (t = 0 ∨ f (t - 1) ≠ 0)
theorem Top.unique {f : PS} {s t : Nat} (h : Top f s) (h' : Top f t) : s = t := by
  have a : ∀ {s t}, Top f s → Top f t → s ≤ t := by
    intro s t h h'
    rcases h.2 with e | e
    · omega
    · by_cases x : s ≤ t
      · exact x
      · exact absurd (h'.1 (s - 1) (by omega)) e
  exact Nat.le_antisymm (a h h') (a h' h)
theorem Top.of_ends {m : List GF} (h : Pl.Ends m) : Top (co m) m.length := by
  refine ⟨co_bd m, ?_⟩
  by_cases e : m = []
  · left; rw [e]; rfl
  · right; exact ends_ne h e
theorem Top.plain (l : List GF) : Top (co l) (plain l).length := by
  have := Top.of_ends (plain_ends l)
  rwa [co_plain] at this
theorem top_M (l : List GF) : ∀ n, PS.Bd (co l) n → ∃ t, t ≤ n ∧ poly_Degree.top (M l) n = (t : Int) - 1 ∧ Top (co l) t
  | 0, h => ⟨0, Nat.le_refl _, rfl, h, .inl rfl⟩
  | n + 1, h => by
    simp only [poly_Degree.top, M_get]
    by_cases e : co l n = 0
    · rw [if_pos (GF.I_eq_zero.2 e)]
      obtain ⟨t, ht, h1, h2⟩ := top_M l n (fun k hk => by
        by_cases x : k = n
        · rw [x]; exact e
        · exact h k (by omega))
      exact ⟨t, by omega, h1, h2⟩
    · rw [if_neg (fun x => e (GF.I_eq_zero.1 x))]
      exact ⟨n + 1, Nat.le_refl _, by omega, h, .inr e⟩
theorem f_degree (l : List GF) (h : l.length ≤ 140737488355328) : poly_Degree.f (M l) = some (((plain l).length : Int) - 1) := by
  unfold poly_Degree.f
  rw [M_length, if_pos h]
  obtain ⟨t, _, h1, h2⟩ := top_M l l.length (co_bd l)
  rw [h1, h2.unique (Top.plain l)]
theorem f_clone (l : List Int) (h : l.length < 140737488355328) : slices_Clone_byte_byte.f l = some l := by
  unfold slices_Clone_byte_byte.f; rw [if_pos h]
theorem take_plain (l : List GF) : l.take (plain l).length = plain l := by
  have ht := Top.plain l
  have hl := plain_length l
  refine ends_eq ?_ (plain_ends l) ?_
  · intro hne
    have hlen : (l.take (plain l).length).length = (plain l).length := by rw [List.length_take]; omega
    have h0 : (plain l).length ≠ 0 := by
      intro e; apply hne; rw [e]; rfl
    rw [List.getLast_eq_getElem]
    simp only [hlen, List.getElem_take]
    rcases ht.2 with e | e
    · exact absurd e h0
    · rwa [co_get l _ (by omega)] at e
  · rw [co_plain]
    funext k
    simp only [co, List.getD_eq_getElem?_getD]
    by_cases e : k < (plain l).length
    · rw [List.getElem?_take_of_lt e]
    · rw [List.getElem?_eq_none (by rw [List.length_take]; omega)]
      have := ht.1 k (by omega)
      simp only [co, List.getD_eq_getElem?_getD] at this
      rw [this]; rfl
theorem f_plain (l : List GF) (h : l.length < 140737488355328) : poly_Plain.f (M l) = some (M (plain l)) := by
  unfold poly_Plain.f
  have hl := plain_length l
  rw [f_degree l (by omega), Option.bind_some, show ((plain l).length : Int) - 1 + 1 = ((plain l).length : Int) by omega, w64 (by omega) (by omega), if_pos (by omega), M_length, if_pos (by omega),
    Int.toNat_natCast, M_take, f_clone _ (by rw [M_length, List.length_take]; omega), Option.bind_some, take_plain]
/-- What a function answers: the one list without zeros behind whose coefficients are f's. -/
def Is (o : Option (List Int)) (f : PS) (n : Nat) : Prop := ∃ m, o = some (M m) ∧ Pl.Ends m ∧ co m = f ∧ m.length ≤ n
theorem Is.plain {l : List GF} (h : l.length < 140737488355328) : Is (poly_Plain.f (M l)) (co l) l.length := ⟨Pl.plain l, f_plain l h, plain_ends l, co_plain l, plain_length l⟩
/-! ### products by a number -/
theorem times_l (p : List GF) (a : GF) : ∀ (d k i : Nat) (o : List GF), i + d = p.length → o.length = i → co o = PS.smul a (co (p.take i)) → p.length < 140737488355328 → d + 10 < k →
    Is (poly_Times.l0 k (GF.I a) (M o) (M p) (p.length : Int) (i : Int)) (PS.smul a (co p)) p.length := by
  intro d
  induction d with
  | zero =>
    intro k i o hi ho hc hp hk
    obtain ⟨k, rfl⟩ : ∃ m, k = m + 1 := ⟨k - 1, by omega⟩
    simp only [poly_Times.l0]
    rw [if_neg (by omega)]
    obtain ⟨m, h1, h2, h3, h4⟩ := Is.plain (l := o) (by omega)
    rw [h1, Option.bind_some]
    exact ⟨m, rfl, h2, by rw [h3, hc, show i = p.length by omega, List.take_length], by omega⟩
  | succ d ih =>
    intro k i o hi ho hc hp hk
    obtain ⟨k, rfl⟩ : ∃ m, k = m + 1 := ⟨k - 1, by omega⟩
    simp only [poly_Times.l0]
    rw [if_pos (by omega), if_pos (by omega), if_pos (by rw [M_length]; omega), rd_M, Int.toNat_natCast, g_mul k (by omega), Option.bind_some, if_pos (by rw [M_length]; omega), M_snoc, w64 (by omega) (by omega),
      show (i : Int) + 1 = ((i + 1 : Nat) : Int) by omega]
    refine ih k (i + 1) (o ++ [a * co p i]) (by omega) (by rw [List.length_append, ho]; rfl) ?_ hp (by omega)
    rw [co_snoc, hc, co_take_succ p i (by omega), PS.smul_add, ho]
    congr 1
    rw [← PS.C_conv a (PS.shift i _), PS.conv_shift, PS.C_conv]
    congr 1
    funext k
    cases k with
    | zero => rfl
    | succ k => show (0 : GF) = a * 0; rw [GF.mul_zero]
theorem f_times (k : Nat) (p : List GF) (a : GF) (hp : p.length < 140737488355328) (hk : p.length + 10 < k) : Is (poly_Times.f k (M p) (GF.I a)) (PS.smul a (co p)) p.length := by
  unfold poly_Times.f
  rw [M_length]
  have := times_l p a p.length k 0 [] (by omega) rfl (by rw [List.take_zero, co_nil, PS.smul_zero]) hp hk
  exact this
/-! ### products -/
theorem mul_l1 (P Q : List GF) (n : Nat) (hn : n = P.length + Q.length - 1) (hlen : P.length + Q.length < 140737488355328) (i : Nat) (hi : i < P.length) (R : Nat → Nat → Prop)
    (hnext : ∀ k (o : List GF), o.length = n → co o = PS.conv (co (P.take (i + 1))) (co Q) → R 0 k → ∃ m, poly_Mul.l0 k (M Q) (M o) (M P) (P.length : Int) ((i + 1 : Nat) : Int) = some (M m) ∧ m.length = n ∧ co m = PS.conv (co P) (co Q))
    (hR : ∀ d k, R (d + 1) (k + 1) → R d k ∧ 8 < k) (hR0 : ∀ k, R 1 (k + 1) → R 0 k) :
    ∀ (d k j : Nat) (o : List GF), j + d = Q.length → o.length = n → co o = PS.add (PS.conv (co (P.take i)) (co Q)) (PS.shift i (PS.smul (co P i) (co (Q.take j)))) → (∃ k', k = k' + 1 ∧ R (d + 1) (k' + 1)) →
      ∃ m, poly_Mul.l1 k (M Q) (M o) (i : Int) (GF.I (co P i)) (M P) (P.length : Int) (i : Int) (M Q) (Q.length : Int) (j : Int) = some (M m) ∧ m.length = n ∧ co m = PS.conv (co P) (co Q) := by
  intro d
  induction d with
  | zero =>
    intro k j o hj ho hc ⟨k', hk, hr⟩
    subst hk
    simp only [poly_Mul.l1]
    rw [if_neg (by omega), w64 (by omega) (by omega), show (i : Int) + 1 = ((i + 1 : Nat) : Int) by omega]
    refine hnext k' o ho ?_ (hR0 _ hr)
    rw [hc, co_take_succ P i hi, PS.add_conv, PS.shift_conv, PS.C_conv, show j = Q.length by omega, List.take_length]
  | succ d ih =>
    intro k j o hj ho hc ⟨k', hk, hr⟩
    subst hk
    obtain ⟨hr', hk8⟩ := hR _ _ hr
    simp only [poly_Mul.l1]
    rw [if_pos (by omega), if_pos (by omega), if_pos (by rw [M_length]; omega), w64 (n := (i : Int) + j) (by omega) (by omega), if_pos (by omega), if_pos (by rw [M_length]; omega), rd_M, rd_M,
      Int.toNat_natCast, show ((i : Int) + (j : Int)).toNat = i + j by omega, g_mul k' hk8, Option.bind_some, g_add, Option.bind_some, M_set, w64 (by omega) (by omega), show (j : Int) + 1 = ((j + 1 : Nat) : Int) by omega]
    obtain ⟨k2, rfl⟩ : ∃ m, k' = m + 1 := ⟨k' - 1, by omega⟩
    refine ih (k2 + 1) (j + 1) _ (by omega) (by rw [List.length_set, ho]) ?_ ⟨k2, rfl, hr'⟩
    rw [co_set o _ _ (by omega), hc, co_take_succ Q j (by omega), PS.smul_add, PS.add_assoc]
    congr 1
    have hsm : ∀ (a c : GF), PS.smul a (PS.C c) = PS.C (a * c) := fun a c => by
      funext k
      cases k with
      | zero => rfl
      | succ k => show a * (0 : GF) = 0; rw [GF.mul_zero]
    have hss : ∀ (a : GF) (m : Nat) (f : PS), PS.smul a (PS.shift m f) = PS.shift m (PS.smul a f) := fun a m f => by
      rw [← PS.C_conv, PS.conv_shift, PS.C_conv]
    have hsa : ∀ (m : Nat) (f g : PS), PS.shift m (PS.add f g) = PS.add (PS.shift m f) (PS.shift m g) := fun m f g => by
      have h : ∀ f : PS, PS.shift m f = PS.conv (PS.shift m (PS.C 1)) f := fun f => by rw [PS.shift_conv, PS.one_conv]
      rw [h, h f, h g, PS.conv_add]
    rw [hsa, hss, hsm, PS.shift_add]
theorem mul_l0 (P Q : List GF) (n : Nat) (hn : n = P.length + Q.length - 1) (hlen : P.length + Q.length < 140737488355328) :
    ∀ (e k i : Nat) (o : List GF), i + e = P.length → o.length = n → co o = PS.conv (co (P.take i)) (co Q) → e * (Q.length + 2) + 10 ≤ k →
      ∃ m, poly_Mul.l0 k (M Q) (M o) (M P) (P.length : Int) (i : Int) = some (M m) ∧ m.length = n ∧ co m = PS.conv (co P) (co Q) := by
  intro e
  induction e with
  | zero =>
    intro k i o hi ho hc hk
    obtain ⟨k, rfl⟩ : ∃ m, k = m + 1 := ⟨k - 1, by omega⟩
    simp only [poly_Mul.l0]
    rw [if_neg (by omega)]
    exact ⟨o, rfl, ho, by rw [hc, show i = P.length by omega, List.take_length]⟩
  | succ e ih =>
    intro k i o hi ho hc hk
    obtain ⟨k, rfl⟩ : ∃ m, k = m + 1 := ⟨k - 1, by omega⟩
    have hk' : e * (Q.length + 2) + 10 + (Q.length + 1) ≤ k := by
      rw [Nat.add_mul] at hk; omega
    simp only [poly_Mul.l0]
    rw [if_pos (by omega), if_pos (by omega), if_pos (by rw [M_length]; omega), rd_M, Int.toNat_natCast, M_length]
    refine mul_l1 P Q n hn hlen i (by omega) (fun d k => e * (Q.length + 2) + 10 + d ≤ k) ?_ (fun d k h => ⟨by omega, by omega⟩) (fun k h => by omega) Q.length k 0 o (by omega) ho ?_ ⟨k - 1, by omega, by omega⟩
    · intro k o ho hc hR
      exact ih k (i + 1) o (by omega) ho hc (by omega)
    · rw [hc, List.take_zero, co_nil, PS.smul_zero]
      have : PS.shift i PS.zero = PS.zero := by
        have h := PS.shift_conv i PS.zero PS.zero
        rw [PS.conv_zero, PS.conv_zero] at h
        exact h.symm
      rw [this, PS.add_zero]
theorem f_mul (k : Nat) (p q : List GF) (hlen : p.length + q.length < 140737488355328) (hk : p.length * (q.length + 2) + 12 ≤ k) : Is (poly_Mul.f k (M p) (M q)) (PS.conv (co p) (co q)) (p.length + q.length) := by
  have hp := plain_length p
  have hq := plain_length q
  unfold poly_Mul.f
  rw [f_plain p (by omega), Option.bind_some, f_plain q (by omega), Option.bind_some, M_length, M_length]
  obtain ⟨k, rfl⟩ : ∃ m, k = m + 1 := ⟨k - 1, by omega⟩
  have hmono : (plain p).length * ((plain q).length + 2) + 10 ≤ k := by
    have := Nat.mul_le_mul hp (Nat.add_le_add_right hq 2); omega
  simp only [poly_Mul.j0]
  by_cases e : plain p = []
  · rw [if_pos (by rw [e]; rfl)]
    simp only [if_true]
    refine ⟨[], rfl, ends_nil, ?_, Nat.zero_le _⟩
    rw [co_nil, (plain_nil_iff p).1 e, PS.zero_conv]
  · have hp0 : (plain p).length ≠ 0 := by simpa using e
    rw [if_neg (by omega)]
    by_cases e2 : plain q = []
    · rw [show (((plain q).length : Int) == 0) = true by rw [e2]; rfl]
      simp only [if_true]
      refine ⟨[], rfl, ends_nil, ?_, Nat.zero_le _⟩
      rw [co_nil, (plain_nil_iff q).1 e2, PS.conv_zero]
    · have hq0 : (plain q).length ≠ 0 := by simpa using e2
      rw [show (((plain q).length : Int) == 0) = false by simp; exact e2]
      simp only [Bool.false_eq_true, if_false, M_length]
      rw [w64 (n := ((plain p).length : Int) + _) (by omega) (by omega), w64 (by omega) (by omega), if_pos (by omega), if_pos (by omega), M_zeros]
      obtain ⟨m, h1, h2, h3⟩ := mul_l0 (plain p) (plain q) ((plain p).length + (plain q).length - 1) rfl (by omega) (plain p).length k 0 (List.replicate (((plain p).length : Int) + (plain q).length - 1).toNat 0) (by omega)
        (by rw [List.length_replicate]; omega) (by rw [co_zeros, List.take_zero, co_nil, PS.zero_conv]) hmono
      refine ⟨m, h1, ?_, by rw [h3, co_plain, co_plain], by omega⟩
      intro hne
      rw [List.getLast_eq_getElem, ← co_get m _ (by omega), h3]
      have ht := PS.conv_top (m := (plain p).length - 1) (d := (plain q).length - 1) (f := co (plain p)) (g := co (plain q)) (by rw [Nat.sub_add_cancel (by omega)]; exact co_bd _) (by rw [Nat.sub_add_cancel (by omega)]; exact co_bd _)
      rw [show m.length - 1 = (plain p).length - 1 + ((plain q).length - 1) by omega, ht]
      intro h
      rcases GF.mul_eq_zero.1 h with h | h
      · exact ends_ne (plain_ends p) e h
      · exact ends_ne (plain_ends q) e2 h
/-! ### values -/
theorem eval_ok (k : Nat) (hk : 8 < k) (x : GF) : poly_Eval.ok k (GF.I x) = true := by
  refine List.all_eq_true.2 fun u hu => ?_
  have hu' : u < 256 := by simpa using hu
  have e : (u : Int) = GF.I (GF.ofI (u : Int)) := (GF.I_ofI (by omega) (by omega)).symm
  rw [e, g_mul k hk]
  have := GF.I_bd (GF.ofI (u : Int) * x)
  simp [this]
theorem bytes_M (l : List GF) : poly_Eval.bytes (M l) = true := by
  refine List.all_eq_true.2 fun c hc => ?_
  obtain ⟨x, _, rfl⟩ := List.mem_map.1 hc
  have := GF.I_bd x
  simp [this]
theorem ev_pw (n : Nat) (x : GF) : PS.ev (n + 1) (PS.shift n (PS.C 1)) x = GF.pw x n := by
  induction n with
  | zero => show 1 + x * 0 = _; rw [GF.mul_zero, GF.add_zero]; rfl
  | succ n ih => rw [show PS.ev (n + 1 + 1) (PS.shift (n + 1) (PS.C 1)) x = x * PS.ev (n + 1) (PS.shift n (PS.C 1)) x from PS.ev_cons0 _ _ _, ih]; rfl
theorem eval_go (k : Nat) (hk : 8 < k) (l : List GF) (x : GF) : ∀ (n : Nat) (v : GF), poly_Eval.go k (M l) (GF.I x) n (GF.I v) = some (GF.I (v * GF.pw x n + PS.ev n (co l) x))
  | 0, v => by
    show some (GF.I v) = some (GF.I (v * 1 + 0))
    rw [GF.mul_one, GF.add_zero]
  | n + 1, v => by
    simp only [poly_Eval.go]
    rw [g_mul k hk, Option.bind_some, M_get, g_add, Option.bind_some, eval_go k hk l x n, PS.ev_snoc n (co l) x, ev_pw, GF.pw_add x n 1]
    congr 2
    rw [GF.add_mul, show GF.pw x 1 = x from GF.mul_one x, show v * x * GF.pw x n = v * (GF.pw x n * x) by ac_rfl]
    ac_rfl
theorem f_eval (k : Nat) (hk : 8 < k) (l : List GF) (x : GF) (h : l.length ≤ 140737488355328) : poly_Eval.f k (M l) (GF.I x) = some (GF.I (PS.ev l.length (co l) x)) := by
  unfold poly_Eval.f
  rw [M_length, if_pos h, if_pos (eval_ok k hk x), if_pos (bytes_M l), show (0 : Int) = GF.I 0 from rfl, eval_go k hk l x, GF.zero_mul, GF.zero_add]
/-! ### slopes -/
/-! ### quotients -/
theorem smul_C (a c : GF) : PS.smul a (PS.C c) = PS.C (a * c) := by
  funext k
  cases k with
  | zero => rfl
  | succ k => show a * (0 : GF) = 0; rw [GF.mul_zero]
theorem smul_shift (a : GF) (m : Nat) (f : PS) : PS.smul a (PS.shift m f) = PS.shift m (PS.smul a f) := by
  rw [← PS.C_conv, PS.conv_shift, PS.C_conv]
theorem shift_plus (m : Nat) (f g : PS) : PS.shift m (PS.add f g) = PS.add (PS.shift m f) (PS.shift m g) := by
  have h : ∀ f : PS, PS.shift m f = PS.conv (PS.shift m (PS.C 1)) f := fun f => by rw [PS.shift_conv, PS.one_conv]
  rw [h, h f, h g, PS.conv_add]
theorem shift_zero (m : Nat) : PS.shift m PS.zero = PS.zero := by
  have h := PS.shift_conv m PS.zero PS.zero
  rw [PS.conv_zero, PS.conv_zero] at h
  exact h.symm
theorem inner_M (k : Nat) (hk : 8 < k) (q : List GF) (a : GF) (i : Nat) : ∀ (m j : Nat) (lf : List GF), j + m ≤ q.length → i + (j + m) ≤ lf.length →
    ∃ lf', poly_Quo.inner k (M q) (GF.I a) i m j (M lf) = some (M lf') ∧ lf'.length = lf.length ∧ co lf' = PS.add (co lf) (PS.shift i (PS.smul a (PS.add (co (q.take j)) (co (q.take (j + m)))))) := by
  intro m
  induction m with
  | zero =>
    intro j lf _ _
    exact ⟨lf, rfl, rfl, by rw [Nat.add_zero, PS.add_self, PS.smul_zero, shift_zero, PS.add_zero]⟩
  | succ m ih =>
    intro j lf hj hl
    simp only [poly_Quo.inner]
    rw [rd_M, rd_M, Int.toNat_natCast, Int.toNat_natCast, g_mul k hk, Option.bind_some, g_add, Option.bind_some, M_set]
    obtain ⟨lf', h1, h2, h3⟩ := ih (j + 1) (lf.set (i + j) (co lf (i + j) + a * co q j)) (by omega) (by rw [List.length_set]; omega)
    refine ⟨lf', h1, by rw [h2, List.length_set], ?_⟩
    rw [h3, co_set lf (i + j) _ (by omega), show j + 1 + m = j + (m + 1) by omega, co_take_succ q j (by omega), PS.add_assoc]
    congr 1
    rw [← PS.shift_add i j, ← smul_C, ← smul_shift, ← shift_plus, ← PS.smul_add]
    congr 2
    rw [show PS.add (PS.shift j (PS.C (co q j))) (PS.add (PS.add (co (q.take j)) (PS.shift j (PS.C (co q j)))) (co (q.take (j + (m + 1))))) =
      PS.add (PS.add (PS.shift j (PS.C (co q j))) (PS.shift j (PS.C (co q j)))) (PS.add (co (q.take j)) (co (q.take (j + (m + 1))))) by ac_rfl, PS.add_self, PS.zero_add]
theorem co_take_bd (q : List GF) (n : Nat) (h : PS.Bd (co q) n) : co (q.take n) = co q := by
  funext k
  simp only [co, List.getD_eq_getElem?_getD]
  by_cases e : k < n
  · rw [List.getElem?_take_of_lt e]
  · rw [List.getElem?_eq_none (by rw [List.length_take]; omega)]
    have := h k (by omega)
    simp only [co, List.getD_eq_getElem?_getD] at this
    rw [this]; rfl
theorem outer_M (k : Nat) (hk : 8 < k) (q : List GF) (d : Nat) (iv : GF) (hq : PS.Bd (co q) (d + 1)) (hd : d < q.length) (hi : co q d * iv = 1) (p : PS) : ∀ (n : Nat) (lf of : List GF),
    n + d ≤ lf.length ∨ n = 0 → n ≤ of.length → PS.Bd (co lf) (n + d) → (∀ j, j < n → co of j = 0) → PS.add (PS.conv (co of) (co q)) (co lf) = p →
    ∃ lf' of', poly_Quo.outer k (M q) d (GF.I iv) n (M lf) (M of) = some (M lf', M of') ∧ lf'.length = lf.length ∧ of'.length = of.length ∧ PS.Bd (co lf') d ∧ PS.add (PS.conv (co of') (co q)) (co lf') = p := by
  intro n
  induction n with
  | zero =>
    intro lf of _ _ hb _ he
    exact ⟨lf, of, rfl, rfl, rfl, by rwa [Nat.zero_add] at hb, he⟩
  | succ n ih =>
    intro lf of hl ho hb hz he
    have hl' : n + 1 + d ≤ lf.length := by omega
    simp only [poly_Quo.outer]
    rw [rd_M, Int.toNat_natCast, g_mul k hk, Option.bind_some]
    obtain ⟨lf1, h1, h2, h3⟩ := inner_M k hk q (co lf (n + d) * iv) n (d + 1) 0 lf (by omega) (by omega)
    rw [Nat.zero_add, List.take_zero, co_nil, PS.zero_add, co_take_bd q _ hq] at h3
    rw [h1, Option.bind_some, M_set]
    have hset : of.set n (co lf (n + d) * iv) = of.set n (co of n + co lf (n + d) * iv) := by rw [hz n (by omega), GF.zero_add]
    rw [hset]
    have hco := co_set of n (co lf (n + d) * iv) (by omega)
    refine (ih lf1 _ (.inl (by omega)) (by rw [List.length_set]; omega) ?_ ?_ ?_).imp fun lf' hx => hx.imp fun of' hy => ⟨hy.1, by omega, by rw [hy.2.2.1, List.length_set], hy.2.2.2⟩
    · intro j hj
      rw [h3]
      show co lf j + PS.shift n _ j = 0
      rw [PS.shift_ge' n _ j (by omega)]
      by_cases e : j = n + d
      · subst e
        rw [show n + d - n = d by omega]
        show co lf (n + d) + co lf (n + d) * iv * co q d = 0
        rw [GF.mul_assoc, GF.mul_comm iv, hi, GF.mul_one, GF.add_self]
      · rw [hb j (by omega)]
        show 0 + _ * co q (j - n) = (0 : GF)
        rw [hq (j - n) (by omega), GF.mul_zero, GF.add_zero]
    · intro j hj
      rw [hco]
      show co of j + PS.shift n _ j = 0
      rw [hz j (by omega), PS.shift_lt n _ j hj, GF.add_zero]
    · rw [hco, h3, PS.add_conv, PS.shift_conv, PS.C_conv, ← he]
      generalize PS.conv (co of) (co q) = x
      generalize PS.shift n (PS.smul (co lf (n + d) * iv) (co q)) = y
      rw [show PS.add (PS.add x y) (PS.add (co lf) y) = PS.add (PS.add x (co lf)) (PS.add y y) by ac_rfl, PS.add_self, PS.add_zero]
theorem okAll (k : Nat) (hk : 8 < k) : poly_Quo.okAll k = true := by
  refine List.all_eq_true.2 fun u hu => ?_
  have hu' : u < 256 := by simpa using hu
  have e : (u : Int) = GF.I (GF.ofI (u : Int)) := (GF.I_ofI (by omega) (by omega)).symm
  rw [e]; exact eval_ok k hk _
theorem f_quo (k : Nat) (hk : 24 < k) (p q : List GF) (hp : p.length < 140737488355328) (hq : q.length < 140737488355328) (h : plain q ≠ []) :
    ∃ a r, poly_Quo.f k (M p) (M q) = some (M a, M r, 0) ∧ Pl.Ends a ∧ Pl.Ends r ∧ r.length < (plain q).length ∧ a.length ≤ p.length ∧ PS.add (PS.conv (co a) (co q)) (co r) = co p := by
  have hl := plain_length q
  have hlp := plain_length p
  have h0 : (plain q).length ≠ 0 := by simpa using h
  obtain ⟨d, hd⟩ : ∃ d, (plain q).length = d + 1 := ⟨(plain q).length - 1, by omega⟩
  have hc : co q d ≠ 0 := by
    have := ends_ne (plain_ends q) h
    rwa [co_plain, hd, Nat.add_sub_cancel] at this
  have hB : PS.Bd (co q) (d + 1) := by have := (Top.plain q).1; rwa [hd] at this
  unfold poly_Quo.f
  rw [f_degree q (by omega), Option.bind_some, hd, show ((d + 1 : Nat) : Int) - 1 = (d : Int) by omega, if_neg (by omega), if_pos (by rw [M_length]; omega), rd_M, Int.toNat_natCast, g_inv k hk, if_neg hc, Option.bind_some,
    f_plain p hp, Option.bind_some]
  unfold poly_Quo.rest
  have hI := GF.I_bd (GF.inv (co q d))
  rw [if_pos ⟨okAll k (by omega), bytes_M q, bytes_M _, hI.1, hI.2, by rw [M_length]; omega, by rw [M_length]; omega⟩, Int.toNat_natCast, M_length, M_zeros]
  obtain ⟨lf', of', h1, h2, h3, h4, h5⟩ := outer_M k (by omega) q d (GF.inv (co q d)) hB (by omega) (GF.mul_inv _ hc) (co p) ((plain p).length - d) (plain p) (List.replicate ((plain p).length - d) 0)
    (by omega) (by rw [List.length_replicate]; omega) (fun j hj => co_bd _ j (by omega)) (fun j _ => by rw [co_zeros]; rfl) (by rw [co_zeros, PS.zero_conv, PS.zero_add, co_plain])
  rw [List.length_replicate] at h3
  rw [h1, Option.bind_some, f_plain of' (by omega), Option.bind_some, f_plain lf' (by omega), Option.bind_some]
  have ha := plain_length of'
  refine ⟨plain of', plain lf', rfl, plain_ends _, plain_ends _, ?_, by omega, by rw [co_plain, co_plain]; exact h5⟩
  have ht := Top.plain lf'
  rcases ht.2 with e | e
  · rw [e]; omega
  · by_cases x : (plain lf').length < d + 1
    · exact x
    · exact absurd (h4 _ (by omega)) e
end Go.Proofs.Ytgieppcadnhhaaa.PolyF
