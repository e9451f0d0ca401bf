import Derived.Test.YtgieppcadnhhaaaSm
/-! slopes; the shortest register; the values at the places -/
namespace PS
open GF
/-- the slope -/
def D (f : PS) : PS := fun k => if k % 2 = 0 then f (k + 1) else 0
theorem D_eq (f : PS) : D f = add (tail f) (cons 0 (D (tail f))) := by
  funext k
  cases k with
  | zero => exact (GF.add_zero _).symm
  | succ k =>
    show (if (k + 1) % 2 = 0 then f (k + 2) else 0) = f (k + 2) + (if k % 2 = 0 then f (k + 2) else 0)
    by_cases h : k % 2 = 0
    · rw [if_pos h, if_neg (by omega), GF.add_self]
    · rw [if_neg h, if_pos (by omega), GF.add_zero]
theorem D_add (f g : PS) : D (add f g) = add (D f) (D g) := by
  funext k; show (if _ then f (k + 1) + g (k + 1) else 0) = (if _ then _ else _) + (if _ then _ else _)
  split
  · rfl
  · exact (GF.add_zero 0).symm
theorem D_smul (a : GF) (f : PS) : D (smul a f) = smul a (D f) := by
  funext k; show (if _ then a * f (k + 1) else 0) = a * (if _ then _ else _)
  split
  · rfl
  · exact (GF.mul_zero a).symm
theorem D_cons (a : GF) (f : PS) : D (cons a f) = add f (cons 0 (D f)) := D_eq (cons a f)
theorem cons_add (f g : PS) : cons 0 (add f g) = add (cons 0 f) (cons 0 g) := by
  funext k; cases k with
  | zero => exact (GF.add_zero 0).symm
  | succ k => rfl
theorem D_conv' (k : Nat) : ∀ f g : PS, D (conv f g) k = add (conv (D f) g) (conv f (D g)) k := by
  induction k with
  | zero =>
    intro f g
    show f 0 * g 1 + f 1 * g 0 = f 1 * g 0 + f 0 * g 1
    exact GF.add_comm _ _
  | succ k ih =>
    intro f g
    have e1 : conv f g = add (smul (f 0) g) (cons 0 (conv (tail f) g)) := by
      conv => lhs; rw [← cons_eta f]
      exact cons_conv _ _ _
    have e2 : conv (D f) g = add (conv (tail f) g) (cons 0 (conv (D (tail f)) g)) := by
      rw [D_eq f, add_conv, conv_cons0]
    have e3 : conv f (D g) = add (smul (f 0) (D g)) (cons 0 (conv (tail f) (D g))) := by
      conv => lhs; rw [← cons_eta f]
      exact cons_conv _ _ _
    rw [e1, D_add, D_smul, D_cons, e2, e3]
    show f 0 * D g (k + 1) + (conv (tail f) g (k + 1) + D (conv (tail f) g) k) = (conv (tail f) g (k + 1) + conv (D (tail f)) g k) + (f 0 * D g (k + 1) + conv (tail f) (D g) k)
    rw [ih]
    show _ + (_ + (conv (D (tail f)) g k + conv (tail f) (D g) k)) = _
    ac_rfl
theorem D_conv (f g : PS) : D (conv f g) = add (conv (D f) g) (conv f (D g)) := funext fun k => D_conv' k f g
theorem D_zero : D zero = zero := by funext k; show (if _ then (0 : GF) else 0) = 0; split <;> rfl
theorem D_C (a : GF) : D (C a) = zero := by rw [C, D_cons, D_zero, cons_zero, add_zero]
theorem Bd.D {f : PS} {n : Nat} (h : Bd f (n + 1)) : Bd (D f) n := fun k hk => by
  show (if _ then f (k + 1) else 0) = 0
  rw [h (k + 1) (by omega)]; split <;> rfl

/-- 1 + a x -/
def lin (a : GF) : PS := cons 1 (C a)
theorem lin_bd (a : GF) : Bd (lin a) 2 := Bd.cons (Bd.cons (Bd.zero 0))
theorem ev_lin (a x : GF) : ev 2 (lin a) x = 1 + a * x := by
  show 1 + x * (a + x * 0) = _; rw [GF.mul_zero, GF.add_zero, GF.mul_comm]
def geo (a : GF) : PS := fun i => pw a i
theorem lin_geo (a : GF) : conv (lin a) (geo a) = C 1 := by
  rw [lin, cons_conv, C_conv, one_smul]
  funext k
  cases k with
  | zero => exact GF.add_zero _
  | succ k => show pw a (k + 1) + a * pw a k = 0; exact GF.add_self _
theorem D_lin (a : GF) : D (lin a) = C a := by rw [lin, D_cons, D_C, cons_zero, add_zero]
/-- the locator of places -/
def loc : List Nat → PS
  | [] => C 1
  | j :: l => conv (lin (ex j)) (loc l)
theorem loc_bd (l : List Nat) : Bd (loc l) (l.length + 1) := by
  induction l with
  | nil => exact Bd.cons (Bd.zero 0)
  | cons j l ih => exact (Bd.conv (m := 1) (lin_bd _) ih).mono (by simp; omega)
theorem loc_zero (l : List Nat) : loc l 0 = 1 := by
  induction l with
  | nil => rfl
  | cons j l ih => show 1 * loc l 0 = 1; rw [ih]; exact GF.one_mul 1
theorem ev_loc_cons (j : Nat) (l : List Nat) (x : GF) : ev (l.length + 2) (loc (j :: l)) x = (1 + ex j * x) * ev (l.length + 1) (loc l) x := by
  have := ev_conv x (lin_bd (ex j)) (loc_bd l)
  rw [ev_lin] at this
  rw [← this]
  exact (ev_more x (loc_bd (j :: l)) (by rw [List.length_cons]; omega)).symm
/-- the sum of e j * 2^j / (1 + 2^j x) -/
def sg (e : Nat → GF) : List Nat → PS
  | [] => zero
  | j :: l => add (smul (e j * ex j) (geo (ex j))) (sg e l)
def om (e : Nat → GF) : List Nat → PS
  | [] => zero
  | j :: l => add (smul (e j * ex j) (loc l)) (conv (lin (ex j)) (om e l))
theorem loc_sg (e : Nat → GF) (l : List Nat) : conv (loc l) (sg e l) = om e l := by
  induction l with
  | nil => exact conv_zero _
  | cons j l ih =>
    show conv (conv (lin (ex j)) (loc l)) (add (smul _ (geo (ex j))) (sg e l)) = _
    rw [conv_add, conv_smul, conv_assoc _ (loc l) (sg e l), ih, show conv (conv (lin (ex j)) (loc l)) (geo (ex j)) = conv (loc l) (conv (lin (ex j)) (geo (ex j))) by ac_rfl, lin_geo, conv_one]
    rfl
theorem om_bd (e : Nat → GF) (l : List Nat) : Bd (om e l) l.length := by
  induction l with
  | nil => exact Bd.zero 0
  | cons j l ih =>
    exact Bd.add ((loc_bd l).smul _) ((Bd.conv (m := 1) (lin_bd _) ih).mono (by simp; omega))
theorem D_loc (l : List Nat) : D (loc l) = om (fun _ => 1) l := by
  induction l with
  | nil => exact D_C 1
  | cons j l ih =>
    show D (conv (lin (ex j)) (loc l)) = add (smul (1 * ex j) (loc l)) (conv (lin (ex j)) (om _ l))
    rw [D_conv, D_lin, C_conv, ih, GF.one_mul]
/-- 1 / 2^j -/
def ix (j : Nat) : GF := ex (255 - j % 255)
theorem ix_mul (j : Nat) : ex j * ix j = 1 := by
  unfold ix
  rw [ex_mod j, ex_mul, show j % 255 + (255 - j % 255) = 255 by have := Nat.mod_lt j (show 0 < 255 by omega); omega]
  exact ex_255
theorem lin_ix {i j : Nat} (hi : i < 255) (hj : j < 255) (h : i ≠ j) : 1 + ex i * ix j ≠ 0 := by
  intro e
  have e2 : ex i * ix j = ex j * ix j := by rw [ix_mul]; exact (GF.add_eq_zero.1 e).symm
  rw [GF.mul_comm, GF.mul_comm (ex j)] at e2
  exact h (ex_inj hi hj (GF.mul_cancel (ex_ne_zero _) e2))
theorem loc_ix {l : List Nat} {j : Nat} (h : j ∈ l) : ev (l.length + 1) (loc l) (ix j) = 0 := by
  induction l with
  | nil => simp at h
  | cons i l ih =>
    rw [List.length_cons, ev_loc_cons]
    by_cases e : j = i
    · subst e; rw [ix_mul, GF.add_self, GF.zero_mul]
    · rw [ih (by simpa [e] using h), GF.mul_zero]
theorem loc_ix_ne {l : List Nat} {j : Nat} (hj : j < 255) (hl : ∀ i ∈ l, i < 255) (h : j ∉ l) : ev (l.length + 1) (loc l) (ix j) ≠ 0 := by
  induction l with
  | nil =>
    show (1 : GF) + ix j * 0 ≠ 0
    rw [GF.mul_zero, GF.add_zero]; exact one_ne_zero
  | cons i l ih =>
    rw [List.length_cons, ev_loc_cons]
    intro e
    rcases GF.mul_eq_zero.1 e with e | e
    · exact lin_ix (hl i (by simp)) hj (fun e => h (by simp [e])) e
    · exact ih (fun i hi => hl i (by simp [hi])) (fun hi => h (by simp [hi])) e
theorem ev_om_cons (e : Nat → GF) (j : Nat) (l : List Nat) (x : GF) :
    ev (l.length + 1) (om e (j :: l)) x = e j * ex j * ev (l.length + 1) (loc l) x + (1 + ex j * x) * ev l.length (om e l) x := by
  show ev _ (add (smul _ _) (conv _ _)) x = _
  rw [ev_add, ev_smul]
  congr 1
  have := ev_conv x (lin_bd (ex j)) (om_bd e l)
  rw [ev_lin] at this
  rw [← this]
  exact (ev_more x ((Bd.conv (m := 1) (lin_bd _) (om_bd e l)).mono (by omega)) (by omega)).symm
/-- the value at a place is by the slope -/
theorem om_ix (e : Nat → GF) {l : List Nat} {j : Nat} (h : j ∈ l) (hn : l.Nodup) : ev l.length (om e l) (ix j) = e j * ev l.length (om (fun _ => 1) l) (ix j) := by
  induction l with
  | nil => simp at h
  | cons i l ih =>
    rw [List.length_cons, ev_om_cons, ev_om_cons]
    by_cases hij : j = i
    · subst hij; rw [ix_mul, GF.add_self, GF.zero_mul, GF.zero_mul, GF.add_zero, GF.add_zero, GF.one_mul, GF.mul_assoc]
    · have hj : j ∈ l := by simpa [hij] using h
      rw [loc_ix hj, GF.mul_zero, GF.mul_zero, GF.zero_add, GF.zero_add, ih hj (List.nodup_cons.1 hn).2]; ac_rfl
theorem om_ix_ne {l : List Nat} {j : Nat} (hl : ∀ i ∈ l, i < 255) (h : j ∈ l) (hn : l.Nodup) : ev l.length (om (fun _ => 1) l) (ix j) ≠ 0 := by
  induction l with
  | nil => simp at h
  | cons i l ih =>
    rw [List.length_cons, ev_om_cons]
    have hn' := List.nodup_cons.1 hn
    by_cases hij : j = i
    · subst hij
      rw [ix_mul, GF.add_self, GF.zero_mul, GF.add_zero, GF.one_mul]
      intro e0
      rcases GF.mul_eq_zero.1 e0 with e0 | e0
      · exact ex_ne_zero _ e0
      · exact loc_ix_ne (hl j (by simp)) (fun k hk => hl k (by simp [hk])) hn'.1 e0
    · have hj : j ∈ l := by simpa [hij] using h
      rw [loc_ix hj, GF.mul_zero, GF.zero_add]
      intro e0
      rcases GF.mul_eq_zero.1 e0 with e0 | e0
      · exact lin_ix (hl i (by simp)) (hl j (by simp [hj])) (fun e => hij e.symm) e0
      · exact ih (fun k hk => hl k (by simp [hk])) hj hn'.2 e0

/-! the register -/
structure Reg (S : PS) (n : Nat) (c w : PS) (size gap : Nat) (last : GF) : Prop where
  one : c 0 = 1
  bd : Bd c (size + 1)
  gen : ∀ i, size ≤ i → i < n → conv c S i = 0
  lne : last ≠ 0
  gap1 : 1 ≤ gap
  was : ∃ k, Bd w (k + 1) ∧ k + gap + size = n + 1 ∧ (gap ≤ n → (∀ i, k ≤ i → i < n - gap → conv w S i = 0) ∧ conv w S (n - gap) = last)
theorem Reg.start (S : PS) : Reg S 0 (C 1) (C 1) 0 1 1 :=
  ⟨rfl, Bd.cons (Bd.zero 0), fun i _ h => by omega, one_ne_zero, Nat.le_refl _, 0, Bd.cons (Bd.zero 0), rfl, fun h => by omega⟩
theorem Reg.same {S : PS} {n : Nat} {c w : PS} {size gap : Nat} {last : GF} (r : Reg S n c w size gap last) (h : conv c S n = 0) :
    Reg S (n + 1) c w size (gap + 1) last := by
  obtain ⟨k, h1, h2, h3⟩ := r.was
  refine ⟨r.one, r.bd, fun i hi hn => ?_, r.lne, by omega, k, h1, by omega, fun hg => ?_⟩
  · by_cases e : i = n
    · rw [e]; exact h
    · exact r.gen i hi (by omega)
  · rw [show n + 1 - (gap + 1) = n - gap by omega]; exact h3 (by omega)
/-- what comes of a step that is off by d -/
def next (c w : PS) (gap : Nat) (a : GF) : PS := add c (smul a (shift gap w))
theorem conv_next (c w S : PS) (gap : Nat) (a : GF) (i : Nat) : conv (next c w gap a) S i = conv c S i + a * shift gap (conv w S) i := by
  rw [next, add_conv, smul_conv, shift_conv]; rfl
theorem Reg.turn {S : PS} {n : Nat} {c w : PS} {size gap : Nat} {last d : GF} (r : Reg S n c w size gap last) (h : conv c S n = d) (hd : d ≠ 0) :
    (n < 2 * size → Reg S (n + 1) (next c w gap (d * inv last)) w size (gap + 1) last) ∧
    (2 * size ≤ n → Reg S (n + 1) (next c w gap (d * inv last)) c (n + 1 - size) 1 d) := by
  obtain ⟨k, h1, h2, h3⟩ := r.was
  have hone : next c w gap (d * inv last) 0 = 1 := by
    show c 0 + _ * shift gap w 0 = 1
    rw [shift_lt gap w 0 r.gap1, GF.mul_zero, GF.add_zero, r.one]
  have hT : Bd (shift gap w) (gap + (k + 1)) := Bd.shift gap h1
  have hoff : gap ≤ n → ∀ i, k + gap ≤ i → i < n → shift gap (conv w S) i = 0 := fun hg i hi hn => by
    rw [shift_ge' _ _ _ (by omega)]; exact (h3 hg).1 _ (by omega) (by omega)
  have hat : gap ≤ n → conv (next c w gap (d * inv last)) S n = 0 := fun hg => by
    rw [conv_next, h, shift_ge' _ _ _ hg, (h3 hg).2, GF.mul_assoc, GF.inv_mul _ r.lne, GF.mul_one, GF.add_self]
  have hlow : gap ≤ n → ∀ i, size ≤ i → k + gap ≤ i → i < n → conv (next c w gap (d * inv last)) S i = 0 := fun hg i hs hi hn => by
    rw [conv_next, r.gen i hs hn, hoff hg i hi hn, GF.mul_zero, GF.add_zero]
  constructor
  · intro hs
    refine ⟨hone, Bd.add r.bd ((hT.mono (by omega)).smul _), fun i hi hn => ?_, r.lne, by omega, k, h1, by omega, fun hg => ?_⟩
    · by_cases e : i = n
      · rw [e]; exact hat (by omega)
      · exact hlow (by omega) i hi (by omega) (by omega)
    · rw [show n + 1 - (gap + 1) = n - gap by omega]; exact h3 (by omega)
  · intro hs
    refine ⟨hone, Bd.add (r.bd.mono (by omega)) ((hT.mono (by omega)).smul _), fun i hi hn => ?_, hd, Nat.le_refl _, size, r.bd, by omega, fun _ => ⟨fun i hi hn => ?_, ?_⟩⟩
    · have hg : gap ≤ n := by omega
      by_cases e : i = n
      · rw [e]; exact hat hg
      · exact hlow hg i (by omega) (by omega) (by omega)
    · exact r.gen i hi (by omega)
    · rw [Nat.add_sub_cancel]; exact h
/-- no shorter one makes what this one doesn't -/
theorem massey {S : PS} {n size v : Nat} {c l : PS} (hc : Bd c (size + 1)) (hg : ∀ i, size ≤ i → i < n → conv c S i = 0) (hn : conv c S n ≠ 0)
    (hl : Bd l (v + 1)) (l1 : l 0 = 1) (hlg : ∀ i, v ≤ i → i ≤ n → conv l S i = 0) : n + 1 ≤ size + v := by
  refine Decidable.byContradiction fun hlt => hn ?_
  have e : conv l (conv c S) n = conv c (conv l S) n := by rw [show conv l (conv c S) = conv c (conv l S) by ac_rfl]
  rw [conv_sm, conv_sm] at e
  have r : sm (n + 1) (fun i => c i * conv l S (n - i)) = 0 := sm_eq_zero fun i hi => by
    by_cases h : i ≤ size
    · rw [hlg (n - i) (by omega) (by omega), GF.mul_zero]
    · rw [hc i (by omega), GF.zero_mul]
  rw [r, sm_one 0 (by omega)] at e
  · simpa [l1, GF.one_mul] using e
  · intro i hi h0
    by_cases h : i ≤ v
    · rw [hg (n - i) (by omega) (by omega), GF.mul_zero]
    · rw [hl i (by omega), GF.zero_mul]
end PS
