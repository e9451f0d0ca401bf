import Derived.Test.YtgieppcadnhhaaaPl
/-! sums, powers, roots -/
namespace GF
def pw (x : GF) : Nat → GF
  | 0 => 1
  | n + 1 => x * pw x n
theorem pw_add (x : GF) (m n : Nat) : pw x (m + n) = pw x m * pw x n := by
  induction m with
  | zero => rw [Nat.zero_add]; exact (one_mul _).symm
  | succ m ih => rw [show m + 1 + n = m + n + 1 by omega]; simp only [pw, ih, mul_assoc]
theorem pw_ex (a n : Nat) : pw (ex a) n = ex (a * n) := by
  induction n with
  | zero => rfl
  | succ n ih => rw [pw, ih, ex_mul, Nat.mul_succ, Nat.add_comm]
theorem mul_pw (x y : GF) (n : Nat) : pw (x * y) n = pw x n * pw y n := by
  induction n with
  | zero => exact (one_mul 1).symm
  | succ n ih => simp only [pw, ih]; ac_rfl
theorem pw_mul (x : GF) (m n : Nat) : pw x (m * n) = pw (pw x m) n := by
  induction n with
  | zero => rfl
  | succ n ih => rw [Nat.mul_succ, Nat.add_comm, pw_add, ih]; rfl
theorem pw_one (n : Nat) : pw 1 n = 1 := by
  induction n with
  | zero => rfl
  | succ n ih => rw [pw, ih]; exact one_mul 1
theorem pw_zero (n : Nat) (h : 0 < n) : pw 0 n = 0 := by
  obtain ⟨n, rfl⟩ : ∃ t, n = t + 1 := ⟨n - 1, by omega⟩
  exact zero_mul _
theorem ex_zero : ex 0 = 1 := rfl
theorem ex_one : ex 1 = dbl 1 := rfl
theorem ex_eq_pw (n : Nat) : ex n = pw (ex 1) n := by rw [pw_ex, Nat.one_mul]
theorem pw_255 (x : GF) (h : x ≠ 0) : pw x 255 = 1 := by
  rw [← ex_lg x h, pw_ex, Nat.mul_comm, ex_mod, Nat.mul_mod_right]; rfl
theorem pw_mod (x : GF) (h : x ≠ 0) (n : Nat) : pw x n = pw x (n % 255) := by
  conv => lhs; rw [← Nat.mod_add_div n 255]
  rw [pw_add, pw_mul, pw_255 x h, pw_one, mul_one]
theorem pw_ne {x : GF} (h : x ≠ 0) (n : Nat) : pw x n ≠ 0 := by
  rw [← ex_lg x h, pw_ex]; exact ex_ne_zero _
theorem ex_inj {m n : Nat} (hm : m < 255) (hn : n < 255) (h : ex m = ex n) : m = n := by
  rw [← lg_ex m hm, h, lg_ex n hn]
theorem inv_mul (a : GF) (h : a ≠ 0) : inv a * a = 1 := by rw [mul_comm, mul_inv a h]
theorem inv_ne {a : GF} (h : a ≠ 0) : inv a ≠ 0 := by
  intro e; have := mul_inv a h; rw [e, mul_zero] at this; exact one_ne_zero this.symm
theorem inv_unique {a c : GF} (h : a * c = 1) : c = inv a := by
  have ha : a ≠ 0 := by rintro rfl; rw [zero_mul] at h; exact one_ne_zero h.symm
  exact mul_cancel ha (by rw [h, mul_inv a ha])
theorem inv_pw (a : GF) (h : a ≠ 0) : pw a 254 = inv a := inv_unique (by
  have := pw_255 a h; exact this)
theorem sq_add (x y : GF) : (x + y) * (x + y) = x * x + y * y := by
  simp only [add_mul, mul_add]
  rw [mul_comm y x, show x * x + x * y + (x * y + y * y) = x * x + y * y + (x * y + x * y) by ac_rfl, add_self, add_zero]

/-- a sum of n -/
def sm : Nat → (Nat → GF) → GF
  | 0, _ => 0
  | n + 1, f => sm n f + f n
theorem sm_congr {n : Nat} {f g : Nat → GF} (h : ∀ i < n, f i = g i) : sm n f = sm n g := by
  induction n with
  | zero => rfl
  | succ n ih => simp only [sm]; rw [ih (fun i hi => h i (by omega)), h n (by omega)]
theorem sm_zero (n : Nat) : sm n (fun _ => 0) = 0 := by
  induction n with
  | zero => rfl
  | succ n ih => simp only [sm, ih]; exact add_zero _
theorem sm_eq_zero {n : Nat} {f : Nat → GF} (h : ∀ i < n, f i = 0) : sm n f = 0 := by
  rw [sm_congr h, sm_zero]
theorem sm_add (n : Nat) (f g : Nat → GF) : sm n (fun i => f i + g i) = sm n f + sm n g := by
  induction n with
  | zero => exact (add_zero 0).symm
  | succ n ih => simp only [sm, ih]; ac_rfl
theorem sm_mul (n : Nat) (a : GF) (f : Nat → GF) : sm n (fun i => a * f i) = a * sm n f := by
  induction n with
  | zero => exact (mul_zero a).symm
  | succ n ih => simp only [sm, ih, mul_add]
theorem sm_mul_right (n : Nat) (a : GF) (f : Nat → GF) : sm n (fun i => f i * a) = sm n f * a := by
  rw [mul_comm, ← sm_mul]; exact sm_congr fun i _ => mul_comm _ _
theorem sm_swap (m n : Nat) (f : Nat → Nat → GF) : sm m (fun i => sm n (fun k => f i k)) = sm n (fun k => sm m (fun i => f i k)) := by
  induction m with
  | zero => simp only [sm]; exact (sm_zero n).symm
  | succ m ih => simp only [sm, ih]; rw [← sm_add]
theorem sm_front (n : Nat) (f : Nat → GF) : sm (n + 1) f = f 0 + sm n (fun i => f (i + 1)) := by
  induction n with
  | zero => simp only [sm]; rw [zero_add, add_zero]
  | succ n ih => rw [sm, ih]; simp only [sm]; ac_rfl
theorem sm_one {n : Nat} {f : Nat → GF} (j : Nat) (hj : j < n) (h : ∀ i < n, i ≠ j → f i = 0) : sm n f = f j := by
  induction n with
  | zero => omega
  | succ n ih =>
    rw [sm]
    by_cases e : j = n
    · subst e; rw [sm_eq_zero (fun i hi => h i (by omega) (by omega)), zero_add]
    · rw [ih (by omega) (fun i hi => h i (by omega)), h n (by omega) (by omega), add_zero]
theorem sm_more {m n : Nat} {f : Nat → GF} (h : m ≤ n) (hz : ∀ i, m ≤ i → i < n → f i = 0) : sm n f = sm m f := by
  induction n with
  | zero => rw [show m = 0 by omega]
  | succ n ih =>
    by_cases e : m = n + 1
    · rw [e]
    · rw [sm, hz n (by omega) (by omega), add_zero, ih (by omega) (fun i h1 h2 => hz i h1 (by omega))]
end GF
namespace PS
open GF
theorem ev_sm (n : Nat) : ∀ (f : PS) (x : GF), ev n f x = sm n (fun i => f i * pw x i) := by
  induction n with
  | zero => intro f x; rfl
  | succ n ih =>
    intro f x
    rw [ev, ih, sm_front, ← sm_mul]
    show _ = f 0 * 1 + _
    rw [GF.mul_one]
    congr 1
    exact sm_congr fun i _ => by show x * (f (i + 1) * pw x i) = f (i + 1) * (x * pw x i); ac_rfl
theorem conv_sm (k : Nat) : ∀ f g : PS, conv f g k = sm (k + 1) (fun i => f i * g (k - i)) := by
  induction k with
  | zero => intro f g; show _ = 0 + f 0 * g 0; rw [GF.zero_add]; rfl
  | succ k ih =>
    intro f g
    rw [conv, ih, sm_front (k + 1)]
    show _ = f 0 * g (k + 1) + _
    congr 1
    exact sm_congr fun i _ => by show f (i + 1) * g (k - i) = f (i + 1) * g (k + 1 - (i + 1)); rw [show k + 1 - (i + 1) = k - i by omega]
/-- the product of x + 2^j, j in a list -/
def roots : List Nat → PS
  | [] => C 1
  | j :: l => conv (cons (ex j) (C 1)) (roots l)
theorem roots_bd (l : List Nat) : Bd (roots l) (l.length + 1) := by
  induction l with
  | nil => exact Bd.cons (Bd.zero 0)
  | cons j l ih =>
    have h : Bd (cons (ex j) (C 1)) 2 := Bd.cons (Bd.cons (Bd.zero 0))
    exact (Bd.conv (m := 1) h ih).mono (by simp; omega)
theorem roots_ev (l : List Nat) (x : GF) : ev (l.length + 1) (roots l) x = l.foldr (fun j v => (x + ex j) * v) 1 := by
  induction l with
  | nil => show 1 + x * 0 = 1; rw [GF.mul_zero, GF.add_zero]
  | cons j l ih =>
    have h : Bd (cons (ex j) (C 1)) 2 := Bd.cons (Bd.cons (Bd.zero 0))
    have e : ev 2 (cons (ex j) (C 1)) x = x + ex j := by
      show ex j + x * (1 + x * 0) = _; rw [GF.mul_zero, GF.add_zero, GF.mul_one, GF.add_comm]
    have hb := Bd.conv (m := 1) h (roots_bd l)
    show ev (l.length + 1 + 1) (conv _ _) x = (x + ex j) * _
    rw [← ih, ← e, ← ev_conv x h (roots_bd l)]
    exact (ev_more x (hb.mono (by omega)) (by omega)).symm
theorem foldr_ne {l : List Nat} {x : GF} (h : ∀ j ∈ l, x ≠ ex j) : l.foldr (fun j v => (x + ex j) * v) 1 ≠ 0 := by
  induction l with
  | nil => exact one_ne_zero
  | cons j l ih =>
    intro e
    rcases mul_eq_zero.1 e with e | e
    · exact h j (by simp) (GF.add_eq_zero.1 e)
    · exact ih (fun k hk => h k (by simp [hk])) e
theorem foldr_eq {l : List Nat} {x : GF} (j : Nat) (hj : j ∈ l) (h : x = ex j) : l.foldr (fun j v => (x + ex j) * v) 1 = 0 := by
  induction l with
  | nil => simp at hj
  | cons i l ih =>
    show (x + ex i) * _ = 0
    by_cases e : j = i
    · subst e; rw [h, GF.add_self, GF.zero_mul]
    · rw [ih (by simpa [e] using hj), GF.mul_zero]
/-- THE LEAST DISTANCE: n ≤ 255 values, no more than k of them not 0 (at places out of a list), k sums -/
theorem distance {n k : Nat} (hn : n ≤ 255) {f : Nat → GF} (J : List Nat) (hJ : J.length ≤ k) (hz : ∀ j < n, f j ≠ 0 → j ∈ J)
    (hs : ∀ i < k, sm n (fun j => f j * ex (j * (i + 1))) = 0) : ∀ j < n, f j = 0 := by
  intro t ht
  by_cases h0 : f t = 0
  · exact h0
  exfalso
  have hJt := hz t ht h0
  let L := J.filter (fun j => decide (j ≠ t) && decide (j < 255))
  have hL : L.length < J.length := by
    have : ∃ x ∈ J, ¬ (decide (x ≠ t) && decide (x < 255)) = true := ⟨t, hJt, by simp⟩
    exact List.length_filter_lt_length_iff_exists.2 this
  let Q := roots L
  have hb : Bd Q (L.length + 1) := roots_bd L
  -- the sum of the sums, by Q's coefficients
  have key : sm n (fun j => f j * ex j * ev (L.length + 1) Q (ex j)) = 0 := by
    have e1 : ∀ j, f j * ex j * ev (L.length + 1) Q (ex j) = sm (L.length + 1) (fun i => Q i * (f j * ex (j * (i + 1)))) := by
      intro j
      rw [ev_sm, ← sm_mul]
      refine sm_congr fun i _ => ?_
      rw [pw_ex, Nat.mul_succ, Nat.add_comm, ← ex_mul]; ac_rfl
    rw [sm_congr (fun j _ => e1 j), sm_swap]
    refine sm_eq_zero fun i hi => ?_
    rw [sm_mul, hs i (by omega), GF.mul_zero]
  rw [sm_one t ht] at key
  · rcases mul_eq_zero.1 key with e | e
    · rcases mul_eq_zero.1 e with e | e
      · exact h0 e
      · exact ex_ne_zero _ e
    · rw [roots_ev] at e
      refine foldr_ne ?_ e
      intro j hj he
      simp only [L, List.mem_filter, Bool.and_eq_true, decide_eq_true_eq] at hj
      exact hj.2.1 (ex_inj hj.2.2 (by omega) he.symm)
  · intro j hj hne
    by_cases h1 : f j = 0
    · rw [h1, GF.zero_mul, GF.zero_mul]
    · rw [roots_ev, foldr_eq j ?_ rfl, GF.mul_zero]
      simp only [L, List.mem_filter, Bool.and_eq_true, decide_eq_true_eq]
      exact ⟨hz j hj h1, hne, by omega⟩
end PS
