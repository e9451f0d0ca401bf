import Derived.Test.YtgieppcadnhhaaaGf
/-! power series over GF -/
abbrev PS := Nat → GF
namespace PS
def tail (f : PS) : PS := fun n => f (n + 1)
def cons (a : GF) (f : PS) : PS := fun n => match n with | 0 => a | n + 1 => f n
def zero : PS := fun _ => 0
def add (f g : PS) : PS := fun n => f n + g n
def smul (a : GF) (f : PS) : PS := fun n => a * f n
def conv (f g : PS) : Nat → GF
  | 0 => f 0 * g 0
  | k + 1 => f 0 * g (k + 1) + conv (tail f) g k
def C (a : GF) : PS := cons a zero
theorem tail_add (f g : PS) : tail (add f g) = add (tail f) (tail g) := rfl
theorem tail_smul (a : GF) (f : PS) : tail (smul a f) = smul a (tail f) := rfl
theorem tail_cons (a : GF) (f : PS) : tail (cons a f) = f := rfl
theorem cons_eta (f : PS) : cons (f 0) (tail f) = f := by funext n; cases n <;> rfl
theorem cons_zero : cons 0 zero = zero := by funext n; cases n <;> rfl
theorem tail_zero : tail zero = zero := rfl
theorem add_comm (f g : PS) : add f g = add g f := by funext n; exact GF.add_comm _ _
theorem add_assoc (f g h : PS) : add (add f g) h = add f (add g h) := by funext n; exact GF.add_assoc _ _ _
theorem add_zero (f : PS) : add f zero = f := by funext n; exact GF.add_zero _
theorem zero_add (f : PS) : add zero f = f := by funext n; exact GF.zero_add _
theorem add_self (f : PS) : add f f = zero := by funext n; exact GF.add_self _
theorem add_cancel (f g : PS) : add f (add f g) = g := by rw [← add_assoc, add_self, zero_add]
theorem add_eq_zero {f g : PS} (h : add f g = zero) : f = g := by
  funext n; exact GF.add_eq_zero.1 (congrFun h n)
instance : Std.Associative add := ⟨add_assoc⟩
instance : Std.Commutative add := ⟨add_comm⟩
theorem smul_add (a : GF) (f g : PS) : smul a (add f g) = add (smul a f) (smul a g) := by
  funext n; exact GF.mul_add _ _ _
theorem smul_smul (a c : GF) (f : PS) : smul a (smul c f) = smul (a * c) f := by
  funext n; exact (GF.mul_assoc _ _ _).symm
theorem smul_zero (a : GF) : smul a zero = zero := by funext n; exact GF.mul_zero _
theorem zero_smul (f : PS) : smul 0 f = zero := by funext n; exact GF.zero_mul _
theorem one_smul (f : PS) : smul 1 f = f := by funext n; exact GF.one_mul _

theorem conv_tail (f g : PS) : tail (conv f g) = add (smul (f 0) (tail g)) (conv (tail f) g) := rfl
theorem conv_add_left (k : Nat) : ∀ f f' g : PS, conv (add f f') g k = conv f g k + conv f' g k := by
  induction k with
  | zero => intro f f' g; exact GF.add_mul _ _ _
  | succ k ih => intro f f' g; simp only [conv, tail_add, ih]; simp only [add, GF.add_mul]; ac_rfl
theorem conv_add_right (k : Nat) : ∀ f g g' : PS, conv f (add g g') k = conv f g k + conv f g' k := by
  induction k with
  | zero => intro f g g'; exact GF.mul_add _ _ _
  | succ k ih => intro f g g'; simp only [conv, ih]; simp only [add, GF.mul_add]; ac_rfl
theorem conv_smul_left (k : Nat) : ∀ (a : GF) (f g : PS), conv (smul a f) g k = a * conv f g k := by
  induction k with
  | zero => intro a f g; exact GF.mul_assoc _ _ _
  | succ k ih => intro a f g; simp only [conv, tail_smul, ih, GF.mul_add]; simp only [smul, GF.mul_assoc]
theorem conv_smul_right (k : Nat) : ∀ (a : GF) (f g : PS), conv f (smul a g) k = a * conv f g k := by
  induction k with
  | zero => intro a f g; exact GF.mul_left_comm _ _ _
  | succ k ih => intro a f g; simp only [conv, ih, GF.mul_add]; simp only [smul, GF.mul_left_comm]
theorem conv_right (k : Nat) : ∀ f g : PS, conv f g (k + 1) = f (k + 1) * g 0 + conv f (tail g) k := by
  induction k with
  | zero => intro f g; simp only [conv, tail]; exact GF.add_comm _ _
  | succ k ih =>
    intro f g
    have h := ih (tail f) g
    rw [conv, h]; simp only [conv, tail]; ac_rfl
theorem conv_comm' (k : Nat) : ∀ f g : PS, conv f g k = conv g f k := by
  induction k with
  | zero => intro f g; exact GF.mul_comm _ _
  | succ k ih => intro f g; rw [conv_right, ih]; simp only [conv]; rw [GF.mul_comm]
theorem conv_assoc' (k : Nat) : ∀ f g h : PS, conv (conv f g) h k = conv f (conv g h) k := by
  induction k with
  | zero => intro f g h; exact GF.mul_assoc _ _ _
  | succ k ih =>
    intro f g h
    rw [conv, conv_tail, conv_add_left, conv_smul_left, ih]
    simp only [conv, GF.mul_add, GF.mul_assoc, GF.add_assoc]
theorem conv_comm (f g : PS) : conv f g = conv g f := funext fun k => conv_comm' k f g
theorem conv_assoc (f g h : PS) : conv (conv f g) h = conv f (conv g h) := funext fun k => conv_assoc' k f g h
theorem add_conv (f f' g : PS) : conv (add f f') g = add (conv f g) (conv f' g) := funext fun k => conv_add_left k f f' g
theorem conv_add (f g g' : PS) : conv f (add g g') = add (conv f g) (conv f g') := funext fun k => conv_add_right k f g g'
theorem smul_conv (a : GF) (f g : PS) : conv (smul a f) g = smul a (conv f g) := funext fun k => conv_smul_left k a f g
theorem conv_smul (a : GF) (f g : PS) : conv f (smul a g) = smul a (conv f g) := funext fun k => conv_smul_right k a f g
instance : Std.Associative conv := ⟨conv_assoc⟩
instance : Std.Commutative conv := ⟨conv_comm⟩
theorem zero_conv (g : PS) : conv zero g = zero := by
  have := add_conv zero zero g
  rw [add_zero] at this
  have h2 := congrArg (add (conv zero g)) this
  rw [add_self, add_zero] at h2; exact h2.symm
theorem conv_zero (f : PS) : conv f zero = zero := by rw [conv_comm, zero_conv]
theorem C_conv (a : GF) (g : PS) : conv (C a) g = smul a g := by
  funext k
  cases k with
  | zero => rfl
  | succ k => show a * g (k + 1) + conv (tail (C a)) g k = _; rw [C, tail_cons, zero_conv]; exact GF.add_zero _
theorem one_conv (g : PS) : conv (C 1) g = g := by rw [C_conv, one_smul]
theorem conv_one (g : PS) : conv g (C 1) = g := by rw [conv_comm, one_conv]
theorem cons_conv (a : GF) (f g : PS) : conv (cons a f) g = add (smul a g) (cons 0 (conv f g)) := by
  funext k
  cases k with
  | zero => exact (GF.add_zero _).symm
  | succ k => rfl
theorem conv_cons0 (f g : PS) : conv (cons 0 f) g = cons 0 (conv f g) := by
  rw [cons_conv, zero_smul, zero_add]

/-- times x^n -/
def shift : Nat → PS → PS
  | 0, f => f
  | n + 1, f => cons 0 (shift n f)
theorem shift_conv (n : Nat) (f g : PS) : conv (shift n f) g = shift n (conv f g) := by
  induction n with
  | zero => rfl
  | succ n ih => simp only [shift]; rw [conv_cons0, ih]
theorem conv_shift (n : Nat) (f g : PS) : conv f (shift n g) = shift n (conv f g) := by
  rw [conv_comm, shift_conv, conv_comm]
theorem shift_lt (n : Nat) : ∀ (f : PS) (k : Nat), k < n → shift n f k = 0 := by
  induction n with
  | zero => intro f k h; omega
  | succ n ih =>
    intro f k h
    cases k with
    | zero => rfl
    | succ k => exact ih f k (by omega)
theorem shift_ge (n : Nat) : ∀ (f : PS) (k : Nat), shift n f (k + n) = f k := by
  induction n with
  | zero => intro f k; rfl
  | succ n ih => intro f k; exact ih f k
theorem shift_ge' (n : Nat) (f : PS) (k : Nat) (h : n ≤ k) : shift n f k = f (k - n) := by
  have := shift_ge n f (k - n); rwa [Nat.sub_add_cancel h] at this
theorem shift_add (m n : Nat) (f : PS) : shift m (shift n f) = shift (m + n) f := by
  induction m with
  | zero => rw [Nat.zero_add]; rfl
  | succ m ih => rw [show m + 1 + n = m + n + 1 by omega]; simp only [shift, ih]

/-- fewer than n coefficients -/
def Bd (f : PS) (n : Nat) : Prop := ∀ k, n ≤ k → f k = 0
theorem Bd.mono {f : PS} {m n : Nat} (h : Bd f m) (hm : m ≤ n) : Bd f n := fun k hk => h k (by omega)
theorem Bd.tail {f : PS} {n : Nat} (h : Bd f (n + 1)) : Bd (tail f) n := fun k hk => h (k + 1) (by omega)
theorem Bd.tail' {f : PS} {n : Nat} (h : Bd f n) : Bd (PS.tail f) n := fun k hk => h (k + 1) (by omega)
theorem Bd.zero (n : Nat) : Bd zero n := fun _ _ => rfl
theorem Bd.cons {a : GF} {f : PS} {n : Nat} (h : Bd f n) : Bd (cons a f) (n + 1) := fun k hk => by
  cases k with
  | zero => omega
  | succ k => exact h k (by omega)
theorem Bd.add {f g : PS} {n : Nat} (h : Bd f n) (h' : Bd g n) : Bd (add f g) n := fun k hk => by
  show f k + g k = 0; rw [h k hk, h' k hk]; exact GF.add_zero _
theorem Bd.smul {f : PS} {n : Nat} (a : GF) (h : Bd f n) : Bd (smul a f) n := fun k hk => by
  show a * f k = 0; rw [h k hk]; exact GF.mul_zero _
theorem Bd.shift {f : PS} {n : Nat} (m : Nat) (h : Bd f n) : Bd (shift m f) (m + n) := fun k hk => by
  rw [shift_ge' m f k (by omega)]; exact h _ (by omega)
theorem Bd.eq_zero {f : PS} (h : Bd f 0) : f = PS.zero := funext fun k => h k (by omega)
theorem Bd.conv {m : Nat} : ∀ {f g : PS} {n : Nat}, Bd f (m + 1) → Bd g n → Bd (conv f g) (m + n) := by
  induction m with
  | zero =>
    intro f g n hf hg
    have : f = C (f 0) := by rw [← cons_eta f, (Bd.tail hf).eq_zero]; rfl
    rw [this, C_conv]; exact (hg.smul _).mono (by omega)
  | succ m ih =>
    intro f g n hf hg
    rw [← cons_eta f, cons_conv]
    refine Bd.add ((hg.smul _).mono (by omega)) ?_
    have := Bd.cons (a := 0) (ih (Bd.tail hf) hg)
    exact this.mono (by omega)
theorem Bd.conv' {f g : PS} {m n : Nat} (hf : Bd f m) (hg : Bd g n) : Bd (PS.conv f g) (m + n) :=
  (Bd.conv (hf.mono (Nat.le_succ m)) hg)
theorem conv_top {m : Nat} : ∀ {f g : PS} {d : Nat}, Bd f (m + 1) → Bd g (d + 1) → conv f g (m + d) = f m * g d := by
  induction m with
  | zero =>
    intro f g d hf hg
    have : f = C (f 0) := by rw [← cons_eta f, (Bd.tail hf).eq_zero]; rfl
    rw [Nat.zero_add]
    conv => lhs; rw [this]
    rw [C_conv]; rfl
  | succ m ih =>
    intro f g d hf hg
    rw [← cons_eta f, cons_conv]
    have := ih (Bd.tail hf) hg
    rw [show m + 1 + d = m + d + 1 by omega]
    show f 0 * g (m + d + 1) + conv (tail f) g (m + d) = f (m + 1) * g d
    rw [hg _ (by omega), GF.mul_zero, GF.zero_add, this]; rfl
/-- a bounded series that is not zero has a top -/
theorem Bd.top {f : PS} {n : Nat} (h : Bd f n) : f = PS.zero ∨ ∃ m, m < n ∧ Bd f (m + 1) ∧ f m ≠ 0 := by
  induction n with
  | zero => exact Or.inl h.eq_zero
  | succ n ih =>
    by_cases hn : f n = 0
    · have h' : Bd f n := fun k hk => by
        by_cases e : k = n
        · rw [e]; exact hn
        · exact h k (by omega)
      rcases ih h' with h | ⟨m, hm, h1, h2⟩
      · exact Or.inl h
      · exact Or.inr ⟨m, by omega, h1, h2⟩
    · exact Or.inr ⟨n, by omega, h, hn⟩
theorem conv_eq_zero {f g : PS} {m n : Nat} (hf : Bd f m) (hg : Bd g n) (h : conv f g = zero) : f = zero ∨ g = zero := by
  rcases hf.top with h0 | ⟨a, _, h1, h2⟩
  · exact Or.inl h0
  rcases hg.top with h0 | ⟨d, _, h3, h4⟩
  · exact Or.inr h0
  have := conv_top h1 h3
  rw [h] at this
  rcases GF.mul_eq_zero.1 this.symm with e | e
  · exact absurd e h2
  · exact absurd e h4
/-- division is unique -/
theorem div_unique {g : PS} {d n n' : Nat} (hg : Bd g (d + 1)) (hd : g d ≠ 0) {a a' r r' : PS} (ha : Bd a n) (ha' : Bd a' n')
    (hr : Bd r d) (hr' : Bd r' d) (e : add (conv a g) r = add (conv a' g) r') : a = a' ∧ r = r' := by
  have e2 : conv (add a a') g = add r r' := by
    rw [add_conv]
    have := congrArg (fun t => add (add t r) (conv a' g)) e
    have l : add (add (add (conv a g) r) r) (conv a' g) = add (conv a g) (conv a' g) := by
      rw [add_assoc (conv a g), add_self, add_zero]
    have r2 : add (add (add (conv a' g) r') r) (conv a' g) = add r r' := by
      rw [show add (add (add (conv a' g) r') r) (conv a' g) = add (add (conv a' g) (conv a' g)) (add r r') by ac_rfl, add_self, zero_add]
    rw [← l, this, r2]
  have hb : Bd (add r r') d := hr.add hr'
  have hA : Bd (add a a') (n + n') := (ha.mono (by omega)).add (ha'.mono (by omega))
  rcases hA.top with h0 | ⟨m, _, h1, h2⟩
  · refine ⟨add_eq_zero h0, ?_⟩
    rw [h0, zero_conv] at e2; exact add_eq_zero e2.symm
  · exfalso
    have := conv_top h1 hg
    rw [e2, hb _ (by omega)] at this
    rcases GF.mul_eq_zero.1 this.symm with e | e
    · exact h2 e
    · exact hd e

/-- the value, of n coefficients -/
def ev : Nat → PS → GF → GF
  | 0, _, _ => 0
  | n + 1, f, x => f 0 + x * ev n (tail f) x
theorem ev_zero (n : Nat) (x : GF) : ev n zero x = 0 := by
  induction n with
  | zero => rfl
  | succ n ih => simp only [ev, tail_zero, ih, GF.mul_zero]; exact GF.add_zero _
theorem ev_add (n : Nat) : ∀ (f g : PS) (x : GF), ev n (add f g) x = ev n f x + ev n g x := by
  induction n with
  | zero => intro f g x; exact (GF.add_zero 0).symm
  | succ n ih => intro f g x; simp only [ev, tail_add, ih, GF.mul_add]; simp only [add]; ac_rfl
theorem ev_smul (n : Nat) : ∀ (a : GF) (f : PS) (x : GF), ev n (smul a f) x = a * ev n f x := by
  induction n with
  | zero => intro a f x; exact (GF.mul_zero a).symm
  | succ n ih => intro a f x; simp only [ev, tail_smul, ih, GF.mul_add, smul, GF.mul_left_comm]
theorem ev_more {n : Nat} : ∀ {f : PS} {m : Nat} (x : GF), Bd f n → n ≤ m → ev m f x = ev n f x := by
  induction n with
  | zero => intro f m x h _; rw [h.eq_zero, ev_zero, ev_zero]
  | succ n ih =>
    intro f m x h hm
    obtain ⟨m, rfl⟩ : ∃ t, m = t + 1 := ⟨m - 1, by omega⟩
    simp only [ev, ih x (Bd.tail h) (Nat.le_of_succ_le_succ hm)]
theorem ev_cons0 (n : Nat) (f : PS) (x : GF) : ev (n + 1) (cons 0 f) x = x * ev n f x := by
  show 0 + x * ev n (tail (cons 0 f)) x = _; rw [GF.zero_add]; rfl
theorem ev_conv {m : Nat} : ∀ {f g : PS} {n : Nat} (x : GF), Bd f m → Bd g n → ev (m + n) (conv f g) x = ev m f x * ev n g x := by
  induction m with
  | zero => intro f g n x h _; rw [h.eq_zero, zero_conv, ev_zero, ev_zero, GF.zero_mul]
  | succ m ih =>
    intro f g n x hf hg
    conv => lhs; rw [← cons_eta f, cons_conv]
    rw [show m + 1 + n = m + n + 1 by omega, ev_add, ev_smul, ev_cons0, ih x (Bd.tail hf) hg, ev_more x hg (by omega)]
    simp only [ev, GF.add_mul, GF.mul_assoc]
/-- top-down: one coefficient more -/
theorem ev_snoc (n : Nat) : ∀ (f : PS) (x : GF) , ev (n + 1) f x = ev n f x + f n * ev (n + 1) (shift n (C 1)) x := by
  induction n with
  | zero =>
    intro f x; show f 0 + x * 0 = 0 + f 0 * (1 + x * 0); simp only [GF.mul_zero, GF.add_zero, GF.zero_add, GF.mul_one]
  | succ n ih =>
    intro f x
    have h : ev (n + 1 + 1) (shift (n + 1) (C 1)) x = x * ev (n + 1) (shift n (C 1)) x := ev_cons0 _ _ _
    rw [h, ev, ih (tail f) x, GF.mul_add]; simp only [ev]
    show f 0 + (x * ev n (tail f) x + x * (f (n+1) * _)) = _
    rw [GF.add_assoc, GF.mul_left_comm]
end PS
