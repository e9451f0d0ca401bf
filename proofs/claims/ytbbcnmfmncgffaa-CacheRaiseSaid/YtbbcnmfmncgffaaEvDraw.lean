/-
  Regions whose order is open: where no two operations that may come up in either order touch the same, all orders are one.
  Written by hand for this claim's session.
-/
import Derived.Test.YtbbcnmfmncgffaaEvRun
namespace Go.YtbbcnmfmncgffaaE
open Go.RowKit
set_option linter.unusedVariables false
set_option linter.unusedSimpArgs false
/-- What must come up before, as bits. -/
def bitsOf (T : List Nat) (o : Oper) : Nat := o.after.toList.foldl (fun acc e => if Region.binds .any e then acc ||| 2 ^ e.on ||| T.getD e.on 0 else acc) 0
def tableL : List Oper → List Nat → List Nat
  | [], T => T
  | o :: os, T => tableL os (T ++ [bitsOf T o])
def downB : List Oper → Nat → Bool
  | [], _ => true
  | o :: os, i => (o.after.toList.all fun e => !Region.binds .any e || Nat.blt e.on i) && downB os (i + 1)
def readsOf (ops : List Oper) (o : Oper) : List Nat := match o.guard with
  | none => tmpsOf o
  | some (j, _) => match (ops[j]?).bind (·.dst) with
    | some g => g :: tmpsOf o
    | none => tmpsOf o
def noneIn (l : List Nat) : List Nat → Bool
  | [] => true
  | x :: r => !memN x l && noneIn l r
theorem noneIn_iff {l r : List Nat} : noneIn l r = true ↔ ∀ x ∈ r, x ∉ l := by
  induction r with
  | nil => simp [noneIn]
  | cons x r ih =>
    unfold noneIn
    rw [Bool.and_eq_true, ih]
    have : (!memN x l) = true ↔ x ∉ l := by
      rw [Bool.not_eq_true', Bool.eq_false_iff, ne_eq, memN_iff]
    rw [this]
    simp
/-- One operation's touch: its place, what it reads, the blocks that it looks at, and those that it writes. -/
structure Tch where
  d : Option Nat
  t : List Nat
  R : List Nat
  W : List Nat
def apartB (x y : Tch) : Bool :=
  (match x.d with
    | some d => !memN d y.t && (match y.d with | some e => !Nat.beq d e | none => true)
    | none => true) &&
  (match y.d with
    | some e => !memN e x.t
    | none => true) && noneIn x.W y.R && noneIn x.W y.W && noneIn y.W x.R
def apartAll (T : List Nat) (x : Tch) (i : Nat) : List Tch → Nat → Bool
  | [], _ => true
  | y :: l, j => ((T.getD j 0).testBit i || apartB x y) && apartAll T x i l (j + 1)
def pairsOk (T : List Nat) : List Tch → Nat → Bool
  | [], _ => true
  | x :: l, i => apartAll T x i l (i + 1) && pairsOk T l (i + 1)
def tchs (ops : List Oper) : List Oper → List (List Nat × List Nat) → List Tch
  | [], _ => []
  | _, [] => []
  | o :: os, (R, W) :: l => ⟨o.dst, readsOf ops o, R, W⟩ :: tchs ops os l
def drawOk (ops : List Oper) (log : List (List Nat × List Nat)) : Bool :=
  downB ops 0 && pairsOk (tableL ops []) (tchs ops ops log) 0
structure Apart (x y : Tch) : Prop where
  d1 : ∀ d, x.d = some d → d ∉ y.t
  d2 : ∀ d, x.d = some d → y.d ≠ some d
  d3 : ∀ d, y.d = some d → d ∉ x.t
  w1 : ∀ b ∈ y.R, b ∉ x.W
  w2 : ∀ b ∈ y.W, b ∉ x.W
  w3 : ∀ b ∈ x.R, b ∉ y.W
theorem apartB_spec {x y : Tch} (h : apartB x y = true) : Apart x y := by
  unfold apartB at h
  simp only [Bool.and_eq_true] at h
  obtain ⟨⟨⟨⟨h1, h2⟩, h3⟩, h4⟩, h5⟩ := h
  refine ⟨fun d hd => ?_, fun d hd he => ?_, fun d hd => ?_, noneIn_iff.1 h3, noneIn_iff.1 h4, noneIn_iff.1 h5⟩
  · rw [hd] at h1
    simp only [Bool.and_eq_true] at h1
    intro hm
    rw [memN_iff.2 hm] at h1
    cases h1.1
  · rw [hd] at h1
    simp only [Bool.and_eq_true, he] at h1
    simp at h1
  · rw [hd] at h2
    intro hm
    simp only [memN_iff.2 hm] at h2
    cases h2
theorem apartAll_spec {T : List Nat} {x : Tch} {i : Nat} : ∀ {l : List Tch} {j : Nat}, apartAll T x i l j = true → ∀ (k : Nat) y, l[k]? = some y → (T.getD (j + k) 0).testBit i = true ∨ Apart x y
  | [], j, _, k, y, hy => by simp at hy
  | z :: l, j, h, k, y, hy => by
    unfold apartAll at h
    simp only [Bool.and_eq_true, Bool.or_eq_true] at h
    cases k with
    | zero => simp at hy; subst hy; exact h.1.imp id apartB_spec
    | succ k =>
      have := apartAll_spec h.2 k y (by simpa using hy)
      rwa [show j + (k + 1) = j + 1 + k by omega]
theorem pairsOk_spec {T : List Nat} : ∀ {l : List Tch} {i : Nat}, pairsOk T l i = true → ∀ (p q : Nat) x y, p < q → l[p]? = some x → l[q]? = some y → (T.getD (i + q) 0).testBit (i + p) = true ∨ Apart x y
  | [], i, _, p, q, x, y, _, hx, _ => by simp at hx
  | z :: l, i, h, p, q, x, y, hpq, hx, hy => by
    unfold pairsOk at h
    simp only [Bool.and_eq_true] at h
    obtain ⟨q, rfl⟩ : ∃ r, q = r + 1 := ⟨q - 1, by omega⟩
    have hy' : l[q]? = some y := by simpa using hy
    cases p with
    | zero =>
      simp at hx
      subst hx
      have := apartAll_spec h.1 q y hy'
      rwa [show i + 1 + q = i + (q + 1) by omega] at this
    | succ p =>
      have := pairsOk_spec h.2 p q x y (by omega) (by simpa using hx) hy'
      rwa [show i + 1 + q = i + (q + 1) by omega, show i + 1 + p = i + (p + 1) by omega] at this
theorem bits_fold (T : List Nat) (j : Nat) : ∀ (l : List Edge) (acc : Nat), (l.foldl (fun acc e => if Region.binds .any e then acc ||| 2 ^ e.on ||| T.getD e.on 0 else acc) acc).testBit j = true →
    acc.testBit j = true ∨ ∃ e ∈ l, Region.binds .any e = true ∧ (e.on = j ∨ (T.getD e.on 0).testBit j = true)
  | [], _, h => .inl h
  | e :: l, acc, h => by
    rcases bits_fold T j l _ h with h1 | ⟨e', he, hb, h1⟩
    · simp only at h1
      by_cases hb : Region.binds .any e = true
      · rw [if_pos hb, Nat.testBit_or, Nat.testBit_or, Nat.testBit_two_pow, Bool.or_eq_true, Bool.or_eq_true, decide_eq_true_eq] at h1
        rcases h1 with (h1 | h1) | h1
        · exact .inl h1
        · exact .inr ⟨e, List.mem_cons_self .., hb, .inl h1⟩
        · exact .inr ⟨e, List.mem_cons_self .., hb, .inr h1⟩
      · rw [if_neg hb] at h1; exact .inl h1
    · exact .inr ⟨e', List.mem_cons_of_mem _ he, hb, h1⟩
theorem tableL_get : ∀ (os : List Oper) (T : List Nat) (i : Nat), i < T.length → (tableL os T).getD i 0 = T.getD i 0
  | [], T, i, _ => rfl
  | o :: os, T, i, h => by
    unfold tableL
    rw [tableL_get os _ i (by simp; omega)]
    simp [List.getD, List.getElem?_append, h]
theorem downB_spec : ∀ {os : List Oper} {k : Nat}, downB os k = true → ∀ (i : Nat) o, os[i]? = some o → ∀ e ∈ o.after.toList, Region.binds .any e = true → e.on < k + i
  | [], k, _, i, o, ho => by simp at ho
  | x :: os, k, h, i, o, ho => by
    unfold downB at h
    simp only [Bool.and_eq_true] at h
    cases i with
    | zero =>
      simp at ho
      subst ho
      intro e he hb
      have := List.all_eq_true.1 h.1 e he
      simp only [hb, Bool.not_true, Bool.false_or] at this
      exact Nat.le_of_ble_eq_true this
    | succ i =>
      intro e he hb
      have := downB_spec h.2 i o (by simpa using ho) e he hb
      omega
theorem table_bits : ∀ (os : List Oper) (T : List Nat), (downB os T.length = true) → ∀ (i : Nat) o, os[i]? = some o → ∀ j, ((tableL os T).getD (T.length + i) 0).testBit j = true → ∃ e ∈ o.after.toList, Region.binds .any e = true ∧ (e.on = j ∨ ((tableL os T).getD e.on 0).testBit j = true)
  | [], T, _, i, o, ho => by simp at ho
  | x :: os, T, hd, i, o, ho => by
    intro j hj
    have hd' := hd
    unfold downB at hd'
    simp only [Bool.and_eq_true] at hd'
    unfold tableL at hj ⊢
    have hlen : (T ++ [bitsOf T x]).length = T.length + 1 := by simp
    cases i with
    | zero =>
      simp at ho
      subst ho
      rw [Nat.add_zero, tableL_get _ _ _ (by omega)] at hj
      have e1 : (T ++ [bitsOf T x]).getD T.length 0 = bitsOf T x := by simp [List.getD]
      rw [e1] at hj
      rcases bits_fold T j _ _ hj with h | ⟨e, he, hb, h⟩
      · simp at h
      · refine ⟨e, he, hb, h.imp id fun h => ?_⟩
        have hlt := downB_spec hd 0 x rfl e he hb
        rw [tableL_get _ _ _ (by omega)]
        have : (T ++ [bitsOf T x]).getD e.on 0 = T.getD e.on 0 := by simp [List.getD, List.getElem?_append, show e.on < T.length by omega]
        rw [this]; exact h
    | succ i =>
      have := table_bits os (T ++ [bitsOf T x]) (by rw [hlen]; exact hd'.2) i o (by simpa using ho) j (by rw [hlen, show T.length + 1 + i = T.length + (i + 1) by omega]; exact hj)
      exact this
end Go.YtbbcnmfmncgffaaE
