/-
  Regions of laws: what each operation leaves is told by an assertion that no later operation can undo (all that is done makes memory and writes none), so every order is one.
  Written by hand for this claim's session.
-/
import Derived.Test.YtgieppcadnhhaaaWLast
import Derived.Test.YtgieppcadnhhaaaWWords
import Derived.Test.YtgieppcadnhhaaaWMore
namespace Go.Proofs.Ytgieppcadnhhaaa.Reg
open Go.RowKit Go.Proofs.YtgieppcadnhhaaaW.PrintWords Go.Proofs.YtgieppcadnhhaaaW.PrintLast
set_option linter.unusedSimpArgs false
set_option linter.unusedVariables false
section
variable {P : Program} {ops : Array Oper} {Q : Exit → Act → World → Prop}

/-- What is known of a value in a world. -/
abbrev Va := Value → World → Prop
/-- It outlasts whatever writes only new memory. -/
def Pst (V : Va) : Prop := ∀ v w w', V v w → Below w.heap.size w w' → V v w'
def get (a : Act) (t : Nat) : Value := a.tmps.getD t undef
/-- What must come up before i, as bits: its own edges' ends, and what those wait for. -/
def waits (T : List Nat) (o : Oper) : Nat := o.after.toList.foldl (fun acc e => if Region.binds .any e then acc ||| 2 ^ e.on ||| T.getD e.on 0 else acc) 0
def check (ops : Array Oper) (T : List Nat) (D : List (Option Tmp)) (n : Nat) : Bool :=
  T.length == ops.size && D.length == ops.size && (List.range ops.size).all (fun i => match ops[i]? with
    | none => false
    | some o => o.dst == D.getD i none && (match o.dst with | some d => decide (d < n) | none => true) && o.after.all (fun e => !Region.binds .any e || decide (e.on < i)) && T.getD i 0 == waits T o
      && (List.range i).all fun j => (D.getD i none).isNone || D.getD j none != D.getD i none)
/-- No operation that may have come up before i writes t. -/
def untouched (T : List Nat) (D : List (Option Tmp)) (i t : Nat) : Bool := (List.range D.length).all fun j => D.getD j none != some t || j == i || (T.getD j 0).testBit i
/-- Operation i, from here: it leaves what V tells, and writes only new memory. -/
def Step (P : Program) (ops : Array Oper) (Q : Exit → Act → World → Prop) (i : Nat) (V : Va) (a : Act) (w : World) : Prop :=
  ∃ o, ops[i]? = some o ∧ if Region.wanted o (yielded ops a.tmps) = true then o.wp P a w (fun a' w' => ∃ v, a' = a.put o.dst v ∧ V v w' ∧ Below w.heap.size w w') Q else V undef w

theorem waits_bit (T : List Nat) (j : Nat) : ∀ (l : List Edge) (acc : Nat), (l.foldl (fun acc e => if Region.binds .any e then acc ||| 2 ^ e.on ||| T.getD e.on 0 else acc) acc).testBit j = true →
    acc.testBit j = true ∨ ∃ e ∈ l, Region.binds .any e = true ∧ (e.on = j ∨ (T.getD e.on 0).testBit j = true)
  | [], _, h => .inl h
  | e :: l, acc, h => by
    rcases waits_bit T j l _ h with h1 | ⟨e', he, hb, h1⟩
    · simp only at h1
      by_cases hb : Region.binds .any e = true
      · rw [if_pos hb, Nat.testBit_or, Nat.testBit_or, Nat.testBit_two_pow, Bool.or_eq_true, Bool.or_eq_true, decide_eq_true_eq] at h1
        rcases h1 with (h1 | h1) | h1
        · exact .inl h1
        · exact .inr ⟨e, List.mem_cons_self .., hb, .inl h1⟩
        · exact .inr ⟨e, List.mem_cons_self .., hb, .inr h1⟩
      · rw [if_neg hb] at h1; exact .inl h1
    · exact .inr ⟨e', List.mem_cons_of_mem _ he, hb, h1⟩

structure Chk (ops : Array Oper) (T : List Nat) (D : List (Option Tmp)) (n : Nat) : Prop where
  len : D.length = ops.size
  dst : ∀ i (o : Oper), ops[i]? = some o → D.getD i none = o.dst
  fits : ∀ i d, D.getD i none = some d → d < n
  down : ∀ i (o : Oper), ops[i]? = some o → ∀ e ∈ o.after, Region.binds .any e = true → e.on < i
  bits : ∀ i (o : Oper), ops[i]? = some o → ∀ j, (T.getD i 0).testBit j = true → ∃ e ∈ o.after, Region.binds .any e = true ∧ (e.on = j ∨ (T.getD e.on 0).testBit j = true)
  apart : ∀ i j d, D.getD i none = some d → D.getD j none = some d → i = j

theorem check_spec {T : List Nat} {D : List (Option Tmp)} {n : Nat} (h : check ops T D n = true) : Chk ops T D n := by
  simp only [check, Bool.and_eq_true, beq_iff_eq] at h
  obtain ⟨⟨_, hD⟩, hA⟩ := h
  have hi : ∀ i (o : Oper), ops[i]? = some o → o.dst = D.getD i none ∧ (match o.dst with | some d => decide (d < n) | none => true) = true ∧ (o.after.all fun e => !Region.binds .any e || decide (e.on < i)) = true ∧ T.getD i 0 = waits T o ∧ ((List.range i).all fun j => (D.getD i none).isNone || D.getD j none != D.getD i none) = true := by
    intro i o ho
    have hlt : i < ops.size := (Array.getElem?_eq_some_iff.1 ho).1
    have := List.all_eq_true.1 hA i (List.mem_range.2 hlt)
    rw [ho] at this
    simp only [Bool.and_eq_true, beq_iff_eq] at this
    obtain ⟨⟨⟨⟨h1, h2⟩, h3⟩, h4⟩, h5⟩ := this
    exact ⟨h1, h2, h3, h4, h5⟩
  have hsome : ∀ i d, D.getD i none = some d → ∃ o, ops[i]? = some o := by
    intro i d h
    by_cases hlt : i < ops.size
    · exact ⟨ops[i], Array.getElem?_eq_getElem hlt⟩
    · rw [List.getD_eq_getElem?_getD, List.getElem?_eq_none (by omega)] at h; cases h
  have ap : ∀ i j d, j < i → D.getD i none = some d → D.getD j none = some d → False := by
    intro i j d hlt h1 h2
    obtain ⟨o, ho⟩ := hsome i d h1
    have := List.all_eq_true.1 (hi i o ho).2.2.2.2 j (List.mem_range.2 hlt)
    rw [h1, h2] at this
    simp at this
  refine ⟨hD, fun i o ho => (hi i o ho).1.symm, ?_, ?_, ?_, ?_⟩
  · intro i d h
    obtain ⟨o, ho⟩ := hsome i d h
    have h2 := (hi i o ho).2.1
    rw [(hi i o ho).1, h] at h2
    simpa using h2
  · intro i o ho e he hb
    simpa [hb] using Array.all_eq_true_iff_forall_mem.1 (hi i o ho).2.2.1 e he
  · intro i o ho j hj
    rw [(hi i o ho).2.2.2.1] at hj
    rcases waits_bit T j _ _ hj with h | ⟨e, he, hb, h⟩
    · simp at h
    · exact ⟨e, by simpa using he, hb, h⟩
  · intro i j d h1 h2
    rcases Nat.lt_trichotomy i j with h | h | h
    · exact (ap j i d h h2 h1).elim
    · exact h
    · exact (ap i j d h h1 h2).elim

variable {T : List Nat} {D : List (Option Tmp)} {n : Nat}

theorem bit_listed (hc : Chk ops T D n) {listed : Array Bool} (hl : ListedClosed .any ops listed) : ∀ (i : Nat) {o : Oper} (_ : ops[i]? = some o) {j : Nat}, (T.getD i 0).testBit j = true → listed.getD i false = true → listed.getD j false = true := by
  intro i
  induction i using Nat.strongRecOn with
  | _ i ih =>
    intro o ho j hj hi
    obtain ⟨e, he, hb, h⟩ := hc.bits i o ho j hj
    have h1 := hl i o ho hi e he hb
    rcases h with rfl | h
    · exact h1
    · have hlt := hc.down i o ho e he hb
      obtain ⟨o', ho'⟩ : ∃ o', ops[e.on]? = some o' := ⟨ops[e.on]'(Nat.lt_trans hlt (Array.getElem?_eq_some_iff.1 ho).1), Array.getElem?_eq_getElem _⟩
      exact ih e.on hlt ho' h h1

/-- What holds once 'listed' has come up. -/
structure Inv (ops : Array Oper) (D : List (Option Tmp)) (n : Nat) (V : Nat → Va) (a0 : Act) (w0 : World) (listed : Array Bool) (a : Act) (w : World) : Prop where
  size : listed.size = ops.size
  closed : ListedClosed .any ops listed
  tmps : a.tmps.size = n
  defers : a.defers = a0.defers
  below : Below w0.heap.size w0 w
  told : ∀ j N, listed.getD j false = true → D.getD j none = some N → V j (get a N) w
  same : ∀ t, (∀ j, listed.getD j false = true → D.getD j none ≠ some t) → get a t = get a0 t

theorem get_put {a : Act} {d t : Nat} {v : Value} (h : t ≠ d) : get (a.put (some d) v) t = get a t := by
  unfold get Act.put
  simp only [Array.getD_eq_getD_getElem?, Array.getElem?_setIfInBounds]
  rw [if_neg (fun e => h e.symm)]
theorem get_put_self {a : Act} {d : Nat} {v : Value} (h : d < a.tmps.size) : get (a.put (some d) v) d = v := by
  unfold get Act.put
  simp [Array.getD_eq_getD_getElem?, h]
theorem size_put {a : Act} {d : Option Tmp} {v : Value} : (a.put d v).tmps.size = a.tmps.size := by
  cases d <;> simp [Act.put]
theorem defers_put {a : Act} {d : Option Tmp} {v : Value} : (a.put d v).defers = a.defers := by
  cases d <;> rfl
theorem getD_set {l : Array Bool} {i j : Nat} (h : (l.setIfInBounds i true).getD j false = true) : j = i ∨ l.getD j false = true := by
  by_cases e : j = i
  · exact .inl e
  · refine .inr ?_
    simp only [Array.getD_eq_getD_getElem?, Array.getElem?_setIfInBounds] at h ⊢
    rw [if_neg (fun x => e x.symm)] at h
    exact h

/-- Whatever of the steps below shows an operation's effect: the invariant moves on. -/
theorem inv_put (hc : Chk ops T D n) {V : Nat → Va} (hV : ∀ i, Pst (V i)) {a0 a : Act} {w0 w w' : World} {listed : Array Bool} (hI : Inv ops D n V a0 w0 listed a w) {i : Nat} {o : Oper} (ho : ops[i]? = some o)
    (hr : i ∈ Region.ready .any ops listed) {v : Value} (hv : V i v w') (hw : Below w.heap.size w w') : Inv ops D n V a0 w0 (listed.setIfInBounds i true) (a.put o.dst v) w' := by
  refine ⟨by rw [Array.size_setIfInBounds, hI.size], hI.closed.set hr, by rw [size_put, hI.tmps], by rw [defers_put, hI.defers], hI.below.trans (hw.mono hI.below.size), ?_, ?_⟩
  · intro j N hj hN
    by_cases e : j = i
    · subst e
      have hd : o.dst = some N := by rw [← hc.dst j o ho, hN]
      rw [hd, get_put_self (by rw [hI.tmps]; exact hc.fits j N hN)]
      exact hv
    · have hj' : listed.getD j false = true := (getD_set hj).resolve_left e
      have h1 := hV j _ _ _ (hI.told j N hj' hN) hw
      cases hd : o.dst with
      | none => exact h1
      | some d =>
        have hne : N ≠ d := fun x => e (hc.apart j i N hN (by rw [hc.dst i o ho, hd, x]))
        rw [get_put hne]
        exact h1
  · intro t ht
    have hne : D.getD i none ≠ some t := ht i (by
      obtain ⟨hun, _⟩ := mem_ready.1 hr
      have hlt : i < listed.size := by rw [hI.size]; exact (Array.getElem?_eq_some_iff.1 ho).1
      simp [Array.getD_eq_getD_getElem?, hlt])
    have hs := hI.same t (fun j hj => ht j (by
      by_cases e : j = i
      · subst e
        have hlt : j < listed.size := by rw [hI.size]; exact (Array.getElem?_eq_some_iff.1 ho).1
        simp [Array.getD_eq_getD_getElem?, hlt]
      · simp only [Array.getD_eq_getD_getElem?, Array.getElem?_setIfInBounds] at hj ⊢
        rw [if_neg (fun x => e x.symm)]
        exact hj))
    rw [hc.dst i o ho] at hne
    cases hd : o.dst with
    | none => exact hs
    | some d =>
      rw [hd] at hne
      rw [get_put (fun x => hne (by rw [x]))]
      exact hs

/-- What the walk owes at operation i. -/
def Owed (P : Program) (ops : Array Oper) (Q : Exit → Act → World → Prop) (T : List Nat) (D : List (Option Tmp)) (V : Nat → Va) (a0 : Act) (w0 : World) (i : Nat) : Prop :=
  ∀ a w, Below w0.heap.size w0 w → (∀ j N, (T.getD i 0).testBit j = true → D.getD j none = some N → V j (get a N) w) → (∀ t, untouched T D i t = true → get a t = get a0 t) → Step P ops Q i (V i) a w

theorem inv_step (hc : Chk ops T D n) {V : Nat → Va} (hV : ∀ i, Pst (V i)) {a0 : Act} {w0 : World} {listed : Array Bool} {a : Act} {w : World} (hI : Inv ops D n V a0 w0 listed a w)
    {i : Nat} (hstep : i < ops.size → Owed P ops Q T D V a0 w0 i) (hr : i ∈ Region.ready .any ops listed) : wpOp P ops Q i (fun a' w' => Inv ops D n V a0 w0 (listed.setIfInBounds i true) a' w') a w := by
  obtain ⟨hun, o, ho, hall⟩ := mem_ready.1 hr
  have hlt : i < ops.size := (Array.getElem?_eq_some_iff.1 ho).1
  have hunl : listed.getD i false ≠ true := by
    have h2 : i < listed.size := by rw [hI.size]; exact hlt
    simp only [Array.getD_eq_getD_getElem?, Array.getElem?_eq_getElem h2, Option.getD_some] at hun ⊢
    simp [hun]
  obtain ⟨o', ho', hs⟩ := hstep hlt a w hI.below
    (fun j N hj hN => hI.told j N (by
      obtain ⟨e, he, hb, h⟩ := hc.bits i o ho j hj
      have h1 := hall e he hb
      rcases h with rfl | h
      · exact h1
      · obtain ⟨o', ho'⟩ : ∃ o', ops[e.on]? = some o' := ⟨ops[e.on]'(Nat.lt_trans (hc.down i o ho e he hb) hlt), Array.getElem?_eq_getElem _⟩
        exact bit_listed hc hI.closed e.on ho' h h1) hN)
    (fun t ht => hI.same t (fun j hj hN => by
      have hjl : j < D.length := by
        by_cases h : j < D.length
        · exact h
        · rw [List.getD_eq_getElem?_getD, List.getElem?_eq_none (by omega)] at hN; cases hN
      have h1 := List.all_eq_true.1 ht j (List.mem_range.2 hjl)
      rw [hN] at h1
      simp only [Bool.or_eq_true, beq_iff_eq, bne_self_eq_false, Bool.false_eq_true, false_or] at h1
      rcases h1 with h1 | h1
      · exact hunl (h1 ▸ hj)
      · obtain ⟨oj, hoj⟩ : ∃ o', ops[j]? = some o' := ⟨ops[j]'(by rw [← hc.len]; exact hjl), Array.getElem?_eq_getElem _⟩
        exact hunl (bit_listed hc hI.closed j hoj h1 hj)))
  have : o' = o := Option.some.inj (ho'.symm.trans ho)
  subst this
  unfold wpOp
  rw [ho]
  simp only
  split
  · rename_i hw
    rw [if_pos hw] at hs
    refine .inl (Oper.wp_mono ?_ hs)
    rintro a' w' ⟨v, rfl, hv, hb⟩
    exact inv_put hc hV hI ho hr hv hb
  · rename_i hw
    rw [if_neg hw] at hs
    exact inv_put hc hV hI ho hr hs (Below.refl _ _)

/-- How many have not come up. -/
def left (listed : Array Bool) (n : Nat) : Nat := (List.range n).countP fun i => !listed.getD i false
theorem left_set {listed : Array Bool} {i n : Nat} (hi : i < n) (hs : listed.size = n) (hu : listed.getD i false = false) : left (listed.setIfInBounds i true) n + 1 = left listed n := by
  have key : ∀ (l : List Nat), l.Nodup → i ∈ l → (l.countP fun j => !(listed.setIfInBounds i true).getD j false) + 1 = l.countP fun j => !listed.getD j false := by
    intro l
    induction l with
    | nil => intro _ h; cases h
    | cons x l ih =>
      intro hnd hm
      rw [List.nodup_cons] at hnd
      have hsame : ∀ j, j ≠ i → (listed.setIfInBounds i true).getD j false = listed.getD j false := by
        intro j hj
        simp only [Array.getD_eq_getD_getElem?, Array.getElem?_setIfInBounds]
        rw [if_neg (fun e => hj e.symm)]
      have hself : (listed.setIfInBounds i true).getD i false = true := by
        simp [Array.getD_eq_getD_getElem?, Array.getElem?_setIfInBounds, hs, hi]
      by_cases e : x = i
      · subst e
        have : (l.countP fun j => !(listed.setIfInBounds x true).getD j false) = l.countP fun j => !listed.getD j false := by
          apply List.countP_congr
          intro j hj
          rw [hsame j (fun h => hnd.1 (h ▸ hj))]
        simp only [List.countP_cons, hself, hu, this]
        simp
      · have := ih hnd.2 ((List.mem_cons.1 hm).resolve_left (fun h => e h.symm))
        simp only [List.countP_cons, hsame x e]
        omega
  exact key _ List.nodup_range (List.mem_range.2 hi)

theorem all_listed (hc : Chk ops T D n) {listed : Array Bool} (hs : listed.size = ops.size) (hr : Region.ready .any ops listed = []) : ∀ i, i < ops.size → listed.getD i false = true := by
  intro i
  induction i using Nat.strongRecOn with
  | _ i ih =>
    intro hi
    by_cases h : listed.getD i false = true
    · exact h
    · exfalso
      have hm : i ∈ Region.ready .any ops listed := by
        refine mem_ready.2 ⟨?_, ops[i], Array.getElem?_eq_getElem hi, fun e he hb => ih e.on (hc.down i _ (Array.getElem?_eq_getElem hi) e he hb) (Nat.lt_trans (hc.down i _ (Array.getElem?_eq_getElem hi) e he hb) hi)⟩
        have h2 : i < listed.size := by rw [hs]; exact hi
        simp only [Array.getD_eq_getD_getElem?, Array.getElem?_eq_getElem h2, Option.getD_some] at h ⊢
        simpa using h
      rw [hr] at hm
      cases hm

/-- What the walk may use behind the region. -/
def Ends (D : List (Option Tmp)) (n : Nat) (V : Nat → Va) (a0 : Act) (w0 : World) (Q : Exit → Act → World → Prop) : Prop :=
  ∀ a w, a.tmps.size = n → a.defers = a0.defers → Below w0.heap.size w0 w → (∀ j N, D.getD j none = some N → V j (get a N) w) → (∀ t, D.contains (some t) = false → get a t = get a0 t) → Q .normal a w

theorem inv_ends (hc : Chk ops T D n) {V : Nat → Va} {a0 a : Act} {w0 w : World} (hend : Ends D n V a0 w0 Q) {listed : Array Bool} (hI : Inv ops D n V a0 w0 listed a w) (hall : ∀ i, i < ops.size → listed.getD i false = true) : Q .normal a w := by
  refine hend a w hI.tmps hI.defers hI.below (fun j N hN => hI.told j N (hall j ?_) hN) (fun t ht => hI.same t (fun j _ hN => ?_))
  · by_cases h : j < ops.size
    · exact h
    · rw [List.getD_eq_getElem?_getD, List.getElem?_eq_none (by rw [hc.len]; omega)] at hN; cases hN
  · have : some t ∈ D := by
      rw [List.getD_eq_getElem?_getD] at hN
      cases hg : D[j]? with
      | none => rw [hg] at hN; cases hN
      | some x => rw [hg] at hN; simp at hN; subst hN; exact List.mem_of_getElem? hg
    simp [List.contains_iff_mem, this] at ht

theorem any_rg (hc : Chk ops T D n) {V : Nat → Va} (hV : ∀ i, Pst (V i)) {a0 : Act} {w0 : World} (hstep : ∀ i, i < ops.size → Owed P ops Q T D V a0 w0 i) (hend : Ends D n V a0 w0 Q) :
    ∀ (fuel : Nat) (listed : Array Bool) (a : Act) (w : World), Inv ops D n V a0 w0 listed a w → left listed ops.size ≤ fuel → wpAny P .any ops Q fuel listed a w
  | 0, listed, a, w, hI, hf => by
    have hall : ∀ i, i < ops.size → listed.getD i false = true := by
      intro i hi
      have h0 : left listed ops.size = 0 := by omega
      unfold left at h0
      have := List.countP_eq_zero.1 h0 i (List.mem_range.2 hi)
      simpa using this
    refine ⟨?_, inv_ends hc hend hI hall⟩
    refine List.eq_nil_iff_forall_not_mem.2 (fun i hi => ?_)
    obtain ⟨hun, o, ho, _⟩ := mem_ready.1 hi
    have hlt : i < ops.size := (Array.getElem?_eq_some_iff.1 ho).1
    have h1 := hall i hlt
    have h2 : i < listed.size := by rw [hI.size]; exact hlt
    simp only [Array.getD_eq_getD_getElem?, Array.getElem?_eq_getElem h2, Option.getD_some] at hun h1
    rw [h1] at hun
    cases hun
  | fuel + 1, listed, a, w, hI, hf => by
    refine ⟨fun hr => inv_ends hc hend hI (all_listed hc hI.size hr), fun i hi => ?_⟩
    refine wpOp_mono ?_ (inv_step hc hV hI (hstep _) hi)
    intro a' w' hI'
    refine any_rg hc hV hstep hend fuel _ a' w' hI' ?_
    obtain ⟨hun, o, ho, _⟩ := mem_ready.1 hi
    have hlt : i < ops.size := (Array.getElem?_eq_some_iff.1 ho).1
    have h2 : i < listed.size := by rw [hI.size]; exact hlt
    have hu : listed.getD i false = false := by
      simp only [Array.getD_eq_getD_getElem?, Array.getElem?_eq_getElem h2, Option.getD_some] at hun ⊢
      simpa using hun
    have := left_set hlt hI.size hu
    omega

theorem inv_start {V : Nat → Va} {a0 : Act} {w0 w : World} (hn : a0.tmps.size = n) (hw : Below w0.heap.size w0 w) : Inv ops D n V a0 w0 (Array.replicate ops.size false) a0 w :=
  have hf : ∀ j, (Array.replicate ops.size false).getD j false ≠ true := fun j => by
    simp only [Array.getD_eq_getD_getElem?, Array.getElem?_replicate]
    split <;> simp
  ⟨by simp, fun j _ _ h => absurd h (hf j), hn, rfl, hw, fun j _ h => absurd h (hf j), fun _ _ => rfl⟩

/-- A REGION THAT DRAWS ITS ORDER. -/
theorem draws (hm : P.follows .mixedOrders = true) {id : Nat} {a0 : Act} {w0 : World} (hc : check ops T D n = true) (hn : a0.tmps.size = n) (V : Nat → Va) (hV : ∀ i, Pst (V i))
    (hstep : ∀ i, i < ops.size → Owed P ops Q T D V a0 w0 i) (hend : Ends D n V a0 w0 Q) : (Code.region id ops true).wp P Q a0 w0 := by
  refine wp_region_any hm (any_rg (check_spec hc) hV hstep hend _ _ _ _ (inv_start hn (below_drew1 (Below.refl _ _))) ?_)
  exact Nat.le_trans List.countP_le_length (by simp)

theorem plain_from (hc : Chk ops T D n) {V : Nat → Va} (hV : ∀ i, Pst (V i)) {a0 : Act} {w0 : World} (hstep : ∀ i, i < ops.size → Owed P ops Q T D V a0 w0 i) (hend : Ends D n V a0 w0 Q) :
    ∀ (m k : Nat) (listed : Array Bool) (a : Act) (w : World), k + m = ops.size → Inv ops D n V a0 w0 listed a w → (∀ j, j < k → listed.getD j false = true) → (∀ j, k ≤ j → j < ops.size → listed.getD j false = false) →
      wpOps P ops Q (List.range' k m) a w
  | 0, k, listed, a, w, hk, hI, h1, _ => inv_ends hc hend hI (fun i hi => h1 i (by omega))
  | m + 1, k, listed, a, w, hk, hI, h1, h2 => by
    rw [List.range'_succ, wpOps_cons]
    have hlt : k < ops.size := by omega
    have h3 : k < listed.size := by rw [hI.size]; exact hlt
    have hr : k ∈ Region.ready .any ops listed := by
      refine mem_ready.2 ⟨?_, ops[k], Array.getElem?_eq_getElem hlt, fun e he hb => h1 e.on (hc.down k _ (Array.getElem?_eq_getElem hlt) e he hb)⟩
      have := h2 k (Nat.le_refl _) hlt
      simp only [Array.getD_eq_getD_getElem?, Array.getElem?_eq_getElem h3, Option.getD_some] at this ⊢
      simpa using this
    refine wpOp_mono ?_ (inv_step hc hV hI (hstep _) hr)
    intro a' w' hI'
    refine plain_from hc hV hstep hend m (k + 1) _ a' w' (by omega) hI' ?_ ?_
    · intro j hj
      simp only [Array.getD_eq_getD_getElem?, Array.getElem?_setIfInBounds]
      by_cases e : k = j
      · subst e; simp [h3]
      · rw [if_neg e]
        have := h1 j (by omega)
        rwa [Array.getD_eq_getD_getElem?] at this
    · intro j hj hjl
      simp only [Array.getD_eq_getD_getElem?, Array.getElem?_setIfInBounds]
      rw [if_neg (by omega)]
      have := h2 j (by omega) hjl
      rwa [Array.getD_eq_getD_getElem?] at this

/-- A region in its own order. -/
theorem plain {id : Nat} {a0 : Act} {w0 : World} (hc : check ops T D n = true) (hn : a0.tmps.size = n) (V : Nat → Va) (hV : ∀ i, Pst (V i))
    (hstep : ∀ i, i < ops.size → Owed P ops Q T D V a0 w0 i) (hend : Ends D n V a0 w0 Q) : (Code.region id ops false).wp P Q a0 w0 := by
  refine wp_region ?_
  rw [List.range_eq_range']
  refine plain_from (check_spec hc) hV hstep hend _ 0 _ _ _ (by omega) (inv_start hn (Below.refl _ _)) (fun j hj => absurd hj (Nat.not_lt_zero _)) (fun j _ hj => ?_)
  simp only [Array.getD_eq_getD_getElem?, Array.getElem?_replicate, hj, if_true, Option.getD_some]

/-! ### Assertions that last -/
structure Pv where
  V : Va
  pst : Pst V
def Pv.any : Pv := ⟨fun _ _ => True, fun _ _ _ _ _ => trivial⟩
def Pv.is (x : Value) : Pv := ⟨fun v _ => v = x, fun _ _ _ h _ => h⟩
/-- A slice whose elements are told. -/
def Pv.sl {α : Type} (d : Kd α) (l : List α) : Pv := ⟨fun v w => ∃ A c, v = .slice A l.length c ∧ d.C w A l.length l ∧ l.length ≤ c, fun _ _ _ ⟨A, c, e, h, hc⟩ hb => ⟨A, c, e, Kd.C_below h hb, hc⟩⟩
abbrev pT : Pv := Pv.is (.bool true)
abbrev pF : Pv := Pv.is (.bool false)
abbrev pI (n : Int) : Pv := Pv.is (.int .i64 n)
abbrev pB (l : List Int) : Pv := Pv.sl (Kd.int .u8) l
def All2 : List Pv → List Value → World → Prop
  | [], [], _ => True
  | V :: Vs, v :: vs, w => V.V v w ∧ All2 Vs vs w
  | _, _, _ => False
theorem All2.lasts : ∀ {Vs : List Pv} {vs : List Value} {w w' : World}, All2 Vs vs w → Below w.heap.size w w' → All2 Vs vs w'
  | [], [], _, _, _, _ => trivial
  | V :: _, _ :: _, _, _, h, hb => ⟨V.pst _ _ _ h.1 hb, All2.lasts h.2 hb⟩
  | [], _ :: _, _, _, h, _ => h.elim
  | _ :: _, [], _, _, h, _ => h.elim
theorem All2.at : ∀ {Vs : List Pv} {vs : List Value} {w : World} (k : Nat) {V : Pv}, All2 Vs vs w → Vs[k]? = some V → ∃ v, vs[k]? = some v ∧ V.V v w
  | V :: _, v :: _, _, 0, _, h, hk => by simp at hk; subst hk; exact ⟨v, rfl, h.1⟩
  | _ :: _, _ :: _, _, k + 1, _, h, hk => All2.at k h.2 (by simpa using hk)
  | [], _, _, k, _, _, hk => by simp at hk
  | _ :: _, [], _, _, _, h, _ => h.elim
def Pv.tup (Vs : List Pv) : Pv := ⟨fun v w => ∃ vs : List Value, v = .tuple vs.toArray ∧ All2 Vs vs w, fun _ _ _ ⟨vs, e, h⟩ hb => ⟨vs, e, h.lasts hb⟩⟩
/-- The assertions of a region's operations. -/
def told (L : List Pv) (i : Nat) : Va := (L.getD i Pv.any).V
theorem told_pst (L : List Pv) (i : Nat) : Pst (told L i) := (L.getD i Pv.any).pst
/-- What was known before the region is known in it. -/
theorem Pv.keep (V : Pv) {a0 a : Act} {w0 w : World} {t : Nat} (h : V.V (get a0 t) w0) (e : get a t = get a0 t) (hb : Below w0.heap.size w0 w) : V.V (get a t) w := by
  rw [e]; exact V.pst _ _ _ h hb
theorem Pv.of_sl {α : Type} {d : Kd α} {l : List α} {e base : Nat} {ok : Nat → Prop} {v : Value} {w : World} (h : d.R e w base ok v l) : (Pv.sl d l).V v w := by
  obtain ⟨A, c, rfl⟩ := Kd.R_slice h
  exact ⟨A, c, rfl, (Kd.R_reads' h).2.2, (Kd.R_reads' h).2.1⟩

/-! ### Steps -/
section steps
variable {a : Act} {w : World} {i : Nat} {o : Oper} {V : Va}
theorem want0 (h : o.guard = none) (y : Nat → Option Bool) : Region.wanted o y = true := by simp [Region.wanted, h]
theorem want_is {j N : Nat} {want b : Bool} (h : o.guard = some (j, want)) (hd : (ops[j]?).bind (·.dst) = some N) (hv : get a N = .bool b) : Region.wanted o (yielded ops a.tmps) = (b == want) := by
  have : yielded ops a.tmps j = some b := by
    unfold get at hv
    rw [Array.getD_eq_getD_getElem?] at hv
    unfold yielded
    rw [hd]
    show (match a.tmps[N]? with | some (.bool b) => some b | _ => none) = some b
    cases hx : a.tmps[N]? with
    | none => rw [hx] at hv; cases hv
    | some x => rw [hx] at hv; simp at hv; subst hv; rfl
  unfold Region.wanted
  rw [h]
  simp only [this]
  cases b <;> cases want <;> rfl
theorem want_undef {j N : Nat} {want : Bool} (h : o.guard = some (j, want)) (hd : (ops[j]?).bind (·.dst) = some N) (hv : get a N = undef) : Region.wanted o (yielded ops a.tmps) = false := by
  have : yielded ops a.tmps j = none := by
    unfold get at hv
    rw [Array.getD_eq_getD_getElem?] at hv
    unfold yielded
    rw [hd]
    show (match a.tmps[N]? with | some (.bool b) => some b | _ => none) = none
    cases hx : a.tmps[N]? with
    | none => rfl
    | some x => rw [hx] at hv; simp at hv; subst hv; rfl
  unfold Region.wanted
  rw [h]
  simp only [this]
  cases want <;> rfl
theorem st_off (ho : ops[i]? = some o) (hw : Region.wanted o (yielded ops a.tmps) = false) (h : V undef w) : Step P ops Q i V a w := ⟨o, ho, by rw [if_neg (by simp [hw])]; exact h⟩
theorem st_val {v : Value} {w1 : World} (ho : ops[i]? = some o) (hw : Region.wanted o (yielded ops a.tmps) = true) (hrun : (execOp a.eval o).run P w = .ok (.value v) w1) (h : V v w1) (hb : Below w.heap.size w w1) : Step P ops Q i V a w := by
  refine ⟨o, ho, ?_⟩
  rw [if_pos hw]
  unfold Oper.wp
  rw [hrun]
  exact ⟨v, rfl, h, hb⟩
theorem st_pure {v : Value} (ho : ops[i]? = some o) (hw : Region.wanted o (yielded ops a.tmps) = true) (hrun : (execOp a.eval o).run P w = .ok (.value v) w) (h : V v w) : Step P ops Q i V a w := st_val ho hw hrun h (Below.refl _ _)
theorem st_move {x : Operand} (ho : ops[i]? = some o) (hw : Region.wanted o (yielded ops a.tmps) = true) (hop : o.op = .move x) (h : V (a.eval x) w) : Step P ops Q i V a w := st_pure ho hw (by unfold execOp; simp [hop]) h
theorem st_assign {x : Operand} (ho : ops[i]? = some o) (hw : Region.wanted o (yielded ops a.tmps) = true) (hop : o.op = .assign x) (h : V (a.eval x) w) : Step P ops Q i V a w := st_pure ho hw (by unfold execOp; simp [hop]) h
theorem st_pick {c x y : Operand} {b : Bool} (ho : ops[i]? = some o) (hw : Region.wanted o (yielded ops a.tmps) = true) (hop : o.op = .pick c x y) (hc : a.eval c = .bool b) (h : V (if b then a.eval x else a.eval y) w) : Step P ops Q i V a w := by
  refine st_pure (v := if b then a.eval x else a.eval y) ho hw ?_ h
  unfold execOp
  rw [hop]
  simp only [hc]
  cases b <;> rfl
theorem st_bin {k : BinOp} {xt yt : TypeId} {x y : Operand} {vx vy v : Value} (ho : ops[i]? = some o) (hw : Region.wanted o (yielded ops a.tmps) = true) (hop : o.op = .binOp k xt x y yt) (hx : a.eval x = vx) (hy : a.eval y = vy)
    (hrun : (do eqGuard k xt x y vx vy; binOp k xt vx vy : Sem Value).run P w = .ok v w) (h : V v w) : Step P ops Q i V a w := by
  refine st_pure (v := v) ho hw ?_ h
  unfold execOp
  rw [hop]
  simp only [hx, hy]
  show Sem.run P (do let z ← (do eqGuard k xt x y vx vy; binOp k xt vx vy : Sem Value); pure (Next.value z)) w = _
  generalize (do eqGuard k xt x y vx vy; binOp k xt vx vy : Sem Value) = s at hrun ⊢
  simp [hrun]
theorem st_eql {xt yt : TypeId} {x y : Operand} {κ : IntKind} {m n : Int} {b : Bool} (ho : ops[i]? = some o) (hw : Region.wanted o (yielded ops a.tmps) = true) (hop : o.op = .binOp .eql xt x y yt) (hx : (Pv.is (.int κ m)).V (a.eval x) w) (hy : (Pv.is (.int κ n)).V (a.eval y) w)
    (hc : decide (m = n) = b) : Step P ops Q i (Pv.is (.bool b)).V a w := by
  refine st_bin (vx := .int κ m) (vy := .int κ n) (v := .bool b) ho hw hop hx hy ?_ rfl
  subst hc
  refine Eq.trans (b := Result.ok (.bool (m == n)) w) (by cases κ <;> rfl) ?_
  first | done | (congr 2; done) | (congr 2; first | rfl | (rw [Bool.eq_iff_iff]; simp) | (by_cases h_ : m = n <;> simp [h_]))
theorem st_neq {xt yt : TypeId} {x y : Operand} {κ : IntKind} {m n : Int} {b : Bool} (ho : ops[i]? = some o) (hw : Region.wanted o (yielded ops a.tmps) = true) (hop : o.op = .binOp .neq xt x y yt) (hx : (Pv.is (.int κ m)).V (a.eval x) w) (hy : (Pv.is (.int κ n)).V (a.eval y) w)
    (hc : decide (m = n) = b) : Step P ops Q i (Pv.is (.bool (!b))).V a w := by
  refine st_bin (vx := .int κ m) (vy := .int κ n) (v := .bool (!b)) ho hw hop hx hy ?_ rfl
  subst hc
  refine Eq.trans (b := Result.ok (.bool (m != n)) w) (by cases κ <;> rfl) ?_
  first | done | (congr 2; done) | (congr 2; first | rfl | (rw [Bool.eq_iff_iff]; simp) | (by_cases h_ : m = n <;> simp [h_]))
theorem st_lss {xt yt : TypeId} {x y : Operand} {κ : IntKind} {m n : Int} {b : Bool} (ho : ops[i]? = some o) (hw : Region.wanted o (yielded ops a.tmps) = true) (hop : o.op = .binOp .lss xt x y yt) (hx : (Pv.is (.int κ m)).V (a.eval x) w) (hy : (Pv.is (.int κ n)).V (a.eval y) w)
    (hc : decide (m < n) = b) : Step P ops Q i (Pv.is (.bool b)).V a w := by
  refine st_bin (vx := .int κ m) (vy := .int κ n) (v := .bool b) ho hw hop hx hy ?_ rfl
  subst hc
  refine Eq.trans (b := Result.ok (.bool (decide (m < n))) w) (by cases κ <;> rfl) ?_
  first | done | (congr 2; done) | (congr 2; first | rfl | (rw [Bool.eq_iff_iff]; simp) | (by_cases h_ : m = n <;> simp [h_]))
theorem st_leq {xt yt : TypeId} {x y : Operand} {κ : IntKind} {m n : Int} {b : Bool} (ho : ops[i]? = some o) (hw : Region.wanted o (yielded ops a.tmps) = true) (hop : o.op = .binOp .leq xt x y yt) (hx : (Pv.is (.int κ m)).V (a.eval x) w) (hy : (Pv.is (.int κ n)).V (a.eval y) w)
    (hc : decide (m ≤ n) = b) : Step P ops Q i (Pv.is (.bool b)).V a w := by
  refine st_bin (vx := .int κ m) (vy := .int κ n) (v := .bool b) ho hw hop hx hy ?_ rfl
  subst hc
  refine Eq.trans (b := Result.ok (.bool (decide (m ≤ n))) w) (by cases κ <;> rfl) ?_
  first | done | (congr 2; done) | (congr 2; first | rfl | (rw [Bool.eq_iff_iff]; simp) | (by_cases h_ : m = n <;> simp [h_]))
theorem st_gtr {xt yt : TypeId} {x y : Operand} {κ : IntKind} {m n : Int} {b : Bool} (ho : ops[i]? = some o) (hw : Region.wanted o (yielded ops a.tmps) = true) (hop : o.op = .binOp .gtr xt x y yt) (hx : (Pv.is (.int κ m)).V (a.eval x) w) (hy : (Pv.is (.int κ n)).V (a.eval y) w)
    (hc : decide (m > n) = b) : Step P ops Q i (Pv.is (.bool b)).V a w := by
  refine st_bin (vx := .int κ m) (vy := .int κ n) (v := .bool b) ho hw hop hx hy ?_ rfl
  subst hc
  refine Eq.trans (b := Result.ok (.bool (decide (m > n))) w) (by cases κ <;> rfl) ?_
  first | done | (congr 2; done) | (congr 2; first | rfl | (rw [Bool.eq_iff_iff]; simp) | (by_cases h_ : m = n <;> simp [h_]))
theorem st_geq {xt yt : TypeId} {x y : Operand} {κ : IntKind} {m n : Int} {b : Bool} (ho : ops[i]? = some o) (hw : Region.wanted o (yielded ops a.tmps) = true) (hop : o.op = .binOp .geq xt x y yt) (hx : (Pv.is (.int κ m)).V (a.eval x) w) (hy : (Pv.is (.int κ n)).V (a.eval y) w)
    (hc : decide (m ≥ n) = b) : Step P ops Q i (Pv.is (.bool b)).V a w := by
  refine st_bin (vx := .int κ m) (vy := .int κ n) (v := .bool b) ho hw hop hx hy ?_ rfl
  subst hc
  refine Eq.trans (b := Result.ok (.bool (decide (m ≥ n))) w) (by cases κ <;> rfl) ?_
  first | done | (congr 2; done) | (congr 2; first | rfl | (rw [Bool.eq_iff_iff]; simp) | (by_cases h_ : m = n <;> simp [h_]))
theorem st_un {k : UnOp} {xt : TypeId} {x : Operand} {vx v : Value} (ho : ops[i]? = some o) (hw : Region.wanted o (yielded ops a.tmps) = true) (hop : o.op = .unOp k xt x) (hx : a.eval x = vx)
    (hrun : (Op.unary k vx).run P w = .ok v w) (h : V v w) : Step P ops Q i V a w := by
  refine st_pure (v := v) ho hw ?_ h
  unfold execOp
  rw [hop]
  simp only [hx]
  simp [hrun]
theorem st_extract {x : Operand} {k : Nat} {Vs : List Pv} {U : Pv} (ho : ops[i]? = some o) (hw : Region.wanted o (yielded ops a.tmps) = true) (hop : o.op = .extract x k) (hx : (Pv.tup Vs).V (a.eval x) w) (hk : Vs[k]? = some U) (h : ∀ v, U.V v w → V v w) : Step P ops Q i V a w := by
  obtain ⟨vs, e, hA⟩ := hx
  obtain ⟨v, hv, hU⟩ := hA.at k hk
  refine st_pure (v := v) ho hw ?_ (h v hU)
  unfold execOp
  rw [hop]
  simp only [e]
  simp [Instr.extract, hv]
theorem st_len {x : Operand} {t e : TypeId} {A : Option Addr} {n c : Nat} (ho : ops[i]? = some o) (hw : Region.wanted o (yielded ops a.tmps) = true) (hop : o.op = .call { callee := .builtin .len, args := #[x], argTypes := #[t] }) (ht : P.underlying t = some (.slice e)) (hx : a.eval x = .slice A n c) (h : V (.int .i64 n) w) : Step P ops Q i V a w := by
  refine st_pure (v := .int .i64 n) ho hw ?_ h
  unfold execOp
  rw [hop]
  simp [resolve, invoke, hx]
  show Sem.run P (do pure (Next.value (← Builtin.len_ #[t] o.type #[.slice A n c]))) w = _
  simp [Builtin.len_, run_underlying ht]
  rfl
theorem st_string {x : Operand} {src dst e : TypeId} {xs : List Int} (hs : P.underlying src = some (.slice e)) (he : P.underlying e = some (.int .u8)) (hd : P.underlying dst = some .string)
    (ho : ops[i]? = some o) (hw : Region.wanted o (yielded ops a.tmps) = true) (hop : o.op = .convert src dst x) (hx : (Pv.sl (Kd.int .u8) xs).V (a.eval x) w) (h : V (.string (strOfNums xs)) w) : Step P ops Q i V a w := by
  obtain ⟨A, c, e', hC, _⟩ := hx
  refine st_pure (v := .string (strOfNums xs)) ho hw ?_ h
  unfold execOp
  rw [hop]
  simp only [e']
  simp [Kd.C_string hs he hd hC]
theorem st_call {f : FuncId} {fn : Func} {as : Array Operand} {ts : Array TypeId} (ho : ops[i]? = some o) (hw : Region.wanted o (yielded ops a.tmps) = true) (hop : o.op = .call { callee := .value (.func f), args := as, argTypes := ts })
    (hf : P.funcs[f]? = some fn) (hname : (fn.name == "runtime.NumGoroutine") = false) (hb : fn.body.isSome = true) (args : Array Value) (hargs : as.map a.eval = args)
    (h : Calls P f args w fun e w' => ∃ v, e = .returned v ∧ V v w' ∧ Below w.heap.size w w') : Step P ops Q i V a w := by
  refine ⟨o, ho, ?_⟩
  rw [if_pos hw]
  have he := enters_ hf hname hb args w
  have hrun : (execOp a.eval o).run P w = .ok (.enter f args) w := by
    unfold execOp
    simp [hop, resolve, Deferred.ofValue, invoke, Act.eval, hargs, he]
  unfold Oper.wp
  rw [hrun, Oper.upon_enter]
  refine h.mono fun e w'' hh => ?_
  obtain ⟨v, rfl, hv, hb⟩ := hh
  exact ⟨v, rfl, hv, hb⟩
/-- A slice written out: its elements are scalars. -/
theorem st_lit {t e : TypeId} {N : Tmp} {len : Nat} {parts : Array (Nat × Operand)} {ps : Array (Nat × Value)} {xs : List Int} {k : IntKind} {inner : List Value} (ho : ops[i]? = some o) (hw : Region.wanted o (yielded ops a.tmps) = true) (hd : o.dst = some N)
    (hop : o.op = .buildSlice t len parts) (hps : (parts.map fun (i, x) => (i, a.eval x)) = ps)
    (hrun : (Instr.buildSlice t len ps).run P w = .ok (.slice (some ⟨w.heap.size, 0, none⟩) xs.length xs.length) (w.alloc (.cells inner.toArray e)))
    (hrep : Reps ((Kd.int k).M w w.heap.size (fun _ => True)) (Kd.int k).sz xs inner) (hm : xs.length ≤ 9223372036854775807) (h : ∀ v w1, (Pv.sl (Kd.int k) xs).V v w1 → V v w1) : Step P ops Q i V a w := by
  refine ⟨o, ho, ?_⟩
  have hrun' : (execOp a.eval o).run P w = .ok (.value (.slice (some ⟨w.heap.size, 0, none⟩) xs.length xs.length)) (w.alloc (.cells inner.toArray e)) := by
    unfold execOp
    rw [hop]
    simp only [hps]
    generalize Instr.buildSlice t len ps = s at hrun ⊢
    simp [hrun]
  have := Kd.R_lit_step (P := P) (ops := ops) (Q := Q) (a := a) (W := w) (w0 := w) (o := o) (Kc := fun a' w' => ∃ v, a' = a.put o.dst v ∧ V v w' ∧ Below w.heap.size w w') (Kd.int k) w.heap.size e hw hd (xs := xs) (inner := inner) (ok := fun _ => True) (okp := fun _ => True) hrun' hrep (fun _ h => h) trivial (Below.refl _ _) (Nat.le_refl _) hm
    (fun v1 w1 hR hB _ _ => ⟨v1, rfl, h _ _ (Pv.of_sl hR), hB⟩)
  rw [if_pos hw] at this ⊢
  exact this
end steps
theorem owed_all {V : Nat → Va} {a0 : Act} {w0 : World} : ∀ (m k : Nat), (∀ j, j < m → Owed P ops Q T D V a0 w0 (k + j)) → ∀ i, k ≤ i → i < k + m → Owed P ops Q T D V a0 w0 i := by
  intro m k h i h1 h2
  have := h (i - k) (by omega)
  rwa [show k + (i - k) = i by omega] at this
/-- One operation more. -/
def OwedTo (P : Program) (ops : Array Oper) (Q : Exit → Act → World → Prop) (T : List Nat) (D : List (Option Tmp)) (V : Nat → Va) (a0 : Act) (w0 : World) (m : Nat) : Prop := ∀ i, i < m → Owed P ops Q T D V a0 w0 i
theorem owed0 {V : Nat → Va} {a0 : Act} {w0 : World} : OwedTo P ops Q T D V a0 w0 0 := fun _ h => absurd h (Nat.not_lt_zero _)
theorem owedS {V : Nat → Va} {a0 : Act} {w0 : World} {m : Nat} (h : OwedTo P ops Q T D V a0 w0 m) (k : Owed P ops Q T D V a0 w0 m) : OwedTo P ops Q T D V a0 w0 (m + 1) := fun i hi => by
  by_cases e : i = m
  · subst e; exact k
  · exact h i (by omega)
theorem below_of_drawn {w w' : World} (h : Drawn0 w w') : Below w.heap.size w w' := h.below
/-- A function's entry: the act is known by what is read of it. -/
theorem enter {f : FuncId} {fn : Func} {c : Code} {args : Array Value} {w : World} {R : Ending → World → Prop} {n : Nat} (hf : P.funcs[f]? = some fn) (hb : fn.body = some c) (hn : args.size + (fn.ntmps - args.size) = n)
    (h : ∀ a : Act, a.tmps.size = n → a.defers = [] → (∀ t, t < args.size → get a t = args.getD t undef) → c.wp P (bodyPost P fn R) a w) : Calls P f args w R := by
  refine calls_of_wp hf hb (h _ (by simp [hn]) rfl ?_)
  intro t ht
  unfold get
  simp only [Array.getD_eq_getD_getElem?]
  rw [Array.getElem?_append_left ht]
theorem then_ret {next : Act → World → Prop} {a : Act} {w : World} (h : Q .ret a w) : Exit.then next Q .ret a w := h
/-- A law's return: its result lies in one place. -/
theorem back_is {fn : Func} {R : Ending → World → Prop} {a : Act} {w : World} {t : Tmp} {x : Value} (hr : fn.results = #[.tmp t]) (hd : a.defers = []) (hv : get a t = x) (h : R (.returned x) w) : bodyPost P fn R .ret a w :=
  ⟨hd, _, results_tmp hr _ _ _, by rw [show a.tmps.getD t undef = x from hv]; exact h⟩
end

/-! ### Elements, rows of one's own, loops -/
section
variable {P : Program} {ops : Array Oper} {Q : Exit → Act → World → Prop} {n : Nat} {T : List Nat} {D : List (Option Tmp)} {a : Act} {w : World} {i : Nat} {o : Oper} {V : Va}
/-- A pointer to an element. -/
def Pv.at (κ : IntKind) (l : List Int) (j : Int) : Pv := ⟨fun v w => ∃ p, v = .pointer (some p) ∧ w.cell? p = some (.int κ (rd l j)), fun _ _ _ ⟨p, e, h⟩ hb => ⟨p, e, (hb.cell (World.block_lt_of_cell? _ _ h)).trans h⟩⟩
/-- A slice that lies in blocks below N. -/
def Pv.fx {α : Type} (N : Nat) (d : Kd α) (l : List α) : Pv := ⟨fun v w => ∃ A c, v = .slice A l.length c ∧ Kd.F d w (fun k => k < N) A l.length l ∧ l.length ≤ c, fun _ _ _ ⟨A, c, e, h, hc⟩ hb => ⟨A, c, e, Kd.F_below h hb, hc⟩⟩
/-- A row of one's own, younger than N. -/
def Pv.own {α : Type} (N e : Nat) (d : Kd α) (l : List α) : Pv := ⟨fun v w => d.R e w N (fun _ => True) v l, fun _ _ _ h hb => Kd.R_below h hb⟩
theorem Pv.fx_sl {α : Type} {N : Nat} {d : Kd α} {l : List α} {v : Value} {w : World} (h : (Pv.fx N d l).V v w) : (Pv.sl d l).V v w := by
  obtain ⟨A, c, e, hF, hc⟩ := h
  exact ⟨A, c, e, Kd.F_now hF, hc⟩
theorem Pv.own_sl {α : Type} {N e : Nat} {d : Kd α} {l : List α} {v : Value} {w : World} (h : (Pv.own N e d l).V v w) : (Pv.sl d l).V v w := Pv.of_sl h
theorem Pv.sl_fx {α : Type} {d : Kd α} {l : List α} {v : Value} {w : World} (hd : Kd.Heap d) (h : (Pv.sl d l).V v w) : (Pv.fx w.heap.size d l).V v w := by
  obtain ⟨A, c, e, hC, hc⟩ := h
  exact ⟨A, c, e, Kd.C_F hd hC, hc⟩
theorem Pv.fx_keep {α : Type} {N : Nat} {d : Kd α} {l : List α} {v : Value} {w w' : World} (h : (Pv.fx N d l).V v w) (hb : Below N w w') : (Pv.fx N d l).V v w' := by
  obtain ⟨A, c, e, hF, hc⟩ := h
  exact ⟨A, c, e, Kd.F_step hF (fun k hk _ => hb.block k hk), hc⟩
theorem size_of {e : TypeId} {z : Option Value} {b : Nat} (h : (P.info? e).map (fun i => (i.zero, i.size, i.bytes)) = some (z, 1, b)) : (P.info? e).map (·.size) = some 1 := by
  obtain ⟨i, hi, h2⟩ := Option.map_eq_some_iff.1 h
  rw [hi]
  simp only [Prod.mk.injEq] at h2
  simp [h2.2.1]
theorem st_index {t e : TypeId} {x y : Operand} {κ : IntKind} {l : List Int} {j : Int} (ht : P.underlying t = some (.slice e)) {z_ : Option Value} {b_ : Nat} (hs_ : (P.info? e).map (fun i => (i.zero, i.size, i.bytes)) = some (z_, 1, b_)) (ho : ops[i]? = some o) (hw : Region.wanted o (yielded ops a.tmps) = true) (hop : o.op = .indexAddr t x y)
    (hx : (Pv.sl (Kd.int κ) l).V (a.eval x) w) (hy : (pI j).V (a.eval y) w) (h0 : 0 ≤ j) (h1 : j < l.length) : Step P ops Q i (Pv.at κ l j).V a w := by
  have hs := size_of hs_
  obtain ⟨A, c, e', hC, _⟩ := hx
  obtain ⟨ad, rfl, hcell⟩ := Kd.at_int hC j h0 h1
  refine st_pure (v := .pointer (some (ad.add j.toNat))) ho hw ?_ ⟨_, rfl, hcell⟩
  have hy' : a.eval y = .int .i64 j := hy
  obtain ⟨i0, hi, hz⟩ := Option.map_eq_some_iff.1 hs
  unfold execOp
  rw [hop]
  simp [Instr.indexAt, e', hy', asIntOf, run_underlying ht, sizeOf, typeInfo, hi, hz, h0, h1]
theorem st_load {t : TypeId} {x : Operand} {κ : IntKind} {l : List Int} {j : Int} (ht : P.underlying t = some (.int κ)) (ho : ops[i]? = some o) (hw : Region.wanted o (yielded ops a.tmps) = true) (hop : o.op = .load t x)
    (hx : (Pv.at κ l j).V (a.eval x) w) : Step P ops Q i (Pv.is (.int κ (rd l j))).V a w := by
  obtain ⟨p, e', hcell⟩ := hx
  refine st_pure (v := .int κ (rd l j)) ho hw ?_ rfl
  unfold execOp
  rw [hop]
  simp [Instr.loadAt, Instr.sureAddr, e', loadVar, isAgg, run_underlying ht, hcell]
theorem st_take {t e : TypeId} {x y : Operand} {κ : IntKind} {l : List Int} {j : Int} (ht : P.underlying t = some (.slice e)) {z_ : Option Value} {b_ : Nat} (hs_ : (P.info? e).map (fun i => (i.zero, i.size, i.bytes)) = some (z_, 1, b_)) (ho : ops[i]? = some o) (hw : Region.wanted o (yielded ops a.tmps) = true) (hop : o.op = .slice t x none (some y) none)
    (hx : (Pv.sl (Kd.int κ) l).V (a.eval x) w) (hy : (pI j).V (a.eval y) w) (h0 : 0 ≤ j) (h1 : j ≤ l.length) : Step P ops Q i (Pv.sl (Kd.int κ) (l.take j.toNat)).V a w := by
  have hs := size_of hs_
  obtain ⟨A, c, e', hC, hc⟩ := hx
  obtain ⟨i0, hi, hz⟩ := Option.map_eq_some_iff.1 hs
  obtain ⟨hcut, hA, hC'⟩ := print_take_of (P := P) (Value.int κ) 0 t e .i64 ht hi hz A c l j h0 h1 hc
  refine st_pure (v := .slice A (l.take j.toNat).length c) ho hw ?_ ⟨A, c, rfl, Kd.C_of_reads (h1 := fun _ => rfl) (hA _ (Kd.reads_of_C hC)), hC'⟩
  have hy' : a.eval y = .int .i64 j := hy
  unfold execOp
  rw [hop]
  have h2 : (Instr.sliceAt t (.slice A l.length c) none (some (.int .i64 j)) none).run P w = .ok (.slice A (l.take j.toNat).length c) w := by rw [← hcut w]; simp [Instr.sliceAt, run_underlying ht]
  simp only [e', hy', Option.map_none, Option.map_some]
  generalize Instr.sliceAt t (.slice A l.length c) none (some (.int .i64 j)) none = s at h2
  simp [h2]
theorem st_conv64 {src dst : TypeId} {x : Operand} {κ : IntKind} {m : Int} (hs : P.underlying src = some (.int κ)) (hd : P.underlying dst = some (.int .i64)) (ho : ops[i]? = some o) (hw : Region.wanted o (yielded ops a.tmps) = true) (hop : o.op = .convert src dst x)
    (hx : (Pv.is (.int κ m)).V (a.eval x) w) : Step P ops Q i (pI (wrap64 m)).V a w := by
  have hx' : a.eval x = .int κ m := hx
  refine st_pure (v := .int .i64 (wrap64 m)) ho hw ?_ rfl
  unfold execOp
  rw [hop]
  simp [hx', convert, run_underlying hs, run_underlying hd, Conv.intToInt, i64_w]
theorem st_rem {xt yt : TypeId} {x y : Operand} {m k : Int} (ho : ops[i]? = some o) (hw : Region.wanted o (yielded ops a.tmps) = true) (hop : o.op = .binOp .rem xt x y yt) (hx : (pI m).V (a.eval x) w) (hy : (pI k).V (a.eval y) w) (h0 : ¬ k = 0) : Step P ops Q i (pI (Int.tmod m k)).V a w := by
  refine st_bin (vx := .int .i64 m) (vy := .int .i64 k) (v := .int .i64 (Int.tmod m k)) ho hw hop hx hy ?_ rfl
  simp [eqGuard, binOp, Op.intDiv, h0]
theorem st_xor8 {xt yt : TypeId} {x y : Operand} {m k : Int} (ho : ops[i]? = some o) (hw : Region.wanted o (yielded ops a.tmps) = true) (hop : o.op = .binOp .xor xt x y yt) (hx : (Pv.is (.int .u8 m)).V (a.eval x) w) (hy : (Pv.is (.int .u8 k)).V (a.eval y) w) : Step P ops Q i (Pv.is (.int .u8 (Go.bits .xor .u8 m k))).V a w := by
  refine st_bin (vx := .int .u8 m) (vy := .int .u8 k) (v := .int .u8 (Go.bits .xor .u8 m k)) ho hw hop hx hy ?_ rfl
  simp [eqGuard, binOp, Op.intBits]
  rfl
theorem st_indexv {t e : TypeId} {x y : Operand} {g m cap : Nat} {j : Int} (ht : P.underlying t = some (.slice e)) {z_ : Option Value} {b_ : Nat} (hs_ : (P.info? e).map (fun i => (i.zero, i.size, i.bytes)) = some (z_, 1, b_)) (ho : ops[i]? = some o) (hw : Region.wanted o (yielded ops a.tmps) = true) (hop : o.op = .indexAddr t x y)
    (hx : (Pv.is (.slice (some ⟨g, 0, none⟩) m cap)).V (a.eval x) w) (hy : (pI j).V (a.eval y) w) (h0 : 0 ≤ j) (h1 : j < m) : Step P ops Q i (Pv.is (.pointer (some ⟨g, j.toNat, none⟩))).V a w := by
  have hs := size_of hs_
  refine st_pure (v := .pointer (some ⟨g, j.toNat, none⟩)) ho hw ?_ rfl
  have hx' : a.eval x = .slice (some ⟨g, 0, none⟩) m cap := hx
  have hy' : a.eval y = .int .i64 j := hy
  obtain ⟨i0, hi, hz⟩ := Option.map_eq_some_iff.1 hs
  unfold execOp
  rw [hop]
  simp [Instr.indexAt, hx', hy', asIntOf, run_underlying ht, sizeOf, typeInfo, hi, hz, h0, h1, Addr.add]
  try (intro h; omega)
theorem st_loadv {t e : TypeId} {x : Operand} {κ : IntKind} {g m cap B : Nat} {xs : List Int} {j : Int} (ht : P.underlying t = some (.int κ)) (ho : ops[i]? = some o) (hw : Region.wanted o (yielded ops a.tmps) = true) (hop : o.op = .load t x)
    (hx : (Pv.is (.pointer (some ⟨g, j.toNat, none⟩))).V (a.eval x) w) (HO : (Kd.int κ).R e w B (fun _ => True) (.slice (some ⟨g, 0, none⟩) m cap) xs) (h0 : 0 ≤ j) (h1 : j < m) : Step P ops Q i (Pv.is (.int κ (rd xs j))).V a w := by
  have hm := (Kd.R_reads' HO).1
  subst hm
  obtain ⟨hc, _⟩ := Kd.R_cell (enc := Value.int κ) (h1 := fun _ => rfl) (0 : Int) HO j h0 h1
  exact st_load ht ho hw hop ⟨_, hx, hc⟩
theorem st_make {t e : TypeId} {x y : Operand} {N : Tmp} {κ : IntKind} {bytes B : Nat} {m : Int} (ht : P.underlying t = some (.slice e)) (hinfo : (P.info? e).map (fun i => (i.zero, i.size, i.bytes)) = some (some (.int κ 0), 1, bytes)) (hb0 : 0 < bytes)
    (ho : ops[i]? = some o) (hw : Region.wanted o (yielded ops a.tmps) = true) (hd : o.dst = some N) (hop : o.op = .makeSlice t x y) (hx : (pI m).V (a.eval x) w) (hy : (pI m).V (a.eval y) w) (h0 : 0 ≤ m) (hl : m.toNat * bytes ≤ 281474976710656) (hB : B ≤ w.heap.size) :
    Step P ops Q i (Pv.own B e (Kd.int κ) (List.replicate m.toNat 0)).V a w := by
  refine ⟨o, ho, ?_⟩
  have := Kd.R_make_step (P := P) (ops := ops) (Q := Q) (a := a) (W := w) (w0 := w) (o := o) (Kc := fun a' w' => ∃ v, a' = a.put o.dst v ∧ (Pv.own B e (Kd.int κ) (List.replicate m.toNat 0)).V v w' ∧ Below w.heap.size w w') (Kd.int κ) w.heap.size e hw hd t x y hop m hx hy ht (.int κ 0) bytes hinfo rfl (by show 0 < 1; decide) hb0 (0 : Int) (ok := fun _ => True) (okp := fun _ => True) rfl (fun _ h => h) trivial h0 hl (Below.refl _ _) (Nat.le_refl _)
    (fun v1 w1 hR hb _ _ => ⟨v1, rfl, Kd.R_lower hR hB, hb⟩)
  rw [if_pos hw]
  rw [if_pos hw] at this
  exact this
theorem st_seql {xt yt : TypeId} {x y : Operand} {p q : ByteArray} {b : Bool} (ho : ops[i]? = some o) (hw : Region.wanted o (yielded ops a.tmps) = true) (hop : o.op = .binOp .eql xt x y yt) (hx : (Pv.is (.string p)).V (a.eval x) w) (hy : (Pv.is (.string q)).V (a.eval y) w)
    (hc : decide (p.toList = q.toList) = b) : Step P ops Q i (Pv.is (.bool b)).V a w := by
  refine st_bin (vx := .string p) (vy := .string q) (v := .bool b) ho hw hop hx hy ?_ rfl
  subst hc
  simp [eqGuard, binOp, Op.stringOp]
  by_cases h_ : p.toList = q.toList <;> simp [h_]
theorem st_sneq {xt yt : TypeId} {x y : Operand} {p q : ByteArray} {b : Bool} (ho : ops[i]? = some o) (hw : Region.wanted o (yielded ops a.tmps) = true) (hop : o.op = .binOp .neq xt x y yt) (hx : (Pv.is (.string p)).V (a.eval x) w) (hy : (Pv.is (.string q)).V (a.eval y) w)
    (hc : decide (p.toList = q.toList) = b) : Step P ops Q i (Pv.is (.bool (!b))).V a w := by
  refine st_bin (vx := .string p) (vy := .string q) (v := .bool (!b)) ho hw hop hx hy ?_ rfl
  subst hc
  simp [eqGuard, binOp, Op.stringOp]
  by_cases h_ : p.toList = q.toList <;> simp [h_]
/-- An empty row written out: a row of one's own. -/
theorem st_nil {t e : TypeId} {N : Tmp} {κ : IntKind} {B : Nat} (ho : ops[i]? = some o) (hw : Region.wanted o (yielded ops a.tmps) = true) (hd : o.dst = some N) (hop : o.op = .buildSlice t 0 #[])
    (hrun : (Instr.buildSlice t 0 #[]).run P w = .ok (.slice (some ⟨w.heap.size, 0, none⟩) ([] : List Int).length ([] : List Int).length) (w.alloc (.cells #[] e))) (hB : B ≤ w.heap.size) : Step P ops Q i (Pv.own B e (Kd.int κ) []).V a w := by
  refine ⟨o, ho, ?_⟩
  have hrun' : (execOp a.eval o).run P w = .ok (.value (.slice (some ⟨w.heap.size, 0, none⟩) 0 0)) (w.alloc (.cells #[] e)) := by
    unfold execOp
    rw [hop]
    simp only [List.map_toArray, List.map_nil]
    generalize hs : Instr.buildSlice t 0 #[] = s at hrun
    simp [hs, hrun]
  have := Kd.R_lit_step (P := P) (ops := ops) (Q := Q) (a := a) (W := w) (w0 := w) (o := o) (Kc := fun a' w' => ∃ v, a' = a.put o.dst v ∧ (Pv.own B e (Kd.int κ) []).V v w' ∧ Below w.heap.size w w') (Kd.int κ) w.heap.size e hw hd (xs := []) (inner := []) (ok := fun _ => True) (okp := fun _ => True) hrun' (Reps.none _ _) (fun _ h => h) trivial (Below.refl _ _) (Nat.le_refl _) (by simp)
    (fun v1 w1 hR hb _ _ => ⟨v1, rfl, Kd.R_lower hR hB, hb⟩)
  rw [if_pos hw] at this ⊢
  exact this
end
/-! ### A plain region, up to an operation that writes -/
section
variable {P : Program} {ops : Array Oper} {Q : Exit → Act → World → Prop} {n : Nat} {T : List Nat} {D : List (Option Tmp)}
theorem seg_from (hc : Chk ops T D n) {V : Nat → Va} (hV : ∀ i, Pst (V i)) {a0 : Act} {w0 : World} (K : Nat) (hK : K ≤ ops.size) (hstep : ∀ i, i < K → Owed P ops Q T D V a0 w0 i)
    (hend : ∀ a w, a.tmps.size = n → a.defers = a0.defers → Below w0.heap.size w0 w → (∀ j N, j < K → D.getD j none = some N → V j (get a N) w) → (∀ t, (D.take K).contains (some t) = false → get a t = get a0 t) → wpOps P ops Q (List.range' K (ops.size - K)) a w) :
    ∀ (m k : Nat) (listed : Array Bool) (a : Act) (w : World), k + m = K → Inv ops D n V a0 w0 listed a w → (∀ j, j < k → listed.getD j false = true) → (∀ j, k ≤ j → listed.getD j false = false) →
      wpOps P ops Q (List.range' k (ops.size - k)) a w
  | 0, k, listed, a, w, hk, hI, h1, h2 => by
    obtain rfl : k = K := by omega
    refine hend a w hI.tmps hI.defers hI.below (fun j N hj hN => hI.told j N (h1 j hj) hN) (fun t ht => hI.same t (fun j hj hN => ?_))
    have hjk : j < k := by
      apply Classical.byContradiction
      intro h
      rw [h2 j (by omega)] at hj
      cases hj
    have : some t ∈ D.take k := by
      rw [List.getD_eq_getElem?_getD] at hN
      cases hg : D[j]? with
      | none => rw [hg] at hN; cases hN
      | some x => rw [hg] at hN; simp at hN; subst hN; exact List.mem_of_getElem? (by rw [List.getElem?_take, if_pos hjk]; exact hg)
    simp [List.contains_iff_mem, this] at ht
  | m + 1, k, listed, a, w, hk, hI, h1, h2 => by
    have hlt : k < ops.size := by omega
    obtain ⟨r, hr'⟩ : ∃ r, ops.size - k = r + 1 := ⟨ops.size - k - 1, by omega⟩
    rw [hr', List.range'_succ, wpOps_cons]
    have h3 : k < listed.size := by rw [hI.size]; exact hlt
    have hr : k ∈ Region.ready .any ops listed := by
      refine mem_ready.2 ⟨?_, ops[k], Array.getElem?_eq_getElem hlt, fun e he hb => h1 e.on (hc.down k _ (Array.getElem?_eq_getElem hlt) e he hb)⟩
      have := h2 k (Nat.le_refl _)
      simp only [Array.getD_eq_getD_getElem?, Array.getElem?_eq_getElem h3, Option.getD_some] at this ⊢
      simpa using this
    refine wpOp_mono ?_ (inv_step hc hV hI (fun _ => hstep k (by omega)) hr)
    intro a' w' hI'
    rw [show r = ops.size - (k + 1) by omega]
    refine seg_from hc hV K hK hstep hend m (k + 1) _ a' w' (by omega) hI' ?_ ?_
    · intro j hj
      simp only [Array.getD_eq_getD_getElem?, Array.getElem?_setIfInBounds]
      by_cases e : k = j
      · subst e; simp [h3]
      · rw [if_neg e]
        have := h1 j (by omega)
        rwa [Array.getD_eq_getD_getElem?] at this
    · intro j hj
      simp only [Array.getD_eq_getD_getElem?, Array.getElem?_setIfInBounds]
      rw [if_neg (by omega)]
      have := h2 j (by omega)
      rwa [Array.getD_eq_getD_getElem?] at this
/-- A region in its own order: its first K operations, then the rest, one by one. -/
theorem seg {id : Nat} {a0 : Act} {w0 : World} (K : Nat) (rest : List Oper) (hrest : ops.toList.drop K = rest) (hK : (Nat.ble K ops.size) = true) (hc : check ops T D n = true) (hn : a0.tmps.size = n) (V : Nat → Va) (hV : ∀ i, Pst (V i))
    (hstep : OwedTo P ops Q T D V a0 w0 K)
    (hend : ∀ a w, a.tmps.size = n → a.defers = a0.defers → Below w0.heap.size w0 w → (∀ j N, j < K → D.getD j none = some N → V j (get a N) w) → (∀ t, (D.take K).contains (some t) = false → get a t = get a0 t) → wpList P ops Q rest a w) : (Code.region id ops false).wp P Q a0 w0 := by
  have hK' : K ≤ ops.size := Nat.le_of_ble_eq_true hK
  refine wp_region ?_
  rw [List.range_eq_range']
  refine seg_from (check_spec hc) hV K hK' hstep ?_ K 0 _ _ _ (by omega) (inv_start hn (Below.refl _ _)) (fun j hj => absurd hj (Nat.not_lt_zero _)) (fun j _ => ?_)
  · intro a w h1 h2 h3 h4 h5
    have hl : rest.length = ops.size - K := by rw [← hrest, List.length_drop, Array.length_toList]
    rw [← hl, wpOps_eq_wpList rest K (fun j => by rw [← hrest, List.getElem?_drop, Array.getElem?_toList])]
    exact hend a w h1 h2 h3 h4 h5
  · simp only [Array.getD_eq_getD_getElem?, Array.getElem?_replicate]
    split <;> simp
theorem any_seg (hc : Chk ops T D n) {V : Nat → Va} (hV : ∀ i, Pst (V i)) {a0 : Act} {w0 : World} (K : Nat) (hK : K + 1 = ops.size) (hT : ∀ j, j < K → (T.getD K 0).testBit j = true) (hstep : ∀ i, i < K → Owed P ops Q T D V a0 w0 i)
    (hend : ∀ a w, a.tmps.size = n → a.defers = a0.defers → Below w0.heap.size w0 w → (∀ j N, j < K → D.getD j none = some N → V j (get a N) w) → (∀ t, (D.take K).contains (some t) = false → get a t = get a0 t) → wpOp P ops Q K (fun a' w' => Q .normal a' w') a w) :
    ∀ (fuel : Nat) (listed : Array Bool) (a : Act) (w : World), Inv ops D n V a0 w0 listed a w → listed.getD K false = false → left listed ops.size ≤ fuel → wpAny P .any ops Q fuel listed a w
  | 0, listed, a, w, hI, hk, hf => by
    exfalso
    have h0 : left listed ops.size = 0 := by omega
    unfold left at h0
    have := List.countP_eq_zero.1 h0 K (List.mem_range.2 (by omega))
    simp [hk] at this
  | fuel + 1, listed, a, w, hI, hk, hf => by
    refine ⟨fun hr => ?_, fun i hi => ?_⟩
    · exfalso
      have := all_listed hc hI.size hr K (by omega)
      rw [hk] at this
      cases this
    · obtain ⟨hun, o, ho, hall⟩ := mem_ready.1 hi
      have hlt : i < ops.size := (Array.getElem?_eq_some_iff.1 ho).1
      have h2 : i < listed.size := by rw [hI.size]; exact hlt
      have hu : listed.getD i false = false := by
        simp only [Array.getD_eq_getD_getElem?, Array.getElem?_eq_getElem h2, Option.getD_some] at hun ⊢
        simpa using hun
      have hl := left_set hlt hI.size hu
      by_cases hik : i = K
      · subst hik
        have hall' : ∀ j, j < i → listed.getD j false = true := fun j hj => by
          obtain ⟨e, he, hb, h⟩ := hc.bits i o ho j (hT j hj)
          have h1 := hall e he hb
          rcases h with rfl | h
          · exact h1
          · obtain ⟨o', ho'⟩ : ∃ o', ops[e.on]? = some o' := ⟨ops[e.on]'(Nat.lt_trans (hc.down i o ho e he hb) hlt), Array.getElem?_eq_getElem _⟩
            exact bit_listed hc hI.closed e.on ho' h h1
        refine wpOp_mono ?_ (hend a w hI.tmps hI.defers hI.below (fun j N hj hN => hI.told j N (hall' j hj) hN) (fun t ht => hI.same t (fun j hj hN => ?_)))
        · intro a' w' hq
          have hz : ∀ j, j < ops.size → (listed.setIfInBounds i true).getD j false = true := by
            intro j hj
            simp only [Array.getD_eq_getD_getElem?, Array.getElem?_setIfInBounds]
            by_cases e : i = j
            · subst e; simp [h2]
            · rw [if_neg e]
              have := hall' j (by omega)
              rwa [Array.getD_eq_getD_getElem?] at this
          have hr : Region.ready .any ops (listed.setIfInBounds i true) = [] := by
            refine List.eq_nil_iff_forall_not_mem.2 (fun j hj => ?_)
            obtain ⟨hun', o', ho', _⟩ := mem_ready.1 hj
            have hlt' : j < ops.size := (Array.getElem?_eq_some_iff.1 ho').1
            have h1 := hz j hlt'
            have h3 : j < (listed.setIfInBounds i true).size := by rw [Array.size_setIfInBounds, hI.size]; exact hlt'
            simp only [Array.getD_eq_getD_getElem?, Array.getElem?_eq_getElem h3, Option.getD_some] at hun' h1
            rw [h1] at hun'
            cases hun'
          cases fuel with
          | zero => exact ⟨hr, hq⟩
          | succ f => exact ⟨fun _ => hq, fun j hj => by rw [hr] at hj; cases hj⟩
        · have hjk : j < i := by
            apply Classical.byContradiction
            intro h
            by_cases e : j = i
            · subst e; rw [hk] at hj; cases hj
            · rw [List.getD_eq_getElem?_getD, List.getElem?_eq_none (by rw [hc.len]; omega)] at hN; cases hN
          have : some t ∈ D.take i := by
            rw [List.getD_eq_getElem?_getD] at hN
            cases hg : D[j]? with
            | none => rw [hg] at hN; cases hN
            | some x => rw [hg] at hN; simp at hN; subst hN; exact List.mem_of_getElem? (by rw [List.getElem?_take, if_pos hjk]; exact hg)
          simp [List.contains_iff_mem, this] at ht
      · refine wpOp_mono ?_ (inv_step hc hV hI (fun _ => hstep i (by omega)) hi)
        intro a' w' hI'
        refine any_seg hc hV K hK hT hstep hend fuel _ a' w' hI' ?_ (by omega)
        simp only [Array.getD_eq_getD_getElem?, Array.getElem?_setIfInBounds]
        rw [if_neg hik]
        rwa [Array.getD_eq_getD_getElem?] at hk
/-- A region that draws its order, but for its last operation, which waits for all others. -/
theorem segd (hm : P.follows .mixedOrders = true) {id : Nat} {a0 : Act} {w0 : World} (K : Nat) (o : Oper) (ho : ops[K]? = some o) (hK : (K + 1 == ops.size) = true) (hT : ((List.range K).all fun j => (T.getD K 0).testBit j) = true) (hc : check ops T D n = true) (hn : a0.tmps.size = n) (V : Nat → Va) (hV : ∀ i, Pst (V i))
    (hstep : OwedTo P ops Q T D V a0 w0 K)
    (hend : ∀ a w, a.tmps.size = n → a.defers = a0.defers → Below w0.heap.size w0 w → (∀ j N, j < K → D.getD j none = some N → V j (get a N) w) → (∀ t, (D.take K).contains (some t) = false → get a t = get a0 t) → wpList P ops Q [o] a w) : (Code.region id ops true).wp P Q a0 w0 := by
  have hK' : K + 1 = ops.size := by simpa using hK
  refine wp_region_any hm (any_seg (check_spec hc) hV K hK' (fun j hj => List.all_eq_true.1 hT j (List.mem_range.2 hj)) hstep ?_ _ _ _ _ (inv_start hn (below_drew1 (Below.refl _ _))) ?_ ?_)
  · intro a w h1 h2 h3 h4 h5
    have := hend a w h1 h2 h3 h4 h5
    unfold wpOp
    rw [ho]
    exact this
  · simp only [Array.getD_eq_getD_getElem?, Array.getElem?_replicate]
    split <;> simp
  · exact Nat.le_trans List.countP_le_length (by simp)
theorem seq_append {o : Oper} {rest : List Oper} {a : Act} {w w0 : World} {s x : Operand} {t e : TypeId} {κ : IntKind} {bytes B : Nat} {xs ys : List Int} (hg : o.guard = none) (hop : o.op = .call { callee := .builtin .append, args := #[s, x], argTypes := #[t, t] })
    (ht : P.underlying t = some (.slice e)) (hinfo : (P.info? e).map (fun i => (i.zero, i.size, i.bytes)) = some (some (.int κ 0), 1, bytes)) (hb0 : 0 < bytes) (hs : (Pv.own B e (Kd.int κ) xs).V (a.eval s) w) (hx : (Pv.sl (Kd.int κ) ys).V (a.eval x) w)
    (hB : B ≤ w.heap.size) (HB : Below B w0 w) (hl : (xs.length + ys.length) * bytes ≤ 140737488355328)
    (h : ∀ v1 w1, (Pv.own B e (Kd.int κ) (xs ++ ys)).V v1 w1 → Below B w0 w1 → wpList P ops Q rest (a.put o.dst v1) w1) : wpList P ops Q (o :: rest) a w := by
  obtain ⟨A, c, e', hC, _⟩ := hx
  exact Kd.R_append_rows (Kd.int κ) (w0 := w0) B hg s x t e (.int κ 0) bytes hop ht hinfo rfl (by show 0 < 1; decide) hb0 (a.eval s) xs ys A ys.length c (fun _ => True) (fun _ => False) rfl e' hs hC (fun _ _ h => h) (fun _ h => h.elim) (fun _ _ => trivial) HB hB hl
    (fun v1 w1 h1 h2 _ _ => h v1 w1 h1 h2)
theorem seq_store {o : Oper} {rest : List Oper} {a : Act} {w w0 : World} {p x : Operand} {t e : TypeId} {κ : IntKind} {B g m cap : Nat} {xs : List Int} {j u : Int} (hg : o.guard = none) (hd : o.dst = none) (hop : o.op = .store t p x) {z_ : Option Value} {b_ : Nat} (hs_ : (P.info? t).map (fun i => (i.zero, i.size, i.bytes)) = some (z_, 1, b_))
    (hp : (Pv.is (.pointer (some ⟨g, j.toNat, none⟩))).V (a.eval p) w) (hx : (Pv.is (.int κ u)).V (a.eval x) w) (HO : (Kd.int κ).R e w B (fun _ => True) (.slice (some ⟨g, 0, none⟩) m cap) xs) (h0 : 0 ≤ j) (h1 : j < m) (HB : Below B w0 w)
    (h : ∀ w1, (Kd.int κ).R e w1 B (fun _ => True) (.slice (some ⟨g, 0, none⟩) m cap) (xs.set j.toNat u) → Below B w0 w1 → wpList P ops Q rest a w1) : wpList P ops Q (o :: rest) a w := by
  have hsz := size_of hs_
  have hm := (Kd.R_reads' HO).1
  subst hm
  obtain ⟨hc, _⟩ := Kd.R_cell (enc := Value.int κ) (h1 := fun _ => rfl) (0 : Int) HO j h0 h1
  refine Kd.R_store (Kd.int κ) (w0 := w0) B hd hg t p x hop e (g := g) (n := xs.length) (cap := cap) (o' := j.toNat) j 0 xs u (.int κ u) [.int κ u] [.int κ (rdOf 0 xs j)] (fun _ => True) (fun _ => False) hp (by show j.toNat = j.toNat * 1 + 0; omega) hx rfl hsz (by simp [Value.oneCell']) HO h0 h1 rfl ?_ (by show 0 + 1 ≤ 1; decide) rfl (fun _ h => h.elim) HB (fun w1 h2 h3 _ => h w1 h2 h3)
  intro q v hq
  have hq0 : q = 0 := by
    have := (List.getElem?_eq_some_iff.1 hq).1
    simp at this; omega
  subst hq0
  simp at hq
  subst hq
  have e2 : (⟨g, j.toNat * (Kd.int κ).sz + 0, none⟩ : Addr) = ⟨g, j.toNat, none⟩ := by
    show (⟨g, j.toNat * 1 + 0, none⟩ : Addr) = _
    simp
  rw [e2, hc]
theorem seq_assign {o : Oper} {rest : List Oper} {a : Act} {w : World} {x : Operand} (hg : o.guard = none) (hop : o.op = .assign x) (h : wpList P ops Q rest (a.put o.dst (a.eval x)) w) : wpList P ops Q (o :: rest) a w := by
  refine wpList_plain hg fun K hK => ?_
  unfold Oper.wp
  rw [show (execOp a.eval o).run P w = .ok (.value (a.eval x)) w by unfold execOp; simp [hop]]
  exact hK _ _ h
theorem seq_end {a : Act} {w : World} (h : Q .normal a w) : wpList P ops Q [] a w := h
/-- A value's place, and its variable's. -/
theorem end_two {a : Act} {w : World} {p q n : Nat} {v : Value} {dd : List Deferred} (hn : a.tmps.size = n) (hd : a.defers = dd) (hp : p < n) (hq : q < n)
    (h : ∀ ac : Act, ac.tmps.size = n → ac.defers = dd → get ac q = v → (∀ t, t ≠ p → t ≠ q → get ac t = get a t) → Q .normal ac w) : wpList P ops Q [] ((a.put (some p) v).put (some q) ((a.put (some p) v).eval (.tmp p))) w := by
  have e : (a.put (some p) v).eval (.tmp p) = v := by
    show get (a.put (some p) v) p = v
    exact get_put_self (by omega)
  refine h _ (by rw [size_put, size_put, hn]) (by rw [defers_put, defers_put, hd]) ?_ (fun t h1 h2 => ?_)
  · rw [e]; exact get_put_self (by rw [size_put]; omega)
  · rw [get_put h2, get_put h1]
theorem Pv.is_to {x v v' : Value} {w w' : World} (h : (Pv.is x).V v w) (e : v' = v) : (Pv.is x).V v' w' := by rw [e]; exact h
theorem Pv.fx_to {α : Type} {N : Nat} {d : Kd α} {l : List α} {v v' : Value} {w w' : World} (h : (Pv.fx N d l).V v w) (e : v' = v) (hb : Below N w w') : (Pv.fx N d l).V v' w' := by rw [e]; exact Pv.fx_keep h hb
theorem Pv.own_form {N e : Nat} {κ : IntKind} {l : List Int} {v : Value} {w : World} (h : (Pv.own N e (Kd.int κ) l).V v w) (hp : 0 < l.length) : ∃ g cap, v = .slice (some ⟨g, 0, none⟩) l.length cap ∧ (Kd.int κ).R e w N (fun _ => True) (.slice (some ⟨g, 0, none⟩) l.length cap) l := by
  obtain ⟨g, cap, e', _⟩ := Kd.R_form h hp
  exact ⟨g, cap, e', by have h' : (Kd.int κ).R e w N (fun _ => True) v l := h; rw [e'] at h'; exact h'⟩
theorem Pv.own_at {α : Type} {N e : Nat} {d : Kd α} {l : List α} {v x : Value} {w w' : World} (h : d.R e w N (fun _ => True) x l) (hv : (Pv.is x).V v w') : (Pv.own N e d l).V v w := by
  have hv' : v = x := hv
  rw [hv']; exact h
theorem Pv.to_own {α : Type} {N e base : Nat} {ok : Nat → Prop} {d : Kd α} {l : List α} {v : Value} {w : World} (h : d.R e w base ok v l) (hN : N ≤ base) : (Pv.own N e d l).V v w := Kd.R_mono (Kd.R_lower h hN) (fun _ _ => trivial)
theorem inb_ret {Q : Exit → Act → World → Prop} {id : Nat} {a : Act} {w : World} (h : Q .ret a w) : Exit.inBlock id Q .ret a w := h
/-- The loop's rule: what holds at its head is told with a number that falls. -/
theorem wp_loopg {c : Code} {a : Act} {w : World} (J : Nat → Act → World → Prop) (q : Nat) (h0 : J q a w) (round : ∀ q a w, J q a w → c.wp P (Exit.then (fun a' w' => ∃ r, r < q ∧ J r a' w') Q) a w) : (Code.loop c).wp P Q a w := by
  classical
  have hex : ∀ a w, (∃ q, J q a w) → ∃ m, J m a w ∧ ∀ r, J r a w → m ≤ r := by
    intro a w ⟨q, hq⟩
    induction q using Nat.strongRecOn with
    | _ q ih =>
      by_cases h : ∃ r, r < q ∧ J r a w
      · obtain ⟨r, hr, hj⟩ := h; exact ih r hr hj
      · exact ⟨q, hq, fun r hr => Nat.le_of_not_lt fun hl => h ⟨r, hl, hr⟩⟩
  let μ : Act → World → Nat := fun a w => if h : ∃ q, J q a w then Classical.choose (hex a w h) else 0
  have hμ : ∀ a w q, J q a w → J (μ a w) a w ∧ μ a w ≤ q := by
    intro a w q hq
    have h : ∃ q, J q a w := ⟨q, hq⟩
    simp only [μ, dif_pos h]
    have := Classical.choose_spec (hex a w h)
    exact ⟨this.1, this.2 q hq⟩
  refine wp_loop (fun a w => ∃ q, J q a w) μ ⟨q, h0⟩ ?_
  rintro a w ⟨q, hq⟩
  refine wp_mono (round (μ a w) a w (hμ a w q hq).1) ?_
  intro e a' w' h
  cases e with
  | normal => obtain ⟨r, hr, hj⟩ := h; exact ⟨⟨r, hj⟩, Nat.lt_of_le_of_lt (hμ a' w' r hj).2 hr⟩
  | exit id => exact h
  | goto l => exact h
  | ret => exact h
  | panic ch => exact h
  | outgrown => exact h
end
end Go.Proofs.Ytgieppcadnhhaaa.Reg
