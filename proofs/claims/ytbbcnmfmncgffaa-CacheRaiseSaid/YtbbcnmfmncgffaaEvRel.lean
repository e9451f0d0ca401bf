/-
  What holds between a reckoned state and a world, and how it goes on.
  Written by hand for this claim's session.
-/
import Derived.Test.YtbbcnmfmncgffaaEvBase
namespace Go.YtbbcnmfmncgffaaE
open Go.RowKit
set_option linter.unusedVariables false
set_option linter.unusedSimpArgs false
abbrev Hp := Nat → Bool × Blk
def Blk.live : Blk → Prop
  | .dead => False
  | _ => True
def bk (m : Nat → Option Value) (b : Nat) : Option Nat := (m b).bind blockOf
/-- The blocks that may be written. -/
def Owm (m : Nat → Option Value) (hf : Hp) (c : Nat) : Prop := ∃ b, (hf b).1 = false ∧ (hf b).2.live ∧ bk m b = some c
def Own (X : Nat → Prop) (m : Nat → Option Value) (hf : Hp) (c : Nat) : Prop := X c ∨ Owm m hf c
def get (a : Act) (t : Nat) : Value := a.tmps.getD t undef
/-- Nothing but W has turned. -/
structure But (w : World) (W : Nat → Prop) (w' : World) : Prop where
  os : w'.os = w.os
  tape : w'.tape = w.tape
  output : w'.output = w.output
  size : w.heap.size ≤ w'.heap.size
  block : ∀ c, c < w.heap.size → ¬ W c → w'.heap[c]? = w.heap[c]?
theorem But.refl (w : World) (W : Nat → Prop) : But w W w := ⟨rfl, rfl, rfl, Nat.le_refl _, fun _ _ _ => rfl⟩
theorem But.drew (w : World) (W : Nat → Prop) : But w W { w with drawn := w.drawn + 1 } := ⟨rfl, rfl, rfl, Nat.le_refl _, fun _ _ _ => rfl⟩
theorem But.keep {w w' : World} {W O : Nat → Prop} (h : But w W w') (hO : ∀ c, W c → O c) : Keep w O w' := ⟨h.size, fun c hc hn => h.block c hc (fun x => hn (hO c x))⟩
theorem But.below {w w' : World} {W : Nat → Prop} {B : Nat} (h : But w W w') (hB : B ≤ w.heap.size) (hW : ∀ c, W c → B ≤ c) : Below B w w' := ⟨h.os, h.tape, h.output, h.size, fun c hc => h.block c (by omega) (fun x => by have := hW c x; omega)⟩
theorem But.grown {w w' : World} {r : Option Nat} {W : Nat → Prop} (h : w.grownBy w' r) (hr : ∀ k, r = some k → W k) : But w W w' := ⟨h.os, h.tape, h.output, h.size, fun c hc hn => h.block c hc (fun e => hn (hr c e.symm))⟩
theorem But.alloc (w : World) (o : Obj) (W : Nat → Prop) : But w W (w.alloc o) := ⟨rfl, rfl, rfl, by simp, fun c hc _ => Below.heap_alloc w o c hc⟩

/-- Where a call began: its world, and by what the blocks that were handed on were reached. -/
structure Bse where
  w : World
  m : Nat → Option Value
structure Rel (w0 : Bse) (X O0 D : Nat → Prop) (m : Nat → Option Value) (tf : Nat → AV) (hf : Hp) (a : Act) (w : World) : Prop where
  tmp : ∀ t, HA m w (Own X m hf) (tf t) (get a t)
  blk : ∀ b, HB m w (Own X m hf) b (hf b).2
  dom : ∀ b, ¬ D b → m b = none
  sep : ∀ b b', b ≠ b' → (hf b).1 = false → (hf b).2.live → (hf b').2.live → ∀ c, bk m b = some c → bk m b' ≠ some c
  xsep : ∀ b c, (hf b).2.live → bk m b = some c → ¬ X c
  xold : ∀ c, X c → c < w0.w.heap.size ∧ ¬ O0 c
  old : ∀ b c, (hf b).2.live → bk m b = some c → O0 c ∨ w0.w.heap.size ≤ c
  fr : But w0.w O0 w
  base : ∀ b v, w0.m b = some v → m b = some v

theorem HB.lt {m : Nat → Option Value} {w : World} {O : Nat → Prop} {b c : Nat} {k : Blk} (h : HB m w O b k) (hl : k.live) (hc : bk m b = some c) : c < w.heap.size := by
  cases k with
  | dead => exact hl.elim
  | box ty cells =>
    obtain ⟨g, vs, h1, h2, _⟩ := h
    simp [bk, h1, blockOf] at hc
    subst hc
    exact (Array.getElem?_eq_some_iff.1 h2).1
  | row ty sz l =>
    obtain ⟨v, xs, h1, h2, _⟩ := h
    have : v.ownBlock = some c := by
      simp only [bk, h1, Option.bind_some] at hc
      rcases h2.2 with ⟨rfl, _⟩ | ⟨g, cap, cur, rfl, _⟩
      · simp [blockOf] at hc
      · simpa [blockOf, Value.ownBlock] using hc
    exact (h2.lt c this).2
  | arr ty sz l N =>
    obtain ⟨g, cur, h1, h2, _⟩ := h
    simp [bk, h1, blockOf] at hc
    subst hc
    exact (Array.getElem?_eq_some_iff.1 h2).1

theorem HB.mono {m m' : Nat → Option Value} {w w' : World} {O O' : Nat → Prop} {b : Nat} {k : Blk} (hk : Keep w O w') (hO' : ∀ c, O' c → O c ∨ w.heap.size ≤ c) (hm : ∀ b v, m b = some v → m' b = some v)
    (hc : ∀ c, k.live → bk m b = some c → w'.heap[c]? = w.heap[c]?) (h : HB m w O b k) : HB m' w' O' b k := by
  cases k with
  | dead => trivial
  | box ty cells =>
    obtain ⟨g, vs, h1, h2, h3, h4, h5⟩ := h
    exact ⟨g, vs, hm _ _ h1, (hc g trivial (by simp [bk, h1, blockOf])).trans h2, h3, h4, fun i x y hx hy => (h5 i x y hx hy).mono hk hO' hm⟩
  | row ty sz l =>
    obtain ⟨v, xs, h1, h2, h3, h4⟩ := h
    refine ⟨v, xs, hm _ _ h1, ?_, h3, fun i j x y hx hy => ?_⟩
    · refine ⟨h2.1, ?_⟩
      rcases h2.2 with hn | ⟨g, cap, cur, rfl, hb, hg, rest⟩
      · exact .inl hn
      · exact .inr ⟨g, cap, cur, rfl, hb, (hc g trivial (by simp [bk, h1, blockOf])).trans hg, rest⟩
    · obtain ⟨u, hu, ht⟩ := h4 i j x y hx hy
      exact ⟨u, hu, ht.mono hk hO'⟩
  | arr ty sz l N =>
    obtain ⟨g, cur, h1, h2, h3, h4, h5, h6, h7⟩ := h
    refine ⟨g, cur, hm _ _ h1, (hc g trivial (by simp [bk, h1, blockOf])).trans h2, h3, h4, h5, h6, fun i j x y hx hy => ?_⟩
    obtain ⟨u, hu, ht⟩ := h7 i j x y hx hy
    exact ⟨u, hu, ht.mono hk hO'⟩

section
variable {w0 : Bse} {X O0 D : Nat → Prop} {m : Nat → Option Value} {tf : Nat → AV} {hf : Hp} {a : Act} {w : World}
theorem Rel.step (h : Rel w0 X O0 D m tf hf a w) {w' : World} {m' : Nat → Option Value} {D' : Nat → Prop} {tf' : Nat → AV} {hf' : Hp} {a' : Act} (W : Nat → Prop) (hw : But w W w') (hW : ∀ c, W c → Owm m hf c)
    (hm : ∀ b v, m b = some v → m' b = some v) (hD : ∀ b, ¬ D' b → m' b = none)
    (hb : ∀ b, (hf' b = hf b ∧ m' b = m b ∧ ∀ c, (hf b).2.live → bk m b = some c → ¬ W c) ∨
      (((∀ c, Own X m' hf' c → Own X m hf c ∨ w.heap.size ≤ c) → HB m' w' (Own X m' hf') b (hf' b).2) ∧ ((hf' b).2.live → ∀ c, bk m' b = some c → (w.heap.size ≤ c ∨ Owm m hf c) ∧ ∀ b', b' ≠ b → ((hf' b).1 = false ∨ (hf' b').1 = false) → (hf' b').2.live → bk m' b' ≠ some c)))
    (ht : ∀ t, (tf' t = tf t ∧ get a' t = get a t) ∨ ((∀ c, Own X m' hf' c → Own X m hf c ∨ w.heap.size ≤ c) → HA m' w' (Own X m' hf') (tf' t) (get a' t))) : Rel w0 X O0 D' m' tf' hf' a' w' := by
  have hkeep : Keep w (Own X m hf) w' := hw.keep (fun c hc => .inr (hW c hc))
  have hO' : ∀ c, Own X m' hf' c → Own X m hf c ∨ w.heap.size ≤ c := by
    rintro c (hx | ⟨b, h1, h2, h3⟩)
    · exact .inl (.inl hx)
    · rcases hb b with ⟨e1, e2, _⟩ | ⟨_, hl⟩
      · exact .inl (.inr ⟨b, e1 ▸ h1, e1 ▸ h2, by unfold bk at h3 ⊢; rw [← e2]; exact h3⟩)
      · exact (hl h2 c h3).1.elim .inr (fun x => .inl (.inr x))
  refine ⟨fun t => ?_, fun b => ?_, hD, ?_, ?_, h.xold, ?_, ?_, fun b v hb => hm b v (h.base b v hb)⟩
  · rcases ht t with ⟨e1, e2⟩ | hh
    · rw [e1, e2]; exact (h.tmp t).mono hkeep hO' hm
    · exact hh hO'
  · rcases hb b with ⟨e1, e2, h3⟩ | ⟨hh, _⟩
    · rw [e1]; exact (h.blk b).mono hkeep hO' hm (fun c hl hc => hw.block c ((h.blk b).lt hl hc) (h3 c hl hc))
    · exact hh hO'
  · intro b b' hne hfz hl hl' c hc hc'
    rcases hb b with ⟨e1, e2, _⟩ | ⟨_, hu⟩
    · rcases hb b' with ⟨e1', e2', _⟩ | ⟨_, hu'⟩
      · rw [e1] at hfz hl; rw [e1'] at hl'
        unfold bk at hc hc'; rw [e2] at hc; rw [e2'] at hc'
        exact h.sep b b' hne hfz hl hl' c hc hc'
      · exact (hu' hl' c hc').2 b hne (.inr hfz) hl hc
    · exact (hu hl c hc).2 b' (fun e => hne e.symm) (.inl hfz) hl' hc'
  · intro b c hl hc hx
    rcases hb b with ⟨e1, e2, _⟩ | ⟨_, hu⟩
    · rw [e1] at hl; unfold bk at hc; rw [e2] at hc; exact h.xsep b c hl hc hx
    · rcases (hu hl c hc).1 with hh | ⟨b2, _, h2, h3⟩
      · have := (h.xold c hx).1; have := h.fr.size; omega
      · exact h.xsep b2 c h2 h3 hx
  · intro b c h2 h3
    rcases hb b with ⟨e1, e2, _⟩ | ⟨_, hu⟩
    · exact h.old b c (e1 ▸ h2) (by unfold bk at h3 ⊢; rw [← e2]; exact h3)
    · rcases (hu h2 c h3).1 with hh | ⟨b2, _, h4, h5⟩
      · exact .inr (Nat.le_trans h.fr.size hh)
      · exact h.old b2 c h4 h5
  · refine ⟨hw.os.trans h.fr.os, hw.tape.trans h.fr.tape, hw.output.trans h.fr.output, Nat.le_trans h.fr.size hw.size, fun c hc hn => ?_⟩
    rw [← h.fr.block c hc hn]
    refine hw.block c (Nat.lt_of_lt_of_le hc h.fr.size) (fun hx => ?_)
    obtain ⟨b2, _, h4, h5⟩ := hW c hx
    rcases h.old b2 c h4 h5 with hh | hh
    · exact hn hh
    · omega

/-! ### places -/
theorem get_put {a : Act} {d t : Nat} {v : Value} (h : t ≠ d) : get (a.put (some d) v) t = get a t := by
  unfold get Act.put
  simp only [Array.getD_eq_getD_getElem?, Array.getElem?_setIfInBounds]
  rw [if_neg (fun e => h e.symm)]
theorem get_put_self {a : Act} {d : Nat} {v : Value} (h : d < a.tmps.size) : get (a.put (some d) v) d = v := by
  unfold get Act.put
  simp [Array.getD_eq_getD_getElem?, h]
theorem size_put {a : Act} {d : Option Tmp} {v : Value} : (a.put d v).tmps.size = a.tmps.size := by
  cases d <;> simp [Act.put]
theorem defers_put {a : Act} {d : Option Tmp} {v : Value} : (a.put d v).defers = a.defers := by
  cases d <;> rfl
/-- A place told anew. -/
def upT (tf : Nat → AV) (d : Option Tmp) (v : AV) : Nat → AV := fun t => if d = some t then v else tf t
theorem put_told {d : Option Tmp} {v : AV} {u : Value} {w' : World} {m' : Nat → Option Value} {O' : Nat → Prop} (hn : ∀ x, d = some x → x < a.tmps.size) (hv : HA m' w' O' v u) (t : Nat) :
    (upT tf d v t = tf t ∧ get (a.put d u) t = get a t) ∨ HA m' w' O' (upT tf d v t) (get (a.put d u) t) := by
  unfold upT
  by_cases e : d = some t
  · subst e
    rw [if_pos rfl, get_put_self (hn t rfl)]
    exact .inr hv
  · rw [if_neg e]
    refine .inl ⟨rfl, ?_⟩
    cases d with
    | none => rfl
    | some x => exact get_put (fun h => e (by rw [h]))
/-- An operation that only reads. -/
theorem Rel.put (h : Rel w0 X O0 D m tf hf a w) {w' : World} (d : Option Tmp) (v : AV) (u : Value) (hn : ∀ x, d = some x → x < a.tmps.size) (hw : But w (fun _ => False) w') (hv : HA m w (Own X m hf) v u) : Rel w0 X O0 D m (upT tf d v) hf (a.put d u) w' := by
  refine h.step (fun _ => False) hw (fun _ h => h.elim) (fun _ _ h => h) h.dom (fun b => .inl ⟨rfl, rfl, fun _ _ _ h => h⟩) (fun t => ?_)
  rcases put_told (tf := tf) (a := a) (m' := m) (w' := w') (O' := Own X m hf) hn (hv.mono (hw.keep fun _ h => h.elim) (fun c hc => .inl hc) (fun _ _ h => h)) t with hh | hh
  · exact .inl hh
  · exact .inr fun _ => hh
end
end Go.YtbbcnmfmncgffaaE
