/-
  Contracts: what a function leaves, of data and blocks that it is handed.
  Written by hand for this claim's session.
-/
import Derived.Test.YtbbcnmfmncgffaaEvBody
namespace Go.YtbbcnmfmncgffaaE
open Go.RowKit
set_option linter.unusedVariables false
set_option linter.unusedSimpArgs false
/-! ### blocks under other numbers -/
def rn (φ : List (Nat × Nat)) (b : Nat) : Nat := look b φ b
mutual
def AV.ren (φ : List (Nat × Nat)) : AV → AV
  | .un => .un
  | .t x => .t x
  | .own b => .own (rn φ b)
  | .ptr b o => .ptr (rn φ b) o
  | .rp b sz i j => .rp (rn φ b) sz i j
  | .sub b sz i n => .sub (rn φ b) sz i n
  | .ab p q => .ab p q
  | .fsub b sz i n N => .fsub (rn φ b) sz i n N
  | .agg l => .agg (renL φ l)
  | .tuple l => .tuple (renL φ l)
  | .iface t x => .iface t (x.ren φ)
  | .fn f a c => .fn f (renL φ a) (renL φ c)
def renL (φ : List (Nat × Nat)) : List AV → List AV
  | [] => []
  | x :: l => x.ren φ :: renL φ l
end
def Blk.ren (φ : List (Nat × Nat)) : Blk → Blk
  | .dead => .dead
  | .box ty c => .box ty (renL φ c)
  | .row ty sz l => .row ty sz l
  | .arr ty sz l N => .arr ty sz l N
theorem renL_map (φ : List (Nat × Nat)) (l : List AV) : renL φ l = l.map (AV.ren φ) := by
  induction l with
  | nil => rfl
  | cons x l ih => unfold renL; rw [ih]; rfl
theorem HA.ren {m m2 : Nat → Option Value} {w : World} {O O2 : Nat → Prop} {φ : List (Nat × Nat)} (hm : ∀ b v, m b = some v → m2 (rn φ b) = some v) (hO : ∀ c, O2 c → O c) {x : AV} {v : Value} (h : HA m w O x v) : HA m2 w O2 (x.ren φ) v := by
  induction h with
  | un x => exact .un x
  | t x y h => exact .t x y (h.mono (Keep.refl _ _) (fun c hc => .inl (hO c hc)))
  | own b v h h1 => exact .own _ v (hm _ _ h) h1
  | ptr b off g h => exact .ptr _ off g (hm _ _ h)
  | rp b sz i j g n c h => exact .rp _ sz i j g n c (hm _ _ h)
  | sub b sz i n v h => exact .sub _ sz i n v (h.mono fun v h => hm _ v h)
  | ab p q b h h' => exact .ab p q b h h'
  | fsub b sz i n N v h => exact .fsub _ sz i n N v (h.mono fun v h => hm _ v h)
  | agg l vs hl h ih =>
    unfold AV.ren
    rw [renL_map]
    refine .agg _ vs (by simpa using hl) (fun i x y hx hy => ?_)
    rw [List.getElem?_map] at hx
    obtain ⟨z, hz, rfl⟩ := Option.map_eq_some_iff.1 hx
    exact ih i z y hz hy
  | tuple l vs hl h ih =>
    unfold AV.ren
    rw [renL_map]
    refine .tuple _ vs (by simpa using hl) (fun i x y hx hy => ?_)
    rw [List.getElem?_map] at hx
    obtain ⟨z, hz, rfl⟩ := Option.map_eq_some_iff.1 hx
    exact ih i z y hz hy
  | iface t x y h ih => exact .iface t _ y ih
  | fn f l k vs us hl h hm' h' ih ih' =>
    unfold AV.ren
    rw [renL_map, renL_map]
    refine .fn f _ _ vs us (by simpa using hl) (fun i x y hx hy => ?_) (by simpa using hm') (fun i x y hx hy => ?_)
    · rw [List.getElem?_map] at hx
      obtain ⟨z, hz, rfl⟩ := Option.map_eq_some_iff.1 hx
      exact ih i z y hz hy
    · rw [List.getElem?_map] at hx
      obtain ⟨z, hz, rfl⟩ := Option.map_eq_some_iff.1 hx
      exact ih' i z y hz hy
mutual
/-- It leads to blocks of I alone. -/
def AV.inI (I : List Nat) : AV → Bool
  | .un => true
  | .t _ => true
  | .own b => memN b I
  | .ptr b _ => memN b I
  | .rp b _ _ _ => memN b I
  | .sub b _ _ _ => memN b I
  | .ab _ _ => true
  | .fsub b _ _ _ _ => memN b I
  | .agg l => inL I l
  | .tuple l => inL I l
  | .iface _ x => x.inI I
  | .fn _ a c => inL I a && inL I c
def inL (I : List Nat) : List AV → Bool
  | [] => true
  | x :: l => x.inI I && inL I l
end
def Blk.inI (I : List Nat) : Blk → Bool
  | .box _ c => inL I c
  | _ => true
theorem inL_mem {I : List Nat} {l : List AV} (h : inL I l = true) : ∀ x ∈ l, x.inI I = true := by
  induction l with
  | nil => intro x hx; cases hx
  | cons y l ih =>
    unfold inL at h
    simp only [Bool.and_eq_true] at h
    intro x hx
    rcases List.mem_cons.1 hx with rfl | hx
    · exact h.1
    · exact ih h.2 x hx
/-- And back: what is told under other numbers. -/
theorem HA.back {m m2 : Nat → Option Value} {w : World} {O O2 : Nat → Prop} {φ : List (Nat × Nat)} {I : List Nat} (hm : ∀ b ∈ I, ∀ v, m2 (rn φ b) = some v → m b = some v) (hO : ∀ c, O c → O2 c) : ∀ {x : AV} {v : Value}, x.inI I = true → HA m2 w O2 (x.ren φ) v → HA m w O x v := by
  intro x
  induction x using AV.rec (motive_2 := fun l => ∀ x ∈ l, ∀ v, x.inI I = true → HA m2 w O2 (x.ren φ) v → HA m w O x v) with
  | un => intro v _ h; exact .un v
  | t x => intro v _ h; cases h with | t _ _ h => exact .t _ _ (h.mono (Keep.refl _ _) (fun c hc => .inl (hO c hc)))
  | own b => intro v hi h; cases h with | own _ _ h h1 => exact .own _ _ (hm _ (memN_iff.1 hi) _ h) h1
  | ptr b off => intro v hi h; cases h with | ptr _ _ g h => exact .ptr _ _ g (hm _ (memN_iff.1 hi) _ h)
  | rp b sz i j => intro v hi h; cases h with | rp _ _ _ _ g n c h => exact .rp _ _ _ _ g n c (hm _ (memN_iff.1 hi) _ h)
  | sub b sz i n => intro v hi h; cases h with | sub _ _ _ _ v h => exact .sub _ _ _ _ v (h.mono fun v h => hm _ (memN_iff.1 hi) v h)
  | ab p q => intro v hi h; cases h with | ab _ _ b h h' => exact .ab p q b h h'
  | fsub b sz i n N => intro v hi h; cases h with | fsub _ _ _ _ _ v h => exact .fsub _ _ _ _ _ v (h.mono fun v h => hm _ (memN_iff.1 hi) v h)
  | agg l ih =>
    intro v hi h
    unfold AV.ren at h
    rw [renL_map] at h
    have hi := inL_mem (I := I) (l := l) hi
    cases h with
    | agg _ vs hl h =>
      refine .agg _ vs (by simpa using hl) (fun i x y hx hy => ih x (List.mem_of_getElem? hx) y (hi x (List.mem_of_getElem? hx)) (h i _ y (by rw [List.getElem?_map, hx]; rfl) hy))
  | tuple l ih =>
    intro v hi h
    unfold AV.ren at h
    rw [renL_map] at h
    have hi := inL_mem (I := I) (l := l) hi
    cases h with
    | tuple _ vs hl h =>
      refine .tuple _ vs (by simpa using hl) (fun i x y hx hy => ih x (List.mem_of_getElem? hx) y (hi x (List.mem_of_getElem? hx)) (h i _ y (by rw [List.getElem?_map, hx]; rfl) hy))
  | iface t x ih =>
    intro v hi h
    cases h with
    | iface _ _ y h => exact .iface t x y (ih hi h)
  | fn f a c iha ihc =>
    intro v hi h
    unfold AV.ren at h
    rw [renL_map, renL_map] at h
    have hi : (inL I a && inL I c) = true := hi
    simp only [Bool.and_eq_true] at hi
    have hia := inL_mem hi.1
    have hic := inL_mem hi.2
    cases h with
    | fn _ _ _ vs us hl h hm' h' =>
      exact .fn f _ _ vs us (by simpa using hl) (fun i x y hx hy => iha x (List.mem_of_getElem? hx) y (hia x (List.mem_of_getElem? hx)) (h i _ y (by rw [List.getElem?_map, hx]; rfl) hy)) (by simpa using hm') (fun i x y hx hy => ihc x (List.mem_of_getElem? hx) y (hic x (List.mem_of_getElem? hx)) (h' i _ y (by rw [List.getElem?_map, hx]; rfl) hy))
  | nil => rename_i hx _ _ _; cases hx
  | cons x l ihx ihl =>
    rename_i hy v hi h
    rcases List.mem_cons.1 hy with rfl | hy
    · exact ihx hi h
    · exact ihl _ hy v hi h
theorem one_ren (φ : List (Nat × Nat)) (x : AV) : (x.ren φ).one = x.one := by cases x <;> rfl
theorem HB.ren {m m2 : Nat → Option Value} {w : World} {O O2 : Nat → Prop} {φ : List (Nat × Nat)} (hm : ∀ b v, m b = some v → m2 (rn φ b) = some v) (hO : ∀ c, O2 c → O c) {b : Nat} {k : Blk} (h : HB m w O b k) : HB m2 w O2 (rn φ b) (k.ren φ) := by
  cases k with
  | dead => trivial
  | box ty c =>
    obtain ⟨g, vs, h1, h2, h3, h4, h5⟩ := h
    show HB m2 w O2 (rn φ b) (.box ty (renL φ c))
    rw [renL_map]
    refine ⟨g, vs, hm _ _ h1, h2, by simpa using h3, fun x hx => ?_, fun i x y hx hy => ?_⟩
    · obtain ⟨z, hz, rfl⟩ := List.mem_map.1 hx
      rw [one_ren]; exact h4 z hz
    · rw [List.getElem?_map] at hx
      obtain ⟨z, hz, rfl⟩ := Option.map_eq_some_iff.1 hx
      exact (h5 i z y hz hy).ren hm hO
  | row ty sz l =>
    obtain ⟨v, xs, h1, h2, h3, h4⟩ := h
    refine ⟨v, xs, hm _ _ h1, h2, h3, fun i j x y hx hy => ?_⟩
    obtain ⟨u, hu, ht⟩ := h4 i j x y hx hy
    exact ⟨u, hu, ht.mono (Keep.refl _ _) (fun c hc => .inl (hO c hc))⟩
  | arr ty sz l N =>
    obtain ⟨g, cur, h1, h2, h3, h4, h5, h6, h7⟩ := h
    refine ⟨g, cur, hm _ _ h1, h2, h3, h4, h5, h6, fun i j x y hx hy => ?_⟩
    obtain ⟨u, hu, ht⟩ := h7 i j x y hx hy
    exact ⟨u, hu, ht.mono (Keep.refl _ _) (fun c hc => .inl (hO c hc))⟩
theorem HB.back {m m2 : Nat → Option Value} {w : World} {O O2 : Nat → Prop} {φ : List (Nat × Nat)} {I : List Nat} (hm : ∀ b ∈ I, ∀ v, m2 (rn φ b) = some v → m b = some v) (hO : ∀ c, O c → O2 c) {b : Nat} {k : Blk} (hb : b ∈ I) (hi : k.inI I = true) (h : HB m2 w O2 (rn φ b) (k.ren φ)) : HB m w O b k := by
  cases k with
  | dead => trivial
  | box ty c =>
    have h : HB m2 w O2 (rn φ b) (.box ty (renL φ c)) := h
    rw [renL_map] at h
    obtain ⟨g, vs, h1, h2, h3, h4, h5⟩ := h
    refine ⟨g, vs, hm _ hb _ h1, h2, by simpa using h3, fun x hx => by rw [← one_ren φ x]; exact h4 _ (List.mem_map.2 ⟨x, hx, rfl⟩), fun i x y hx hy => ?_⟩
    exact HA.back hm hO (inL_mem hi x (List.mem_of_getElem? hx)) (h5 i _ y (by rw [List.getElem?_map, hx]; rfl) hy)
  | row ty sz l =>
    obtain ⟨v, xs, h1, h2, h3, h4⟩ := h
    refine ⟨v, xs, hm _ hb _ h1, h2, h3, fun i j x y hx hy => ?_⟩
    obtain ⟨u, hu, ht⟩ := h4 i j x y hx hy
    exact ⟨u, hu, ht.mono (Keep.refl _ _) (fun c hc => .inl (hO c hc))⟩
  | arr ty sz l N =>
    obtain ⟨g, cur, h1, h2, h3, h4, h5, h6, h7⟩ := h
    refine ⟨g, cur, hm _ hb _ h1, h2, h3, h4, h5, h6, fun i j x y hx hy => ?_⟩
    obtain ⟨u, hu, ht⟩ := h7 i j x y hx hy
    exact ⟨u, hu, ht.mono (Keep.refl _ _) (fun c hc => .inl (hO c hc))⟩
theorem live_ren (φ : List (Nat × Nat)) (k : Blk) : (k.ren φ).live ↔ k.live := by cases k <;> exact Iff.rfl
/-! ### contracts -/
abbrev Mem (w0 : Bse) (X O0 D : Nat → Prop) (m : Nat → Option Value) (hf : Hp) (w : World) : Prop := ∃ a, Rel w0 X O0 D m (fun _ => .un) hf a w
theorem Rel.mem {w0 : Bse} {X O0 D : Nat → Prop} {m : Nat → Option Value} {tf : Nat → AV} {hf : Hp} {a : Act} {w : World} (h : Rel w0 X O0 D m tf hf a w) : Mem w0 X O0 D m hf w := ⟨a, { h with tmp := fun _ => .un _ }⟩
/-- A call: with these arguments, and these blocks, the function comes back, and Q holds of its result and of the blocks. -/
def Ct (P : Program) (f : FuncId) (args : List AV) (H : Heap) (Q : AV → Heap → Prop) : Prop :=
  (∃ fn, P.funcs[f]? = some fn ∧ (fn.name == "runtime.NumGoroutine") = false ∧ fn.body.isSome = true) ∧
  ∀ (w0 : World) (X : Nat → Prop) (m : Nat → Option Value) (vals : List Value), Mem ⟨w0, m⟩ X (Owm m (lookH H)) (fun b => b ∈ ids H) m (lookH H) w0 → vals.length = args.length → (∀ (i : Nat) x v, args[i]? = some x → vals[i]? = some v → HA m w0 (Own X m (lookH H)) x v) →
    Calls P f vals.toArray w0 fun e w' => ∃ v r H' m', e = .returned v ∧ Q r H' ∧ HA m' w' (Own X m' (lookH H')) r v ∧ Mem ⟨w0, m⟩ X (Owm m (lookH H)) (fun b => b ∈ ids H') m' (lookH H') w'
/-- Of data alone. -/
def CtT (P : Program) (f : FuncId) (ts : List T) (Q : AV → Heap → Prop) : Prop := Ct P f (ts.map .t) [] Q
theorem Ct.mono {P : Program} {f : FuncId} {args : List AV} {H : Heap} {Q Q' : AV → Heap → Prop} (h : Ct P f args H Q) (hq : ∀ r H', Q r H' → Q' r H') : Ct P f args H Q' :=
  ⟨h.1, fun w0 X m vals h1 h2 h3 => (h.2 w0 X m vals h1 h2 h3).mono fun e w' ⟨v, r, H', m', q1, q2, q3⟩ => ⟨v, r, H', m', q1, hq _ _ q2, q3⟩⟩
/-- The result, and the blocks. -/
def Ret (r : AV) (H : Heap) : AV → Heap → Prop := fun r' H' => r' = r ∧ H' = H
end Go.YtbbcnmfmncgffaaE
