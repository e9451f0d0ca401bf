/-
  Regions: operations in a row, and in any order.
  Written by hand for this claim's session.
-/
import Derived.Test.YtbbcnmfmncgffaaEvLit
import Derived.Tactics
namespace Go.YtbbcnmfmncgffaaE
open Go.RowKit
set_option linter.unusedVariables false
set_option linter.unusedSimpArgs false
structure Rec where
  v : AV
  W : Heap
  R : List Nat
  N : List Nat
def gdst (ops : Array Oper) (o : Oper) : Option Tmp := match o.guard with
  | none => none
  | some (j, _) => (ops[j]?).bind (·.dst)
/-- Is the operation wanted, in a state? -/
inductive Grd (ops : Array Oper) (o : Oper) (tf : Nat → AV) : Bool → Prop
  | none (h : o.guard = none) : Grd ops o tf true
  | some (j g : Nat) (want c : Bool) (h : o.guard = some (j, want)) (hg : (ops[j]?).bind (·.dst) = some g) (hc : tf g = .t (.v (.bool c))) : Grd ops o tf (c == want)
  | off (j g : Nat) (want : Bool) (h : o.guard = some (j, want)) (hg : (ops[j]?).bind (·.dst) = some g) (hc : tf g = .t (.v undef)) : Grd ops o tf false
def Stp (P : Program) (ops : Array Oper) (o : Oper) (tf : Nat → AV) (hf : Hp) (r : Rec) : Prop :=
  (Grd ops o tf true ∧ OpLoc P o r.R tf hf r.v r.W r.N) ∨ (Grd ops o tf false ∧ r = ⟨.t (.v undef), [], [], []⟩)
inductive Run (P : Program) (ops : Array Oper) : List Oper → (Nat → AV) → Hp → (Nat → Prop) → List Rec → (Nat → AV) → Hp → (Nat → Prop) → Prop
  | nil (tf : Nat → AV) (hf : Hp) (D : Nat → Prop) : Run P ops [] tf hf D [] tf hf D
  | cons (o : Oper) (os : List Oper) (tf tf' : Nat → AV) (hf hf' : Hp) (D D2 D' : Nat → Prop) (r : Rec) (rs : List Rec) (h : Stp P ops o tf hf r) (hN : ∀ n ∈ r.N, ¬ D n) (hD : ∀ b, D b ∨ b ∈ r.N → D2 b) (hr : Run P ops os (upT tf o.dst r.v) (upH hf r.W) D2 rs tf' hf' D') : Run P ops (o :: os) tf hf D (r :: rs) tf' hf' D'
section
variable {P : Program} {ops : Array Oper} {Q : Exit → Act → World → Prop} {w0 : Bse} {X O0 : Nat → Prop}
theorem get_bool {a : Act} {g : Nat} {v : Value} (h : get a g = v) (b : Bool) (hv : v = .bool b) : (match a.tmps[g]? with | some (.bool b) => some b | _ => none) = some b := by
  subst hv
  unfold get at h
  rw [Array.getD_eq_getD_getElem?] at h
  cases hx : a.tmps[g]? with
  | none => rw [hx] at h; simp [undef] at h
  | some x => rw [hx] at h; simp at h; subst h; rfl
theorem grd_wanted {o : Oper} {tf : Nat → AV} {hf : Hp} {D : Nat → Prop} {m : Nat → Option Value} {a : Act} {w : World} {b : Bool} (hR : Rel w0 X O0 D m tf hf a w) (h : Grd ops o tf b) : Region.wanted o (yielded ops a.tmps) = b := by
  cases h with
  | none h => simp [Region.wanted, h]
  | some j g want c h hg hc =>
    have h1 := hR.tmp g
    rw [hc] at h1
    have : yielded ops a.tmps j = some c := by
      unfold yielded
      rw [hg]
      exact get_bool h1.v_eq c rfl
    unfold Region.wanted
    rw [h]
    simp only [this]
    cases c <;> cases want <;> rfl
  | off j g want h hg hc =>
    have h1 := hR.tmp g
    rw [hc] at h1
    have h2 := h1.v_eq
    have : yielded ops a.tmps j = none := by
      unfold yielded
      rw [hg]
      show (match a.tmps[g]? with | some (.bool b) => some b | _ => none) = none
      unfold get at h2
      rw [Array.getD_eq_getD_getElem?] at h2
      cases hx : a.tmps[g]? with
      | none => rfl
      | some x => rw [hx] at h2; simp at h2; subst h2; rfl
    unfold Region.wanted
    rw [h]
    simp only [this]
    cases want <;> rfl
theorem Rel.weaken {tf : Nat → AV} {hf : Hp} {D D2 : Nat → Prop} {m : Nat → Option Value} {a : Act} {w : World} (h : Rel w0 X O0 D m tf hf a w) (hD : ∀ b, D b → D2 b) : Rel w0 X O0 D2 m tf hf a w :=
  { h with dom := fun b hb => h.dom b (fun x => hb (hD b x)) }
/-- One operation. -/
theorem stp_wp {o : Oper} {tf : Nat → AV} {hf : Hp} {D : Nat → Prop} {m : Nat → Option Value} {a : Act} {w : World} {r : Rec} (hR : Rel w0 X O0 D m tf hf a w) (h : Stp P ops o tf hf r) (hd : ∀ x, o.dst = some x → x < a.tmps.size) (hN : ∀ n ∈ r.N, ¬ D n) {K : Act → World → Prop}
    (hK : ∀ u m' w', Rel w0 X O0 (fun b => D b ∨ b ∈ r.N) m' (upT tf o.dst r.v) (upH hf r.W) (a.put o.dst u) w' → K (a.put o.dst u) w') :
    (if Region.wanted o (yielded ops a.tmps) = true then o.wp P a w K Q ∨ (o.asks P a w ∧ LetsOut Q) else K (a.put o.dst undef) w) := by
  rcases h with ⟨hg, hl⟩ | ⟨hg, rfl⟩
  · rw [if_pos (grd_wanted hR hg)]
    refine .inl (Oper.wp_mono ?_ (hl.2 tf hf (fun _ _ => rfl) (fun _ _ => rfl) w0 X O0 D m a w Q hR hd hN))
    rintro a' w' ⟨u, m', rfl, hR'⟩
    exact hK u m' w' hR'
  · rw [if_neg (by rw [grd_wanted hR hg]; simp)]
    refine hK undef m w ?_
    have := hR.put o.dst (.t (.v undef)) undef hd (But.refl w _) (.t _ _ (.v _))
    simpa [upH_nil] using this
theorem run_plain {os : List Oper} {tf tf' : Nat → AV} {hf hf' : Hp} {D D' : Nat → Prop} {rs : List Rec} (h : Run P ops os tf hf D rs tf' hf' D') : ∀ {m : Nat → Option Value} {a : Act} {w : World} {n : Nat}, Rel w0 X O0 D m tf hf a w → a.tmps.size = n → (∀ o ∈ os, ∀ x, o.dst = some x → x < n) →
    (∀ m a' w', Rel w0 X O0 D' m tf' hf' a' w' → a'.tmps.size = n → a'.defers = a.defers → Q .normal a' w') → wpList P ops Q os a w := by
  induction h with
  | nil tf hf D => intro m a w n hR hn _ hk; exact hk m a w hR hn rfl
  | cons o os tf tf' hf hf' D D2 D' r rs h hN hD hr ih =>
    intro m a w n hR hn hd hk
    have hd' : ∀ x, o.dst = some x → x < a.tmps.size := fun x hx => by rw [hn]; exact hd o (by simp) x hx
    refine stp_wp hR h hd' hN fun u m' w' hR' => ?_
    exact ih (hR'.weaken hD) (by rw [size_put, hn]) (fun o' ho' => hd o' (List.mem_cons_of_mem _ ho')) (fun m a' w' h1 h2 h3 => hk m a' w' h1 h2 (h3.trans defers_put))
/-- A region in its own order. -/
theorem region_plain {id : Nat} {tf tf' : Nat → AV} {hf hf' : Hp} {D D' : Nat → Prop} {rs : List Rec} {m : Nat → Option Value} {a : Act} {w : World} {n : Nat} (h : Run P ops ops.toList tf hf D rs tf' hf' D') (hR : Rel w0 X O0 D m tf hf a w) (hn : a.tmps.size = n) (hd : ∀ o ∈ ops.toList, ∀ x, o.dst = some x → x < n)
    (hk : ∀ m a' w', Rel w0 X O0 D' m tf' hf' a' w' → a'.tmps.size = n → a'.defers = a.defers → Q .normal a' w') : (Code.region id ops false).wp P Q a w := by
  refine wp_region ?_
  rw [List.range_eq_range', show ops.size = ops.toList.length by simp, wpOps_eq_wpList ops.toList 0 (fun j => by simp)]
  exact run_plain h hR hn hd hk
end
end Go.YtbbcnmfmncgffaaE
