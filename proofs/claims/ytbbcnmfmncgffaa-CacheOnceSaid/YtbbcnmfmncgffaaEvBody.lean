/-
  A function's text, reckoned; loops; what a function leaves.
  Written by hand for this claim's session.
-/
import Derived.Test.YtbbcnmfmncgffaaEvEv
namespace Go.YtbbcnmfmncgffaaE
open Go.RowKit
set_option linter.unusedVariables false
set_option linter.unusedSimpArgs false
inductive Ex where
  | normal
  | exit (id : Nat)
  | ret
abbrev K2 := Ex → Tmps → Heap → Prop
/-- What is known of one state is known of another one. -/
def Le (B : List Nat) (tm : Tmps) (H : Heap) (tm' : Tmps) (H' : Heap) : Prop :=
  ∀ (w0 : Bse) (X O0 : Nat → Prop) (m : Nat → Option Value) (a : Act) (w : World), (∀ b v, w0.m b = some v → b ∈ B) → Rel w0 X O0 (fun b => b ∈ ids H) m (lookT tm) (lookH H) a w → ∃ m', Rel w0 X O0 (fun b => b ∈ ids H') m' (lookT tm') (lookH H') a w
/-- A loop: what holds at its head is told with something, and a number that falls. -/
def LoopOb (B : List Nat) (f : Tmps → Heap → K2 → Prop) (tm : Tmps) (H : Heap) (k : K2) : Prop :=
  ∃ (Y : Type) (It : Y → Tmps) (Ih : Y → Heap) (G : Y → Prop) (mu : Y → Nat) (y0 : Y), G y0 ∧ Le B tm H (It y0) (Ih y0) ∧ ∀ y, G y → f (It y) (Ih y) fun e tm' H' => match e with
    | .normal => ∃ z, G z ∧ Le B tm' H' (It z) (Ih z) ∧ mu z < mu y
    | .exit i => k (.exit i) tm' H'
    | .ret => k .ret tm' H'
def evCond (c : Operand) (tm : Tmps) (f g : Tmps → Prop) : Prop :=
  match opd (lookT tm) c with
  | .t (.v (.bool b)) => (match c with
    | .tmp t => @Bool.rec (fun _ => Prop) (g ((t, .bool false) :: tm)) (f ((t, .bool true) :: tm)) b
    | _ => @Bool.rec (fun _ => Prop) (g tm) (f tm) b)
  | .ab p q => (match c with
    | .tmp t => (p → f ((t, .bool true) :: tm)) ∧ (q → g ((t, .bool false) :: tm))
    | _ => False)
  | _ => False
def ev (P : Program) (n : Nat) (B : List Nat) : Code → Tmps → Heap → K2 → Prop
  | .skip, tm, H, k => k .normal tm H
  | .label _, tm, H, k => k .normal tm H
  | .region _ ops d, tm, H, k => evRegion P n ops.toList d tm H (k .normal)
  | .seq a b, tm, H, k => ev P n B a tm H fun e tm H => match e with
    | .normal => ev P n B b tm H k
    | .exit i => k (.exit i) tm H
    | .ret => k .ret tm H
  | .cond c a b, tm, H, k => evCond c tm (fun tm => ev P n B a tm H k) (fun tm => ev P n B b tm H k)
  | .block id c, tm, H, k => ev P n B c tm H fun e tm H => match e with
    | .normal => k .normal tm H
    | .exit i => bif Nat.beq i id then k .normal tm H else k (.exit i) tm H
    | .ret => k .ret tm H
  | .loop c, tm, H, k => LoopOb B (ev P n B c) tm H k
  | .exit i, tm, H, k => k (.exit i) tm H
  | .ret, tm, H, k => k .ret tm H
  | _, _, _, _ => False
def Ex.to : Ex → Exit
  | .normal => .normal
  | .exit i => .exit i
  | .ret => .ret
/-- The loop's rule: what holds at its head is told with a number that falls. -/
theorem wp_loopg {P : Program} {Q : Exit → Act → World → Prop} {c : Code} {a : Act} {w : World} (J : Nat → Act → World → Prop) (q : Nat) (h0 : J q a w) (round : ∀ q a w, J q a w → c.wp P (Exit.then (fun a' w' => ∃ r, r < q ∧ J r a' w') Q) a w) : (Code.loop c).wp P Q a w := by
  classical
  have hex : ∀ a w, (∃ q, J q a w) → ∃ m, J m a w ∧ ∀ r, J r a w → m ≤ r := by
    intro a w ⟨q, hq⟩
    induction q using Nat.strongRecOn with
    | _ q ih =>
      by_cases h : ∃ r, r < q ∧ J r a w
      · obtain ⟨r, hr, hj⟩ := h; exact ih r hr hj
      · exact ⟨q, hq, fun r hr => Nat.le_of_not_lt fun hl => h ⟨r, hl, hr⟩⟩
  let μ : Act → World → Nat := fun a w => if h : ∃ q, J q a w then Classical.choose (hex a w h) else 0
  have hμ : ∀ a w q, J q a w → J (μ a w) a w ∧ μ a w ≤ q := by
    intro a w q hq
    have h : ∃ q, J q a w := ⟨q, hq⟩
    simp only [μ, dif_pos h]
    have := Classical.choose_spec (hex a w h)
    exact ⟨this.1, this.2 q hq⟩
  refine wp_loop (fun a w => ∃ q, J q a w) μ ⟨q, h0⟩ ?_
  rintro a w ⟨q, hq⟩
  refine wp_mono (round (μ a w) a w (hμ a w q hq).1) ?_
  intro e a' w' h
  cases e with
  | normal => obtain ⟨r, hr, hj⟩ := h; exact ⟨⟨r, hj⟩, Nat.lt_of_le_of_lt (hμ a' w' r hj).2 hr⟩
  | exit id => exact h
  | goto l => exact h
  | ret => exact h
  | panic ch => exact h
  | outgrown => exact h
section
variable {P : Program} {n : Nat} {B : List Nat} {w0 : Bse} {X O0 : Nat → Prop}
theorem ev_sound (hB : ∀ b v, w0.m b = some v → b ∈ B) : ∀ (c : Code) (tm : Tmps) (H : Heap) (k : K2) (Q : Exit → Act → World → Prop) (m : Nat → Option Value) (a : Act) (w : World), ev P n B c tm H k → Rel w0 X O0 (fun b => b ∈ ids H) m (lookT tm) (lookH H) a w → a.tmps.size = n →
    (∀ e tm' H' m a' w', k e tm' H' → Rel w0 X O0 (fun b => b ∈ ids H') m (lookT tm') (lookH H') a' w' → a'.tmps.size = n → a'.defers = a.defers → Q e.to a' w') → c.wp P Q a w := by
  intro c
  induction c with
  | skip => intro tm H k Q m a w h hR hn hk; exact wp_skip (hk .normal tm H m a w h hR hn rfl)
  | label l => intro tm H k Q m a w h hR hn hk; exact wp_label (hk .normal tm H m a w h hR hn rfl)
  | region id ops d =>
    intro tm H k Q m a w h hR hn hk
    exact evRegion_sound h hR hn (fun tm' H' m a' w' h1 h2 h3 h4 => hk .normal tm' H' m a' w' h1 h2 h3 h4)
  | seq x y ihx ihy =>
    intro tm H k Q m a w h hR hn hk
    refine wp_seq (ihx tm H _ _ m a w h hR hn ?_)
    intro e tm' H' m' a' w' h1 h2 h3 h4
    cases e with
    | normal => exact ihy tm' H' k Q m' a' w' h1 h2 h3 (fun e tm2 H2 m2 a2 w2 q1 q2 q3 q4 => hk e tm2 H2 m2 a2 w2 q1 q2 q3 (q4.trans h4))
    | exit i => exact hk (.exit i) tm' H' m' a' w' h1 h2 h3 h4
    | ret => exact hk .ret tm' H' m' a' w' h1 h2 h3 h4
  | cond c x y ihx ihy =>
    intro tm H k Q m a w h hR hn hk
    have h' : evCond c tm (fun tm => ev P n B x tm H k) (fun tm => ev P n B y tm H k) := h
    unfold evCond at h'
    split at h'
    · rename_i b hb
      have hc := opd_told hR c
      rw [hb] at hc
      refine wp_cond hc.v_eq ?_
      have main : (if b = true then ev P n B x tm H k else ev P n B y tm H k) → (if b = true then x else y).wp P Q a w := by
        intro h
        cases b
        · exact ihy tm H k Q m a w h hR hn hk
        · exact ihx tm H k Q m a w h hR hn hk
      split at h'
      · rename_i t
        have e := lookT_same (tm := tm) (g := t) (v := .t (.v (.bool b))) hb
        cases b with
        | false => exact ihy _ H k Q m a w h' (by rw [e]; exact hR) hn hk
        | true => exact ihx _ H k Q m a w h' (by rw [e]; exact hR) hn hk
      · refine main ?_
        cases b
        · exact h'
        · exact h'
    · rename_i p q hb
      have hc := opd_told hR c
      rw [hb] at hc
      split at h'
      · rename_i t
        generalize hz : a.eval (.tmp t) = z at hc
        cases hc with
        | ab _ _ b hp hq =>
          refine wp_cond hz ?_
          have hR2 : Rel w0 X O0 (fun b => b ∈ ids H) m (lookT ((t, .bool b) :: tm)) (lookH H) a w := by
            rw [lookT_cons]
            refine { hR with tmp := fun t' => ?_ }
            unfold upT
            by_cases e : some t = some t'
            · rw [if_pos e]
              cases e
              have : get a t = .bool b := hz
              rw [this]
              exact .t _ _ (.v _)
            · rw [if_neg e]; exact hR.tmp t'
          cases b
          · exact ihy _ H k Q m a w (h'.2 (hq rfl)) hR2 hn hk
          · exact ihx _ H k Q m a w (h'.1 (hp rfl)) hR2 hn hk
      · exact h'.elim
    · exact h'.elim
  | block id c ih =>
    intro tm H k Q m a w h hR hn hk
    refine wp_block (ih tm H _ _ m a w h hR hn ?_)
    intro e tm' H' m' a' w' h1 h2 h3 h4
    cases e with
    | normal => exact hk .normal tm' H' m' a' w' h1 h2 h3 h4
    | exit i =>
      by_cases hi : i = id
      · subst hi
        have h1' : (bif Nat.beq i i then k .normal tm' H' else k (.exit i) tm' H') := h1
        simp only [Nat.beq_refl, cond_true] at h1'
        show (if i = i then Q .normal a' w' else Q (.exit i) a' w')
        rw [if_pos rfl]
        exact hk .normal tm' H' m' a' w' h1' h2 h3 h4
      · have hb : Nat.beq i id = false := by rw [Bool.eq_false_iff]; exact fun e => hi (Nat.eq_of_beq_eq_true e)
        have h1' : (bif Nat.beq i id then k .normal tm' H' else k (.exit i) tm' H') := h1
        rw [hb] at h1'
        show (if i = id then Q .normal a' w' else Q (.exit i) a' w')
        rw [if_neg hi]
        exact hk (.exit i) tm' H' m' a' w' h1' h2 h3 h4
    | ret => exact hk .ret tm' H' m' a' w' h1 h2 h3 h4
  | loop c ih =>
    intro tm H k Q m a w h hR hn hk
    obtain ⟨Y, It, Ih, G, mu, y0, hG, hle, hround⟩ := h
    obtain ⟨m1, hR1⟩ := hle w0 X O0 m a w hB hR
    refine wp_loopg (fun q a' w' => ∃ y m', mu y = q ∧ G y ∧ Rel w0 X O0 (fun b => b ∈ ids (Ih y)) m' (lookT (It y)) (lookH (Ih y)) a' w' ∧ a'.tmps.size = n ∧ a'.defers = a.defers) (mu y0) ⟨y0, m1, rfl, hG, hR1, hn, rfl⟩ ?_
    rintro q a1 w1 ⟨y, m2, rfl, hG1, hR2, hn2, hd2⟩
    refine ih (It y) (Ih y) _ _ m2 a1 w1 (hround y hG1) hR2 hn2 ?_
    intro e tm' H' m' a' w' h1 h2 h3 h4
    cases e with
    | normal =>
      obtain ⟨z, hGz, hlez, hmu⟩ := h1
      obtain ⟨m3, hR3⟩ := hlez w0 X O0 m' a' w' hB h2
      exact ⟨mu z, hmu, z, m3, rfl, hGz, hR3, h3, h4.trans hd2⟩
    | exit i => exact hk (.exit i) tm' H' m' a' w' h1 h2 h3 (h4.trans hd2)
    | ret => exact hk .ret tm' H' m' a' w' h1 h2 h3 (h4.trans hd2)
  | exit i => intro tm H k Q m a w h hR hn hk; exact wp_exit (hk (.exit i) tm H m a w h hR hn rfl)
  | ret => intro tm H k Q m a w h hR hn hk; exact wp_ret (hk .ret tm H m a w h hR hn rfl)
  | rangeFunc f params assign body ih1 ih2 => intro tm H k Q m a w h; exact h.elim
  | scope body ih => intro tm H k Q m a w h; exact h.elim
  | goto l => intro tm H k Q m a w h; exact h.elim
  | refuse why => intro tm H k Q m a w h; exact h.elim
end
end Go.YtbbcnmfmncgffaaE
