/-
  Small helps for walks: a branch, a slice not yet made in a variable's field.
  Written by hand for this claim's session.
-/
import Derived.Test.YtbmljgahpicmbaaEvTold
import Derived.Laws.Strings
namespace Go.YtbmljgahpicmbaaE
open Go.RowKit
set_option linter.unusedVariables false
set_option linter.unusedSimpArgs false
theorem brB {b : Bool} {A B : Prop} (h1 : b = true → A) (h0 : b = false → B) : @Bool.rec (fun _ => Prop) B A b := by
  cases b
  · exact h0 rfl
  · exact h1 rfl
/-- A branch whose answer is known. -/
theorem brT {b : Bool} {A B : Prop} (h : b = true) (h1 : A) : @Bool.rec (fun _ => Prop) B A b := by subst h; exact h1
theorem brF {b : Bool} {A B : Prop} (h : b = false) (h1 : B) : @Bool.rec (fun _ => Prop) B A b := by subst h; exact h1
/-- No slice yet in a variable's field: a row of no elements. -/
theorem Le.nilBox {B : List Nat} {tm : Tmps} {H : Heap} (p i b : Nat) (vt ty sz : Nat) (cells : List AV) (h : lookH H p = (false, .box vt cells)) (hi : cells[i]? = some (.t (.v (.slice none 0 0)))) (hb : memN b (ids H) = false) :
    Le B tm H tm ((b, false, .row ty sz []) :: (p, false, .box vt (cells.set i (.own b))) :: H) := by
  intro w0 X O0 m a w hB hR
  have hb' : b ∉ ids H := fun e => by rw [memN_iff.2 e] at hb; cases hb
  have hp : p ∈ ids H := by
    refine Classical.byContradiction fun hn => ?_
    have h2 := hR.blk p
    rw [h] at h2
    obtain ⟨g, vs, h1, _⟩ := h2
    rw [hR.dom p hn] at h1; cases h1
  have hpb : p ≠ b := fun e => hb' (e ▸ hp)
  refine ⟨upM m b (.slice none 0 0), ?_⟩
  have hin : lookH ((b, false, .row ty sz []) :: (p, false, .box vt (cells.set i (.own b))) :: H) b = (false, .row ty sz []) := by unfold lookH; rw [look_cons, if_pos rfl]
  have hinp : lookH ((b, false, .row ty sz []) :: (p, false, .box vt (cells.set i (.own b))) :: H) p = (false, .box vt (cells.set i (.own b))) := by unfold lookH; rw [look_cons, if_neg (fun e => hpb e.symm), look_cons, if_pos rfl]
  have hout : ∀ b', b' ≠ b → b' ≠ p → lookH ((b, false, .row ty sz []) :: (p, false, .box vt (cells.set i (.own b))) :: H) b' = lookH H b' := fun b' h1 h2 => by unfold lookH; rw [look_cons, if_neg (fun e => h1 e.symm), look_cons, if_neg (fun e => h2 e.symm)]
  refine hR.step (fun _ => False) (But.refl _ _) (fun _ h => h.elim) (fun b' v hv => ?_) (fun b' hb2 => ?_) (fun b' => ?_) (fun t' => .inl ⟨rfl, rfl⟩)
  · by_cases e : b' = b
    · subst e; rw [hR.dom b' hb'] at hv; cases hv
    · rw [upM_ne e]; exact hv
  · have e : b' ≠ b := fun e => hb2 (by rw [e]; exact List.mem_cons_self ..)
    rw [upM_ne e]
    exact hR.dom b' (fun hx => hb2 (List.mem_cons_of_mem _ (List.mem_cons_of_mem _ hx)))
  · by_cases e : b' = b
    · subst e
      rw [hin]
      refine .inr ⟨fun _ => ⟨.slice none 0 0, [], upM_self, World.ownsRow_nil _ _ _ _, by simp, fun i j x y hx => by simp at hx⟩, fun _ c hc => ?_⟩
      simp [bk, upM_self, blockOf] at hc
    · by_cases e2 : b' = p
      · subst e2
        rw [hinp]
        refine .inr ⟨fun hO' => ?_, fun _ c hc => ?_⟩
        · have h2 := hR.blk b'
          rw [h] at h2
          obtain ⟨g, vs, h1, h2, h3, h4, h5⟩ := h2
          refine ⟨g, vs, by rw [upM_ne e]; exact h1, h2, by simpa using h3, fun x hx => ?_, fun j x y hx hy => ?_⟩
          · rcases List.mem_or_eq_of_mem_set hx with h6 | h6
            · exact h4 x h6
            · subst h6; rfl
          · by_cases hij : i = j
            · subst hij
              have hlt : i < cells.length := (List.getElem?_eq_some_iff.1 hi).1
              rw [List.getElem?_set_self hlt] at hx
              cases hx
              have h6 := (h5 i _ y hi hy).v_eq
              rw [h6]
              exact .own _ _ upM_self rfl
            · rw [List.getElem?_set_ne hij] at hx
              exact (h5 j x y hx hy).mono (Keep.refl _ _) hO' (fun b2 v hv => by
                by_cases e3 : b2 = b
                · subst e3; rw [hR.dom b2 hb'] at hv; cases hv
                · rw [upM_ne e3]; exact hv)
        · have hbk : bk m b' = some c := by unfold bk at hc ⊢; rw [upM_ne e] at hc; exact hc
          have hl : (lookH H b').2.live := by rw [h]; trivial
          refine ⟨.inr ⟨b', by rw [h], hl, hbk⟩, fun b2 hne _ hl2 hc2 => ?_⟩
          by_cases e3 : b2 = b
          · subst e3
            simp [bk, upM_self, blockOf] at hc2
          · rw [hout b2 e3 hne] at hl2
            have hbk2 : bk m b2 = some c := by unfold bk at hc2 ⊢; rw [upM_ne e3] at hc2; exact hc2
            exact hR.sep b' b2 (fun e => hne e.symm) (by rw [h]) hl hl2 c hbk hbk2
      · exact .inl ⟨hout b' e e2, upM_ne e, fun _ _ _ h => h⟩
/-- What a place leads to, as data from now on. -/
theorem Le.flat {B : List Nat} {tm : Tmps} {H : Heap} (t : Nat) (x : T) (h : toT (lookH H) 30 (lookT tm t) = some x) : Le B tm H ((t, .t x) :: tm) (frz (lookH H) (reach (lookH H) 30 (lookT tm t)) [] ++ H) := by
  intro w0 X O0 m a w hB hR
  obtain ⟨h1, h2⟩ := hR.view (L := reach (lookH H) 30 (lookT tm t)) rfl
  refine ⟨m, ?_⟩
  rw [lookH_append, lookT_cons]
  refine ⟨fun t' => ?_, h1.blk, fun b hb => h1.dom b (fun hx => hb ((ids_append _ _ b).2 (.inr hx))), h1.sep, h1.xsep, h1.xold, h1.old, h1.fr, h1.base⟩
  unfold upT
  by_cases e : some t = some t'
  · rw [if_pos e]
    cases e
    exact .t _ _ (h2 30 _ x _ h (fun b hb => hb) (hR.tmp t))
  · rw [if_neg e]
    exact h1.tmp t'
theorem wi {n : Int} (h0 : -9223372036854775808 ≤ n) (h1 : n < 9223372036854775808) : IntKind.i64.wrap n = n := by
  simp [IntKind.wrap, IntKind.signed, IntKind.bits]
  omega
theorem wb (n : Int) : IntKind.u8.wrap n = n % 256 := by
  simp [IntKind.wrap, IntKind.signed, IntKind.bits]
theorem wb' {n : Int} (h0 : 0 ≤ n) (h1 : n < 256) : IntKind.u8.wrap n = n := by rw [wb]; omega
/-! ### strings of bytes -/
theorem strOf_data (xs : List Int) : (strOf xs).data.toList = xs.map fun n => UInt8.ofNat n.toNat := by
  have key : ∀ (xs : List Int) (r : ByteArray), (xs.foldl (fun r n => r.push (UInt8.ofNat n.toNat)) r).data.toList = r.data.toList ++ xs.map fun n => UInt8.ofNat n.toNat := by
    intro xs
    induction xs with
    | nil => intro r; simp
    | cons x xs ih =>
      intro r
      rw [List.foldl_cons, ih]
      simp
  exact (key xs ByteArray.empty).trans (by simp)
theorem strOf_lit {xs : List Int} {a : Array UInt8} (h : xs.map (fun n => UInt8.ofNat n.toNat) = a.toList) : decide ((strOf xs).toList = (ByteArray.mk a).toList) = true := by
  rw [decide_eq_true_eq, ByteArray.toList_eq, ByteArray.toList_eq, strOf_data]
  exact h
theorem strOf_eq {xs ys : List Int} (hx : ∀ x ∈ xs, 0 ≤ x ∧ x < 256) (hy : ∀ x ∈ ys, 0 ≤ x ∧ x < 256) : (strOf xs).toList = (strOf ys).toList ↔ xs = ys := by
  rw [ByteArray.toList_eq, ByteArray.toList_eq, strOf_data, strOf_data]
  refine ⟨fun h => ?_, fun h => by rw [h]⟩
  induction xs generalizing ys with
  | nil => cases ys with
    | nil => rfl
    | cons y ys => cases h
  | cons x xs ih => cases ys with
    | nil => cases h
    | cons y ys =>
      simp only [List.map_cons, List.cons.injEq] at h
      have h1 := hx x (List.mem_cons_self ..)
      have h2 := hy y (List.mem_cons_self ..)
      have h3 : x.toNat = y.toNat := by
        have h4 := congrArg UInt8.toNat h.1
        simp only [UInt8.toNat_ofNat'] at h4
        omega
      rw [ih (fun z hz => hx z (List.mem_cons_of_mem _ hz)) (fun z hz => hy z (List.mem_cons_of_mem _ hz)) h.2, show x = y by omega]
end Go.YtbmljgahpicmbaaE
