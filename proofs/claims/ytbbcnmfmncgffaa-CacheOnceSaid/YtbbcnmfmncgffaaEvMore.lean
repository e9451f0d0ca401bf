/-
  Small helps for walks: a branch, a slice not yet made in a variable's field.
  Written by hand for this claim's session.
-/
import Derived.Test.YtbbcnmfmncgffaaEvTold
import Derived.Laws.Strings
namespace Go.YtbbcnmfmncgffaaE
open Go.RowKit
set_option linter.unusedVariables false
set_option linter.unusedSimpArgs false
theorem brB {b : Bool} {A B : Prop} (h1 : b = true → A) (h0 : b = false → B) : @Bool.rec (fun _ => Prop) B A b := by
  cases b
  · exact h0 rfl
  · exact h1 rfl
/-- A branch whose answer is known. -/
theorem brT {b : Bool} {A B : Prop} (h : b = true) (h1 : A) : @Bool.rec (fun _ => Prop) B A b := by subst h; exact h1
theorem brF {b : Bool} {A B : Prop} (h : b = false) (h1 : B) : @Bool.rec (fun _ => Prop) B A b := by subst h; exact h1
/-- No slice yet in a variable's field: a row of no elements. -/
theorem Le.nilBox {B : List Nat} {tm : Tmps} {H : Heap} (p i b : Nat) (vt ty sz : Nat) (cells : List AV) (h : lookH H p = (false, .box vt cells)) (hi : cells[i]? = some (.t (.v (.slice none 0 0)))) (hb : memN b (ids H) = false) :
    Le B tm H tm ((b, false, .row ty sz []) :: (p, false, .box vt (cells.set i (.own b))) :: H) := by
  intro w0 X O0 m a w hB hR
  have hb' : b ∉ ids H := fun e => by rw [memN_iff.2 e] at hb; cases hb
  have hp : p ∈ ids H := by
    refine Classical.byContradiction fun hn => ?_
    have h2 := hR.blk p
    rw [h] at h2
    obtain ⟨g, vs, h1, _⟩ := h2
    rw [hR.dom p hn] at h1; cases h1
  have hpb : p ≠ b := fun e => hb' (e ▸ hp)
  refine ⟨upM m b (.slice none 0 0), ?_⟩
  have hin : lookH ((b, false, .row ty sz []) :: (p, false, .box vt (cells.set i (.own b))) :: H) b = (false, .row ty sz []) := by unfold lookH; rw [look_cons, if_pos rfl]
  have hinp : lookH ((b, false, .row ty sz []) :: (p, false, .box vt (cells.set i (.own b))) :: H) p = (false, .box vt (cells.set i (.own b))) := by unfold lookH; rw [look_cons, if_neg (fun e => hpb e.symm), look_cons, if_pos rfl]
  have hout : ∀ b', b' ≠ b → b' ≠ p → lookH ((b, false, .row ty sz []) :: (p, false, .box vt (cells.set i (.own b))) :: H) b' = lookH H b' := fun b' h1 h2 => by unfold lookH; rw [look_cons, if_neg (fun e => h1 e.symm), look_cons, if_neg (fun e => h2 e.symm)]
  refine hR.step (fun _ => False) (But.refl _ _) (fun _ h => h.elim) (fun b' v hv => ?_) (fun b' hb2 => ?_) (fun b' => ?_) (fun t' => .inl ⟨rfl, rfl⟩)
  · by_cases e : b' = b
    · subst e; rw [hR.dom b' hb'] at hv; cases hv
    · rw [upM_ne e]; exact hv
  · have e : b' ≠ b := fun e => hb2 (by rw [e]; exact List.mem_cons_self ..)
    rw [upM_ne e]
    exact hR.dom b' (fun hx => hb2 (List.mem_cons_of_mem _ (List.mem_cons_of_mem _ hx)))
  · by_cases e : b' = b
    · subst e
      rw [hin]
      refine .inr ⟨fun _ => ⟨.slice none 0 0, [], upM_self, World.ownsRow_nil _ _ _ _, by simp, fun i j x y hx => by simp at hx⟩, fun _ c hc => ?_⟩
      simp [bk, upM_self, blockOf] at hc
    · by_cases e2 : b' = p
      · subst e2
        rw [hinp]
        refine .inr ⟨fun hO' => ?_, fun _ c hc => ?_⟩
        · have h2 := hR.blk b'
          rw [h] at h2
          obtain ⟨g, vs, h1, h2, h3, h4, h5⟩ := h2
          refine ⟨g, vs, by rw [upM_ne e]; exact h1, h2, by simpa using h3, fun x hx => ?_, fun j x y hx hy => ?_⟩
          · rcases List.mem_or_eq_of_mem_set hx with h6 | h6
            · exact h4 x h6
            · subst h6; rfl
          · by_cases hij : i = j
            · subst hij
              have hlt : i < cells.length := (List.getElem?_eq_some_iff.1 hi).1
              rw [List.getElem?_set_self hlt] at hx
              cases hx
              have h6 := (h5 i _ y hi hy).v_eq
              rw [h6]
              exact .own _ _ upM_self rfl
            · rw [List.getElem?_set_ne hij] at hx
              exact (h5 j x y hx hy).mono (Keep.refl _ _) hO' (fun b2 v hv => by
                by_cases e3 : b2 = b
                · subst e3; rw [hR.dom b2 hb'] at hv; cases hv
                · rw [upM_ne e3]; exact hv)
        · have hbk : bk m b' = some c := by unfold bk at hc ⊢; rw [upM_ne e] at hc; exact hc
          have hl : (lookH H b').2.live := by rw [h]; trivial
          refine ⟨.inr ⟨b', by rw [h], hl, hbk⟩, fun b2 hne _ hl2 hc2 => ?_⟩
          by_cases e3 : b2 = b
          · subst e3
            simp [bk, upM_self, blockOf] at hc2
          · rw [hout b2 e3 hne] at hl2
            have hbk2 : bk m b2 = some c := by unfold bk at hc2 ⊢; rw [upM_ne e3] at hc2; exact hc2
            exact hR.sep b' b2 (fun e => hne e.symm) (by rw [h]) hl hl2 c hbk hbk2
      · exact .inl ⟨hout b' e e2, upM_ne e, fun _ _ _ h => h⟩
/-- What a place leads to, as data from now on. -/
theorem Le.flat {B : List Nat} {tm : Tmps} {H : Heap} (t : Nat) (x : T) (h : toT (lookH H) 30 (lookT tm t) = some x) : Le B tm H ((t, .t x) :: tm) (frz (lookH H) (reach (lookH H) 30 (lookT tm t)) [] ++ H) := by
  intro w0 X O0 m a w hB hR
  obtain ⟨h1, h2⟩ := hR.view (L := reach (lookH H) 30 (lookT tm t)) rfl
  refine ⟨m, ?_⟩
  rw [lookH_append, lookT_cons]
  refine ⟨fun t' => ?_, h1.blk, fun b hb => h1.dom b (fun hx => hb ((ids_append _ _ b).2 (.inr hx))), h1.sep, h1.xsep, h1.xold, h1.old, h1.fr, h1.base⟩
  unfold upT
  by_cases e : some t = some t'
  · rw [if_pos e]
    cases e
    exact .t _ _ (h2 30 _ x _ h (fun b hb => hb) (hR.tmp t))
  · rw [if_neg e]
    exact h1.tmp t'
/-- A row's beginning as a row of its own. -/
theorem Le.cut {B : List Nat} {tm : Tmps} {H : Heap} (t b d ty sz n : Nat) (l : List T) (h : lookT tm t = .sub b sz 0 n) (hb : lookH H b = (false, .row ty sz l)) (hn : n ≤ l.length) (hd : memN d (ids H) = false) :
    Le B tm H ((t, .own d) :: tm) ((d, false, .row ty sz (l.take n)) :: (b, false, .dead) :: H) := by
  intro w0 X O0 m a w hB hR
  have hd' : d ∉ ids H := fun e => by rw [memN_iff.2 e] at hd; cases hd
  have hbin : b ∈ ids H := by
    refine Classical.byContradiction fun hx => ?_
    rw [show lookH H b = (false, .dead) from look_none _ _ _ hx] at hb
    cases hb
  have hbd : b ≠ d := fun e => hd' (e ▸ hbin)
  have hz := hR.tmp t
  rw [h] at hz
  generalize hzz : get a t = z at hz
  have hblk := hR.blk b
  rw [hb] at hblk
  cases hz with
  | sub _ _ _ _ _ hz =>
  obtain ⟨v, xs, hm, how, hfit, hcl⟩ := hblk
  have hx1 := how.1
  -- the row's beginning
  have key : w.ownsRow 0 ty sz z n (xs.take (n * sz)) ∧ (∀ c, blockOf z = some c → bk m b = some c) := by
    have hnl : n * sz ≤ l.length * sz := Nat.mul_le_mul_right _ hn
    rcases hz with ⟨rfl, _, hnil⟩ | ⟨g, c', hc, rfl, hm' | ⟨n', c2, hm', hin, hcc⟩⟩
    · rw [hnil rfl]
      exact ⟨⟨by simp, .inl ⟨rfl, rfl⟩⟩, fun c hc => by cases hc⟩
    · rw [hm] at hm'
      simp at hm'
      subst hm'
      rcases how.2 with ⟨e, _⟩ | ⟨_, _, _, e, _⟩ <;> cases e
    · rw [hm] at hm'
      simp at hm'
      subst hm'
      rcases how.2 with ⟨e, _⟩ | ⟨g', cap, cur, e, _, hg, hcap, hcm, hcs, htake⟩
      · cases e
      simp only [Value.slice.injEq, Option.some.injEq, Addr.mk.injEq, and_true] at e
      obtain ⟨rfl, hn', rfl⟩ := e
      refine ⟨⟨by rw [List.length_take, hx1, Nat.min_eq_left hnl], .inr ⟨g, c', cur, by rw [Nat.zero_mul], Nat.zero_le _, hg, by omega, by omega, ?_, ?_⟩⟩, fun c hc => ?_⟩
      · rw [show c' = c2 by omega]; exact hcs
      · rw [← htake, List.take_take, Nat.min_eq_left hnl]
      · simp only [blockOf, Option.some.injEq] at hc
        subst hc
        simp [bk, hm, blockOf]
  refine ⟨upM m d z, ?_⟩
  have hout : ∀ b', b' ≠ d → b' ≠ b → lookH ((d, false, .row ty sz (l.take n)) :: (b, false, .dead) :: H) b' = lookH H b' := fun b' h1 h2 => by unfold lookH; rw [look_cons, if_neg (fun e => h1 e.symm), look_cons, if_neg (fun e => h2 e.symm)]
  have hin : lookH ((d, false, .row ty sz (l.take n)) :: (b, false, .dead) :: H) d = (false, .row ty sz (l.take n)) := by unfold lookH; rw [look_cons, if_pos rfl]
  have hinb : lookH ((d, false, .row ty sz (l.take n)) :: (b, false, .dead) :: H) b = (false, .dead) := by unfold lookH; rw [look_cons, if_neg (fun e => hbd e.symm), look_cons, if_pos rfl]
  refine hR.step (fun _ => False) (But.refl _ _) (fun _ h => h.elim) (fun b' v hv => ?_) (fun b' hb2 => ?_) (fun b' => ?_) (fun t' => ?_)
  · by_cases e : b' = d
    · subst e; rw [hR.dom b' hd'] at hv; cases hv
    · rw [upM_ne e]; exact hv
  · have e : b' ≠ d := fun e => hb2 (by rw [e]; exact List.mem_cons_self ..)
    rw [upM_ne e]
    exact hR.dom b' (fun hx => hb2 (List.mem_cons_of_mem _ (List.mem_cons_of_mem _ hx)))
  · by_cases e : b' = d
    · subst e
      right
      rw [hin]
      refine ⟨fun hO => ⟨z, xs.take (n * sz), upM_self, ?_, fun x hx => hfit x (List.mem_of_mem_take hx), fun i j x y hx hy => ?_⟩, fun _ c hc => ?_⟩
      · rw [List.length_take, Nat.min_eq_left hn]; exact key.1
      · rw [List.getElem?_take] at hx
        split at hx
        · rename_i hi
          obtain ⟨u, hu, ht⟩ := hcl i j x y hx hy
          have hj : j < sz := by have := (List.getElem?_eq_some_iff.1 hy).1; have := (hfit x (List.mem_of_getElem? hx)).1; omega
          exact ⟨u, by rw [List.getElem?_take, if_pos (idx_lt hi hj)]; exact hu, ht.mono (Keep.refl _ _) hO⟩
        · cases hx
      · have hc' : bk m b = some c := key.2 c (by simpa [bk, upM_self] using hc)
        refine ⟨.inr ⟨b, by rw [hb], by rw [hb]; trivial, hc'⟩, fun b2 hne _ hl2 hc2 => ?_⟩
        by_cases e2 : b2 = b
        · subst e2; rw [hinb] at hl2; exact hl2
        · rw [hout b2 hne e2] at hl2
          have hbk2 : bk m b2 = some c := by unfold bk at hc2 ⊢; rw [upM_ne hne] at hc2; exact hc2
          exact hR.sep b b2 (fun e => e2 e.symm) (by rw [hb]) (by rw [hb]; trivial) hl2 c hc' hbk2
    · by_cases e2 : b' = b
      · subst e2
        rw [hinb]
        exact .inr ⟨fun _ => trivial, fun hl => hl.elim⟩
      · exact .inl ⟨hout b' e e2, upM_ne e, fun _ _ _ h => h⟩
  · by_cases e : t' = t
    · subst e
      right
      intro _
      have e1 : lookT ((t', .own d) :: tm) t' = .own d := by unfold lookT; rw [look_cons, if_pos rfl]
      rw [e1, hzz]
      exact .own _ _ upM_self (blk_own key.1).2
    · left
      refine ⟨?_, rfl⟩
      unfold lookT
      rw [look_cons, if_neg (fun e' => e e'.symm)]
theorem Le.whole {B : List Nat} {tm : Tmps} {H : Heap} (t b ty sz : Nat) (l : List T) (h : lookT tm t = .own b) (hb : lookH H b = (false, .row ty sz l)) : Le B tm H ((t, .sub b sz 0 l.length) :: tm) H := by
  intro w0 X O0 m a w hB hR
  have hz := hR.tmp t
  rw [h] at hz
  have hblk := hR.blk b
  rw [hb] at hblk
  obtain ⟨v, xs, hm, how, hfit, hcl⟩ := hblk
  have hv := hz.own_eq
  rw [hm] at hv
  simp only [Option.some.injEq] at hv
  refine ⟨m, ?_⟩
  rw [lookT_cons]
  refine { hR with tmp := fun t' => ?_ }
  unfold upT
  by_cases e : some t = some t'
  · rw [if_pos e]
    cases e
    rw [← hv]
    refine .sub _ _ _ _ _ ?_
    rcases how.2 with ⟨h5, h6⟩ | ⟨g, cap, cur, h5, _, _, hcap, _⟩
    · exact .inl ⟨h6, ⟨none, 0, h5⟩, fun _ => h5⟩
    · exact .inr ⟨g, cap, hcap, by rw [h5, Nat.zero_mul], .inr ⟨_, _, by rw [hm, h5], by omega, by omega⟩⟩
  · rw [if_neg e]
    exact hR.tmp t'
/-- A row under another number: what was handed in is no more. -/
theorem Le.anew {B : List Nat} {tm : Tmps} {H : Heap} (t b d ty sz : Nat) (l : List T) (h : lookT tm t = .own b) (hb : lookH H b = (false, .row ty sz l)) (hd : memN d (ids H) = false) :
    Le B tm H ((t, .own d) :: (t, .sub b sz 0 l.length) :: tm) ((d, false, .row ty sz l) :: (b, false, .dead) :: H) := by
  have := Le.cut (B := B) (tm := (t, .sub b sz 0 l.length) :: tm) t b d ty sz l.length l (by unfold lookT; rw [look_cons, if_pos rfl]) hb (Nat.le_refl _) hd
  rw [List.take_length] at this
  intro w0 X O0 m a w hB hR
  obtain ⟨m1, h1⟩ := Le.whole t b ty sz l h hb w0 X O0 m a w hB hR
  exact this w0 X O0 m1 a w hB h1
theorem wi {n : Int} (h0 : -9223372036854775808 ≤ n) (h1 : n < 9223372036854775808) : IntKind.i64.wrap n = n := by
  simp [IntKind.wrap, IntKind.signed, IntKind.bits]
  omega
theorem wb (n : Int) : IntKind.u8.wrap n = n % 256 := by
  simp [IntKind.wrap, IntKind.signed, IntKind.bits]
theorem wb' {n : Int} (h0 : 0 ≤ n) (h1 : n < 256) : IntKind.u8.wrap n = n := by rw [wb]; omega
/-! ### strings of bytes -/
theorem strOf_data (xs : List Int) : (strOf xs).data.toList = xs.map fun n => UInt8.ofNat n.toNat := by
  have key : ∀ (xs : List Int) (r : ByteArray), (xs.foldl (fun r n => r.push (UInt8.ofNat n.toNat)) r).data.toList = r.data.toList ++ xs.map fun n => UInt8.ofNat n.toNat := by
    intro xs
    induction xs with
    | nil => intro r; simp
    | cons x xs ih =>
      intro r
      rw [List.foldl_cons, ih]
      simp
  exact (key xs ByteArray.empty).trans (by simp)
theorem strOf_lit {xs : List Int} {a : Array UInt8} (h : xs.map (fun n => UInt8.ofNat n.toNat) = a.toList) : decide ((strOf xs).toList = (ByteArray.mk a).toList) = true := by
  rw [decide_eq_true_eq, ByteArray.toList_eq, ByteArray.toList_eq, strOf_data]
  exact h
theorem strOf_eq {xs ys : List Int} (hx : ∀ x ∈ xs, 0 ≤ x ∧ x < 256) (hy : ∀ x ∈ ys, 0 ≤ x ∧ x < 256) : (strOf xs).toList = (strOf ys).toList ↔ xs = ys := by
  rw [ByteArray.toList_eq, ByteArray.toList_eq, strOf_data, strOf_data]
  refine ⟨fun h => ?_, fun h => by rw [h]⟩
  induction xs generalizing ys with
  | nil => cases ys with
    | nil => rfl
    | cons y ys => cases h
  | cons x xs ih => cases ys with
    | nil => cases h
    | cons y ys =>
      simp only [List.map_cons, List.cons.injEq] at h
      have h1 := hx x (List.mem_cons_self ..)
      have h2 := hy y (List.mem_cons_self ..)
      have h3 : x.toNat = y.toNat := by
        have h4 := congrArg UInt8.toNat h.1
        simp only [UInt8.toNat_ofNat'] at h4
        omega
      rw [ih (fun z hz => hx z (List.mem_cons_of_mem _ hz)) (fun z hz => hy z (List.mem_cons_of_mem _ hz)) h.2, show x = y by omega]
end Go.YtbbcnmfmncgffaaE
