/-
  Code, reckoned: what is left to be shown of a function's text; and that it is enough.
  Written by hand for this claim's session.
-/
import Derived.Test.YtbbcnmfmncgffaaEvDraw3
import Derived.Test.YtbbcnmfmncgffaaEvSub3
namespace Go.YtbbcnmfmncgffaaE
open Go.RowKit
set_option linter.unusedVariables false
set_option linter.unusedSimpArgs false
def plainParts (l : List (Nat × AV)) (k : List (Nat × AV) → Prop) : Prop :=
  match l with
  | [] => k []
  | (i, x) :: l => evMove x fun x _ _ _ => plainParts l fun l => k ((i, x) :: l)
theorem plainParts_iff {l : List (Nat × AV)} {k : List (Nat × AV) → Prop} : plainParts l k ↔ k l := by
  induction l generalizing k with
  | nil => rfl
  | cons x l ih => obtain ⟨i, x⟩ := x; unfold plainParts; rw [evMove_iff]; exact ih
def isAggA : AV → Bool
  | .agg _ => true
  | .t (.agg _) => true
  | .t (.sl _ _) => true
  | .own _ => true
  | _ => false
def isRec : AV → Bool
  | .agg _ => true
  | .t (.agg _) => true
  | _ => false
def isPart : AV → Bool
  | .own _ => true
  | .sub _ _ _ _ => true
  | .fsub _ _ _ _ _ => true
  | .ptr _ _ => true
  | _ => false
/-- A slice held against nil. -/
def evNilS (P : Program) (op : BinOp) (t : TypeId) (x y : AV) (H : Heap) (k : Kont) : Prop :=
  match P.underlying t with
  | some (.slice _) => (match y with
    | .t (.v (.slice none 0 0)) => (match x with
      | .t (.sl _ l) => (match op with
        | .eql => k (.ab (l = []) True) [] [] []
        | .neq => k (.ab True (l = [])) [] [] []
        | _ => False)
      | .own b => (match lookH H b with
        | (_, .row _ _ l) => (match op with
          | .eql => k (.ab (l = []) True) [] [b] []
          | .neq => k (.ab True (l = [])) [] [b] []
          | _ => False)
        | _ => False)
      | _ => False)
    | _ => False)
  | _ => False
def evOp (P : Program) (o : Oper) (tm : Tmps) (H : Heap) (k : Kont) : Prop :=
  match o.op with
  | .move x => evMove (opd (lookT tm) x) k
  | .assign x => evMove (opd (lookT tm) x) k
  | .pick c x y => (match opd (lookT tm) c with
    | .t (.v (.bool b)) => (match b with
      | true => evMove (opd (lookT tm) x) k
      | false => evMove (opd (lookT tm) y) k)
    | _ => False)
  | .binOp op t x y _ => (match isAggA (opd (lookT tm) x) with
    | true => (match isRec (opd (lookT tm) x) with
      | true => evEqR P op t (opd (lookT tm) x) (opd (lookT tm) y) k
      | false => evNilS P op t (opd (lookT tm) x) (opd (lookT tm) y) H k)
    | false => evBin (P.underlying t) op (isConstB x || isConstB y) (opd (lookT tm) x) (opd (lookT tm) y) k)
  | .unOp op _ x => evUn op (opd (lookT tm) x) k
  | .load t p => evLoad P t (opd (lookT tm) p) H k
  | .store t p x => evStore P t (opd (lookT tm) p) (opd (lookT tm) x) H k
  | .field t x f => evField P t (opd (lookT tm) x) f k
  | .extract x i => evExtract (opd (lookT tm) x) i k
  | .nilCheck x => evNil (opd (lookT tm) x) k
  | .makeInterface t x => evIface P t (opd (lookT tm) x) k
  | .makeFunc fn first caps => plainL (first.toList.map (opd (lookT tm))) fun a => plainL (caps.toList.map (opd (lookT tm))) fun c => k (.fn fn a c) [] [] []
  | .convert s d x => (match P.underlying s, P.underlying d with
    | some (.slice _), some .string => evStr P s d (opd (lookT tm) x) H k
    | some (.slice _), some (.slice _) => evMark P s d (opd (lookT tm) x) H k
    | some .string, some (.slice _) => Told P o tm H k
    | _, _ => evConv P s d (opd (lookT tm) x) k)
  | .fieldAddr s x f => evFAddr P s (opd (lookT tm) x) f k
  | .indexAddr t x i => evIAddr P t (opd (lookT tm) x) (opd (lookT tm) i) H k
  | .slice t x lo hi mx => (match isPart (opd (lookT tm) x) with
    | true => evSliceOwn P t (lookT tm) x lo hi mx H k
    | false => evSlice P t (lookT tm) x lo hi mx H k)
  | .makeSlice t l c => evMake P t (opd (lookT tm) l) (opd (lookT tm) c) o.dst k
  | .alloc t => evAlloc P t o.dst k
  | .box t x => evBox t (cellsA (opd (lookT tm) x)) o.dst k
  | .build t ps => plainParts (ps.toList.map fun p => (p.1, opd (lookT tm) p.2)) fun l => evBuild P t l k
  | .buildSlice t len ps => plainParts (ps.toList.map fun p => (p.1, opd (lookT tm) p.2)) fun l => evBuildSlice P t len l H o.dst k
  | .call { callee := .builtin .len, args := as, argTypes := ts } => (match as.toList, ts.toList with
    | [x], [t] => evLen P t (opd (lookT tm) x) H k
    | _, _ => False)
  | .call { callee := .builtin .append, args := as, argTypes := ts } => (match as.toList, ts.toList with
    | [s, x], [t, t'] => (match isIntA (opd (lookT tm) x) with
      | some n => evAppend0 P t t' (opd (lookT tm) s) n H o.dst k
      | none => evAppend P t t' (opd (lookT tm) s) (opd (lookT tm) x) H o.dst k)
    | _, _ => False)
  | .call { callee := .builtin .cap, args := as, argTypes := ts } => (match as.toList, ts.toList with
    | [x], [t] => evCap P t (opd (lookT tm) x) k
    | _, _ => False)
  | .call { callee := .builtin .copy, args := as, argTypes := ts } => (match as.toList, ts.toList with
    | [d, x], [t, _] => evCopy P t (asSub (opd (lookT tm) d)) (asSub (opd (lookT tm) x)) H k
    | _, _ => False)
  | .call { callee := .builtin .clear, args := as, argTypes := ts } => (match as.toList, ts.toList with
    | [d], [t] => evClear P t (opd (lookT tm) d) H k
    | _, _ => False)
  | .call { callee := .builtin .max, args := as, argTypes := ts } => (match as.toList with
    | [x, y] => evMax true (opd (lookT tm) x) (opd (lookT tm) y) k
    | _ => False)
  | .call { callee := .builtin .min, args := as, argTypes := ts } => (match as.toList with
    | [x, y] => evMax false (opd (lookT tm) x) (opd (lookT tm) y) k
    | _ => False)
  | _ => Told P o tm H k
theorem told_of {P : Program} {o : Oper} {tm : Tmps} {H : Heap} {k : Kont} {v : AV} {W : Heap} {R N : List Nat} (h : OpLoc P o R (lookT tm) (lookH H) v W N) (hk : k v W R N) : Told P o tm H k := ⟨v, W, R, N, h, hk⟩
theorem arr_toList {α : Type} {a : Array α} {l : List α} (h : a.toList = l) : a = l.toArray := by rw [← h]
section
variable {P : Program} {o : Oper} {tf : Nat → AV} {hf : Hp}
theorem nilS_run {w : World} {op : BinOp} {t e : TypeId} {x y : Operand} {A : Option Addr} {n c : Nat} (hu : P.underlying t = some (.slice e)) : (do eqGuard .eql t x y (.slice A n c) (.slice none 0 0); Go.binOp .eql t (.slice A n c) (.slice none 0 0) : Sem Value).run P w = .ok (.bool A.isNone) w ∧
    (do eqGuard .neq t x y (.slice A n c) (.slice none 0 0); Go.binOp .neq t (.slice A n c) (.slice none 0 0) : Sem Value).run P w = .ok (.bool (!A.isNone)) w := by
  have he : (Op.equal t (.slice A n c) (.slice none 0 0)).run P w = .ok A.isNone w := by
    refine equal_step ?_
    unfold Op.equalIn
    cases A <;> simp [run_underlying hu]
  exact run_eqs (fun op => by cases op <;> rfl) rfl rfl he
theorem ok_nilS {op : BinOp} {t t' : TypeId} {x y : Operand} {H : Heap} {k : Kont} (ho : o.op = .binOp op t x y t') (h : evNilS P op t (opd tf x) (opd tf y) H k) (hH : hf = lookH H) : ∃ v R, OpLoc P o R tf hf v [] [] ∧ k v [] R [] := by
  have hop : ∀ tf', (∀ t ∈ tmpsOf o, tf' t = tf t) → ∀ z, z = x ∨ z = y → opd tf' z = opd tf z := fun tf' ht z hz => tmps_same ht (by rw [ho]; simp [Op.operands]; exact hz)
  subst hH
  unfold evNilS at h
  split at h
  · rename_i e hu
    split at h
    · rename_i hy
      have key : ∀ (R : List Nat) (l : List T) (hv : ∀ tf' hf', (∀ t ∈ tmpsOf o, tf' t = tf t) → (∀ b ∈ R, hf' b = lookH H b) → ∀ (w0 : Bse) (X O0 D : Nat → Prop) (m : Nat → Option Value) (a : Act) (w : World), Rel w0 X O0 D m tf' hf' a w → ∃ A n c, a.eval x = .slice A n c ∧ (A = none → l = [])), 
          (op = .eql → OpLoc P o R tf (lookH H) (.ab (l = []) True) [] []) ∧ (op = .neq → OpLoc P o R tf (lookH H) (.ab True (l = [])) [] []) := by
        intro R l hv
        constructor
        · intro e; subst e
          refine loc_read fun tf' hf' ht hh w0 X O0 D m a w hR => ?_
          obtain ⟨A, n, c, hx, hA⟩ := hv tf' hf' ht hh w0 X O0 D m a w hR
          have h2 := opd_told hR y
          rw [hop tf' ht y (by simp), hy] at h2
          have hr := (nilS_run (P := P) (w := w) (op := .eql) (x := x) (y := y) (A := A) (n := n) (c := c) hu).1
          refine ⟨.bool A.isNone, ?_, .ab _ _ _ (fun h => hA (by simpa using h)) (fun _ => trivial)⟩
          unfold execOp
          rw [ho]
          refine run_value ?_
          rw [hx, h2.v_eq]
          exact hr
        · intro e; subst e
          refine loc_read fun tf' hf' ht hh w0 X O0 D m a w hR => ?_
          obtain ⟨A, n, c, hx, hA⟩ := hv tf' hf' ht hh w0 X O0 D m a w hR
          have h2 := opd_told hR y
          rw [hop tf' ht y (by simp), hy] at h2
          have hr := (nilS_run (P := P) (w := w) (op := .neq) (x := x) (y := y) (A := A) (n := n) (c := c) hu).2
          refine ⟨.bool (!A.isNone), ?_, .ab _ _ _ (fun _ => trivial) (fun h => hA (by simpa using h))⟩
          unfold execOp
          rw [ho]
          refine run_value ?_
          rw [hx, h2.v_eq]
          exact hr
      split at h
      · rename_i sz l hx
        have kk := key [] l (fun tf' hf' ht hh w0 X O0 D m a w hR => by
          have h1 := opd_told hR x
          rw [hop tf' ht x (by simp), hx] at h1
          generalize a.eval x = z at h1
          cases h1.t_ht with
          | nil _ A c => exact ⟨A, 0, c, rfl, fun _ => rfl⟩
          | sl _ _ b o' c => exact ⟨_, _, _, rfl, fun e => by cases e⟩)
        split at h
        · exact ⟨_, _, kk.1 rfl, h⟩
        · exact ⟨_, _, kk.2 rfl, h⟩
        · exact h.elim
      · rename_i b hx
        split at h
        · rename_i fz ty sz l hb
          have kk := key [b] l (fun tf' hf' ht hh w0 X O0 D m a w hR => by
            have h1 := opd_told hR x
            rw [hop tf' ht x (by simp), hx] at h1
            have h3 := hR.blk b
            rw [hh b (by simp), hb] at h3
            have hm := h1.own_eq
            obtain ⟨v, xs, hv, how, _⟩ := h3
            rw [hm] at hv
            simp at hv
            rcases how.2 with ⟨h4, h5⟩ | ⟨g, cap, cur, h4, _⟩
            · exact ⟨none, 0, 0, by rw [hv, h4], fun _ => List.eq_nil_of_length_eq_zero h5⟩
            · exact ⟨_, _, _, by rw [hv, h4], fun e => by cases e⟩)
          split at h
          · exact ⟨_, _, kk.1 rfl, h⟩
          · exact ⟨_, _, kk.2 rfl, h⟩
          · exact h.elim
        · exact h.elim
      · exact h.elim
    · exact h.elim
  · exact h.elim
end
theorem evOp_told {P : Program} {o : Oper} {tm : Tmps} {H : Heap} {k : Kont} (h : evOp P o tm H k) : Told P o tm H k := by
  unfold evOp at h
  split at h
  · rename_i x ho
    rw [evMove_iff] at h
    exact told_of (ok_move (.inl ho)) h
  · rename_i x ho
    rw [evMove_iff] at h
    exact told_of (ok_move (.inr ho)) h
  · rename_i c x y ho
    split at h
    · rename_i b hb
      have := ok_pick (P := P) (hf := lookH H) ho hb
      split at h <;> (rw [evMove_iff] at h; exact told_of this h)
    · exact h.elim
  · rename_i op t x y t' ho
    split at h
    · split at h
      · obtain ⟨v, h1, h2⟩ := ok_eqR (hf := lookH H) ho h
        exact told_of h1 h2
      · obtain ⟨v, R, h1, h2⟩ := ok_nilS ho h rfl
        exact told_of h1 h2
    · obtain ⟨v, h1, h2⟩ := ok_bin (hf := lookH H) ho h
      exact told_of h1 h2
  · rename_i op t x ho
    obtain ⟨v, h1, h2⟩ := ok_un (P := P) (hf := lookH H) ho h
    exact told_of h1 h2
  · rename_i t p ho
    obtain ⟨v, R, h1, h2⟩ := ok_load ho h rfl
    exact told_of h1 h2
  · rename_i t p x ho
    obtain ⟨v, W, R, h1, h2⟩ := ok_store ho h rfl
    exact told_of h1 h2
  · rename_i t x f ho
    obtain ⟨v, h1, h2⟩ := ok_field (hf := lookH H) ho h
    exact told_of h1 h2
  · rename_i x i ho
    obtain ⟨v, h1, h2⟩ := ok_extract (P := P) (hf := lookH H) ho h
    exact told_of h1 h2
  · rename_i x ho
    obtain ⟨v, h1, h2⟩ := ok_nil (P := P) (hf := lookH H) ho h
    exact told_of h1 h2
  · rename_i t x ho
    obtain ⟨v, h1, h2⟩ := ok_iface (hf := lookH H) ho h
    exact told_of h1 h2
  · rename_i fn first caps ho
    obtain ⟨v, h1, h2⟩ := ok_func (P := P) (hf := lookH H) ho h
    exact told_of h1 h2
  · rename_i s d x ho
    split at h
    · obtain ⟨v, R, h1, h2⟩ := ok_str ho h rfl
      exact told_of h1 h2
    · obtain ⟨v, W, R, h1, h2⟩ := ok_mark ho h rfl
      exact told_of h1 h2
    · exact h
    · obtain ⟨v, h1, h2⟩ := ok_conv (hf := lookH H) ho h
      exact told_of h1 h2
  · rename_i s x f ho
    obtain ⟨v, h1, h2⟩ := ok_faddr (hf := lookH H) ho h
    exact told_of h1 h2
  · rename_i t x i ho
    obtain ⟨v, R, h1, h2⟩ := ok_iaddr ho h rfl
    exact told_of h1 h2
  · rename_i t x lo hi mx ho
    split at h
    · obtain ⟨v, R, h1, h2⟩ := ok_sliceOwn ho h rfl
      exact told_of h1 h2
    · obtain ⟨v, h1, h2⟩ := ok_slice (hf := lookH H) ho h
      exact told_of h1 h2
  · rename_i t l c ho
    obtain ⟨v, W, N, h1, h2⟩ := ok_make (hf := lookH H) ho h
    exact told_of h1 h2
  · rename_i t ho
    obtain ⟨v, W, N, h1, h2⟩ := ok_alloc (tf := lookT tm) (hf := lookH H) ho h
    exact told_of h1 h2
  · rename_i t x ho
    obtain ⟨v, W, N, h1, h2⟩ := ok_box (P := P) (hf := lookH H) ho h
    exact told_of h1 h2
  · rename_i t ps ho
    rw [plainParts_iff] at h
    obtain ⟨v, h1, h2⟩ := ok_build (hf := lookH H) ho h
    exact told_of h1 h2
  · rename_i t len ps ho
    rw [plainParts_iff] at h
    obtain ⟨v, W, R, N, h1, h2⟩ := ok_buildSlice ho h rfl
    exact told_of h1 h2
  · rename_i as ts ho
    split at h
    · rename_i x t hx ht
      rw [arr_toList hx, arr_toList ht] at ho
      obtain ⟨v, R, h1, h2⟩ := ok_len ho h rfl
      exact told_of h1 h2
    · exact h.elim
  · rename_i as ts ho
    split at h
    · rename_i s x t t' hx ht
      rw [arr_toList hx, arr_toList ht] at ho
      split at h
      · rename_i n hn
        obtain ⟨v, W, R, N, h1, h2⟩ := ok_append0 ho hn h rfl
        exact told_of h1 h2
      · obtain ⟨v, W, R, N, h1, h2⟩ := ok_append ho h rfl
        exact told_of h1 h2
    · exact h.elim
  · rename_i as ts ho
    split at h
    · rename_i x t hx ht
      rw [arr_toList hx, arr_toList ht] at ho
      obtain ⟨v, h1, h2⟩ := ok_cap (hf := lookH H) ho h
      exact told_of h1 h2
    · exact h.elim
  · rename_i as ts ho
    split at h
    · rename_i d x t t' hx ht
      rw [arr_toList hx, arr_toList ht] at ho
      obtain ⟨v, W, R, h1, h2⟩ := ok_copy ho h (fun _ _ _ _ => asSub_told) (fun _ _ _ _ => asSub_told) rfl
      exact told_of h1 h2
    · exact h.elim
  · rename_i as ts ho
    split at h
    · rename_i d t hx ht
      rw [arr_toList hx, arr_toList ht] at ho
      obtain ⟨v, W, R, h1, h2⟩ := ok_clear ho h rfl
      exact told_of h1 h2
    · exact h.elim
  · rename_i as ts ho
    split at h
    · rename_i x y hx
      rw [arr_toList hx] at ho
      obtain ⟨v, h1, h2⟩ := ok_max (P := P) (hf := lookH H) (mx := true) ho h
      exact told_of h1 h2
    · exact h.elim
  · rename_i as ts ho
    split at h
    · rename_i x y hx
      rw [arr_toList hx] at ho
      obtain ⟨v, h1, h2⟩ := ok_max (P := P) (hf := lookH H) (mx := false) ho h
      exact told_of h1 h2
    · exact h.elim
  · exact h
end Go.YtbbcnmfmncgffaaE
