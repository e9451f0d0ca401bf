/-
  Code, reckoned: what is left to be shown of a function's text; and that it is enough.
  Written by hand for this claim's session.
-/
import Derived.Test.YtbmljgahpicmbaaEvDraw3
namespace Go.YtbmljgahpicmbaaE
open Go.RowKit
set_option linter.unusedVariables false
set_option linter.unusedSimpArgs false
def plainParts (l : List (Nat × AV)) (k : List (Nat × AV) → Prop) : Prop :=
  match l with
  | [] => k []
  | (i, x) :: l => evMove x fun x _ _ _ => plainParts l fun l => k ((i, x) :: l)
theorem plainParts_iff {l : List (Nat × AV)} {k : List (Nat × AV) → Prop} : plainParts l k ↔ k l := by
  induction l generalizing k with
  | nil => rfl
  | cons x l ih => obtain ⟨i, x⟩ := x; unfold plainParts; rw [evMove_iff]; exact ih
def isAggA : AV → Bool
  | .agg _ => true
  | .t (.agg _) => true
  | .t (.sl _ _) => true
  | .own _ => true
  | _ => false
def evOp (P : Program) (o : Oper) (tm : Tmps) (H : Heap) (k : Kont) : Prop :=
  match o.op with
  | .move x => evMove (opd (lookT tm) x) k
  | .assign x => evMove (opd (lookT tm) x) k
  | .pick c x y => (match opd (lookT tm) c with
    | .t (.v (.bool b)) => (match b with
      | true => evMove (opd (lookT tm) x) k
      | false => evMove (opd (lookT tm) y) k)
    | _ => False)
  | .binOp op t x y _ => (match isAggA (opd (lookT tm) x) with
    | true => Told P o tm H k
    | false => evBin (P.underlying t) op (isConstB x || isConstB y) (opd (lookT tm) x) (opd (lookT tm) y) k)
  | .unOp op _ x => evUn op (opd (lookT tm) x) k
  | .load t p => evLoad P t (opd (lookT tm) p) H k
  | .store t p x => evStore P t (opd (lookT tm) p) (opd (lookT tm) x) H k
  | .field t x f => evField P t (opd (lookT tm) x) f k
  | .extract x i => evExtract (opd (lookT tm) x) i k
  | .nilCheck x => evNil (opd (lookT tm) x) k
  | .makeInterface t x => evIface P t (opd (lookT tm) x) k
  | .makeFunc fn first caps => plainL (first.toList.map (opd (lookT tm))) fun a => plainL (caps.toList.map (opd (lookT tm))) fun c => k (.fn fn a c) [] [] []
  | .convert s d x => (match P.underlying s, P.underlying d with
    | some (.slice _), some .string => evStr P s d (opd (lookT tm) x) H k
    | some (.slice _), some (.slice _) => evMark P s d (opd (lookT tm) x) H k
    | some .string, some (.slice _) => Told P o tm H k
    | _, _ => evConv P s d (opd (lookT tm) x) k)
  | .fieldAddr s x f => evFAddr P s (opd (lookT tm) x) f k
  | .indexAddr t x i => evIAddr P t (opd (lookT tm) x) (opd (lookT tm) i) H k
  | .slice t x lo hi mx => (match isOwn (opd (lookT tm) x) with
    | true => Told P o tm H k
    | false => evSlice P t (lookT tm) x lo hi mx H k)
  | .makeSlice t l c => evMake P t (opd (lookT tm) l) (opd (lookT tm) c) o.dst k
  | .alloc t => evAlloc P t o.dst k
  | .box t x => evBox t (cellsA (opd (lookT tm) x)) o.dst k
  | .build t ps => plainParts (ps.toList.map fun p => (p.1, opd (lookT tm) p.2)) fun l => evBuild P t l k
  | .buildSlice t len ps => plainParts (ps.toList.map fun p => (p.1, opd (lookT tm) p.2)) fun l => evBuildSlice P t len l H o.dst k
  | .call { callee := .builtin .len, args := as, argTypes := ts } => (match as.toList, ts.toList with
    | [x], [t] => evLen P t (opd (lookT tm) x) H k
    | _, _ => False)
  | .call { callee := .builtin .append, args := as, argTypes := ts } => (match as.toList, ts.toList with
    | [s, x], [t, t'] => evAppend P t t' (opd (lookT tm) s) (opd (lookT tm) x) H o.dst k
    | _, _ => False)
  | .call { callee := .builtin .max, args := as, argTypes := ts } => (match as.toList with
    | [x, y] => evMax true (opd (lookT tm) x) (opd (lookT tm) y) k
    | _ => False)
  | .call { callee := .builtin .min, args := as, argTypes := ts } => (match as.toList with
    | [x, y] => evMax false (opd (lookT tm) x) (opd (lookT tm) y) k
    | _ => False)
  | _ => Told P o tm H k
where isOwn : AV → Bool
  | .own _ => true
  | _ => false
theorem told_of {P : Program} {o : Oper} {tm : Tmps} {H : Heap} {k : Kont} {v : AV} {W : Heap} {R N : List Nat} (h : OpLoc P o R (lookT tm) (lookH H) v W N) (hk : k v W R N) : Told P o tm H k := ⟨v, W, R, N, h, hk⟩
theorem arr_toList {α : Type} {a : Array α} {l : List α} (h : a.toList = l) : a = l.toArray := by rw [← h]
theorem evOp_told {P : Program} {o : Oper} {tm : Tmps} {H : Heap} {k : Kont} (h : evOp P o tm H k) : Told P o tm H k := by
  unfold evOp at h
  split at h
  · rename_i x ho
    rw [evMove_iff] at h
    exact told_of (ok_move (.inl ho)) h
  · rename_i x ho
    rw [evMove_iff] at h
    exact told_of (ok_move (.inr ho)) h
  · rename_i c x y ho
    split at h
    · rename_i b hb
      have := ok_pick (P := P) (hf := lookH H) ho hb
      split at h <;> (rw [evMove_iff] at h; exact told_of this h)
    · exact h.elim
  · rename_i op t x y t' ho
    split at h
    · exact h
    · obtain ⟨v, h1, h2⟩ := ok_bin (hf := lookH H) ho h
      exact told_of h1 h2
  · rename_i op t x ho
    obtain ⟨v, h1, h2⟩ := ok_un (P := P) (hf := lookH H) ho h
    exact told_of h1 h2
  · rename_i t p ho
    obtain ⟨v, R, h1, h2⟩ := ok_load ho h rfl
    exact told_of h1 h2
  · rename_i t p x ho
    obtain ⟨v, W, R, h1, h2⟩ := ok_store ho h rfl
    exact told_of h1 h2
  · rename_i t x f ho
    obtain ⟨v, h1, h2⟩ := ok_field (hf := lookH H) ho h
    exact told_of h1 h2
  · rename_i x i ho
    obtain ⟨v, h1, h2⟩ := ok_extract (P := P) (hf := lookH H) ho h
    exact told_of h1 h2
  · rename_i x ho
    obtain ⟨v, h1, h2⟩ := ok_nil (P := P) (hf := lookH H) ho h
    exact told_of h1 h2
  · rename_i t x ho
    obtain ⟨v, h1, h2⟩ := ok_iface (hf := lookH H) ho h
    exact told_of h1 h2
  · rename_i fn first caps ho
    obtain ⟨v, h1, h2⟩ := ok_func (P := P) (hf := lookH H) ho h
    exact told_of h1 h2
  · rename_i s d x ho
    split at h
    · obtain ⟨v, R, h1, h2⟩ := ok_str ho h rfl
      exact told_of h1 h2
    · obtain ⟨v, W, R, h1, h2⟩ := ok_mark ho h rfl
      exact told_of h1 h2
    · exact h
    · obtain ⟨v, h1, h2⟩ := ok_conv (hf := lookH H) ho h
      exact told_of h1 h2
  · rename_i s x f ho
    obtain ⟨v, h1, h2⟩ := ok_faddr (hf := lookH H) ho h
    exact told_of h1 h2
  · rename_i t x i ho
    obtain ⟨v, R, h1, h2⟩ := ok_iaddr ho h rfl
    exact told_of h1 h2
  · rename_i t x lo hi mx ho
    split at h
    · exact h
    · obtain ⟨v, h1, h2⟩ := ok_slice (hf := lookH H) ho h
      exact told_of h1 h2
  · rename_i t l c ho
    obtain ⟨v, W, N, h1, h2⟩ := ok_make (hf := lookH H) ho h
    exact told_of h1 h2
  · rename_i t ho
    obtain ⟨v, W, N, h1, h2⟩ := ok_alloc (tf := lookT tm) (hf := lookH H) ho h
    exact told_of h1 h2
  · rename_i t x ho
    obtain ⟨v, W, N, h1, h2⟩ := ok_box (P := P) (hf := lookH H) ho h
    exact told_of h1 h2
  · rename_i t ps ho
    rw [plainParts_iff] at h
    obtain ⟨v, h1, h2⟩ := ok_build (hf := lookH H) ho h
    exact told_of h1 h2
  · rename_i t len ps ho
    rw [plainParts_iff] at h
    obtain ⟨v, W, R, N, h1, h2⟩ := ok_buildSlice ho h rfl
    exact told_of h1 h2
  · rename_i as ts ho
    split at h
    · rename_i x t hx ht
      rw [arr_toList hx, arr_toList ht] at ho
      obtain ⟨v, R, h1, h2⟩ := ok_len ho h rfl
      exact told_of h1 h2
    · exact h.elim
  · rename_i as ts ho
    split at h
    · rename_i s x t t' hx ht
      rw [arr_toList hx, arr_toList ht] at ho
      obtain ⟨v, W, R, N, h1, h2⟩ := ok_append ho h rfl
      exact told_of h1 h2
    · exact h.elim
  · rename_i as ts ho
    split at h
    · rename_i x y hx
      rw [arr_toList hx] at ho
      obtain ⟨v, h1, h2⟩ := ok_max (P := P) (hf := lookH H) (mx := true) ho h
      exact told_of h1 h2
    · exact h.elim
  · rename_i as ts ho
    split at h
    · rename_i x y hx
      rw [arr_toList hx] at ho
      obtain ⟨v, h1, h2⟩ := ok_max (P := P) (hf := lookH H) (mx := false) ho h
      exact told_of h1 h2
    · exact h.elim
  · exact h
end Go.YtbmljgahpicmbaaE
