/-
  What is told more plainly: no slice yet, as a row of no elements.
  Written by hand for this claim's session.
-/
import Derived.Test.YtbbcnmfmncgffaaEvRoom
namespace Go.YtbbcnmfmncgffaaE
open Go.RowKit
set_option linter.unusedVariables false
set_option linter.unusedSimpArgs false
mutual
/-- Whatever is told so may be told so. -/
inductive Tas : T → T → Prop
  | refl (x : T) : Tas x x
  | nil (sz : Nat) : Tas (.v (.slice none 0 0)) (.sl sz [])
  | agg (l m : List T) (h : TasL l m) : Tas (.agg l) (.agg m)
  | tuple (l m : List T) (h : TasL l m) : Tas (.tuple l) (.tuple m)
inductive TasL : List T → List T → Prop
  | nil : TasL [] []
  | cons (x y : T) (l m : List T) (h : Tas x y) (h' : TasL l m) : TasL (x :: l) (y :: m)
end
theorem TasL.len {l m : List T} (h : TasL l m) : l.length = m.length := by
  induction l generalizing m with
  | nil => cases h; rfl
  | cons x l ih => cases h with | cons _ _ _ _ _ h' => simp [ih h']
theorem TasL.get {l m : List T} (h : TasL l m) {i : Nat} {y : T} (hy : m[i]? = some y) : ∃ x, l[i]? = some x ∧ Tas x y := by
  induction l generalizing m i with
  | nil => cases h; simp at hy
  | cons x l ih =>
    cases h with
    | cons _ z _ _ h h' =>
      cases i with
      | zero => simp at hy; subst hy; exact ⟨x, rfl, h⟩
      | succ i => simpa using ih h' (by simpa using hy)
theorem Tas.told {w : World} {O : Nat → Prop} {x y : T} {v : Value} (h : Tas x y) (hx : HT w O x v) : HT w O y v := by
  induction hx generalizing y with
  | v x =>
    cases h with
    | refl => exact .v _
    | nil sz => exact .nil _ _ _
  | nil sz A c => cases h; exact .nil _ _ _
  | sl sz l b o c f hO hb hc hf hm ht ih => cases h; exact .sl _ _ _ _ _ f hO hb hc hf hm ht
  | agg l vs hl h1 ih =>
    cases h with
    | refl => exact .agg _ _ hl h1
    | agg _ m h =>
      refine .agg m vs (by rw [hl, h.len]) (fun i x y hx hy => ?_)
      obtain ⟨z, hz, hzx⟩ := h.get hx
      exact ih i z y hz hy hzx
  | tuple l vs hl h1 ih =>
    cases h with
    | refl => exact .tuple _ _ hl h1
    | tuple _ m h =>
      refine .tuple m vs (by rw [hl, h.len]) (fun i x y hx hy => ?_)
      obtain ⟨z, hz, hzx⟩ := h.get hx
      exact ih i z y hz hy hzx
  | pt l b o f hO hb h1 hm ht ih => cases h; exact .pt _ _ _ f hO hb h1 hm ht
  | iface t x y h1 ih => cases h; exact .iface _ _ _ h1
  | fn f l m vs us hl h1 hm h2 ih ih' => cases h; exact .fn _ _ _ _ _ hl h1 hm h2
/-- A contract, of arguments that are told so. -/
theorem CtT.tas {P : Program} {f : FuncId} {ts ts' : List T} {Q : AV → Heap → Prop} (h : CtT P f ts' Q) (ht : TasL ts ts') : CtT P f ts Q := by
  refine ⟨h.1, fun w0 X m vals hM hl hv => h.2 w0 X m vals hM (by rw [hl]; simp [ht.len]) (fun i x v hx hv' => ?_)⟩
  rw [List.getElem?_map] at hx
  obtain ⟨y, hy, rfl⟩ := Option.map_eq_some_iff.1 hx
  obtain ⟨z, hz, hzy⟩ := ht.get hy
  exact .t _ _ (hzy.told (hv i (.t z) v (by rw [List.getElem?_map, hz]; rfl) hv').t_ht)
/-- A result, told so. -/
theorem Ct.tas {P : Program} {f : FuncId} {args : List AV} {H : Heap} {x y : T} {H' : Heap} (h : Ct P f args H (Ret (.t x) H')) (ht : Tas x y) : Ct P f args H (Ret (.t y) H') := by
  refine ⟨h.1, fun w0 X m vals hM hl hv => (h.2 w0 X m vals hM hl hv).mono ?_⟩
  rintro e w' ⟨v, r, H2, m', rfl, ⟨rfl, rfl⟩, hr, hM'⟩
  exact ⟨v, _, _, m', rfl, ⟨rfl, rfl⟩, .t _ _ (ht.told hr.t_ht), hM'⟩
/-- The same, of data alone, with a result that is data and may be told more plainly. -/
theorem CtT.ofN {P : Program} {f : FuncId} {fn : Func} {c : Code} {ts : List T} {y : T} {n : Nat} (hf : P.funcs[f]? = some fn) (hname : (fn.name == "runtime.NumGoroutine") = false) (hb : fn.body = some c) (hn : (ts.map AV.t).length + (fn.ntmps - (ts.map AV.t).length) = n)
    (h : ev P n [] c (argT (ts.map .t) 0) [] fun e tm H' => match e with
      | .exit _ => False
      | _ => resV P tm H' fn.results.toList fun xs => ∃ x, toT (lookH H') 30 (tup xs) = some x ∧ Tas x y) : CtT P f ts (Ret (.t y) []) := by
  have key : CtT P f ts (fun r H => ∃ x, r = .t x ∧ H = [] ∧ Tas x y) :=
    Ct.ofK (fun tm H' => resV P tm H' fn.results.toList fun xs => ∃ x, toT (lookH H') 30 (tup xs) = some x ∧ Tas x y) hf hname hb hn (fun b hb => by simp [ids] at hb) (fun tm H' hk => EndOk.data (resV_mono hk fun xs ⟨x, h1, h2⟩ => ⟨x, h1, x, rfl, rfl, h2⟩)) h
  refine ⟨key.1, fun w0 X m vals hM hl hv => (key.2 w0 X m vals hM hl hv).mono ?_⟩
  rintro e w' ⟨v, r, H2, m', rfl, ⟨x, rfl, rfl, hxy⟩, hr, hM'⟩
  exact ⟨v, _, _, m', rfl, ⟨rfl, rfl⟩, .t _ _ (hxy.told hr.t_ht), hM'⟩
end Go.YtbbcnmfmncgffaaE
