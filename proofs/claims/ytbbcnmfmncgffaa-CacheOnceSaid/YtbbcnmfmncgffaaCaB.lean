-- Written by hand for this claim's session.
import Derived.Test.YtbbcnmfmncgffaaCaA
open Go Go.YtbbcnmfmncgffaaE Go.Proofs
set_option maxRecDepth 100000
set_option autoImplicit false
namespace Go.Proofs.YtbbcnmfmncgffaaX
@[reducible] def uses (l : List U) : List T := l.map U.T
theorem uses_get {l : List U} {n : Int} {i : Nat} {x : U} (hn : n = i) (h : l[i]? = some x) : (uses l)[n.toNat]? = some x.T := by
  subst hn; simp [uses, h]
theorem uses_len (l : List U) : (uses l).length = l.length := by simp [uses]
abbrev UseBox (u : U) : Blk := .box 27 [.int .u64 u.t, .int .u64 u.e, .int .u64 u.c]
theorem half {i j : Nat} (h : i < j) (hj : j < 1000000) : IntKind.i64.wrap ((IntKind.u64.wrap (IntKind.i64.wrap ((i : Int) + j))).fdiv (2 ^ (min (1 : Int).toNat IntKind.u64.bits))) = ((i + j) / 2 : Nat) := by
  have e : ((2 : Int) ^ (min (1 : Int).toNat IntKind.u64.bits)) = 2 := by decide
  have h0 : IntKind.i64.wrap ((i : Int) + j) = (i : Int) + j := wi (by omega) (by omega)
  have h1 : IntKind.u64.wrap ((i : Int) + j) = (i : Int) + j := by
    simp [IntKind.wrap, IntKind.signed, IntKind.bits]; omega
  rw [h0, h1, e, Int.fdiv_eq_ediv_of_nonneg _ (by omega), wi (by omega) (by omega)]
  omega
theorem Search_ct (l : List U) (v : U) (k : Nat) (hl : l.length < 100000) (hk : k ≤ l.length) (h : ∀ i u, l[i]? = some u → (ord u v < 0 ↔ i < k)) (found : Bool) (hf : found = bif decide (k < l.length) then decide (ord (l.getD k v) v = 0) else false) :
    CtT Try.prog 17 [.sl 3 (uses l), v.T, .v (.func (.func 18) #[] #[])] (Ret (.tuple [.int .i64 k, .bool found]) []) := by
  refine Ct.of Try.func17 rfl rfl (n := 49) rfl (by simp [ids]) ?_
  refine ⟨Nat × Nat, fun y => [(0, .t (.sl 3 (uses l))), (2, .t (.v (.func (.func 18) #[] #[]))), (4, .ptr 4 0), (7, .bool false), (8, .int .i64 l.length), (9, .int .i64 y.1), (10, .int .i64 y.2)], fun _ => [(4, false, UseBox v)],
    fun y => y.1 ≤ k ∧ k ≤ y.2 ∧ y.2 ≤ l.length, fun y => y.2 - y.1, (0, l.length), ⟨by simp, hk, Nat.le_refl _⟩, Le.of [] ⟨rfl, rfl, rfl, rfl, by rw [← uses_len l]; rfl, rfl, by rw [← uses_len l]; rfl, trivial⟩ ⟨rfl, trivial⟩ rfl, ?_⟩
  rintro ⟨i, j⟩ ⟨h1, h2, h3⟩
  simp only at h1 h2 h3 ⊢
  refine brB (fun hc => ?_) (fun hc => ?_)
  · have hc : i < j := by have := of_decide_eq_true hc; omega
    have hm := half hc (by omega)
    have hx : l[(i + j) / 2]? = some (l[(i + j) / 2]'(by omega)) := List.getElem?_eq_getElem _
    generalize l[(i + j) / 2]'(by omega) = u at hx
    refine ⟨by decide, by rw [hm]; omega, _, uses_get hm hx, ?_⟩
    refine Told.callT (order_ct u v) rfl rfl rfl rfl ?_
    refine brB (fun hc2 => ?_) (fun hc2 => ?_)
    · have := (h _ _ hx).1 (of_decide_eq_true hc2)
      exact ⟨((i + j) / 2 + 1, j), ⟨this, h2, h3⟩, Le.of [] ⟨rfl, rfl, rfl, rfl, rfl, congrArg (AV.int .i64) (by rw [hm]; exact wi (by omega) (by omega)), rfl, trivial⟩ ⟨rfl, trivial⟩ rfl, by show j - ((i + j) / 2 + 1) < j - i; omega⟩
    · have hn : ¬ (i + j) / 2 < k := fun e => of_decide_eq_false hc2 ((h _ _ hx).2 e)
      exact ⟨(i, (i + j) / 2), ⟨h1, by omega, by omega⟩, Le.of [] ⟨rfl, rfl, rfl, rfl, rfl, rfl, congrArg (AV.int .i64) hm, trivial⟩ ⟨rfl, trivial⟩ rfl, by show (i + j) / 2 - i < j - i; omega⟩
  · have hc : ¬ i < j := by have := of_decide_eq_false hc; omega
    have hik : i = k := by omega
    subst hik
    refine brB (fun hc => ?_) (fun hc => ?_)
    · have hc2 : i < l.length := by have := of_decide_eq_true hc; omega
      have hx : l[i]? = some l[i] := List.getElem?_eq_getElem hc2
      refine ⟨by omega, _, uses_get rfl hx, ?_⟩
      refine Told.callT (order_ct l[i] v) rfl rfl rfl rfl ?_
      refine ⟨[], _, _, ⟨rfl, rfl⟩, ?_, trivial, rfl⟩
      rw [hf, decide_eq_true hc2, List.getD_eq_getElem?_getD, hx]
      rfl
    · have hc2 : ¬ i < l.length := by have := of_decide_eq_false hc; omega
      refine ⟨[], _, _, ⟨rfl, rfl⟩, ?_, trivial, rfl⟩
      rw [hf, decide_eq_false hc2]
      rfl
end Go.Proofs.YtbbcnmfmncgffaaX
