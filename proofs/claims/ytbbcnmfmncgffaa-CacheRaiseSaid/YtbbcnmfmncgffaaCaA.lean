-- Written by hand for this claim's session.
import Derived.Test.YtbbcnmfmncgffaaEvLaw
import Derived.Test.YtbbcnmfmncgffaaEvNil
import Derived.Test.YtbbcnmfmncgffaaProg
open Go Go.YtbbcnmfmncgffaaE Go.Proofs
set_option maxRecDepth 100000
set_option autoImplicit false
namespace Go.Proofs.YtbbcnmfmncgffaaX
structure U where
  t : Int
  e : Int
  c : Int
  deriving DecidableEq
@[reducible] def U.T (u : U) : T := .agg [.int .u64 u.t, .int .u64 u.e, .int .u64 u.c]
def cmpI (a b : Int) : Int := bif decide (a < b) then -1 else bif decide (b < a) then 1 else 0
def orI : List Int → Int
  | [] => 0
  | x :: l => bif decide (x = 0) then orI l else x
def ord (u v : U) : Int := orI [cmpI u.t v.t, cmpI u.e v.e, cmpI u.c v.c]
theorem isNaN_ct (a : Int) : CtT Try.prog 31 [.int .u64 a] (Ret (.bool false) []) := by
  refine Ct.of Try.func31 rfl rfl (n := 6) rfl (by simp [ids]) ?_
  refine ⟨[], _, _, ⟨rfl, rfl⟩, ?_, trivial, rfl⟩
  exact congrArg AV.bool (by simp)
theorem Compare_ct (a b : Int) : CtT Try.prog 26 [.int .u64 a, .int .u64 b] (Ret (.int .i64 (cmpI a b)) []) := by
  refine Ct.of Try.func26 rfl rfl (n := 20) rfl (by simp [ids]) ?_
  refine Told.callT (isNaN_ct a) rfl rfl rfl rfl ?_
  refine Told.callT (isNaN_ct b) rfl rfl rfl rfl ?_
  refine brB (fun h => ?_) (fun h => brB (fun h2 => ?_) (fun h2 => ?_))
  · exact ⟨[], _, _, ⟨rfl, rfl⟩, congrArg (AV.int .i64) (by unfold cmpI; rw [h]; rfl), trivial, rfl⟩
  · exact ⟨[], _, _, ⟨rfl, rfl⟩, congrArg (AV.int .i64) (by unfold cmpI; rw [h, show decide (b < a) = true from h2]; rfl), trivial, rfl⟩
  · exact ⟨[], _, _, ⟨rfl, rfl⟩, congrArg (AV.int .i64) (by unfold cmpI; rw [h, show decide (b < a) = false from h2]; rfl), trivial, rfl⟩
def ints (l : List Int) : List T := l.map (T.int .i64)
theorem orI_drop : ∀ (l : List Int) (i : Nat) (x : Int), l[i]? = some x → orI (l.drop i) = bif decide (x = 0) then orI (l.drop (i + 1)) else x
  | [], i, x, h => by simp at h
  | y :: l, 0, x, h => by simp at h; subst h; rfl
  | y :: l, i + 1, x, h => by simpa using orI_drop l i x (by simpa using h)
theorem ints_get {l : List Int} {i : Nat} {x : Int} (h : l[i]? = some x) : (ints l)[((i : Int)).toNat]? = some (T.int .i64 x) := by
  simp [ints, h]
theorem Or_ct (l : List Int) (hl : l.length < 1000000) : CtT Try.prog 25 [.sl 1 (ints l)] (Ret (.int .i64 (orI l)) []) := by
  refine Ct.of Try.func25 rfl rfl (n := 18) rfl (by simp [ids]) ?_
  refine ⟨Nat, fun i => [(2, .int .i64 0), (3, .int .i64 0), (6, .t (.sl 1 (ints l))), (7, .int .i64 l.length), (8, .int .i64 i)], fun _ => [], fun i => i ≤ l.length ∧ orI (l.drop i) = orI l, fun i => l.length - i, 0, ⟨by simp, rfl⟩, Le.of [] ⟨rfl, rfl, rfl, by simp [ints]; rfl, rfl, trivial⟩ trivial rfl, ?_⟩
  rintro i ⟨h1, h2⟩
  refine brB (fun h => ?_) (fun h => ?_)
  · have h : i < l.length := by have := of_decide_eq_true h; omega
    have hx := List.getElem?_eq_getElem h
    refine ⟨by omega, _, ints_get hx, ?_⟩
    rw [orI_drop l i _ hx] at h2
    refine brB (fun h' => ?_) (fun h' => ?_)
    · have h' : decide (l[i] = 0) = false := by simpa using h'
      exact ⟨[], _, _, ⟨rfl, rfl⟩, congrArg (AV.int .i64) (by rw [← h2, h']; rfl), trivial, rfl⟩
    · have h' : decide (l[i] = 0) = true := by simpa using h'
      rw [h'] at h2
      refine ⟨i + 1, ⟨h, h2⟩, Le.of [] ⟨rfl, rfl, rfl, rfl, congrArg (AV.int .i64) (wi (by omega) (by omega)), trivial⟩ trivial rfl, by show l.length - (i + 1) < l.length - i; omega⟩
  · have h : ¬ i < l.length := by have := of_decide_eq_false h; omega
    rw [List.drop_of_length_le (by omega)] at h2
    exact ⟨[], _, _, ⟨rfl, rfl⟩, congrArg (AV.int .i64) (by rw [← h2]; rfl), trivial, rfl⟩
theorem order_ct (u v : U) : CtT Try.prog 18 [u.T, v.T] (Ret (.int .i64 (ord u v)) []) := by
  refine Ct.of Try.func18 rfl rfl (n := 22) rfl (by simp [ids]) ?_
  refine Told.callT (Compare_ct _ _) rfl rfl rfl rfl ?_
  refine Told.callT (Compare_ct _ _) rfl rfl rfl rfl ?_
  refine Told.callT (Compare_ct _ _) rfl rfl rfl rfl ?_
  refine Told.callT (Or_ct [cmpI u.t v.t, cmpI u.e v.e, cmpI u.c v.c] (by simp)) rfl rfl rfl rfl ?_
  exact ⟨[], _, _, ⟨rfl, rfl⟩, rfl, trivial, rfl⟩
end Go.Proofs.YtbbcnmfmncgffaaX
