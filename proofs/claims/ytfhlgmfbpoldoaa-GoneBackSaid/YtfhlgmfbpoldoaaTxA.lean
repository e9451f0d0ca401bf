-- Written by hand for this claim's session.
import Derived.Test.YtfhlgmfbpoldoaaProg
import Derived.RangeFuncBound
import Derived.RangeFuncCalls
import Derived.RangeFuncBox
import Derived.OwnWalkIn
import Derived.TacticsInMore
import Derived.LoopNIn
import Derived.LoopIn
import Derived.StillTactics
import Derived.Test.YtfhlgmfbpoldoaaEvC
namespace Go.Proofs.YtfhlgmfbpoldoaaX
section
open Go Go.YtfhlgmfbpoldoaaE Go.Proofs
set_option maxRecDepth 100000
set_option autoImplicit false
structure U where
  t : Int
  e : Int
  deriving DecidableEq
@[reducible] def U.T (u : U) : T := .agg [.int .u64 u.t, .int .u64 u.e]
def cmpI (a b : Int) : Int := bif decide (a < b) then -1 else bif decide (b < a) then 1 else 0
def orI : List Int → Int
  | [] => 0
  | x :: l => bif decide (x = 0) then orI l else x
def ord (u v : U) : Int := orI [cmpI u.t v.t, cmpI u.e v.e]
theorem isNaN_ct (a : Int) : CtT Try.prog 37 [.int .u64 a] (Ret (.bool false) []) := by
  refine Ct.of Try.func37 rfl rfl (n := 6) rfl (by simp [ids]) ?_
  refine ⟨[], _, _, ⟨rfl, rfl⟩, ?_, trivial, rfl⟩
  exact congrArg AV.bool (by simp)
theorem Compare_ct (a b : Int) : CtT Try.prog 30 [.int .u64 a, .int .u64 b] (Ret (.int .i64 (cmpI a b)) []) := by
  refine Ct.of Try.func30 rfl rfl (n := 20) rfl (by simp [ids]) ?_
  refine Told.callT (isNaN_ct a) rfl rfl rfl rfl ?_
  refine Told.callT (isNaN_ct b) rfl rfl rfl rfl ?_
  refine brB (fun h => ?_) (fun h => brB (fun h2 => ?_) (fun h2 => ?_))
  · exact ⟨[], _, _, ⟨rfl, rfl⟩, congrArg (AV.int .i64) (by unfold cmpI; rw [h]; rfl), trivial, rfl⟩
  · exact ⟨[], _, _, ⟨rfl, rfl⟩, congrArg (AV.int .i64) (by unfold cmpI; rw [h, show decide (b < a) = true from h2]; rfl), trivial, rfl⟩
  · exact ⟨[], _, _, ⟨rfl, rfl⟩, congrArg (AV.int .i64) (by unfold cmpI; rw [h, show decide (b < a) = false from h2]; rfl), trivial, rfl⟩
def ints (l : List Int) : List T := l.map (T.int .i64)
theorem orI_drop : ∀ (l : List Int) (i : Nat) (x : Int), l[i]? = some x → orI (l.drop i) = bif decide (x = 0) then orI (l.drop (i + 1)) else x
  | [], i, x, h => by simp at h
  | y :: l, 0, x, h => by simp at h; subst h; rfl
  | y :: l, i + 1, x, h => by simpa using orI_drop l i x (by simpa using h)
theorem ints_get {l : List Int} {i : Nat} {x : Int} (h : l[i]? = some x) : (ints l)[((i : Int)).toNat]? = some (T.int .i64 x) := by
  simp [ints, h]
theorem Or_ct (l : List Int) (hl : l.length < 1000000) : CtT Try.prog 29 [.sl 1 (ints l)] (Ret (.int .i64 (orI l)) []) := by
  refine Ct.of Try.func29 rfl rfl (n := 18) rfl (by simp [ids]) ?_
  refine ⟨Nat, fun i => [(2, .int .i64 0), (3, .int .i64 0), (6, .t (.sl 1 (ints l))), (7, .int .i64 l.length), (8, .int .i64 i)], fun _ => [], fun i => i ≤ l.length ∧ orI (l.drop i) = orI l, fun i => l.length - i, 0, ⟨by simp, rfl⟩, Le.of [] ⟨rfl, rfl, rfl, by simp [ints]; rfl, rfl, trivial⟩ trivial rfl, ?_⟩
  rintro i ⟨h1, h2⟩
  refine brB (fun h => ?_) (fun h => ?_)
  · have h : i < l.length := by have := of_decide_eq_true h; omega
    have hx := List.getElem?_eq_getElem h
    refine ⟨by omega, _, ints_get hx, ?_⟩
    rw [orI_drop l i _ hx] at h2
    refine brB (fun h' => ?_) (fun h' => ?_)
    · have h' : decide (l[i] = 0) = false := by simpa using h'
      exact ⟨[], _, _, ⟨rfl, rfl⟩, congrArg (AV.int .i64) (by rw [← h2, h']; rfl), trivial, rfl⟩
    · have h' : decide (l[i] = 0) = true := by simpa using h'
      rw [h'] at h2
      refine ⟨i + 1, ⟨h, h2⟩, Le.of [] ⟨rfl, rfl, rfl, rfl, congrArg (AV.int .i64) (wi (by omega) (by omega)), trivial⟩ trivial rfl, by show l.length - (i + 1) < l.length - i; omega⟩
  · have h : ¬ i < l.length := by have := of_decide_eq_false h; omega
    rw [List.drop_of_length_le (by omega)] at h2
    exact ⟨[], _, _, ⟨rfl, rfl⟩, congrArg (AV.int .i64) (by rw [← h2]; rfl), trivial, rfl⟩
theorem order_ct (u v : U) : CtT Try.prog 19 [u.T, v.T] (Ret (.int .i64 (ord u v)) []) := by
  refine Ct.of Try.func19 rfl rfl (n := 17) rfl (by simp [ids]) ?_
  refine Told.callT (Compare_ct _ _) rfl rfl rfl rfl ?_
  refine Told.callT (Compare_ct _ _) rfl rfl rfl rfl ?_
  refine Told.callT (Or_ct [cmpI u.t v.t, cmpI u.e v.e] (by simp)) rfl rfl rfl rfl ?_
  exact ⟨[], _, _, ⟨rfl, rfl⟩, rfl, trivial, rfl⟩
end
end Go.Proofs.YtfhlgmfbpoldoaaX
namespace Go.Proofs.YtfhlgmfbpoldoaaX
section
open Go Go.YtfhlgmfbpoldoaaE Go.Proofs
set_option maxRecDepth 100000
set_option autoImplicit false
@[reducible] def uses (l : List U) : List T := l.map U.T
theorem uses_get {l : List U} {n : Int} {i : Nat} {x : U} (hn : n = i) (h : l[i]? = some x) : (uses l)[n.toNat]? = some x.T := by
  subst hn; simp [uses, h]
theorem uses_len (l : List U) : (uses l).length = l.length := by simp [uses]
abbrev UseBox (u : U) : Blk := .box 25 [.int .u64 u.t, .int .u64 u.e]
theorem half {i j : Nat} (h : i < j) (hj : j < 1000000) : IntKind.i64.wrap ((IntKind.u64.wrap (IntKind.i64.wrap ((i : Int) + j))).fdiv (2 ^ (min (1 : Int).toNat IntKind.u64.bits))) = ((i + j) / 2 : Nat) := by
  have e : ((2 : Int) ^ (min (1 : Int).toNat IntKind.u64.bits)) = 2 := by decide
  have h0 : IntKind.i64.wrap ((i : Int) + j) = (i : Int) + j := wi (by omega) (by omega)
  have h1 : IntKind.u64.wrap ((i : Int) + j) = (i : Int) + j := by
    simp [IntKind.wrap, IntKind.signed, IntKind.bits]; omega
  rw [h0, h1, e, Int.fdiv_eq_ediv_of_nonneg _ (by omega), wi (by omega) (by omega)]
  omega
theorem Search_ct (l : List U) (v : U) (k : Nat) (hl : l.length < 100000) (hk : k ≤ l.length) (h : ∀ i u, l[i]? = some u → (ord u v < 0 ↔ i < k)) (found : Bool) (hf : found = bif decide (k < l.length) then decide (ord (l.getD k v) v = 0) else false) :
    CtT Try.prog 18 [.sl 2 (uses l), v.T, .v (.func (.func 19) #[] #[])] (Ret (.tuple [.int .i64 k, .bool found]) []) := by
  refine Ct.of Try.func18 rfl rfl (n := 49) rfl (by simp [ids]) ?_
  refine ⟨Nat × Nat, fun y => [(0, .t (.sl 2 (uses l))), (2, .t (.v (.func (.func 19) #[] #[]))), (4, .ptr 4 0), (7, .bool false), (8, .int .i64 l.length), (9, .int .i64 y.1), (10, .int .i64 y.2)], fun _ => [(4, false, UseBox v)],
    fun y => y.1 ≤ k ∧ k ≤ y.2 ∧ y.2 ≤ l.length, fun y => y.2 - y.1, (0, l.length), ⟨by simp, hk, Nat.le_refl _⟩, Le.of [] ⟨rfl, rfl, rfl, rfl, by rw [← uses_len l]; rfl, rfl, by rw [← uses_len l]; rfl, trivial⟩ ⟨rfl, trivial⟩ rfl, ?_⟩
  rintro ⟨i, j⟩ ⟨h1, h2, h3⟩
  simp only at h1 h2 h3 ⊢
  refine brB (fun hc => ?_) (fun hc => ?_)
  · have hc : i < j := by have := of_decide_eq_true hc; omega
    have hm := half hc (by omega)
    have hx : l[(i + j) / 2]? = some (l[(i + j) / 2]'(by omega)) := List.getElem?_eq_getElem _
    generalize l[(i + j) / 2]'(by omega) = u at hx
    refine ⟨by decide, by rw [hm]; omega, _, uses_get hm hx, ?_⟩
    refine Told.callT (order_ct u v) rfl rfl rfl rfl ?_
    refine brB (fun hc2 => ?_) (fun hc2 => ?_)
    · have := (h _ _ hx).1 (of_decide_eq_true hc2)
      exact ⟨((i + j) / 2 + 1, j), ⟨this, h2, h3⟩, Le.of [] ⟨rfl, rfl, rfl, rfl, rfl, congrArg (AV.int .i64) (by rw [hm]; exact wi (by omega) (by omega)), rfl, trivial⟩ ⟨rfl, trivial⟩ rfl, by show j - ((i + j) / 2 + 1) < j - i; omega⟩
    · have hn : ¬ (i + j) / 2 < k := fun e => of_decide_eq_false hc2 ((h _ _ hx).2 e)
      exact ⟨(i, (i + j) / 2), ⟨h1, by omega, by omega⟩, Le.of [] ⟨rfl, rfl, rfl, rfl, rfl, rfl, congrArg (AV.int .i64) hm, trivial⟩ ⟨rfl, trivial⟩ rfl, by show (i + j) / 2 - i < j - i; omega⟩
  · have hc : ¬ i < j := by have := of_decide_eq_false hc; omega
    have hik : i = k := by omega
    subst hik
    refine brB (fun hc => ?_) (fun hc => ?_)
    · have hc2 : i < l.length := by have := of_decide_eq_true hc; omega
      have hx : l[i]? = some l[i] := List.getElem?_eq_getElem hc2
      refine ⟨by omega, _, uses_get rfl hx, ?_⟩
      refine Told.callT (order_ct l[i] v) rfl rfl rfl rfl ?_
      refine ⟨[], _, _, ⟨rfl, rfl⟩, ?_, trivial, rfl⟩
      rw [hf, decide_eq_true hc2, List.getD_eq_getElem?_getD, hx]
      rfl
    · have hc2 : ¬ i < l.length := by have := of_decide_eq_false hc; omega
      refine ⟨[], _, _, ⟨rfl, rfl⟩, ?_, trivial, rfl⟩
      rw [hf, decide_eq_false hc2]
      rfl
end
end Go.Proofs.YtfhlgmfbpoldoaaX
namespace Go.Proofs.YtfhlgmfbpoldoaaX
section
open Go Go.YtfhlgmfbpoldoaaE Go.Proofs
set_option maxRecDepth 100000
set_option autoImplicit false
theorem Clone_ct (l : List U) (hl : l.length < 100000) : CtT Try.prog 20 [.sl 2 (uses l)] (Ret (.own 0) [(0, false, .row 25 2 (uses l))]) := by
  refine Ct.ofL Try.func20 rfl rfl (n := 8) rfl (by simp [ids]) (by simp) ?_
  refine ⟨fun hn => ?_, fun _ => ?_⟩
  · refine ⟨_, _, Le.nil 2 50 25 2 rfl rfl, ?_⟩
    refine ⟨[(0, 50)], _, _, ⟨rfl, rfl⟩, rfl, ⟨?_, trivial⟩, rfl⟩
    rw [hn]; rfl
  · refine ⟨by show (_ + _) * 16 ≤ _; simp; omega, _, _, Le.refl _ _ _, ?_⟩
    exact ⟨[(0, 7)], _, _, ⟨rfl, rfl⟩, rfl, ⟨rfl, trivial⟩, rfl⟩
theorem Index_ct (l : List U) (v : U) (hl : l.length < 100000) (n : Int) (hn : n = (l.findIdx? (fun u => decide (u = v))).elim (-1 : Int) fun i => (i : Int)) : CtT Try.prog 36 [.sl 2 (uses l), v.T] (Ret (.int .i64 n) []) := by
  refine Ct.of Try.func36 rfl rfl (n := 19) rfl (by simp [ids]) ?_
  refine ⟨Nat, fun i => [(0, .t (.sl 2 (uses l))), (3, .ptr 3 0), (6, .t (.sl 2 (uses l))), (7, .int .i64 l.length), (8, .int .i64 i)], fun _ => [(3, false, UseBox v)], fun i => i ≤ l.length ∧ ∀ j, j < i → ∀ u, l[j]? = some u → u ≠ v, fun i => l.length - i, 0, ⟨by simp, by simp⟩, Le.of [] ⟨rfl, rfl, rfl, by rw [← uses_len l]; rfl, rfl, trivial⟩ ⟨rfl, trivial⟩ rfl, ?_⟩
  rintro i ⟨h1, h2⟩
  refine brB (fun hc => ?_) (fun hc => ?_)
  · have hc : i < l.length := by have := of_decide_eq_true hc; omega
    have hx : l[i]? = some l[i] := List.getElem?_eq_getElem hc
    generalize l[i] = u at hx
    refine ⟨by omega, _, uses_get rfl hx, ?_⟩
    refine ⟨⟨by kernel_rfl, Try.eqGuardType25⟩, fun c hc2 => ?_⟩
    refine brB (fun hc3 => ?_) (fun hc3 => ?_)
    · rw [hc3] at hc2
      have e : u = v := by
        have := of_decide_eq_true hc2.symm
        obtain ⟨a, b⟩ := u; obtain ⟨a', b'⟩ := v
        simp at this ⊢; omega
      refine ⟨[], _, _, ⟨rfl, rfl⟩, congrArg (AV.int .i64) ?_, trivial, rfl⟩
      rw [hn]
      have : l.findIdx? (fun u => decide (u = v)) = some i := by
        rw [List.findIdx?_eq_some_iff_getElem]
        refine ⟨hc, ?_, fun j hj => ?_⟩
        · have := (List.getElem?_eq_some_iff.1 hx).2
          simp [this, e]
        · simpa using h2 j hj _ (List.getElem?_eq_getElem (by omega))
      rw [this]; rfl
    · rw [hc3] at hc2
      have e : u ≠ v := by
        have := of_decide_eq_false hc2.symm
        rintro rfl
        exact this rfl
      refine ⟨i + 1, ⟨hc, fun j hj w hw => ?_⟩, Le.of [] ⟨rfl, rfl, rfl, rfl, congrArg (AV.int .i64) (wi (by omega) (by omega)), trivial⟩ ⟨rfl, trivial⟩ rfl, by show l.length - (i + 1) < l.length - i; omega⟩
      by_cases e2 : j = i
      · subst e2; rw [hx] at hw; cases hw; exact e
      · exact h2 j (by omega) w hw
  · have hc : ¬ i < l.length := by have := of_decide_eq_false hc; omega
    refine ⟨[], _, _, ⟨rfl, rfl⟩, congrArg (AV.int .i64) ?_, trivial, rfl⟩
    rw [hn]
    have : l.findIdx? (fun u => decide (u = v)) = none := by
      rw [List.findIdx?_eq_none_iff]
      intro x hx
      obtain ⟨j, hj, rfl⟩ := List.mem_iff_getElem.1 hx
      simpa using h2 j (by omega) _ (List.getElem?_eq_getElem hj)
    rw [this]; rfl
theorem Contains_ct (l : List U) (v : U) (hl : l.length < 100000) : CtT Try.prog 28 [.sl 2 (uses l), v.T] (Ret (.bool (decide (v ∈ l))) []) := by
  refine Ct.of Try.func28 rfl rfl (n := 9) rfl (by simp [ids]) ?_
  refine Told.callT (Index_ct l v hl _ rfl) rfl rfl rfl rfl ?_
  refine ⟨[], _, _, ⟨rfl, rfl⟩, congrArg AV.bool ?_, trivial, rfl⟩
  cases hf : l.findIdx? (fun u => decide (u = v)) with
  | none =>
    rw [List.findIdx?_eq_none_iff] at hf
    have : ¬ v ∈ l := fun h => by simpa using hf v h
    simp [this]
  | some i =>
    rw [List.findIdx?_eq_some_iff_getElem] at hf
    obtain ⟨h1, h2, _⟩ := hf
    have : v ∈ l := by have := of_decide_eq_true h2; rw [← this]; exact List.getElem_mem _
    simp [this]
end
end Go.Proofs.YtfhlgmfbpoldoaaX
namespace Go.Proofs.YtfhlgmfbpoldoaaX
section
open Go Go.YtfhlgmfbpoldoaaE Go.Proofs
set_option maxRecDepth 100000
set_option autoImplicit false
abbrev URow (l : List U) : Blk := .row 25 2 (uses l)
theorem ins_grow (l : List U) (y : U) (i : Nat) (z : T) (hi : i < l.length) :
    List.take (i + 1) (List.take i (List.take i (List.drop 0 (uses l)) ++ List.replicate (l.length + 1 - i) z) ++ List.take 1 (uses [y]) ++ List.drop (i + 1) (List.take i (List.drop 0 (uses l)) ++ List.replicate (l.length + 1 - i) z)) ++
      List.take (l.length - i) (List.drop i (uses l)) ++ List.drop (i + 1 + (l.length - i)) (List.take i (List.take i (List.drop 0 (uses l)) ++ List.replicate (l.length + 1 - i) z) ++ List.take 1 (uses [y]) ++ List.drop (i + 1) (List.take i (List.drop 0 (uses l)) ++ List.replicate (l.length + 1 - i) z)) = uses (l.take i ++ y :: l.drop i) := by
  have h1 : List.take i (List.take i (List.drop 0 (uses l)) ++ List.replicate (l.length + 1 - i) z) = uses (l.take i) := by
    rw [List.drop_zero, List.take_append_of_le_length (by simp; omega), List.take_take, Nat.min_self]; simp [uses]
  have h2 : (List.take i (List.take i (List.drop 0 (uses l)) ++ List.replicate (l.length + 1 - i) z) ++ List.take 1 (uses [y]) ++ List.drop (i + 1) (List.take i (List.drop 0 (uses l)) ++ List.replicate (l.length + 1 - i) z)).length = l.length + 1 := by simp; omega
  rw [List.drop_of_length_le (i := i + 1 + (l.length - i)) (by rw [h2]; omega), List.append_nil, h1]
  rw [List.take_append_of_le_length (by simp; omega), List.take_of_length_le (by simp; omega), List.take_of_length_le (l := List.drop i (uses l)) (by simp)]
  simp [uses]
theorem ins_shift (l : List U) (y : U) (i : Nat) (hi : i < l.length) :
    l.length + 1 = (List.take i (List.take (i + 1) (uses l) ++ List.take (l.length - i) (List.drop i (uses l)) ++ List.drop (i + 1 + (l.length - i)) (uses l)) ++ List.take 1 (uses [y]) ++ List.drop (i + 1) (List.take (i + 1) (uses l) ++ List.take (l.length - i) (List.drop i (uses l)) ++ List.drop (i + 1 + (l.length - i)) (uses l))).length ∧
    List.take i (List.take (i + 1) (uses l) ++ List.take (l.length - i) (List.drop i (uses l)) ++ List.drop (i + 1 + (l.length - i)) (uses l)) ++ List.take 1 (uses [y]) ++ List.drop (i + 1) (List.take (i + 1) (uses l) ++ List.take (l.length - i) (List.drop i (uses l)) ++ List.drop (i + 1 + (l.length - i)) (uses l)) = uses (l.take i ++ y :: l.drop i) := by
  have e : List.take (i + 1) (uses l) ++ List.take (l.length - i) (List.drop i (uses l)) ++ List.drop (i + 1 + (l.length - i)) (uses l) = List.take (i + 1) (uses l) ++ List.drop i (uses l) := by
    rw [List.drop_of_length_le (i := i + 1 + (l.length - i)) (by simp; omega), List.append_nil, List.take_of_length_le (l := List.drop i (uses l)) (by simp)]
  rw [e]
  have e2 : List.take i (List.take (i + 1) (uses l) ++ List.drop i (uses l)) = uses (l.take i) := by
    rw [List.take_append_of_le_length (by simp; omega), List.take_take, Nat.min_eq_left (by omega)]; simp [uses]
  have e3 : List.drop (i + 1) (List.take (i + 1) (uses l) ++ List.drop i (uses l)) = uses (l.drop i) := by
    rw [List.drop_append_of_le_length (by simp; omega), List.drop_of_length_le (l := List.take (i + 1) (uses l)) (by simp; omega)]; simp [uses]
  rw [e2, e3]
  refine ⟨by simp; omega, by simp [uses]⟩
theorem Insert_ct (l : List U) (y : U) (i : Nat) (hl : l.length < 100000) (hi : i ≤ l.length) : Ct Try.prog 21 [.own 0, .int .i64 i, .own 1] [(0, false, URow l), (1, false, URow [y])] (Ret (.own 2) [(2, false, URow (l.take i ++ y :: l.drop i)), (1, false, URow [y]), (0, false, .dead)]) := by
  have hn := uses_len l
  rcases Nat.lt_or_ge i l.length with hi | hge
  · have hne : uses l ≠ [] := fun e => by rw [e] at hn; simp at hn; omega
    refine Ct.room hne (by rw [hn]; unfold maxLen; omega) rfl rfl (fun N h1 h2 => ?_)
    rw [hn] at h1 ⊢
    unfold maxLen at h2
    refine Ct.ofL Try.func21 rfl rfl (n := 95) rfl (by simp [ids]; exact ⟨rfl, rfl⟩) (by simp) ?_
    refine ⟨i, l.length - i, by omega, by omega, by omega, by omega, by omega, by omega, ?_⟩
    refine brB (fun h => absurd (of_decide_eq_true h) (by omega)) (fun _ => ?_)
    have w1 : IntKind.i64.wrap ((l.length : Int) + (uses [y]).length) = (l.length : Int) + 1 := wi (by show _ ≤ (l.length : Int) + 1; omega) (by show (l.length : Int) + 1 < _; omega)
    have w3 : IntKind.i64.wrap ((i : Int) + (uses [y]).length) = (i : Int) + 1 := wi (by show _ ≤ (i : Int) + 1; omega) (by show (i : Int) + 1 < _; omega)
    refine brB (fun hc => ?_) (fun hc => ?_)
    · have hN : N = l.length := by
        have h3 : IntKind.i64.wrap ((l.length : Int) + (uses [y]).length) > ((N - 0 : Nat) : Int) := of_decide_eq_true hc
        rw [w1] at h3; omega
      subst hN
      have w2 : IntKind.i64.wrap (IntKind.i64.wrap ((l.length : Int) + (uses [y]).length) - i) = (l.length : Int) + 1 - i := by rw [w1]; exact wi (by omega) (by omega)
      have hlen : (List.take i (List.drop 0 (uses l)) ++ List.replicate (l.length + 1 - i) (zeroT (Value.agg #[Value.int IntKind.u64 0, Value.int IntKind.u64 0]))).length = l.length + 1 := by simp; omega
      refine ⟨0, i, by omega, by omega, by omega, by omega, by omega, by omega, l.length + 1 - i, by rw [w2]; omega, by rw [hn]; omega, by simp; omega, by show _ * 16 ≤ _; simp; omega, ?_⟩
      refine ⟨i, l.length + 1 - i, rfl, by rw [hlen]; omega, by omega, by rw [hlen]; omega, by omega, 1, by show 1 = min 1 _; omega, trivial, ?_⟩
      refine ⟨i + 1, l.length - i, by rw [w3]; omega, by rw [w3]; simp; omega, by rw [w3]; omega, by rw [w3]; simp; omega, by omega, i, l.length - i, by omega, by omega, by omega, by omega, by omega, by omega, l.length - i, by simp, by rw [hn]; omega, ?_⟩
      refine ⟨_, _, Le.kill 0 rfl, ?_⟩
      refine ⟨[(2, 40)], _, _, ⟨rfl, rfl⟩, rfl, ⟨congrArg (fun x => (false, Blk.row 25 2 x)) ?_, rfl, rfl, trivial⟩, rfl⟩
      exact ins_grow l y i _ (by omega)
    · have hN : l.length + 1 ≤ N := by
        have h3 : ¬ (IntKind.i64.wrap ((l.length : Int) + (uses [y]).length) > ((N - 0 : Nat) : Int)) := of_decide_eq_false hc
        rw [w1] at h3; omega
      refine ⟨0, l.length + 1, by omega, by rw [w1]; omega, by omega, by rw [w1]; omega, by rw [w1]; omega, by omega, i + 1, l.length - i, by rw [w3]; omega, by rw [w3]; omega, by rw [w3]; omega, by rw [w3]; omega, by omega, by omega, ?_⟩
      refine Told.overlaps (tS := 22) (tR := 4) rfl Try.func31 rfl rfl (by kernel_rfl) (by kernel_rfl) rfl rfl rfl rfl rfl rfl (by simp) hne rfl ?_
      refine ⟨i + 1, l.length - i, by rw [w3]; omega, by rw [w3]; omega, by rw [w3]; omega, by rw [w3]; omega, by omega, by omega, i, l.length + 1 - i, by omega, by omega, by omega, by omega, by omega, by omega, l.length - i, by show _ = min _ _; omega, by rw [hn]; omega, by rw [hn]; omega, by omega, ?_⟩
      refine ⟨i, l.length + 1 - i, by omega, by omega, by omega, by omega, by omega, by omega, 1, by show 1 = min 1 _; omega, trivial, by simp; omega, by omega, ?_⟩
      have hz := ins_shift l y i (by omega)
      refine ⟨_, _, Le.trans (Le.cutA 6 0 50 25 2 N _ (congrArg (fun n => AV.fsub 0 2 0 n N) hz.1) rfl rfl) (Le.refl _ _ _), ?_⟩
      refine ⟨[(2, 50)], _, _, ⟨rfl, rfl⟩, rfl, ⟨congrArg (fun x => (false, Blk.row 25 2 x)) ?_, rfl, rfl, trivial⟩, rfl⟩
      exact hz.2
  · have : i = l.length := by omega
    subst this
    refine Ct.ofL Try.func21 rfl rfl (n := 95) rfl (by simp [ids]; exact ⟨rfl, rfl⟩) (by simp) ?_
    refine ⟨l.length, 0, rfl, by rw [hn]; omega, by omega, by rw [hn]; omega, by omega, ?_⟩
    refine brB (fun _ => ?_) (fun h => absurd (of_decide_eq_false h) (by rw [hn]; simp))
    refine ⟨by show _ * 16 ≤ _; simp; omega, ?_⟩
    refine ⟨_, _, Le.refl _ _ _, ?_⟩
    refine ⟨[(2, 25)], _, _, ⟨rfl, rfl⟩, rfl, ⟨congrArg (fun x => (false, Blk.row 25 2 x)) ?_, rfl, rfl, trivial⟩, rfl⟩
    simp [uses]
end
end Go.Proofs.YtfhlgmfbpoldoaaX
namespace Go.Proofs.YtfhlgmfbpoldoaaX
section
open Go Go.YtfhlgmfbpoldoaaE Go.Proofs
set_option maxRecDepth 100000
set_option autoImplicit false
def ltU (u v : U) : Prop := u.t < v.t ∨ u.t = v.t ∧ u.e < v.e
theorem cmpI_lt {a b : Int} : cmpI a b < 0 ↔ a < b := by
  unfold cmpI
  by_cases h : a < b
  · simp [h]
  · by_cases h2 : b < a <;> simp [h, h2]
theorem cmpI_zero {a b : Int} : cmpI a b = 0 ↔ a = b := by
  unfold cmpI
  by_cases h : a < b
  · simp [h]; omega
  · by_cases h2 : b < a
    · simp [h, h2]; omega
    · simp [h, h2]; omega
theorem ord_cases (u v : U) : ord u v = bif decide (cmpI u.t v.t = 0) then cmpI u.e v.e else cmpI u.t v.t := by
  unfold ord orI orI orI
  cases h1 : decide (cmpI u.t v.t = 0)
  · rfl
  · cases h3 : decide (cmpI u.e v.e = 0)
    · rfl
    · exact (of_decide_eq_true h3).symm
theorem ord_eq {u v : U} : ord u v = 0 ↔ u = v := by
  rw [ord_cases]
  obtain ⟨a, b⟩ := u; obtain ⟨a', b'⟩ := v
  simp only [U.mk.injEq]
  by_cases h1 : cmpI a a' = 0
  · rw [decide_eq_true h1, cond_true, cmpI_zero]
    rw [cmpI_zero] at h1
    omega
  · rw [decide_eq_false h1, cond_false]
    exact ⟨fun h => absurd h h1, fun h => absurd (cmpI_zero.2 h.1) h1⟩
theorem ord_lt {u v : U} : ord u v < 0 ↔ ltU u v := by
  rw [ord_cases]
  obtain ⟨a, b⟩ := u; obtain ⟨a', b'⟩ := v
  simp only [ltU]
  by_cases h1 : cmpI a a' = 0
  · rw [decide_eq_true h1, cond_true, cmpI_lt]
    rw [cmpI_zero] at h1
    omega
  · rw [decide_eq_false h1, cond_false, cmpI_lt]
    rw [cmpI_zero] at h1
    omega
theorem ltU_trans {u v w : U} (h : ltU u v) (h' : ltU v w) : ltU u w := by unfold ltU at *; omega
theorem ltU_irrefl {u : U} : ¬ ltU u u := by unfold ltU; omega
theorem ltU_tri (u v : U) : ltU u v ∨ u = v ∨ ltU v u := by
  obtain ⟨a, b⟩ := u; obtain ⟨a', b'⟩ := v
  simp only [ltU, U.mk.injEq]; omega
structure OkL (l : List U) : Prop where
  len : l.length ≤ 64
  srt : l.Pairwise ltU
instance (u v : U) : Decidable (ltU u v) := by unfold ltU; infer_instance
instance (l : List U) : Decidable (OkL l) := decidable_of_iff (l.length ≤ 64 ∧ l.Pairwise ltU) ⟨fun h => ⟨h.1, h.2⟩, fun h => ⟨h.1, h.2⟩⟩
theorem srt_of_adj {l : List U} (h : ∀ i u v, l[i]? = some u → l[i + 1]? = some v → ltU u v) : l.Pairwise ltU := by
  rw [List.pairwise_iff_getElem]
  intro i j hi hj hij
  induction j with
  | zero => omega
  | succ j ih =>
    have h1 := h j l[j] l[j + 1] (List.getElem?_eq_getElem _) (List.getElem?_eq_getElem _)
    by_cases e : i = j
    · subst e; exact h1
    · exact ltU_trans (ih (by omega) (by omega)) h1
theorem adj_of_srt {l : List U} (h : l.Pairwise ltU) {i : Nat} {u v : U} (hu : l[i]? = some u) (hv : l[i + 1]? = some v) : ltU u v := by
  rw [List.pairwise_iff_getElem] at h
  obtain ⟨h1, rfl⟩ := List.getElem?_eq_some_iff.1 hu
  obtain ⟨h2, rfl⟩ := List.getElem?_eq_some_iff.1 hv
  exact h i (i + 1) h1 h2 (by omega)
theorem ex_bool (p : Prop) : ∃ b : Bool, b = true ↔ p := by
  by_cases h : p
  · exact ⟨true, by simp [h]⟩
  · exact ⟨false, by simp [h]⟩
theorem Right_ct (s : List U) (hl : s.length < 100000) (b : Bool) (hb : b = true ↔ OkL s) : CtT Try.prog 14 [.sl 2 (uses s)] (Ret (.bool b) []) := by
  refine Ct.of Try.func14 rfl rfl (n := 28) rfl (by simp [ids]) ?_
  have fb : ¬ OkL s → false = b := fun h => by cases b; rfl; exact absurd (hb.1 rfl) h
  refine ⟨Nat, fun i => [(0, .t (.sl 2 (uses s))), (5, .t (.sl 2 (uses s))), (6, .int .i64 s.length), (7, .int .i64 i)], fun _ => [],
      fun i => i ≤ s.length ∧ ∀ j u v, j + 1 < i → s[j]? = some u → s[j + 1]? = some v → ltU u v, fun i => s.length - i, 0, ⟨by simp, by simp⟩, Le.of [] ⟨rfl, rfl, by rw [← uses_len s]; rfl, rfl, trivial⟩ trivial rfl, ?_⟩
  rintro i ⟨q1, q3⟩
  refine brB (fun hc => ?_) (fun hc => ?_)
  · have hc : i < s.length := by have := of_decide_eq_true hc; omega
    have hx : s[i]? = some s[i] := List.getElem?_eq_getElem hc
    generalize s[i] = u at hx
    refine ⟨by omega, _, uses_get rfl hx, ?_⟩
    refine brB (fun h5 => ?_) (fun h5 => ?_)
    · have h5 : 0 < i := by have := of_decide_eq_true h5; omega
      have hp : s[i - 1]? = some s[i - 1] := List.getElem?_eq_getElem (by omega)
      generalize s[i - 1] = v at hp
      have w1 : IntKind.i64.wrap ((i : Int) - 1) = ((i - 1 : Nat) : Int) := by rw [wi (by omega) (by omega)]; omega
      refine ⟨by rw [w1]; omega, _, uses_get w1 hp, ?_⟩
      refine Told.callT (order_ct v u) rfl rfl rfl rfl ?_
      refine brB (fun h6 => ?_) (fun h6 => ?_)
      · refine ⟨[], _, _, ⟨rfl, rfl⟩, congrArg AV.bool (fb fun h => ?_), trivial, rfl⟩
        have h7 := adj_of_srt h.srt hp (by rw [show i - 1 + 1 = i by omega]; exact hx)
        have := ord_lt.2 h7
        have := of_decide_eq_true h6
        omega
      · have h6 : ord v u < 0 := by have := of_decide_eq_false h6; omega
        refine ⟨i + 1, ⟨hc, fun j w z hj hw hz => ?_⟩, Le.of [] ⟨rfl, rfl, rfl, congrArg (AV.int .i64) (wi (by omega) (by omega)), trivial⟩ trivial rfl, by show s.length - (i + 1) < s.length - i; omega⟩
        by_cases e : j + 1 = i
        · subst e
          rw [hx] at hz; cases hz
          rw [Nat.add_sub_cancel, hw] at hp; cases hp
          exact ord_lt.1 h6
        · exact q3 j w z (by omega) hw hz
    · have h5 : ¬ 0 < i := by have := of_decide_eq_false h5; omega
      refine ⟨i + 1, ⟨hc, fun j w z hj hw hz => by omega⟩, Le.of [] ⟨rfl, rfl, rfl, congrArg (AV.int .i64) (wi (by omega) (by omega)), trivial⟩ trivial rfl, by show s.length - (i + 1) < s.length - i; omega⟩
  · have hc : i = s.length := by have := of_decide_eq_false hc; omega
    subst hc
    refine ⟨[], _, _, ⟨rfl, rfl⟩, congrArg AV.bool ?_, trivial, rfl⟩
    have srt : s.Pairwise ltU := srt_of_adj fun j u v hu hv => q3 j u v (List.getElem?_eq_some_iff.1 hv).1 hu hv
    cases b with
    | true => have := (hb.1 rfl).len; rw [uses_len]; exact decide_eq_true (by omega)
    | false =>
      rw [uses_len]
      refine decide_eq_false fun h => ?_
      have := hb.2 ⟨by omega, srt⟩
      cases this
theorem Has_ct (c : List U) (u : U) (hl : c.length < 100000) : CtT Try.prog 15 [.sl 2 (uses c), u.T] (Ret (.bool (decide (u ∈ c))) []) := by
  refine Ct.of Try.func15 rfl rfl (n := 8) rfl (by simp [ids]) ?_
  refine Told.callT (Contains_ct c u hl) rfl rfl rfl rfl ?_
  exact ⟨[], _, _, ⟨rfl, rfl⟩, rfl, trivial, rfl⟩
theorem srt_index (l : List U) (hs : l.Pairwise ltU) (u : U) : ∃ k, k ≤ l.length ∧ (∀ i v, l[i]? = some v → (ltU v u ↔ i < k)) := by
  induction l with
  | nil => exact ⟨0, by simp, by simp⟩
  | cons x l ih =>
    rw [List.pairwise_cons] at hs
    by_cases h : ltU x u
    · obtain ⟨k, h1, h2⟩ := ih hs.2
      refine ⟨k + 1, by simp; omega, fun i v hv => ?_⟩
      cases i with
      | zero => simp at hv; subst hv; simp [h]
      | succ i => rw [h2 i v (by simpa using hv)]; omega
    · refine ⟨0, by simp, fun i v hv => ⟨fun h' => absurd ?_ h, fun h => by omega⟩⟩
      cases i with
      | zero => simp at hv; subst hv; exact h'
      | succ i => exact ltU_trans (hs.1 v (List.mem_of_getElem? (by simpa using hv))) h'
def insU (l : List U) (u : U) : List U := l.filter (fun v => decide (ltU v u)) ++ u :: l.filter (fun v => !decide (ltU v u))
theorem insU_eq {l : List U} {u : U} {k : Nat} (hk : k ≤ l.length) (h : ∀ i v, l[i]? = some v → (ltU v u ↔ i < k)) : insU l u = l.take k ++ u :: l.drop k := by
  have h1 : l.filter (fun v => decide (ltU v u)) = l.take k := by
    conv => lhs; rw [← List.take_append_drop k l]
    rw [List.filter_append, List.filter_eq_self.2, List.filter_eq_nil_iff.2, List.append_nil]
    · intro v hv
      obtain ⟨i, hi, rfl⟩ := List.mem_iff_getElem.1 hv
      rw [List.getElem_drop]
      have := (h (k + i) _ (List.getElem?_eq_getElem (by simp at hi; omega)))
      simp [this]
    · intro v hv
      obtain ⟨i, hi, rfl⟩ := List.mem_iff_getElem.1 hv
      rw [List.getElem_take]
      have := (h i _ (List.getElem?_eq_getElem (by simp at hi; omega)))
      simp [this]; simp at hi; omega
  have h2 : l.filter (fun v => !decide (ltU v u)) = l.drop k := by
    conv => lhs; rw [← List.take_append_drop k l]
    rw [List.filter_append, List.filter_eq_nil_iff.2, List.filter_eq_self.2, List.nil_append]
    · intro v hv
      obtain ⟨i, hi, rfl⟩ := List.mem_iff_getElem.1 hv
      rw [List.getElem_drop]
      have := (h (k + i) _ (List.getElem?_eq_getElem (by simp at hi; omega)))
      simp [this]
    · intro v hv
      obtain ⟨i, hi, rfl⟩ := List.mem_iff_getElem.1 hv
      rw [List.getElem_take]
      have := (h i _ (List.getElem?_eq_getElem (by simp at hi; omega)))
      simp [this]; simp at hi; omega
  unfold insU
  rw [h1, h2]
theorem found_iff {l : List U} {u : U} {k : Nat} (hs : l.Pairwise ltU) (hk : k ≤ l.length) (h : ∀ i v, l[i]? = some v → (ltU v u ↔ i < k)) : (bif decide (k < l.length) then decide (ord (l.getD k u) u = 0) else false) = true ↔ u ∈ l := by
  by_cases hlt : k < l.length
  · rw [decide_eq_true hlt, cond_true, decide_eq_true_eq, ord_eq, List.getD_eq_getElem?_getD, List.getElem?_eq_getElem hlt]
    constructor
    · intro e
      rw [← (show l[k] = u from e)]
      exact List.getElem_mem hlt
    intro hu
    obtain ⟨i, hi, rfl⟩ := List.mem_iff_getElem.1 hu
    have h1 : ¬ i < k := fun e => ltU_irrefl ((h i _ (List.getElem?_eq_getElem hi)).2 e)
    have h2 : ¬ k < i := fun e => by
      have := (List.pairwise_iff_getElem.1 hs) k i hlt hi e
      have := (h k _ (List.getElem?_eq_getElem hlt)).1 this
      omega
    have : k = i := by omega
    subst this; rfl
  · rw [decide_eq_false hlt, cond_false]
    refine ⟨fun e => (by cases e), fun hu => ?_⟩
    obtain ⟨i, hi, rfl⟩ := List.mem_iff_getElem.1 hu
    exact absurd ((h i _ (List.getElem?_eq_getElem hi)).2 (by omega)) ltU_irrefl
def putG (c : List U) (u : U) : List U × Int :=
  if ¬ OkL c then ([], 1) else if u ∈ c then (c, 0) else if c.length = 64 then ([], 12) else (insU c u, 0)
@[reducible] def res (p : List U × Int) : T := .tuple [.sl 2 (uses p.1), .int .i64 p.2]
theorem Put_ct (c : List U) (u : U) (hl : c.length < 10000) : CtT Try.prog 7 [.sl 2 (uses c), u.T] (Ret (.t (res (putG c u))) []) := by
  refine CtT.ofN Try.func7 rfl rfl (n := 31) rfl ?_
  obtain ⟨b, hb⟩ := ex_bool (OkL c)
  refine Told.callT (Right_ct c (by omega) b hb) rfl rfl rfl rfl ?_
  cases b with
  | false =>
    refine ⟨_, rfl, ?_⟩
    rw [putG, if_pos (fun h => by have := hb.2 h; cases this)]
    repeat constructor
  | true =>
    have ok := hb.1 rfl
    obtain ⟨k, hk, hki⟩ := srt_index c ok.srt u
    have hki' : ∀ i v, c[i]? = some v → (ord v u < 0 ↔ i < k) := fun i v hv => ord_lt.trans (hki i v hv)
    refine Told.callT (Search_ct c u k (by omega) hk hki' _ rfl) rfl rfl rfl rfl ?_
    refine brB (fun h2 => ?_) (fun h2 => brB (fun h3 => ?_) (fun h3 => ?_))
    · refine Told.callT (Clone_ct c (by omega)) rfl rfl rfl rfl ?_
      refine ⟨_, rfl, ?_⟩
      rw [putG, if_neg (by simpa using ok), if_pos ((found_iff ok.srt hk hki).1 h2)]
      exact .refl _
    · refine ⟨_, rfl, ?_⟩
      have h2 : u ∉ c := fun h => by have := (found_iff ok.srt hk hki).2 h; rw [h2] at this; cases this
      have h3 := of_decide_eq_true h3
      rw [uses_len] at h3
      rw [putG, if_neg (by simpa using ok), if_neg h2, if_pos (by omega)]
      repeat constructor
    · have h2 : u ∉ c := fun h => by have := (found_iff ok.srt hk hki).2 h; rw [h2] at this; cases this
      have h3 := of_decide_eq_false h3
      rw [uses_len] at h3
      refine Told.callT (Clone_ct c (by omega)) rfl rfl rfl rfl ?_
      refine Told.callR [(0, 26), (1, 29)] (Insert_ct c u k (by omega) hk) rfl rfl rfl ⟨rfl, rfl, trivial⟩ rfl ?_
      refine ⟨_, rfl, ?_⟩
      rw [putG, if_neg (by simpa using ok), if_neg h2, if_neg (by omega), insU_eq hk hki]
      exact .refl _
end
end Go.Proofs.YtfhlgmfbpoldoaaX
namespace Go.Proofs.YtfhlgmfbpoldoaaX
section
open Go Go.YtfhlgmfbpoldoaaE Go.Proofs
set_option maxRecDepth 100000
set_option autoImplicit false
@[reducible] def bys (xs : List Int) : List T := xs.map (T.int .u8)
theorem bys_len (l : List Int) : (bys l).length = l.length := by simp [bys]
theorem bys_get {l : List Int} {n : Int} {i : Nat} {x : Int} (hn : n = i) (h : l[i]? = some x) : (bys l)[n.toNat]? = some (T.int .u8 x) := by
  subst hn; simp [bys, h]
def Byt (l : List Int) : Prop := ∀ x ∈ l, 0 ≤ x ∧ x ≤ 255
def val (l : List Int) : Int := l.foldl (fun v x => 256 * v + x) 0
theorem val_snoc (l : List Int) (x : Int) : val (l ++ [x]) = 256 * val l + x := by simp [val]
theorem val_bound : ∀ (n : Nat) (l : List Int), l.length = n → Byt l → 0 ≤ val l ∧ val l < 256 ^ n := by
  intro n
  induction n with
  | zero => intro l h _; have := List.length_eq_zero_iff.1 h; subst this; simp [val]
  | succ n ih =>
    intro l h hb
    obtain ⟨l', x, rfl⟩ : ∃ l' x, l = l' ++ [x] := by
      have hne : l ≠ [] := fun e => by subst e; simp at h
      exact ⟨l.dropLast, l.getLast hne, (List.dropLast_concat_getLast hne).symm⟩
    obtain ⟨h1, h2⟩ := ih l' (by simpa using h) (fun y hy => hb y (by simp [hy]))
    have := hb x (by simp)
    rw [val_snoc, Int.pow_succ]
    omega
theorem val_lt {l : List Int} (h : l.length ≤ 8) (hb : Byt l) : 0 ≤ val l ∧ val l < 2 ^ 64 := by
  obtain ⟨h1, h2⟩ := val_bound _ l rfl hb
  refine ⟨h1, Int.lt_of_lt_of_le h2 ?_⟩
  have : (256 : Int) ^ l.length ≤ 256 ^ 8 := by
    have := Nat.pow_le_pow_right (n := 256) (by omega) h
    exact_mod_cast this
  have e : (256 : Int) ^ 8 = 2 ^ 64 := by decide
  omega
theorem wu64 {x : Int} (h0 : 0 ≤ x) (h1 : x < 2 ^ 64) : IntKind.u64.wrap x = x := by
  simp [IntKind.wrap, IntKind.signed, IntKind.bits]; omega
theorem or_byte {v x : Int} (h0 : 0 ≤ v) (x0 : 0 ≤ x) (x1 : x ≤ 255) (h : 256 * v + x < 2 ^ 64) : Go.bits .or .u64 (IntKind.u64.wrap (v * 2 ^ min (Int.toNat 8) IntKind.u64.bits)) (IntKind.u64.wrap x) = 256 * v + x := by
  have e : (2 : Int) ^ min (Int.toNat 8) IntKind.u64.bits = 256 := by decide
  have w1 : IntKind.u64.wrap (v * 256) = v * 256 := wu64 (by omega) (by omega)
  have w2 : IntKind.u64.wrap x = x := wu64 (by omega) (by omega)
  rw [e, w1, w2]
  obtain ⟨a, rfl⟩ := Int.eq_ofNat_of_zero_le h0
  obtain ⟨b, rfl⟩ := Int.eq_ofNat_of_zero_le x0
  have hb : b < 2 ^ 8 := by omega
  have hor := Nat.two_pow_add_eq_or_of_lt hb a
  have e1 : ((a : Int) * 256 % 2 ^ 64).toNat = 2 ^ 8 * a := by rw [Int.emod_eq_of_lt (by omega) (by omega)]; omega
  have e2 : ((b : Int) % 2 ^ 64).toNat = b := by rw [Int.emod_eq_of_lt (by omega) (by omega)]; omega
  show IntKind.u64.wrap (((BitVec.ofInt 64 ((a : Int) * 256) ||| BitVec.ofInt 64 (b : Int)).toNat : Nat) : Int) = _
  rw [BitVec.toNat_or, BitVec.toNat_ofInt, BitVec.toNat_ofInt]
  have e1' : ((a : Int) * 256 % ((2 ^ 64 : Nat) : Int)).toNat = 2 ^ 8 * a := e1
  have e2' : ((b : Int) % ((2 ^ 64 : Nat) : Int)).toNat = b := e2
  rw [e1', e2', ← hor, wu64 (by omega) (by omega)]
  omega
theorem value_ct (l : List Int) (hl : l.length ≤ 8) (hb : Byt l) : CtT Try.prog 35 [.sl 1 (bys l)] (Ret (.int .u64 (val l)) []) := by
  refine Ct.of Try.func35 rfl rfl (n := 19) rfl (by simp [ids]) ?_
  refine ⟨Nat, fun i => [(3, .int .u64 (val (l.take i))), (6, .t (.sl 1 (bys l))), (7, .int .i64 l.length), (8, .int .i64 i)], fun _ => [], fun i => i ≤ l.length, fun i => l.length - i, 0, by simp, Le.of [] ⟨rfl, rfl, by rw [← bys_len l]; rfl, rfl, trivial⟩ trivial rfl, ?_⟩
  rintro i h1
  refine brB (fun hc => ?_) (fun hc => ?_)
  · have hc : i < l.length := by have := of_decide_eq_true hc; omega
    have hx : l[i]? = some l[i] := List.getElem?_eq_getElem hc
    have htk : l.take (i + 1) = l.take i ++ [l[i]] := by rw [List.take_add_one, hx]; rfl
    have hxb := hb l[i] (List.getElem_mem hc)
    generalize l[i] = x at hx htk hxb
    refine ⟨by omega, _, bys_get rfl hx, ?_⟩
    have hv := val_lt (l := l.take i) (by simp; omega) (fun y hy => hb y (List.mem_of_mem_take hy))
    have hv' := val_lt (l := l.take (i + 1)) (by simp; omega) (fun y hy => hb y (List.mem_of_mem_take hy))
    rw [htk, val_snoc] at hv'
    refine ⟨by decide, i + 1, hc, Le.of [] ⟨congrArg (AV.int .u64) ?_, rfl, rfl, congrArg (AV.int .i64) (wi (by omega) (by omega)), trivial⟩ trivial rfl, by show l.length - (i + 1) < l.length - i; omega⟩
    rw [htk, val_snoc]
    exact or_byte hv.1 hxb.1 hxb.2 hv'.2
  · have hc : i = l.length := by have := of_decide_eq_false hc; omega
    subst hc
    refine ⟨[], _, _, ⟨rfl, rfl⟩, congrArg (AV.int .u64) (by simp), trivial, rfl⟩
theorem Get_ct (l : List Int) (hl : l.length = 8) (hb : Byt l) : CtT Try.prog 26 [.sl 1 (bys l)] (Ret (.tuple [.int .u64 (val l), .int .i64 0]) []) := by
  refine Ct.of Try.func26 rfl rfl (n := 9) rfl (by simp [ids]) ?_
  refine brB (fun hc => ?_) (fun hc => ?_)
  · have hc : ¬ (((bys l).length : Int) = 8) := by simpa using hc
    rw [bys_len, hl] at hc
    exact absurd rfl hc
  · refine Told.callT (value_ct l (by omega) hb) rfl rfl rfl rfl ?_
    exact ⟨[], _, _, ⟨rfl, rfl⟩, rfl, trivial, rfl⟩
end
end Go.Proofs.YtfhlgmfbpoldoaaX
namespace Go.Proofs.YtfhlgmfbpoldoaaX
section
open Go Go.YtfhlgmfbpoldoaaE Go.Proofs
set_option maxRecDepth 100000
set_option autoImplicit false
def quad (x : Int) : List Int := [x / 2 ^ 24 % 256, x / 2 ^ 16 % 256, x / 2 ^ 8 % 256, x % 256]
theorem quad_len (x : Int) : (quad x).length = 4 := rfl
theorem quads_len (l : List Int) : (l.flatMap quad).length = 4 * l.length := by
  induction l with
  | nil => rfl
  | cons x l ih => simp [ih, quad_len]; omega
theorem wu8 (x : Int) : IntKind.u8.wrap x = x % 256 := by
  simp [IntKind.wrap, IntKind.signed, IntKind.bits]
theorem shr32 {x : Int} (k : Int) (j : Nat) (hk : min k.toNat 32 = j) : x.fdiv (2 ^ (min k.toNat IntKind.u32.bits)) = x / 2 ^ j := by
  rw [show min k.toNat IntKind.u32.bits = j from hk, Int.fdiv_eq_ediv_of_nonneg _ (by exact Int.le_of_lt (Int.pow_pos (by decide)))]
theorem Bytes_ct (l : List Int) (hl : l.length < 1000) : CtT Try.prog 33 [.sl 1 (l.map (T.int .u32))] (Ret (.t (.sl 1 (bys (l.flatMap quad)))) []) := by
  refine CtT.ofN Try.func33 rfl rfl (n := 28) rfl ?_
  have hlen : (l.map (T.int .u32)).length = l.length := by simp
  refine ⟨Nat, fun i => [(3, .own 9), (6, .t (.sl 1 (l.map (T.int .u32)))), (7, .int .i64 l.length), (8, .int .i64 i)], fun i => [(9, false, .row 5 1 (bys ((l.take i).flatMap quad)))], fun i => i ≤ l.length, fun i => l.length - i, 0, Nat.zero_le _, Le.trans (Le.nil 3 9 5 1 rfl rfl) (Le.of [] ⟨rfl, rfl, by rw [← hlen]; rfl, rfl, trivial⟩ ⟨rfl, trivial⟩ rfl), ?_⟩
  intro i hi
  refine brB (fun hc => ?_) (fun hc => ?_)
  · have hc : i < l.length := by have := of_decide_eq_true hc; omega
    have hx : l[i]? = some l[i] := List.getElem?_eq_getElem hc
    have htk : l.take (i + 1) = l.take i ++ [l[i]] := by rw [List.take_add_one, hx]; rfl
    generalize l[i] = x at hx htk
    refine ⟨by omega, _, (show (l.map (T.int .u32))[((i : Int)).toNat]? = some (T.int .u32 x) by simp [hx]), ?_⟩
    refine ⟨by decide, by decide, by decide, by show _ * 1 ≤ _; have := quads_len (l.take i); simp [bys] at *; omega, ?_⟩
    refine ⟨i + 1, hc, Le.of [(9, 25)] ⟨rfl, rfl, rfl, congrArg (AV.int .i64) (wi (by omega) (by omega)), trivial⟩ ⟨congrArg (fun x => (false, Blk.row 5 1 x)) ?_, trivial⟩ rfl, by show l.length - (i + 1) < l.length - i; omega⟩
    rw [htk, List.flatMap_append]
    have e : quad x = [IntKind.u8.wrap (x.fdiv (2 ^ min (Int.toNat 24) IntKind.u32.bits)), IntKind.u8.wrap (x.fdiv (2 ^ min (Int.toNat 16) IntKind.u32.bits)), IntKind.u8.wrap (x.fdiv (2 ^ min (Int.toNat 8) IntKind.u32.bits)), IntKind.u8.wrap x] := by
      rw [shr32 24 24 (by decide), shr32 16 16 (by decide), shr32 8 8 (by decide), wu8, wu8, wu8, wu8]; rfl
    simp [bys, e]
  · have hc : i = l.length := by have := of_decide_eq_false hc; omega
    subst hc
    refine ⟨_, rfl, ?_⟩
    rw [List.take_length]
    exact .refl _
def oct (v : Int) : List Int := quad (v / 2 ^ 32) ++ quad (v % 2 ^ 32)
theorem oct_len (v : Int) : (oct v).length = 8 := rfl
theorem wu32 (x : Int) : IntKind.u32.wrap x = x % 2 ^ 32 := by
  simp [IntKind.wrap, IntKind.signed, IntKind.bits]
theorem Put_word {v : Int} (h0 : 0 ≤ v) (h1 : v < 2 ^ 64) : CtT Try.prog 23 [.int .u64 v] (Ret (.t (.sl 1 (bys (oct v)))) []) := by
  refine CtT.ofN Try.func23 rfl rfl (n := 10) rfl ?_
  refine ⟨by decide, ?_⟩
  refine Told.callT (Bytes_ct [IntKind.u32.wrap (v.fdiv (2 ^ min (Int.toNat 32) IntKind.u64.bits)), IntKind.u32.wrap v] (by simp)) rfl rfl rfl rfl ?_
  refine ⟨_, rfl, ?_⟩
  have e1 : IntKind.u32.wrap (v.fdiv (2 ^ min (Int.toNat 32) IntKind.u64.bits)) = v / 2 ^ 32 := by
    rw [show min (Int.toNat 32) IntKind.u64.bits = 32 by decide, Int.fdiv_eq_ediv_of_nonneg _ (by decide), wu32]
    omega
  rw [e1, wu32]
  have e2 : [v / 2 ^ 32, v % 2 ^ 32].flatMap quad = oct v := by simp [oct]
  rw [e2]
  exact .refl _
end
end Go.Proofs.YtfhlgmfbpoldoaaX
namespace Go.Proofs.YtfhlgmfbpoldoaaX
section
open Go Go.YtfhlgmfbpoldoaaE Go.Proofs
set_option maxRecDepth 100000
set_option autoImplicit false
theorem Value_ct (l : List Int) (hl : l.length ≤ 8) (hb : Byt l) : CtT Try.prog 27 [.sl 1 (bys l)] (Ret (.int .u64 (val l)) []) := by
  refine Ct.of Try.func27 rfl rfl (n := 20) rfl (by simp [ids]) ?_
  refine ⟨Nat, fun i => [(0, .t (.sl 1 (bys l))), (3, .int .u64 (val (l.take i))), (4, .int .i64 i)], fun _ => [], fun i => i ≤ l.length, fun i => l.length - i, 0, by simp, Le.of [] ⟨rfl, rfl, rfl, trivial⟩ trivial rfl, ?_⟩
  rintro i h1
  refine brB (fun hc => ?_) (fun hc => ?_)
  · have hc : i < l.length := by have := of_decide_eq_true hc; rw [bys_len] at this; omega
    have hx : l[i]? = some l[i] := List.getElem?_eq_getElem hc
    have htk : l.take (i + 1) = l.take i ++ [l[i]] := by rw [List.take_add_one, hx]; rfl
    have hxb := hb l[i] (List.getElem_mem hc)
    generalize l[i] = x at hx htk hxb
    refine ⟨by omega, _, bys_get rfl hx, ?_⟩
    have hv := val_lt (l := l.take i) (by simp; omega) (fun y hy => hb y (List.mem_of_mem_take hy))
    have hv' := val_lt (l := l.take (i + 1)) (by simp; omega) (fun y hy => hb y (List.mem_of_mem_take hy))
    rw [htk, val_snoc] at hv'
    refine ⟨i + 1, hc, Le.of [] ⟨rfl, congrArg (AV.int .u64) ?_, congrArg (AV.int .i64) (wi (by omega) (by omega)), trivial⟩ trivial rfl, by show l.length - (i + 1) < l.length - i; omega⟩
    rw [htk, val_snoc, wu64 (x := x) (by omega) (by omega), wu64 (x := 256 * _) (by omega) (by omega), wu64 hv'.1 hv'.2]
  · have hc : i = l.length := by have := of_decide_eq_false hc; rw [bys_len] at this; omega
    subst hc
    refine ⟨[], _, _, ⟨rfl, rfl⟩, congrArg (AV.int .u64) (by simp), trivial, rfl⟩
end
end Go.Proofs.YtfhlgmfbpoldoaaX
namespace Go.Proofs.YtfhlgmfbpoldoaaX
section
open Go Go.YtfhlgmfbpoldoaaE Go.Proofs
set_option maxRecDepth 100000
set_option autoImplicit false
def tail8 (v : Int) (i : Nat) : List Int := List.replicate (8 - i) 0 ++ (oct v).drop (8 - i)
theorem RPut_ct {v : Int} (h0 : 0 ≤ v) (h1 : v < 2 ^ 64) : CtT Try.prog 24 [.int .u64 v] (Ret (.t (.sl 1 (bys (oct v)))) []) := by
  refine CtT.ofN Try.func24 rfl rfl (n := 20) rfl ?_
  refine ⟨by decide, by decide, by decide, by decide, Nat, fun i => [(0, .int .u64 (v / 256 ^ i)), (3, .own 9), (4, .int .i64 i)], fun i => [(9, false, .row 5 1 (bys (tail8 v i)))], fun i => i ≤ 8, fun i => 8 - i, 0, by simp, Le.of [(9, 5)] ⟨congrArg (AV.int .u64) (by simp), rfl, rfl, trivial⟩ ⟨rfl, trivial⟩ rfl, ?_⟩
  intro i hi
  refine brB (fun hc => ?_) (fun hc => ?_)
  · have hc : i < 8 := by have := of_decide_eq_true hc; omega
    have w1 : IntKind.i64.wrap (7 - (i : Int)) = ((7 - i : Nat) : Int) := by rw [wi (by omega) (by omega)]; omega
    have hl : (bys (tail8 v i)).length = 8 := by simp [bys, tail8, oct_len]
    refine ⟨by decide, by rw [w1]; omega, by rw [w1, hl]; omega, _, List.getElem?_eq_getElem (by rw [w1, hl]; omega), ?_⟩
    refine ⟨by decide, ?_⟩
    refine ⟨i + 1, hc, Le.of [] ⟨congrArg (AV.int .u64) ?_, rfl, congrArg (AV.int .i64) (wi (by omega) (by omega)), trivial⟩ ⟨congrArg (fun x => (false, Blk.row 5 1 x)) ?_, trivial⟩ rfl, by show 8 - (i + 1) < 8 - i; omega⟩
    · have hq : 0 ≤ v / 256 ^ i := Int.ediv_nonneg h0 (Int.le_of_lt (Int.pow_pos (by decide)))
      have hq2 : v / 256 ^ i ≤ v := Int.ediv_le_self _ h0
      rw [Int.tdiv_eq_ediv_of_nonneg hq, wu64 (by omega) (by omega), Int.ediv_ediv_of_nonneg (Int.le_of_lt (Int.pow_pos (by decide))), Int.pow_succ]
    · have hq : 0 ≤ v / 256 ^ i := Int.ediv_nonneg h0 (Int.le_of_lt (Int.pow_pos (by decide)))
      rw [Int.tmod_eq_emod_of_nonneg hq, wu8]
      have e : newEl (bys (tail8 v i))[(IntKind.i64.wrap (7 - (i : Int))).toNat] 0 ((fun x => x.size) Try.prog.types[5]) 1 (T.v (Value.int IntKind.u8 (v / 256 ^ i % 256 % 256))) = T.int .u8 (v / 256 ^ i % 256 % 256) := rfl
      rw [e, w1]
      obtain rfl | rfl | rfl | rfl | rfl | rfl | rfl | rfl : i = 0 ∨ i = 1 ∨ i = 2 ∨ i = 3 ∨ i = 4 ∨ i = 5 ∨ i = 6 ∨ i = 7 := by omega
      all_goals (simp [tail8, oct, quad, bys, List.replicate_succ] <;> omega)
  · have hc : i = 8 := by have := of_decide_eq_false hc; omega
    subst hc
    exact ⟨_, rfl, .refl _⟩
end
end Go.Proofs.YtfhlgmfbpoldoaaX
namespace Go.Proofs.YtfhlgmfbpoldoaaX
section
open Go Go.YtfhlgmfbpoldoaaE Go.Proofs Go.Shelf
set_option maxRecDepth 100000
set_option autoImplicit false
attribute [local go_sem] Oper.semAt_some
theorem fin_succ (N k : Nat) (h : k < N) : (List.finRange N).take (k+1) = (List.finRange N).take k ++ [⟨k, h⟩] := by
  rw [List.take_add_one, List.getElem?_eq_getElem (by simpa using h)]
  simp
theorem fin_map (N k : Nat) (h : k ≤ N) : ((List.finRange N).take k).map (·.1) = List.range k := by
  apply List.ext_getElem
  · simp; omega
  · intro i h1 h2
    simp
theorem mea {M a sz : Nat} (h1 : 1 ≤ sz) (h2 : a + sz ≤ M) : M - ((a : Int) + (sz : Int)).toNat < M - ((a : Int)).toNat := by omega
theorem wrap64_i (n : Int) : IntKind.i64.wrap n = RowKit.wrap64 n := by unfold RowKit.wrap64; exact IntKind.wrap_i64 n
theorem w64_ok {a sz cap : Nat} (h : a + sz ≤ cap) (hm : cap ≤ maxLen) : RowKit.wrap64 ((a : Int) + (sz : Int)) = (a : Int) + (sz : Int) := by
  have hm' : cap ≤ 9223372036854775807 := hm
  exact (wrap64_i _).symm.trans (IntWalk.i64_in _ ⟨by omega, by omega⟩)
theorem cnums {a sz M cap : Nat} (hsz : 1 ≤ sz) (hcap : M ≤ cap) (h : a + sz ≤ M) : (a : Int) < (M : Int) ∧ ¬ ((M - a : Nat) : Int) < (sz : Int) ∧ a ≤ M ∧ ¬ cap = a ∧ ((a : Int) + (sz : Int)).toNat = a + sz ∧ a + sz - a = sz ∧ a + sz ≤ cap ∧ 0 ≤ (a : Int) + (sz : Int) ∧ ¬ (a : Int) + (sz : Int) < 0 ∧ a ≤ a + sz ∧ ¬ a + sz = a ∧ ¬ sz = 0 ∧ ¬ a + sz < a ∧ (a : Int) + (sz : Int) ≤ (cap : Int) := by omega
structure Aside0 (p : Prop) : Prop where
  out : p
theorem run_not {P : Program} (b : Bool) (w : World) : (Op.unary .not (.bool b)).run P w = .ok (.bool (!b)) w := rfl
attribute [local go_sem] run_not
def iOf : Value → Int
  | .int _ x => x
  | _ => 0
set_option maxHeartbeats 2000000 in
theorem chunk1_in (n : Nat) (hn : 2 ≤ n) (l : Nat) (N sz M g1 o1 g2 o2 : Nat) (A : Option Addr) (cap : Nat) (vals : Fin N → Array Value) (hsz : 1 ≤ sz) (hM : M = N * sz) (hcap : M ≤ cap) (hmax : M ≤ maxLen) (w0 : World) (O : Nat → Prop) (hO1 : ¬ O g1) (hO2 : ¬ O g2) (hg1 : g1 < w0.heap.size) (hg2 : g2 < w0.heap.size)
    (hc1 : w0.cell? ⟨g1, o1, none⟩ = some (.slice A M cap)) (hc2 : w0.cell? ⟨g2, o2, none⟩ = some (.int .i64 (sz : Int)))
    (hv : ∀ k (h : k < N), ∃ ad, A = some ad ∧ vals ⟨k, h⟩ = #[.slice (some (ad.add (k * sz))) sz sz])
    (J Jx : List (Fin N) → World → Prop) (W : World) (hW : Kpw w0 O w0 W) (hJ : AbidesFrom W.heap.size J) (hJx : AbidesFrom W.heap.size Jx)
    (hY : ∀ pre x W1, J pre W1 → pre.length < N → YieldAt Fence.wide (n - 1) Try.prog l (vals x) W1 fun e W' =>
      (e = .returned (.bool true) ∧ J (pre ++ [x]) W' ∧ Kpw w0 O W1 W') ∨ (e = .returned (.bool false) ∧ Jx (pre ++ [x]) W')) (h0 : J [] W) :
    CallsIn Fence.wide n Try.prog 34 (#[.func (.yield l) #[] #[]] ++ #[.pointer (some ⟨g1, o1, none⟩), .pointer (some ⟨g2, o2, none⟩)]) W fun e W' => (∃ v, e = .returned v) ∧ ((∃ xs, xs.map (·.1) = List.range N ∧ J xs W') ∨ (∃ pre, (∃ k, k ≤ N ∧ pre.map (·.1) = List.range k) ∧ Jx pre W')) := by
  refine callsIn_of_wp Try.func34 rfl trivial ?_ rfl
  simp only [show (Try.f34).ntmps = 31 from rfl, List.size_toArray, List.length_cons, List.length_nil, Nat.reduceAdd, Nat.reduceSub, Array.replicate_succ, Array.replicate_zero, List.push_toArray, List.append_toArray, List.nil_append, List.cons_append]
  have hro : Fence.wide.round = none := rfl
  gi_wp2
  gi_loopw [4] (fun i wr => ∃ k a : Nat, k ≤ N ∧ a = k * sz ∧ i = .int .i64 (a : Int) ∧ J ((List.finRange N).take k) wr ∧ Kpw w0 O W wr)
    (fun i _ => M - (iOf i).toNat)
  case atStart => exact ⟨0, 0, Nat.zero_le _, by simp, rfl, h0, ⟨Nat.le_refl _, fun _ _ _ => rfl⟩⟩
  case round =>
    obtain ⟨k, a, hk', hka, rfl, hJs, hnx⟩ := hrel
    have hb1 := ((World.cell?_of_block (hnx.2 g1 hg1 hO1)).trans (World.cell?_of_block (hW.2 g1 hg1 hO1))).trans hc1
    have hb2 := ((World.cell?_of_block (hnx.2 g2 hg2 hO2)).trans (World.cell?_of_block (hW.2 g2 hg2 hO2))).trans hc2
    by_cases hlt : k < N
    · obtain ⟨ad, rfl, hvk⟩ := hv k hlt
      have hJd : J ((List.finRange N).take k) wr.drew := hJ _ wr wr.drew none hJs ⟨rfl, rfl, rfl, Nat.le_refl _, fun _ _ _ => rfl⟩ (fun r e => by cases e)
      obtain ⟨fn, tmps, assign, body, hy, hR⟩ := hY _ ⟨k, hlt⟩ wr.drew hJd (by simp; omega)
      rw [hvk, ← hka] at hy
      have hstep : a + sz ≤ M := by
        rw [hM, hka, ← Nat.succ_mul]
        exact Nat.mul_le_mul_right _ hlt
      obtain ⟨hz1, hz2, hz3, hz4, hs3, hs7, hs8, hs9, hs10, hs11, hs12, hs13, hs14, hs15⟩ := cnums hsz hcap hstep
      have hs1 : RowKit.wrap64 ((a : Int) + (sz : Int)) = (a : Int) + (sz : Int) := w64_ok hstep hmax
      have hms := Aside0.mk (mea hsz hstep)
      have hka' := Aside0.mk hka
      have hnx' := Aside0.mk hnx
      have hb2' := Aside0.mk hb2
      have hR' := Aside0.mk hR
      clear hv hvk hJ hJx hY h0 hc1 hc2 hW hnx hJs hJd hR hstep hcap hsz
      have hY' := Aside0.mk hy
      clear hka hM hmax hy
      clear hk'
      gi_wp2
      refine wpIn_wide.2 ?_
      refine wp_region_still_lit (by kernel_rfl) (by kernel_rfl) ?_
      repeat still_step
      refine wpStill_nil ?_
      gi_wp2
      rw [hY'.out]
      refine ⟨fun _ => by omega, hR'.out.mono ?_⟩
      rename_i K hK
      rintro e W3 (⟨rfl, hJ3, hk3⟩ | ⟨rfl, hJx3⟩)
      · have hb3 := (World.cell?_of_block (hk3.2 g2 hg2 hO2)).trans hb2'.out
        replace hb3 : W3.cell? ⟨g2, o2, none⟩ = some (.int .i64 (sz : Int)) := hb3
        refine hK _ _ ?_
        gi_wp2
        rw [hs1]
        have hsum : ((a : Int) + (sz : Int)) = ((a + sz : Nat) : Int) := (Int.natCast_add a sz).symm
        have hms2 := hms.out
        rw [hsum] at hms2 ⊢
        have hk1 : a + sz = (k + 1) * sz := by rw [hka'.out, Nat.succ_mul]
        have hJ4 : J ((List.finRange N).take (k + 1)) W3 := by rw [fin_succ N k hlt]; exact hJ3
        exact ⟨⟨k + 1, a + sz, hlt, hk1, rfl, hJ4, Nat.le_trans hnx'.out.1 hk3.1, fun c hc hn => (hk3.2 c hc hn).trans (hnx'.out.2 c hc hn)⟩, hms2⟩
      · refine hK _ _ ?_
        gi_wp2
        refine bodyPost_ret (results_none rfl _ _ _) rfl ?_
        exact ⟨⟨_, rfl⟩, .inr ⟨_, ⟨k + 1, hlt, by rw [← fin_succ N k hlt]; exact fin_map N (k + 1) hlt⟩, hJx3⟩⟩
    · obtain rfl : k = N := by omega
      have hz1 : ¬ (a : Int) < (M : Int) := by omega
      gi_wp2
      go_end0
      exact ⟨⟨_, rfl⟩, .inl ⟨_, fin_map k k (Nat.le_refl _), hJs⟩⟩
end
end Go.Proofs.YtfhlgmfbpoldoaaX
namespace Go.Proofs.YtfhlgmfbpoldoaaX
section
open Go Go.YtfhlgmfbpoldoaaE Go.Proofs Go.Shelf
set_option maxRecDepth 100000
set_option autoImplicit false
theorem part_told {w : World} {O : Nat → Prop} {l : List Int} {v : Value} (h : HT w O (.sl 1 (bys l)) v) : ∃ A cap, v = .slice A l.length cap ∧ l.length ≤ cap ∧ ∀ i n, 0 < n → i + n ≤ l.length → ∃ ad : Addr, A = some ad ∧ HT w O (.sl 1 (bys ((l.drop i).take n))) (.slice (some (ad.add i)) n n) := by
  generalize hx : bys l = xs at h
  have hlen : l.length = xs.length := by rw [← hx, bys_len]
  cases h with
  | nil _ A c => exact ⟨A, c, by rw [hlen]; rfl, by simp [hlen], fun i n h0 h => by simp [hlen] at h; omega⟩
  | sl _ _ b o c f hO hb hc hf hm ht =>
    refine ⟨_, c, by rw [hlen], by rw [hlen]; exact hc, fun i n h0 h => ⟨_, rfl, ?_⟩⟩
    have hl2 : (bys ((l.drop i).take n)).length = n := by simp [bys]; omega
    have hsub : ∀ p, p < n → (bys ((l.drop i).take n))[p]? = xs[i + p]? := fun p hp => by
      rw [← hx]; simp [bys, List.getElem?_take, hp, List.getElem?_drop]
    have := HT.sl (w := w) (O := O) 1 (bys ((l.drop i).take n)) b (o + i) n (fun p => f (i + p)) hO hb (by rw [hl2]; exact Nat.le_refl _)
      (fun x hx' => hf x (by rw [← hx]; obtain ⟨y, hy, e⟩ := List.mem_map.1 hx'; exact List.mem_map.2 ⟨y, List.mem_of_mem_drop (List.mem_of_mem_take hy), e⟩))
      (fun p j hp hj => by
        have := hm (i + p) j (by omega) hj
        rw [show o + i + p * 1 + j = o + (i + p) * 1 + j by omega, this]
        rw [show i + (p * 1 + j) = (i + p) * 1 + j by omega])
      (fun p j x y hp hy => by
        have hpn : p < n := by have := (List.getElem?_eq_some_iff.1 hp).1; omega
        have := ht (i + p) j x y (by rw [← hsub p hpn]; exact hp) hy
        rw [show i + (p * 1 + j) = (i + p) * 1 + j by omega]; exact this)
    rw [hl2] at this
    have e : Addr.add ⟨b, o, none⟩ i = ⟨b, o + i, none⟩ := by
      unfold Addr.add
      by_cases h : i = 0
      · subst h; simp
      · simp [h]
    rw [e]
    exact this
def chunks (l : List Int) (sz N : Nat) : List (List T) := (List.range N).map fun i => [.sl 1 (bys ((l.drop (i * sz)).take sz))]
theorem chunk_iter (l : List Int) (sz N : Nat) (hsz : 1 ≤ sz) (hN : l.length = N * sz) (hmax : l.length ≤ maxLen) : Iter Try.prog 34 [.pt [.sl 1 (bys l)], .pt [.int .i64 (sz : Int)]] 1 (chunks l sz N) := by
  refine ⟨fun args w => enters_of Try.func34 (by kernel_rfl) rfl args w, fun w O lb hl hlb => ?_⟩
  obtain ⟨v1, v2, rfl⟩ : ∃ v1 v2, lb = [v1, v2] := by
    match lb, hl with
    | [v1, v2], _ => exact ⟨v1, v2, rfl⟩
  have h1 := hlb 0 _ _ rfl rfl
  have h2 := hlb 1 _ _ rfl rfl
  have hNx : (chunks l sz N).length = N := by simp [chunks]
  generalize hxs : chunks l sz N = xs at hNx
  subst hNx
  cases h1 with
  | pt _ b1 o1 f1 hO1 hb1 _ hm1 ht1 =>
    cases h2 with
    | pt _ b2 o2 f2 hO2 hb2 _ hm2 ht2 =>
      have c1 := hm1 0 (by simp)
      have c2 := hm2 0 (by simp)
      obtain ⟨A, cap, e1, hcap, hparts⟩ := part_told (ht1 0 _ rfl)
      have e2 := (ht2 0 _ rfl)
      generalize f2 0 = z at c2 e2
      cases e2
      rw [e1] at c1
      have hp : ∀ k, k < xs.length → ∃ ad : Addr, A = some ad ∧ HT w O (.sl 1 (bys ((l.drop (k * sz)).take sz))) (.slice (some (ad.add (k * sz))) sz sz) := fun k hk => hparts (k * sz) sz hsz (by
        rw [hN, ← Nat.succ_mul]; exact Nat.mul_le_mul_right _ hk)
      refine ⟨fun k => [match A with | some ad => .slice (some (ad.add (k * sz))) sz sz | none => undef], fun _ => rfl, fun i x hx j u v hu hv => ?_, fun q hq l' J Jx W hW hJ hJx hY h0 => ?_⟩
      · have hi : i < xs.length := (List.getElem?_eq_some_iff.1 hx).1
        obtain ⟨ad, rfl, ht⟩ := hp i hi
        have hx2 : (chunks l sz xs.length)[i]? = some [.sl 1 (bys ((l.drop (i * sz)).take sz))] := by simp [chunks, hi]
        rw [hxs, hx] at hx2
        cases hx2
        cases j with
        | zero => cases hu; cases hv; exact ht
        | succ j => simp at hu
      · exact chunk1_in q hq l' xs.length sz l.length b1 (o1 + 0) b2 (o2 + 0) A cap _ hsz hN hcap hmax w O hO1 hO2 hb1 hb2 c1 c2 (fun k hk => by
          obtain ⟨ad, rfl, _⟩ := hp k hk
          exact ⟨ad, rfl, rfl⟩) J Jx W ⟨hW.size, fun c hc _ => hW.block c hc⟩ hJ hJx hY h0
end
end Go.Proofs.YtfhlgmfbpoldoaaX
namespace Go.Proofs.YtfhlgmfbpoldoaaX
section
open Go Go.YtfhlgmfbpoldoaaE Go.Proofs
set_option maxRecDepth 100000
set_option autoImplicit false
@[reducible] def chunkF (l : List Int) (sz : Nat) : T := .fn (.func 34) [] [.pt [.sl 1 (bys l)], .pt [.int .i64 (sz : Int)]]
theorem Chunk_ct (l : List Int) (sz : Nat) (hsz : 1 ≤ sz) : CtT Try.prog 25 [.sl 1 (bys l), .int .i64 (sz : Int)] (Ret (.t (chunkF l sz)) []) := by
  refine CtT.ofN Try.func25 rfl rfl (n := 9) rfl ?_
  refine brB (fun hc => ?_) (fun hc => ?_)
  · have := of_decide_eq_true hc
    omega
  · exact ⟨_, rfl, .refl _⟩
end
end Go.Proofs.YtfhlgmfbpoldoaaX
namespace Go.Proofs.YtfhlgmfbpoldoaaX
section
open Go Go.YtfhlgmfbpoldoaaE Go.Proofs
set_option maxRecDepth 100000
set_option autoImplicit false
def U64 (x : Int) : Prop := 0 ≤ x ∧ x < 2 ^ 64
structure U.Wf (u : U) : Prop where
  t : U64 u.t
  e : U64 u.e
def gbody (l : List U) : List Int := l.flatMap fun u => oct u.t ++ oct u.e
theorem gbody_len (l : List U) : (gbody l).length = 16 * l.length := by
  induction l with
  | nil => rfl
  | cons u l ih =>
    have : gbody (u :: l) = oct u.t ++ oct u.e ++ gbody l := rfl
    rw [this]; simp [oct_len, ih]; omega
def gbytes (l : List U) : List Int × Int := if OkL l then ((l.length : Int) :: gbody l, 0) else ([], 1)
@[reducible] def resB (p : List Int × Int) : T := .tuple [.sl 1 (bys p.1), .int .i64 p.2]
theorem gbody_snoc {l : List U} {i : Nat} {u : U} (h : l[i]? = some u) : gbody (l.take (i + 1)) = gbody (l.take i) ++ oct u.t ++ oct u.e := by
  rw [List.take_add_one, h]; simp [gbody]
theorem GBytes_ct (l : List U) (hl : l.length < 10000) (hu : ∀ u ∈ l, u.Wf) : CtT Try.prog 9 [.sl 2 (uses l)] (Ret (.t (resB (gbytes l))) []) := by
  refine CtT.ofN Try.func9 rfl rfl (n := 31) rfl ?_
  refine Told.callT (Right_ct l (by omega) (decide (OkL l)) decide_eq_true_iff) rfl rfl rfl rfl ?_
  unfold gbytes
  split
  case isFalse h =>
    rw [decide_eq_false h]
    exact ⟨_, rfl, by repeat constructor⟩
  case isTrue h =>
  rw [decide_eq_true h]
  have hl64 := h.len
  refine ⟨Nat, fun i => [(4, .own 13), (14, .t (.sl 2 (uses l))), (15, .int .i64 l.length), (16, .int .i64 i)], fun i => [(13, false, .row 5 1 (bys ((l.length : Int) :: gbody (l.take i))))], fun i => i ≤ l.length, fun i => l.length - i, 0, Nat.zero_le _,
    Le.of [] ⟨rfl, rfl, by rw [← uses_len l]; rfl, rfl, trivial⟩ ⟨congrArg (fun x => (false, Blk.row 5 1 x)) (by rw [uses_len, wb' (by omega) (by omega)]; rfl), trivial⟩ rfl, ?_⟩
  intro i hi
  refine brB (fun hc => ?_) (fun hc => ?_)
  · have hc : i < l.length := by have := of_decide_eq_true hc; omega
    have hx : l[i]? = some l[i] := List.getElem?_eq_getElem hc
    have hm := hu l[i] (List.getElem_mem hc)
    generalize l[i] = u at hx hm
    have hb : (gbody (l.take i)).length ≤ 1024 := by rw [gbody_len, List.length_take]; omega
    have he := gbody_snoc hx
    refine ⟨by omega, _, uses_get rfl hx, ?_⟩
    refine Told.callT (Put_word hm.t.1 hm.t.2) rfl rfl rfl rfl ?_
    refine ⟨by show _ * 1 ≤ _; simp [oct_len]; omega, ?_⟩
    refine Told.callT (Put_word hm.e.1 hm.e.2) rfl rfl rfl rfl ?_
    refine ⟨by show _ * 1 ≤ _; simp [oct_len]; omega, ?_⟩
    refine ⟨i + 1, hc, Le.of [(13, 28)] ⟨rfl, rfl, rfl, congrArg (AV.int .i64) (wi (by omega) (by omega)), trivial⟩ ⟨congrArg (fun x => (false, Blk.row 5 1 x)) ?_, trivial⟩ rfl, by show l.length - (i + 1) < l.length - i; omega⟩
    rw [he]; simp [bys]
  · have hc : i = l.length := by have := of_decide_eq_false hc; omega
    subst hc
    refine ⟨_, rfl, ?_⟩
    rw [List.take_length]
    exact .refl _
end
end Go.Proofs.YtfhlgmfbpoldoaaX
namespace Go.Proofs.YtfhlgmfbpoldoaaX
section
open Go Go.YtfhlgmfbpoldoaaE Go.Proofs
set_option maxRecDepth 100000
set_option autoImplicit false
def gof (b : List Int) (i : Nat) : U := ⟨val ((b.drop (1 + 16 * i)).take 8), val ((b.drop (9 + 16 * i)).take 8)⟩
def parse (b : List Int) (n : Nat) : List U := (List.range n).map (gof b)
def readG (b : List Int) : List U × Int × Int :=
  match b with
  | [] => ([], 0, 2)
  | n :: _ => if 64 < n then ([], 0, 3) else if (b.length : Int) < 1 + 16 * n then ([], 0, 2) else if OkL (parse b n.toNat) then (parse b n.toNat, 1 + 16 * n, 0) else ([], 0, 3)
@[reducible] def resR (p : List U × Int × Int) : T := .tuple [.sl 2 (uses p.1), .int .i64 p.2.1, .int .i64 p.2.2]
theorem bys_take (l : List Int) (n : Nat) : bys (l.take n) = (bys l).take n := by simp [bys]
theorem bys_drop (l : List Int) (n : Nat) : bys (l.drop n) = (bys l).drop n := by simp [bys]
theorem Byt.take {l : List Int} (h : Byt l) (n : Nat) : Byt (l.take n) := fun x hx => h x (List.mem_of_mem_take hx)
theorem Byt.drop {l : List Int} (h : Byt l) (n : Nat) : Byt (l.drop n) := fun x hx => h x (List.mem_of_mem_drop hx)
theorem GRead_ct (b : List Int) (hl : b.length < 1000000) (hb : Byt b) : CtT Try.prog 12 [.sl 1 (bys b)] (Ret (.t (resR (readG b))) []) := by
  refine CtT.ofRN Try.func12 rfl rfl (n := 59) rfl ?_
  match b, hl, hb with
  | [], _, _ => exact ⟨_, rfl, by repeat constructor⟩
  | n :: r, hl, hb =>
    have hn := hb n (by simp)
    have hlr : (bys r).length = r.length := bys_len r
    simp only [List.length_cons] at hl
    refine ⟨by omega, _, rfl, ?_⟩
    refine brB (fun h1 => ?_) (fun h1 => ?_)
    · have h1 : 64 < n := of_decide_eq_true h1
      refine ⟨_, rfl, ?_⟩
      rw [readG, if_pos h1]
      repeat constructor
    have h1 : ¬ 64 < n := of_decide_eq_false h1
    refine ⟨by omega, _, rfl, ?_⟩
    have w1 : IntKind.i64.wrap n = n := wi (by omega) (by omega)
    have w2 : IntKind.i64.wrap (16 * IntKind.i64.wrap n) = 16 * n := by rw [w1]; exact wi (by omega) (by omega)
    have w3 : IntKind.i64.wrap (1 + IntKind.i64.wrap (16 * IntKind.i64.wrap n)) = 1 + 16 * n := by rw [w2]; exact wi (by omega) (by omega)
    refine brB (fun h2 => ?_) (fun h2 => ?_)
    · have h2 : ((n :: r).length : Int) < 1 + 16 * n := by
        have := of_decide_eq_true h2
        rw [w3, bys_len] at this
        exact this
      refine ⟨_, rfl, ?_⟩
      rw [readG, if_neg h1, if_pos h2]
      repeat constructor
    have h2 : ¬ ((n :: r).length : Int) < 1 + 16 * n := by
      have := of_decide_eq_false h2
      rw [w3, bys_len] at this
      exact this
    have h2' : 16 * n ≤ r.length := by simp at h2; omega
    rw [w3]
    refine ⟨by omega, by omega, by rw [bys_len]; simp; omega, ?_⟩
    obtain ⟨m, rfl⟩ := Int.eq_ofNat_of_zero_le hn.1
    have e1 : (1 + 16 * (m : Int)).toNat = 1 + 16 * m := by omega
    rw [e1] at *
    have hr : (((m : Int) :: r).take (1 + 16 * m)).drop 1 = r.take (16 * m) := by rw [Nat.add_comm, List.take_succ_cons]; rfl
    have kc := Chunk_ct ((((m : Int) :: r).take (1 + 16 * m)).drop 1) 16 (by decide)
    have ki := chunk_iter ((((m : Int) :: r).take (1 + 16 * m)).drop 1) 16 m (by decide) (by rw [hr, List.length_take]; omega) (by rw [hr, List.length_take]; have : maxLen = 9223372036854775807 := rfl; omega)
    have hmx : ∀ x ∈ chunks ((((m : Int) :: r).take (1 + 16 * m)).drop 1) 16 m, x.length = 1 := by simp [chunks]
    unfold chunkF at kc
    rw [bys_drop, bys_take] at kc ki
    refine Told.callT kc rfl rfl rfl rfl ?_
    refine ⟨_, _, _, [6], [(0, .t (.sl 1 (bys ((m : Int) :: r)))), (5, .int .i64 (1 + 16 * m)), (6, .ptr 6 0), (34, .t (.fn (.func 34) [] [.pt [.sl 1 (List.drop 1 (List.take (1 + 16 * m) (bys ((m : Int) :: r))))], .pt [.int .i64 16]]))], List U, fun y => [(60, false, .row 25 2 (uses y)), (6, false, .box 22 [.own 60])], fun pre y => y = pre.map (gof ((m : Int) :: r)), [], rfl, ki, rfl, rfl,
      Le.trans (Le.nilBox 6 0 60 22 25 2 _ rfl rfl rfl) (Le.of [] ⟨rfl, rfl, rfl, rfl, trivial⟩ ⟨rfl, rfl, trivial⟩ rfl), fun y => rfl, fun pre i y x hG hp hx => ⟨hmx x (List.mem_of_getElem? hx), ?_⟩, fun y hG => ?_⟩
    · have hi : i < m := by
        have := (List.getElem?_eq_some_iff.1 hx).1
        simpa [chunks] using this
      have hx2 : x = [.sl 1 (bys ((((m : Int) :: r).drop (1 + 16 * i)).take 16))] := by
        simp only [chunks, List.getElem?_map, List.getElem?_range hi, Option.map_some, Option.some.injEq] at hx
        rw [← hx, hr, Nat.add_comm 1, List.drop_succ_cons, List.drop_take, List.take_take, Nat.mul_comm i, Nat.min_eq_left (by omega)]
      have c1 : ((((m : Int) :: r).drop (1 + 16 * i)).take 16).take 8 = (((m : Int) :: r).drop (1 + 16 * i)).take 8 := by rw [List.take_take]; rfl
      have c2 : ((((m : Int) :: r).drop (1 + 16 * i)).take 16).drop 8 = (((m : Int) :: r).drop (9 + 16 * i)).take 8 := by rw [List.drop_take, List.drop_drop]; congr 2; omega
      have k1 := Get_ct ((((m : Int) :: r).drop (1 + 16 * i)).take 8) (by simp; omega) ((hb.drop _).take _)
      have k2 := Get_ct ((((m : Int) :: r).drop (9 + 16 * i)).take 8) (by simp; omega) ((hb.drop _).take _)
      rw [← c1, bys_take] at k1
      rw [← c2, bys_drop] at k2
      rw [c1] at k1; rw [c2] at k2
      have hcl : (bys ((((m : Int) :: r).drop (1 + 16 * i)).take 16)).length = 16 := by rw [bys_len]; simp; omega
      generalize bys ((((m : Int) :: r).drop (1 + 16 * i)).take 16) = c at hx2 k1 k2 hcl
      subst hx2
      refine ⟨by decide, by decide, by rw [hcl]; decide, ?_⟩
      refine Told.callT k1 rfl rfl rfl rfl ?_
      refine ⟨by decide, by rw [hcl]; decide, by rw [hcl]; decide, ?_⟩
      refine Told.callT k2 rfl rfl rfl rfl ?_
      have hyl : y.length < 256 := by rw [hG, List.length_map]; simp [chunks] at hp; omega
      refine ⟨by show (_ + 1) * 16 ≤ _; rw [uses_len]; omega, y ++ [gof ((m : Int) :: r) i], by rw [hG]; simp, Le.of [(60, 53)] trivial ⟨congrArg (fun x => (false, Blk.row 25 2 x)) ?_, rfl, trivial⟩ rfl⟩
      simp [uses, gof]
    · have hy : y = parse ((m : Int) :: r) m := by rw [hG]; simp [chunks, parse]
      have hyl : y.length = m := by rw [hy]; simp [parse]
      refine Told.callT (Right_ct y (by omega) (decide (OkL y)) decide_eq_true_iff) rfl rfl rfl rfl ?_
      have hq : readG ((m : Int) :: r) = if OkL y then (y, 1 + 16 * (m : Int), 0) else ([], 0, 3) := by
        rw [readG, if_neg h1, if_neg h2, Int.toNat_natCast, ← hy]
      by_cases h : OkL y
      · rw [decide_eq_true h]
        refine ⟨_, rfl, ?_⟩
        rw [hq, if_pos h]
        exact .refl _
      · rw [decide_eq_false h]
        refine ⟨_, rfl, ?_⟩
        rw [hq, if_neg h]
        repeat constructor
end
end Go.Proofs.YtfhlgmfbpoldoaaX
namespace Go.Proofs.YtfhlgmfbpoldoaaX
section
open Go Go.YtfhlgmfbpoldoaaE Go.Proofs
set_option maxRecDepth 100000
set_option autoImplicit false
theorem Less_ct (u v : U) : CtT Try.prog 22 [u.T, v.T] (Ret (.bool (decide (ltU u v))) []) := by
  refine Ct.of Try.func22 rfl rfl (n := 24) rfl (by simp [ids]) ?_
  have fin : ∀ x : Bool, (x = true ↔ ltU u v) → x = decide (ltU u v) := fun x h => Bool.eq_iff_iff.2 (h.trans decide_eq_true_iff.symm)
  unfold ltU at fin
  refine brB (fun h1 => ?_) (fun h1 => brB (fun h2 => ?_) (fun h2 => ?_))
  · exact ⟨[], _, _, ⟨rfl, rfl⟩, congrArg AV.bool (fin _ ⟨fun _ => .inl (of_decide_eq_true h1), fun _ => rfl⟩), trivial, rfl⟩
  · have h2 : u.t = v.t := of_decide_eq_true h2
    exact ⟨[], _, _, ⟨rfl, rfl⟩, congrArg AV.bool (fin _ ⟨fun h => .inr ⟨h2, of_decide_eq_true h⟩, fun h => decide_eq_true (by omega)⟩), trivial, rfl⟩
  · have h1 : ¬ u.t < v.t := of_decide_eq_false h1
    have h2 : ¬ u.t = v.t := of_decide_eq_false h2
    exact ⟨[], _, _, ⟨rfl, rfl⟩, congrArg AV.bool (fin _ ⟨fun h => (by cases h), fun h => absurd h (by omega)⟩), trivial, rfl⟩
theorem RRight_ct (s : List U) (hl : s.length < 100000) : CtT Try.prog 10 [.sl 2 (uses s)] (Ret (.bool (decide (OkL s))) []) := by
  refine Ct.of Try.func10 rfl rfl (n := 24) rfl (by simp [ids]) ?_
  refine ⟨Nat, fun i => [(0, .t (.sl 2 (uses s))), (3, .int .i64 i)], fun _ => [], fun i => 1 ≤ i ∧ (s.length < i → s = []) ∧ ∀ j u v, j + 1 < i → s[j]? = some u → s[j + 1]? = some v → ltU u v, fun i => s.length - i, 1, ⟨by omega, fun h => List.eq_nil_of_length_eq_zero (by omega), fun j u v h => by omega⟩, Le.of [] ⟨rfl, rfl, trivial⟩ trivial rfl, ?_⟩
  rintro i ⟨q0, q1, q3⟩
  refine brB (fun hc => ?_) (fun hc => ?_)
  · have hc : i < s.length := by have := of_decide_eq_true hc; rw [uses_len] at this; omega
    have hx : s[i]? = some s[i] := List.getElem?_eq_getElem hc
    have hp : s[i - 1]? = some s[i - 1] := List.getElem?_eq_getElem (by omega)
    generalize s[i] = u at hx
    generalize s[i - 1] = v at hp
    have w1 : IntKind.i64.wrap ((i : Int) - 1) = ((i - 1 : Nat) : Int) := by rw [wi (by omega) (by omega)]; omega
    refine ⟨by rw [w1]; omega, _, uses_get w1 hp, by omega, _, uses_get rfl hx, ?_⟩
    refine Told.callT (Less_ct v u) rfl rfl rfl rfl ?_
    by_cases h : ltU v u
    · rw [decide_eq_true h]
      refine ⟨i + 1, ⟨by omega, fun h => by omega, fun j w z hj hw hz => ?_⟩, Le.of [] ⟨rfl, congrArg (AV.int .i64) (wi (by omega) (by omega)), trivial⟩ trivial rfl, by show s.length - (i + 1) < s.length - i; omega⟩
      by_cases e : j + 1 = i
      · subst e
        rw [hx] at hz; cases hz
        rw [Nat.add_sub_cancel, hw] at hp; cases hp
        exact h
      · exact q3 j w z (by omega) hw hz
    · rw [decide_eq_false h]
      refine ⟨[], _, _, ⟨rfl, rfl⟩, congrArg AV.bool ?_, trivial, rfl⟩
      refine (decide_eq_false fun ok => h ?_).symm
      exact adj_of_srt ok.srt hp (by rw [show i - 1 + 1 = i by omega]; exact hx)
  · have hc : s.length ≤ i := by have := of_decide_eq_false hc; rw [uses_len] at this; omega
    refine ⟨[], _, _, ⟨rfl, rfl⟩, congrArg AV.bool ?_, trivial, rfl⟩
    rw [uses_len, decide_eq_decide]
    refine ⟨fun h => ⟨by omega, srt_of_adj fun j u v hu hv => q3 j u v ?_ hu hv⟩, fun h => by have := h.len; omega⟩
    have := (List.getElem?_eq_some_iff.1 hv).1
    omega
theorem eqU {u v : U} : ([u.t, u.e] = [v.t, v.e]) ↔ u = v := by
  obtain ⟨a, b⟩ := u; obtain ⟨a', b'⟩ := v
  simp
theorem RHas_ct (s : List U) (u : U) (hl : s.length < 100000) : CtT Try.prog 16 [.sl 2 (uses s), u.T] (Ret (.bool (decide (u ∈ s))) []) := by
  refine Ct.of Try.func16 rfl rfl (n := 18) rfl (by simp [ids]) ?_
  refine ⟨Nat, fun i => [(0, .t (.sl 2 (uses s))), (3, .ptr 3 0), (5, .int .i64 i)], fun _ => [(3, false, UseBox u)],
      fun i => i ≤ s.length ∧ ∀ j, j < i → ∀ v, s[j]? = some v → v ≠ u, fun i => s.length - i, 0, ⟨by simp, by simp⟩, Le.of [] ⟨rfl, rfl, rfl, trivial⟩ ⟨rfl, trivial⟩ rfl, ?_⟩
  rintro i ⟨q1, q2⟩
  refine brB (fun hc => ?_) (fun hc => ?_)
  · have hc : i < s.length := by have := of_decide_eq_true hc; rw [uses_len] at this; omega
    have hx : s[i]? = some s[i] := List.getElem?_eq_getElem hc
    generalize s[i] = v at hx
    refine ⟨by omega, _, uses_get rfl hx, ⟨by kernel_rfl, Try.eqGuardType25⟩, fun c hc2 => ?_⟩
    refine brB (fun hc3 => ?_) (fun hc3 => ?_)
    · rw [hc3] at hc2
      have e : v = u := eqU.1 (of_decide_eq_true hc2.symm)
      exact ⟨[], _, _, ⟨rfl, rfl⟩, congrArg AV.bool (decide_eq_true (by rw [← e]; exact List.mem_of_getElem? hx)).symm, trivial, rfl⟩
    · rw [hc3] at hc2
      have e : v ≠ u := fun e => of_decide_eq_false hc2.symm (eqU.2 e)
      refine ⟨i + 1, ⟨hc, fun j hj w hw => ?_⟩, Le.of [] ⟨rfl, rfl, congrArg (AV.int .i64) (wi (by omega) (by omega)), trivial⟩ ⟨rfl, trivial⟩ rfl, by show s.length - (i + 1) < s.length - i; omega⟩
      by_cases e2 : j = i
      · subst e2; rw [hx] at hw; cases hw; exact e
      · exact q2 j (by omega) w hw
  · have hc : ¬ i < s.length := by have := of_decide_eq_false hc; rw [uses_len] at this; omega
    refine ⟨[], _, _, ⟨rfl, rfl⟩, congrArg AV.bool (decide_eq_false fun hu => ?_).symm, trivial, rfl⟩
    obtain ⟨j, hj, rfl⟩ := List.mem_iff_getElem.1 hu
    exact q2 j (by omega) _ (List.getElem?_eq_getElem hj) rfl
theorem Same_ct (s s' : List U) (ha : s.length < 100000) (hb : s'.length < 100000) : CtT Try.prog 17 [.sl 2 (uses s), .sl 2 (uses s')] (Ret (.bool (decide (s = s'))) []) := by
  refine Ct.of Try.func17 rfl rfl (n := 26) rfl (by simp [ids]) ?_
  refine brB (fun h3 => ?_) (fun h3 => ?_)
  · exact ⟨[], _, _, ⟨rfl, rfl⟩, congrArg AV.bool (decide_eq_false fun h => by simp [h] at h3).symm, trivial, rfl⟩
  · have h3 : s.length = s'.length := by simp [uses] at h3; omega
    refine ⟨Nat, fun i => [(0, .t (.sl 2 (uses s))), (1, .t (.sl 2 (uses s'))), (5, .int .i64 i)], fun _ => [],
      fun i => i ≤ s.length ∧ ∀ j, j < i → s[j]? = s'[j]?, fun i => s.length - i, 0, ⟨by simp, by simp⟩, Le.of [] ⟨rfl, rfl, rfl, trivial⟩ trivial rfl, ?_⟩
    rintro i ⟨q1, q2⟩
    refine brB (fun hc => ?_) (fun hc => ?_)
    · have hc : i < s.length := by have := of_decide_eq_true hc; rw [uses_len] at this; omega
      have hx : s[i]? = some s[i] := List.getElem?_eq_getElem hc
      have hy : s'[i]? = some s'[i] := List.getElem?_eq_getElem (by omega)
      generalize s[i] = u at hx
      generalize s'[i] = v at hy
      refine ⟨by omega, _, uses_get rfl hx, by omega, _, uses_get rfl hy, ⟨by kernel_rfl, Try.eqGuardType25⟩, fun c hc2 => ?_⟩
      refine brB (fun hc3 => ?_) (fun hc3 => ?_)
      · rw [hc3] at hc2
        refine ⟨[], _, _, ⟨rfl, rfl⟩, congrArg AV.bool (decide_eq_false fun h => ?_).symm, trivial, rfl⟩
        rw [h, hy] at hx
        cases hx
        simp at hc2
      · rw [hc3] at hc2
        have e : u = v := eqU.1 (by simpa using hc2)
        refine ⟨i + 1, ⟨hc, fun j hj => ?_⟩, Le.of [] ⟨rfl, rfl, congrArg (AV.int .i64) (wi (by omega) (by omega)), trivial⟩ trivial rfl, by show s.length - (i + 1) < s.length - i; omega⟩
        by_cases e2 : j = i
        · subst e2; rw [hx, hy, e]
        · exact q2 j (by omega)
    · have hc : ¬ i < s.length := by have := of_decide_eq_false hc; rw [uses_len] at this; omega
      refine ⟨[], _, _, ⟨rfl, rfl⟩, congrArg AV.bool (decide_eq_true ?_).symm, trivial, rfl⟩
      apply List.ext_getElem?
      intro j
      by_cases hj : j < i
      · exact q2 j hj
      · rw [List.getElem?_eq_none (by omega), List.getElem?_eq_none (by omega)]
end
end Go.Proofs.YtfhlgmfbpoldoaaX
namespace Go.Proofs.YtfhlgmfbpoldoaaX
section
open Go Go.YtfhlgmfbpoldoaaE Go.Proofs
set_option maxRecDepth 100000
set_option autoImplicit false
theorem RPutG_ct (c : List U) (u : U) (hl : c.length < 10000) : CtT Try.prog 8 [.sl 2 (uses c), u.T] (Ret (.t (res (putG c u))) []) := by
  refine CtT.ofN Try.func8 rfl rfl (n := 50) rfl ?_
  refine Told.callT (RRight_ct c (by omega)) rfl rfl rfl rfl ?_
  by_cases ok : OkL c
  case neg =>
    rw [decide_eq_false ok]
    refine ⟨_, rfl, ?_⟩
    rw [putG, if_pos ok]
    repeat constructor
  rw [decide_eq_true ok]
  have hl64 := ok.len
  refine Told.callT (RHas_ct c u (by omega)) rfl rfl rfl rfl ?_
  by_cases h2 : u ∈ c
  · rw [decide_eq_true h2]
    refine ⟨by show _ * 16 ≤ _; rw [uses_len]; simp; omega, _, rfl, ?_⟩
    rw [putG, if_neg (by simpa using ok), if_pos h2]
    exact .refl _
  rw [decide_eq_false h2]
  refine brB (fun h3 => ?_) (fun h3 => ?_)
  · have h3 := of_decide_eq_true h3
    rw [uses_len] at h3
    refine ⟨_, rfl, ?_⟩
    rw [putG, if_neg (by simpa using ok), if_neg h2, if_pos (by omega)]
    repeat constructor
  have h3 := of_decide_eq_false h3
  rw [uses_len] at h3
  obtain ⟨k, hk, hki⟩ := srt_index c ok.srt u
  refine ⟨Nat, fun i => [(0, .t (.sl 2 (uses c))), (3, .ptr 3 0), (6, .own 60), (7, .int .i64 i)], fun i => [(60, false, .row 25 2 (uses (c.take i))), (3, false, UseBox u)],
    fun i => i ≤ k, fun i => k - i, 0, Nat.zero_le _, Le.trans (Le.nil 6 60 25 2 rfl rfl) (Le.of [] ⟨rfl, rfl, rfl, rfl, trivial⟩ ⟨rfl, rfl, trivial⟩ rfl), ?_⟩
  intro i hi
  have fin : i = k → Tas (.tuple [.sl 2 (uses (c.take i) ++ [u.T] ++ (uses c).drop i), .int .i64 0]) (res (putG c u)) := fun e => by
    subst e
    rw [putG, if_neg (by simpa using ok), if_neg h2, if_neg (by omega), insU_eq hk hki]
    have e : uses (c.take i) ++ [u.T] ++ (uses c).drop i = uses (c.take i ++ u :: c.drop i) := by simp [uses]
    rw [e]
    exact .refl _
  refine brB (fun hc => ?_) (fun hc => ?_)
  · have hc : i < c.length := by have := of_decide_eq_true hc; rw [uses_len] at this; omega
    have hx : c[i]? = some c[i] := List.getElem?_eq_getElem hc
    generalize c[i] = v at hx
    refine ⟨by omega, _, uses_get rfl hx, ?_⟩
    refine Told.callT (Less_ct v u) rfl rfl rfl rfl ?_
    by_cases hz : ltU v u
    · rw [decide_eq_true hz]
      have hik := (hki i v hx).1 hz
      refine ⟨by omega, _, uses_get rfl hx, by show _ * 16 ≤ _; simp; omega, ?_⟩
      refine ⟨i + 1, hik, Le.of [(60, 38)] ⟨rfl, rfl, rfl, congrArg (AV.int .i64) (wi (by omega) (by omega)), trivial⟩ ⟨congrArg (fun x => (false, Blk.row 25 2 x)) ?_, rfl, trivial⟩ rfl, by show k - (i + 1) < k - i; omega⟩
      show uses (c.take i) ++ [v.T] = uses (c.take (i + 1))
      rw [List.take_add_one, hx]
      simp [uses]
    · rw [decide_eq_false hz]
      have hik : i = k := by have : ¬ i < k := fun e => hz ((hki i v hx).2 e); omega
      exact ⟨by show _ * 16 ≤ _; simp; omega, by omega, by rw [uses_len]; omega, by omega, by show _ * 16 ≤ _; simp; omega, _, rfl, fin hik⟩
  · have hc : ¬ i < c.length := by have := of_decide_eq_false hc; rw [uses_len] at this; omega
    exact ⟨by show _ * 16 ≤ _; simp; omega, by omega, by rw [uses_len]; omega, by omega, by show _ * 16 ≤ _; simp; omega, _, rfl, fin (by omega)⟩
theorem RBytes_ct (l : List U) (hl : l.length ≤ 255) (hu : ∀ u ∈ l, u.Wf) : CtT Try.prog 11 [.sl 2 (uses l)] (Ret (.t (.sl 1 (bys ((l.length : Int) :: gbody l)))) []) := by
  refine CtT.ofN Try.func11 rfl rfl (n := 32) rfl ?_
  refine ⟨Nat, fun i => [(0, .t (.sl 2 (uses l))), (3, .own 8), (4, .int .i64 i)], fun i => [(8, false, .row 5 1 (bys ((l.length : Int) :: gbody (l.take i))))], fun i => i ≤ l.length, fun i => l.length - i, 0, Nat.zero_le _,
    Le.of [] ⟨rfl, rfl, rfl, trivial⟩ ⟨congrArg (fun x => (false, Blk.row 5 1 x)) (by rw [uses_len, wb' (by omega) (by omega)]; rfl), trivial⟩ rfl, ?_⟩
  intro i hi
  refine brB (fun hc => ?_) (fun hc => ?_)
  · have hc : i < l.length := by have := of_decide_eq_true hc; rw [uses_len] at this; omega
    have hx : l[i]? = some l[i] := List.getElem?_eq_getElem hc
    have hm := hu l[i] (List.getElem_mem hc)
    generalize l[i] = u at hx hm
    have hb : (gbody (l.take i)).length ≤ 4096 := by rw [gbody_len, List.length_take]; omega
    have he := gbody_snoc hx
    refine ⟨by omega, _, uses_get rfl hx, ?_⟩
    refine Told.callT (RPut_ct hm.t.1 hm.t.2) rfl rfl rfl rfl ?_
    refine ⟨by show _ * 1 ≤ _; simp [oct_len]; omega, by omega, _, uses_get rfl hx, ?_⟩
    refine Told.callT (RPut_ct hm.e.1 hm.e.2) rfl rfl rfl rfl ?_
    refine ⟨by show _ * 1 ≤ _; simp [oct_len]; omega, ?_⟩
    refine ⟨i + 1, hc, Le.of [(8, 30)] ⟨rfl, rfl, congrArg (AV.int .i64) (wi (by omega) (by omega)), trivial⟩ ⟨congrArg (fun x => (false, Blk.row 5 1 x)) ?_, trivial⟩ rfl, by show l.length - (i + 1) < l.length - i; omega⟩
    rw [he]; simp [bys]
  · have hc : i = l.length := by have := of_decide_eq_false hc; rw [uses_len] at this; omega
    subst hc
    refine ⟨_, rfl, ?_⟩
    rw [List.take_length]
    exact .refl _
theorem parse_snoc (b : List Int) (i : Nat) : parse b (i + 1) = parse b i ++ [gof b i] := by simp [parse, List.range_succ]
theorem RRead_ct (b : List Int) (hl : b.length < 1000000) (hb : Byt b) : CtT Try.prog 13 [.sl 1 (bys b)] (Ret (.t (resR (readG b))) []) := by
  refine CtT.ofN Try.func13 rfl rfl (n := 56) rfl ?_
  match b, hl, hb with
  | [], _, _ => exact ⟨_, rfl, by repeat constructor⟩
  | n :: r, hl, hb =>
    have hn := hb n (by simp)
    simp only [List.length_cons] at hl
    refine ⟨by omega, _, rfl, ?_⟩
    have w1 : IntKind.i64.wrap n = n := wi (by omega) (by omega)
    have w2 : IntKind.i64.wrap (16 * n) = 16 * n := wi (by omega) (by omega)
    have w3 : IntKind.i64.wrap (1 + 16 * n) = 1 + 16 * n := wi (by omega) (by omega)
    refine brB (fun h1 => ?_) (fun h1 => ?_)
    · have h1 : 64 < n := by have := of_decide_eq_true h1; rwa [w1] at this
      refine ⟨_, rfl, ?_⟩
      rw [readG, if_pos h1]
      repeat constructor
    have h1 : ¬ 64 < n := by have := of_decide_eq_false h1; rwa [w1] at this
    refine brB (fun h2 => ?_) (fun h2 => ?_)
    · have h2 : ((n :: r).length : Int) < 1 + 16 * n := by
        have := of_decide_eq_true h2
        rw [w1, w2, w3, bys_len] at this
        exact this
      refine ⟨_, rfl, ?_⟩
      rw [readG, if_neg h1, if_pos h2]
      repeat constructor
    have h2 : ¬ ((n :: r).length : Int) < 1 + 16 * n := by
      have := of_decide_eq_false h2
      rw [w1, w2, w3, bys_len] at this
      exact this
    have h2' : 16 * n ≤ r.length := by simp at h2; omega
    obtain ⟨m, rfl⟩ := Int.eq_ofNat_of_zero_le hn.1
    have hlen : (bys ((m : Int) :: r)).length = r.length + 1 := by rw [bys_len]; simp
    refine ⟨Nat, fun i => [(0, .t (.sl 1 (bys ((m : Int) :: r)))), (5, .int .i64 m), (6, .own 60), (7, .int .i64 i)], fun i => [(60, false, .row 25 2 (uses (parse ((m : Int) :: r) i)))],
      fun i => i ≤ m, fun i => m - i, 0, Nat.zero_le _, Le.trans (Le.nil 6 60 25 2 rfl rfl) (Le.of [] ⟨rfl, congrArg (AV.int .i64) w1, rfl, rfl, trivial⟩ ⟨rfl, trivial⟩ rfl), ?_⟩
    intro i hi
    refine brB (fun hc => ?_) (fun hc => ?_)
    · have hc : i < m := by have := of_decide_eq_true hc; omega
      have v1 : IntKind.i64.wrap (16 * (i : Int)) = 16 * i := wi (by omega) (by omega)
      have v2 : IntKind.i64.wrap (1 + 16 * (i : Int)) = ((1 + 16 * i : Nat) : Int) := by rw [wi (by omega) (by omega)]; omega
      have v3 : IntKind.i64.wrap (((1 + 16 * i : Nat) : Int) + 8) = ((9 + 16 * i : Nat) : Int) := by rw [wi (by omega) (by omega)]; omega
      have v4 : IntKind.i64.wrap (((1 + 16 * i : Nat) : Int) + 16) = ((17 + 16 * i : Nat) : Int) := by rw [wi (by omega) (by omega)]; omega
      conv => whnf
      rw [v1, v2, v3]
      have c1 : (((m : Int) :: r).take (9 + 16 * i)).drop (1 + 16 * i) = (((m : Int) :: r).drop (1 + 16 * i)).take 8 := by rw [List.drop_take]; congr 1; omega
      have c2 : (((m : Int) :: r).take (17 + 16 * i)).drop (9 + 16 * i) = (((m : Int) :: r).drop (9 + 16 * i)).take 8 := by rw [List.drop_take]; congr 1; omega
      have k1 := Value_ct ((((m : Int) :: r).take (9 + 16 * i)).drop (1 + 16 * i)) (by rw [c1]; simp; omega) ((hb.take _).drop _)
      have k2 := Value_ct ((((m : Int) :: r).take (17 + 16 * i)).drop (9 + 16 * i)) (by rw [c2]; simp; omega) ((hb.take _).drop _)
      rw [bys_drop, bys_take] at k1 k2
      rw [c1] at k1; rw [c2] at k2
      refine ⟨by omega, by omega, by rw [hlen]; omega, ?_⟩
      refine Told.callT k1 rfl rfl rfl rfl ?_
      conv => whnf
      rw [v3, v4]
      refine ⟨by omega, by omega, by rw [hlen]; omega, ?_⟩
      refine Told.callT k2 rfl rfl rfl rfl ?_
      have hyl : (uses (parse ((m : Int) :: r) i)).length = i := by rw [uses_len]; simp [parse]
      refine ⟨by show (_ + 1) * 16 ≤ _; rw [hyl]; omega, i + 1, hc, Le.of [(60, 48)] ⟨rfl, rfl, rfl, congrArg (AV.int .i64) (wi (by omega) (by omega)), trivial⟩ ⟨congrArg (fun x => (false, Blk.row 25 2 x)) ?_, trivial⟩ rfl, by show m - (i + 1) < m - i; omega⟩
      rw [parse_snoc]
      simp [uses, gof]
    · have hc : i = m := by have := of_decide_eq_false hc; omega
      subst hc
      have hyl : (parse ((i : Int) :: r) i).length = i := by simp [parse]
      have hq : readG ((i : Int) :: r) = if OkL (parse ((i : Int) :: r) i) then (parse ((i : Int) :: r) i, 1 + 16 * (i : Int), 0) else ([], 0, 3) := by
        rw [readG, if_neg h1, if_neg h2, Int.toNat_natCast]
      refine Told.callT (RRight_ct (parse ((i : Int) :: r) i) (by omega)) rfl rfl rfl rfl ?_
      by_cases h : OkL (parse ((i : Int) :: r) i)
      · rw [decide_eq_true h]
        refine ⟨_, rfl, ?_⟩
        rw [w2, w3, hq, if_pos h]
        exact .refl _
      · rw [decide_eq_false h]
        refine ⟨_, rfl, ?_⟩
        rw [hq, if_neg h]
        repeat constructor
end
end Go.Proofs.YtfhlgmfbpoldoaaX
namespace Go.Proofs.YtfhlgmfbpoldoaaX
section
open Go Go.YtfhlgmfbpoldoaaE Go.Proofs
set_option maxRecDepth 100000
set_option autoImplicit false
theorem val_oct {v : Int} (h : U64 v) : val (oct v) = v := by
  obtain ⟨h0, h1⟩ := h
  simp only [val, oct, quad, List.cons_append, List.nil_append, List.foldl_cons, List.foldl_nil]
  omega
theorem oct_val {l : List Int} (hl : l.length = 8) (hb : Byt l) : oct (val l) = l := by
  match l, hl with
  | [a, b, c, d, e, f, g, h], _ =>
    have ha := hb a (by simp); have hb' := hb b (by simp); have hc := hb c (by simp); have hd := hb d (by simp)
    have he := hb e (by simp); have hf := hb f (by simp); have hg := hb g (by simp); have hh := hb h (by simp)
    clear hb
    have e1 : val [a, b, c, d, e, f, g, h] = (((a * 256 + b) * 256 + c) * 256 + d) * 2 ^ 32 + (((e * 256 + f) * 256 + g) * 256 + h) := by
      simp only [val, List.foldl_cons, List.foldl_nil]; omega
    have e2 : ((((a * 256 + b) * 256 + c) * 256 + d) * 2 ^ 32 + (((e * 256 + f) * 256 + g) * 256 + h)) / 2 ^ 32 = ((a * 256 + b) * 256 + c) * 256 + d := by omega
    have e3 : ((((a * 256 + b) * 256 + c) * 256 + d) * 2 ^ 32 + (((e * 256 + f) * 256 + g) * 256 + h)) % 2 ^ 32 = ((e * 256 + f) * 256 + g) * 256 + h := by omega
    rw [e1, oct, e2, e3]
    simp only [quad, List.cons_append, List.nil_append, List.cons.injEq, and_true]
    omega
theorem quad_byt (x : Int) : Byt (quad x) := by
  intro y hy
  simp [quad] at hy
  omega
theorem oct_byt (v : Int) : Byt (oct v) := by
  intro y hy
  rw [oct, List.mem_append] at hy
  exact hy.elim (quad_byt _ y) (quad_byt _ y)
theorem val_u64 {l : List Int} (hl : l.length ≤ 8) (hb : Byt l) : U64 (val l) := val_lt hl hb
theorem gof_wf {b : List Int} (hb : Byt b) (i : Nat) : (gof b i).Wf := ⟨val_u64 (by simp; omega) ((hb.drop _).take _), val_u64 (by simp; omega) ((hb.drop _).take _)⟩
theorem parse_wf {b : List Int} (hb : Byt b) (n : Nat) : ∀ u ∈ parse b n, u.Wf := by
  intro u hu
  simp only [parse, List.mem_map] at hu
  obtain ⟨i, _, rfl⟩ := hu
  exact gof_wf hb i
theorem gbody_byt (l : List U) : Byt (gbody l) := by
  intro y hy
  simp only [gbody, List.mem_flatMap, List.mem_append] at hy
  obtain ⟨u, _, h | h⟩ := hy
  · exact oct_byt _ y h
  · exact oct_byt _ y h
theorem gof_body (x : Int) {l : List U} {i : Nat} {u : U} (b : List Int) (h : l[i]? = some u) (hu : u.Wf) : gof (x :: (gbody l ++ b)) i = u := by
  have hi := (List.getElem?_eq_some_iff.1 h).1
  have e : gbody l = gbody (l.take i) ++ (oct u.t ++ (oct u.e ++ gbody (l.drop (i + 1)))) := by
    have ap : ∀ a b, gbody (a ++ b) = gbody a ++ gbody b := fun a b => by simp [gbody]
    conv => lhs; rw [← List.take_append_drop (i + 1) l, ap, gbody_snoc h]
    simp
  have hl : (gbody (l.take i)).length = 16 * i := by rw [gbody_len, List.length_take]; omega
  have h1 : ((x :: (gbody l ++ b)).drop (1 + 16 * i)).take 8 = oct u.t := by
    rw [Nat.add_comm, List.drop_succ_cons, e, List.append_assoc, List.drop_left' hl, List.append_assoc, List.take_left' (oct_len _)]
  have h2 : ((x :: (gbody l ++ b)).drop (9 + 16 * i)).take 8 = oct u.e := by
    rw [show 9 + 16 * i = (16 * i + 8) + 1 by omega, List.drop_succ_cons, e, List.append_assoc, ← List.drop_drop, List.drop_left' hl, List.append_assoc, List.drop_left' (oct_len _), List.append_assoc, List.take_left' (oct_len _)]
  unfold gof
  rw [h1, h2, val_oct hu.t, val_oct hu.e]
theorem parse_body (x : Int) (l : List U) (b : List Int) (hw : ∀ u ∈ l, u.Wf) : parse (x :: (gbody l ++ b)) l.length = l := by
  apply List.ext_getElem
  · simp [parse]
  · intro i h1 h2
    simp only [parse, List.getElem_map, List.getElem_range]
    exact gof_body x b (List.getElem?_eq_getElem h2) (hw _ (List.getElem_mem h2))
theorem read_bytes {l : List U} (h : OkL l) (hw : ∀ u ∈ l, u.Wf) (b : List Int) : readG ((gbytes l).1 ++ b) = (l, ((gbytes l).1.length : Int), 0) := by
  rw [gbytes, if_pos h]
  have := h.len
  have hg := gbody_len l
  rw [List.cons_append, readG, if_neg (by omega), if_neg (by simp; omega), Int.toNat_natCast, parse_body _ l b hw, if_pos h]
  simp; omega
theorem read_cut {l : List U} (h : OkL l) {k : Nat} (hk : k < (gbytes l).1.length) : readG ((gbytes l).1.take k) = ([], 0, 2) := by
  rw [gbytes, if_pos h] at hk ⊢
  have := h.len
  have hg := gbody_len l
  cases k with
  | zero => rfl
  | succ k =>
    simp at hk
    rw [List.take_succ_cons, readG, if_neg (by omega), if_pos (by simp; omega)]
theorem body_parse (x : Int) {r : List Int} {n : Nat} (hl : 16 * n ≤ r.length) (hb : Byt r) : gbody (parse (x :: r) n) = r.take (16 * n) := by
  induction n with
  | zero => rfl
  | succ n ih =>
    rw [parse_snoc]
    have e : gbody (parse (x :: r) n ++ [gof (x :: r) n]) = gbody (parse (x :: r) n) ++ (oct (gof (x :: r) n).t ++ oct (gof (x :: r) n).e) := by simp [gbody]
    rw [e, ih (by omega)]
    unfold gof
    rw [show 1 + 16 * n = 16 * n + 1 by omega, show 9 + 16 * n = (16 * n + 8) + 1 by omega, List.drop_succ_cons, List.drop_succ_cons, oct_val (by simp; omega) ((hb.drop _).take _), oct_val (by simp; omega) ((hb.drop _).take _)]
    rw [← List.drop_drop, show 16 * (n + 1) = 16 * n + 16 by omega, List.take_add, show (16 : Nat) = 8 + 8 by rfl, List.take_add (i := 8)]
theorem read_back {b : List Int} (hb : Byt b) {m : List U} {n e : Int} (h : readG b = (m, n, e)) : (e = 0 ∧ OkL m ∧ 1 ≤ n ∧ n ≤ b.length ∧ (gbytes m) = (b.take n.toNat, 0) ∧ ∀ u ∈ m, u.Wf) ∨ (e ≠ 0 ∧ m = [] ∧ n = 0) := by
  match b, hb with
  | [], _ => cases h; exact .inr ⟨by decide, rfl, rfl⟩
  | x :: r, hb =>
    have hx := hb x (by simp)
    have hr : Byt r := fun y hy => hb y (by simp [hy])
    rw [readG] at h
    split at h
    · cases h; exact .inr ⟨by decide, rfl, rfl⟩
    split at h
    · cases h; exact .inr ⟨by decide, rfl, rfl⟩
    split at h
    · rename_i h1 h2 h3
      cases h
      obtain ⟨k, rfl⟩ := Int.eq_ofNat_of_zero_le hx.1
      simp only [List.length_cons, Int.natCast_add] at h2
      refine .inl ⟨rfl, h3, by omega, by simp; omega, ?_, parse_wf hb _⟩
      have e1 : (1 + 16 * (k : Int)).toNat = 16 * k + 1 := by omega
      rw [gbytes, if_pos h3, e1, List.take_succ_cons, Int.toNat_natCast, body_parse _ (by omega) hr]
      simp [parse]
    · cases h; exact .inr ⟨by decide, rfl, rfl⟩
end
end Go.Proofs.YtfhlgmfbpoldoaaX
namespace Go.Proofs.YtfhlgmfbpoldoaaX
section
open Go Go.YtfhlgmfbpoldoaaE Go.Proofs
set_option maxRecDepth 100000
set_option autoImplicit false
theorem awake_ct : CtT Try.prog 6 [] (Ret (.bool true) []) := by
  refine Ct.of Try.func6 rfl rfl (n := 93) rfl (by simp [ids]) ?_
  have k1 := Put_ct [⟨5, 1⟩] ⟨3, 9⟩ (by simp)
  rw [show putG [⟨5, 1⟩] ⟨3, 9⟩ = ([⟨3, 9⟩, ⟨5, 1⟩], 0) by decide +kernel] at k1
  refine Told.callT k1 rfl rfl rfl rfl ?_
  have wf : ∀ u ∈ ([⟨3, 9⟩, ⟨5, 1⟩] : List U), u.Wf := by
    intro u hu
    simp at hu
    rcases hu with rfl | rfl <;> exact ⟨by constructor <;> decide, by constructor <;> decide⟩
  have k2 := GBytes_ct [⟨3, 9⟩, ⟨5, 1⟩] (by simp) wf
  have e2 : gbytes [⟨3, 9⟩, ⟨5, 1⟩] = ([2, 0, 0, 0, 0, 0, 0, 0, 3, 0, 0, 0, 0, 0, 0, 0, 9, 0, 0, 0, 0, 0, 0, 0, 5, 0, 0, 0, 0, 0, 0, 0, 1], 0) := by decide +kernel
  have r2 := read_bytes (l := [⟨3, 9⟩, ⟨5, 1⟩]) (by decide +kernel) wf [7]
  rw [e2] at k2 r2
  refine Told.callT k2 rfl rfl rfl rfl ?_
  refine ⟨by decide, by decide, ?_⟩
  have k3 := GRead_ct ([2, 0, 0, 0, 0, 0, 0, 0, 3, 0, 0, 0, 0, 0, 0, 0, 9, 0, 0, 0, 0, 0, 0, 0, 5, 0, 0, 0, 0, 0, 0, 0, 1] ++ [7]) (by decide) (by unfold Byt; decide +kernel)
  rw [r2] at k3
  refine Told.callT k3 rfl rfl rfl rfl ?_
  refine ⟨by decide, _, rfl, by decide, _, rfl, by decide, _, rfl, ?_⟩
  refine Told.callT (Same_ct [⟨3, 9⟩, ⟨5, 1⟩] [⟨3, 9⟩, ⟨5, 1⟩] (by simp) (by simp)) rfl rfl rfl rfl ?_
  refine Told.callT (Has_ct [⟨3, 9⟩, ⟨5, 1⟩] ⟨5, 1⟩ (by simp)) rfl rfl rfl rfl ?_
  refine Told.callT (Has_ct [⟨3, 9⟩, ⟨5, 1⟩] ⟨5, 2⟩ (by simp)) rfl rfl rfl rfl ?_
  refine Told.callT (Right_ct [⟨3, 9⟩, ⟨5, 1⟩] (by simp) true (by simp only [true_iff]; decide +kernel)) rfl rfl rfl rfl ?_
  exact ⟨[], _, _, ⟨rfl, rfl⟩, rfl, trivial, rfl⟩
theorem putG_len (c : List U) (u : U) : (putG c u).1.length ≤ c.length + 1 := by
  have : (insU c u).length = c.length + 1 := by
    unfold insU
    have : ∀ (p : U → Bool), (c.filter p).length + (c.filter fun v => !p v).length = c.length := by
      intro p
      induction c with
      | nil => rfl
      | cons x l ih => cases h : p x <;> simp [h] <;> omega
    have := this (fun v => decide (ltU v u))
    simp only [List.length_append, List.length_cons]
    omega
  unfold putG
  repeat' split
  all_goals simp only [this, List.length_nil]; omega
theorem readG_len (b : List Int) : (readG b).1.length ≤ 64 := by
  unfold readG
  repeat' split
  all_goals simp [parse] at *
  all_goals omega
theorem GoneRight_g (l : List U) (hl : ∀ u ∈ l, u.Wf) (g : U) (b : List Int) (hb : Byt b) : CtT Try.prog 3 [.sl 2 (uses l), g.T, .sl 1 (bys b)] (Ret (.bool true) []) := by
  refine Ct.of Try.func3 rfl rfl (n := 116) rfl (by simp [ids]) ?_
  refine Told.callT awake_ct rfl rfl rfl rfl ?_
  refine brB (fun h1 => ?_) (fun h1 => brB (fun h2 => ?_) (fun h2 => ?_))
  · exact ⟨[], _, _, ⟨rfl, rfl⟩, rfl, trivial, rfl⟩
  · exact ⟨[], _, _, ⟨rfl, rfl⟩, rfl, trivial, rfl⟩
  have h1 : l.length ≤ 300 := by have := of_decide_eq_false h1; rw [uses_len] at this; omega
  have h2 : b.length ≤ 3000 := by have := of_decide_eq_false h2; rw [bys_len] at this; omega
  have k1 := Put_ct l g (by omega)
  have k2 := RPutG_ct l g (by omega)
  have kb := GBytes_ct l (by omega) hl
  have k3 := Right_ct l (by omega) _ (decide_eq_true_iff (p := OkL l))
  have k4 := RRight_ct l (by omega)
  have k5 := GRead_ct b (by omega) hb
  have k6 := RRead_ct b (by omega) hb
  have k7 := Has_ct l g (by omega)
  have k8 := RHas_ct l g (by omega)
  have lp := putG_len l g
  have lr := readG_len b
  have k9 := Same_ct (putG l g).1 (putG l g).1 (by omega) (by omega)
  have k10 := Same_ct (readG b).1 (readG b).1 (by omega) (by omega)
  rw [decide_eq_true rfl] at k9 k10
  generalize putG l g = p at k1 k2 k9
  generalize readG b = q at k5 k6 k10
  generalize decide (g ∈ l) = z at k7 k8
  obtain ⟨p, pe⟩ := p
  obtain ⟨q, qn, qe⟩ := q
  refine Told.callT k1 rfl rfl rfl rfl ?_
  refine Told.callT k2 rfl rfl rfl rfl ?_
  unfold gbytes at kb
  split at kb
  · rename_i ok
    have := ok.len
    have kr := RBytes_ct l (by omega) hl
    rw [decide_eq_true ok] at k3 k4
    refine Told.callT kb rfl rfl rfl rfl ?_
    refine Told.callT k4 rfl rfl rfl rfl ?_
    refine ⟨_, rfl, ?_⟩
    refine Told.callT kr rfl rfl rfl rfl ?_
    refine ⟨_, rfl, fun c hc => ?_⟩
    refine brF (hc.trans (by simp)) ?_
    refine Told.callT k5 rfl rfl rfl rfl ?_
    refine Told.callT k6 rfl rfl rfl rfl ?_
    refine Told.callT k3 rfl rfl rfl rfl ?_
    refine Told.callT k4 rfl rfl rfl rfl ?_
    refine Told.callT k7 rfl rfl rfl rfl ?_
    refine Told.callT k8 rfl rfl rfl rfl ?_
    refine brT (by simp) ?_
    refine Told.callT k9 rfl rfl rfl rfl ?_
    refine brT (by simp) ?_
    refine Told.callT k10 rfl rfl rfl rfl ?_
    refine brT (by simp) ?_
    exact ⟨[], _, _, ⟨rfl, rfl⟩, congrArg AV.bool (decide_eq_true rfl), trivial, rfl⟩
  · rename_i ok
    rw [decide_eq_false ok] at k3 k4
    refine Told.callT kb rfl rfl rfl rfl ?_
    refine Told.callT k4 rfl rfl rfl rfl ?_
    refine Told.callT k5 rfl rfl rfl rfl ?_
    refine Told.callT k6 rfl rfl rfl rfl ?_
    refine Told.callT k3 rfl rfl rfl rfl ?_
    refine Told.callT k4 rfl rfl rfl rfl ?_
    refine Told.callT k7 rfl rfl rfl rfl ?_
    refine Told.callT k8 rfl rfl rfl rfl ?_
    refine brT (by simp) ?_
    refine Told.callT k9 rfl rfl rfl rfl ?_
    refine brT (by simp) ?_
    refine Told.callT k10 rfl rfl rfl rfl ?_
    refine brT (by simp) ?_
    exact ⟨[], _, _, ⟨rfl, rfl⟩, congrArg AV.bool (decide_eq_true rfl), trivial, rfl⟩
end
end Go.Proofs.YtfhlgmfbpoldoaaX
namespace Go.Proofs.YtfhlgmfbpoldoaaX
section
open Go Go.YtfhlgmfbpoldoaaE Go.Proofs
set_option maxRecDepth 100000
set_option autoImplicit false
theorem mem_insU {l : List U} {u v : U} : v ∈ insU l u ↔ v = u ∨ v ∈ l := by
  unfold insU
  simp only [List.mem_append, List.mem_cons, List.mem_filter, decide_eq_true_eq, Bool.not_eq_true', decide_eq_false_iff_not]
  refine ⟨fun h => ?_, fun h => ?_⟩
  · rcases h with h | h | h
    · exact .inr h.1
    · exact .inl h
    · exact .inr h.1
  · rcases h with h | h
    · exact .inr (.inl h)
    · by_cases h2 : ltU v u
      · exact .inl ⟨h, h2⟩
      · exact .inr (.inr ⟨h, h2⟩)
theorem srt_insU {l : List U} {u : U} (hs : l.Pairwise ltU) (hu : u ∉ l) : (insU l u).Pairwise ltU := by
  unfold insU
  rw [List.pairwise_append, List.pairwise_cons]
  refine ⟨hs.sublist List.filter_sublist, ⟨fun v hv => ?_, hs.sublist List.filter_sublist⟩, fun v hv w hw => ?_⟩
  · obtain ⟨h1, h2⟩ := List.mem_filter.1 hv
    simp at h2
    rcases ltU_tri v u with h | rfl | h
    · exact absurd h h2
    · exact absurd h1 hu
    · exact h
  · have hv2 : ltU v u := by simpa using (List.mem_filter.1 hv).2
    rcases List.mem_cons.1 hw with rfl | hw
    · exact hv2
    · obtain ⟨h1, h2⟩ := List.mem_filter.1 hw
      simp at h2
      rcases ltU_tri w u with h | rfl | h
      · exact absurd h h2
      · exact absurd h1 hu
      · exact ltU_trans hv2 h
theorem srt_ext {l m : List U} (hl : l.Pairwise ltU) (hm : m.Pairwise ltU) (h : ∀ u, u ∈ l ↔ u ∈ m) : l = m := by
  induction l generalizing m with
  | nil =>
    cases m with
    | nil => rfl
    | cons x m => exact absurd ((h x).2 (List.mem_cons_self ..)) (by simp)
  | cons x l ih =>
    cases m with
    | nil => exact absurd ((h x).1 (List.mem_cons_self ..)) (by simp)
    | cons y m =>
      rw [List.pairwise_cons] at hl hm
      have e : x = y := by
        rcases List.mem_cons.1 ((h x).1 (List.mem_cons_self ..)) with e | h1
        · exact e
        · rcases List.mem_cons.1 ((h y).2 (List.mem_cons_self ..)) with e | h2
          · exact e.symm
          · exact absurd (ltU_trans (hm.1 x h1) (hl.1 y h2)) ltU_irrefl
      subst e
      rw [ih hl.2 hm.2 (fun u => ?_)]
      refine ⟨fun hu => ?_, fun hu => ?_⟩
      · rcases List.mem_cons.1 ((h u).1 (List.mem_cons_of_mem _ hu)) with rfl | h1
        · exact absurd (hl.1 u hu) ltU_irrefl
        · exact h1
      · rcases List.mem_cons.1 ((h u).2 (List.mem_cons_of_mem _ hu)) with rfl | h1
        · exact absurd (hm.1 u hu) ltU_irrefl
        · exact h1
theorem insU_len (l : List U) (u : U) : (insU l u).length = l.length + 1 := by
  unfold insU
  have : ∀ (p : U → Bool), (l.filter p).length + (l.filter fun v => !p v).length = l.length := by
    intro p
    induction l with
    | nil => rfl
    | cons x l ih => cases h : p x <;> simp [h] <;> omega
  have := this (fun v => decide (ltU v u))
  simp only [List.length_append, List.length_cons]
  omega
structure Puts (l : List U) (g : U) (m : List U) : Prop where
  okl : OkL l
  ok : OkL m
  mem : ∀ x, x ∈ m ↔ x = g ∨ x ∈ l
  len : (g ∈ l ∧ m = l) ∨ (g ∉ l ∧ m.length = l.length + 1)
theorem putG_cases (l : List U) (g : U) : (∃ m, putG l g = (m, 0) ∧ Puts l g m) ∨ (putG l g = ([], 1) ∧ ¬ OkL l) ∨ (putG l g = ([], 12) ∧ OkL l ∧ g ∉ l ∧ l.length = 64) := by
  unfold putG
  by_cases h : OkL l
  · rw [if_neg (by simpa using h)]
    by_cases h2 : g ∈ l
    · rw [if_pos h2]
      exact .inl ⟨l, rfl, h, h, fun x => ⟨fun hx => .inr hx, fun hx => hx.elim (fun e => e ▸ h2) id⟩, .inl ⟨h2, rfl⟩⟩
    · rw [if_neg h2]
      by_cases h3 : l.length = 64
      · rw [if_pos h3]; exact .inr (.inr ⟨rfl, h, h2, h3⟩)
      · rw [if_neg h3]
        have := h.len
        exact .inl ⟨_, rfl, h, ⟨by rw [insU_len]; omega, srt_insU h.srt h2⟩, fun x => mem_insU, .inr ⟨h2, insU_len _ _⟩⟩
  · rw [if_pos h]; exact .inr (.inl ⟨rfl, h⟩)
theorem Puts.put {l m : List U} {g : U} (h : Puts l g m) : putG l g = (m, 0) := by
  rcases putG_cases l g with ⟨m', h1, h2⟩ | ⟨_, h2⟩ | ⟨_, _, h2, h3⟩
  · rw [h1, srt_ext h.ok.srt h2.ok.srt fun x => (h.mem x).trans (h2.mem x).symm]
  · exact absurd h.okl h2
  · rcases h.len with ⟨h4, _⟩ | ⟨_, h4⟩
    · exact absurd h4 h2
    · have := h.ok.len; omega
theorem Puts.again {l m : List U} {g : U} (h : Puts l g m) : putG m g = (m, 0) :=
  Puts.put ⟨h.ok, h.ok, fun x => ⟨.inr, fun hx => hx.elim (fun e => (h.mem x).2 (.inl e)) id⟩, .inl ⟨(h.mem g).2 (.inl rfl), rfl⟩⟩
theorem GoneOnce_g (l : List U) (g h other : U) : CtT Try.prog 4 [.sl 2 (uses l), g.T, h.T, other.T] (Ret (.bool true) []) := by
  refine Ct.of Try.func4 rfl rfl (n := 130) rfl (by simp [ids]) ?_
  refine Told.callT awake_ct rfl rfl rfl rfl ?_
  refine brB (fun h1 => ?_) (fun h1 => ?_)
  · exact ⟨[], _, _, ⟨rfl, rfl⟩, rfl, trivial, rfl⟩
  have h1 : l.length ≤ 300 := by have := of_decide_eq_false h1; rw [uses_len] at this; omega
  have k1 := Put_ct l g (by omega)
  have kr := Right_ct l (by omega) _ (decide_eq_true_iff (p := OkL l))
  have kh := Has_ct l g (by omega)
  rcases putG_cases l g with ⟨m, e1, p1⟩ | ⟨e1, h2⟩ | ⟨e1, h2, h3, h4⟩
  · rw [e1] at k1
    refine Told.callT k1 rfl rfl rfl rfl ?_
    have hml := p1.ok.len
    have k2 := Put_ct m g (by omega)
    rw [p1.again] at k2
    refine Told.callT k2 rfl rfl rfl rfl ?_
    have k3 := Same_ct m m (by omega) (by omega)
    rw [decide_eq_true rfl] at k3
    refine Told.callT k3 rfl rfl rfl rfl ?_
    refine Told.callT (Right_ct m (by omega) true (by simpa using p1.ok)) rfl rfl rfl rfl ?_
    have k4 := Has_ct m g (by omega)
    rw [decide_eq_true ((p1.mem g).2 (.inl rfl))] at k4
    refine Told.callT k4 rfl rfl rfl rfl ?_
    refine Told.callT (Has_ct m other (by omega)) rfl rfl rfl rfl ?_
    refine Told.callT (Has_ct l other (by omega)) rfl rfl rfl rfl ?_
    have hmo := p1.mem other
    have ka := Put_ct m h (by omega)
    have kb := Put_ct l h (by omega)
    have lb := putG_len l h
    have kc := Put_ct (putG l h).1 g (by omega)
    have fin : (putG m h).2 = 0 → (putG l h).2 = 0 → (putG (putG l h).1 g) = ((putG m h).1, 0) ∧ (putG m h).1.length ≤ 64 := by
      intro f1 f2
      rcases putG_cases m h with ⟨a, ea, pa⟩ | ⟨ea, _⟩ | ⟨ea, _⟩
      · rcases putG_cases l h with ⟨b, eb, pb⟩ | ⟨eb, _⟩ | ⟨eb, _⟩
        · rw [ea, eb]
          refine ⟨Puts.put ⟨pb.ok, pa.ok, fun x => ?_, ?_⟩, pa.ok.len⟩
          · rw [pa.mem, pb.mem, p1.mem]
            exact ⟨fun h => h.elim (fun h => .inr (.inl h)) fun h => h.elim .inl fun h => .inr (.inr h), fun h => h.elim (fun h => .inr (.inl h)) fun h => h.elim .inl fun h => .inr (.inr h)⟩
          · by_cases hg : g ∈ b
            · refine .inl ⟨hg, srt_ext pa.ok.srt pb.ok.srt fun x => ?_⟩
              rw [pa.mem, pb.mem, p1.mem]
              refine ⟨fun h => h.elim .inl fun h => h.elim (fun h => ?_) .inr, fun h => h.elim .inl fun h => .inr (.inr h)⟩
              exact (pb.mem x).1 (h ▸ hg)
            · have hgl : g ∉ l := fun e => hg ((pb.mem g).2 (.inr e))
              have hgh : g ≠ h := fun e => hg ((pb.mem g).2 (.inl e))
              refine .inr ⟨hg, ?_⟩
              rcases p1.len with ⟨q, _⟩ | ⟨_, q1⟩
              · exact absurd q hgl
              rcases pa.len with ⟨q2, q3⟩ | ⟨q2, q3⟩
              · rcases pb.len with ⟨q4, q5⟩ | ⟨q4, q5⟩
                · rw [q3, q5]; exact q1
                · exact absurd (((p1.mem h).1 q2).resolve_left fun e => hgh e.symm) q4
              · rcases pb.len with ⟨q4, q5⟩ | ⟨q4, q5⟩
                · exact absurd ((p1.mem h).2 (.inr q4)) q2
                · simp only; omega
        · rw [eb] at f2; cases f2
        · rw [eb] at f2; cases f2
      · rw [ea] at f1; cases f1
      · rw [ea] at f1; cases f1
    have bad : (putG l h).2 ≠ 0 → (putG m h).2 ≠ 0 := by
      intro f1 f2
      rcases putG_cases l h with ⟨b, eb, pb⟩ | ⟨eb, q⟩ | ⟨eb, _, q1, q2⟩
      · rw [eb] at f1; exact f1 rfl
      · exact q p1.okl
      · rcases p1.len with ⟨_, q3⟩ | ⟨_, q3⟩
        · rw [q3, eb] at f2; cases f2
        · have := p1.ok.len; omega
    have kz : ∀ x : List U, x.length ≤ 64 → CtT Try.prog 17 [.sl 2 (uses x), .sl 2 (uses x)] (Ret (.bool true) []) := fun x hx => by
      have := Same_ct x x (by omega) (by omega)
      rwa [decide_eq_true rfl] at this
    refine brB (fun h5 => ?_) (fun h5 => ?_)
    · have h5 := of_decide_eq_true h5
      refine brF (by rw [decide_eq_true (hmo.2 (.inr h5))]; rfl) ?_
      generalize putG m h = pa at *
      generalize putG l h = pb at *
      obtain ⟨a, i⟩ := pa; obtain ⟨b, j⟩ := pb
      generalize putG b g = pc at *
      obtain ⟨c, k⟩ := pc
      refine Told.callT ka rfl rfl rfl rfl ?_
      refine Told.callT kb rfl rfl rfl rfl ?_
      refine Told.callT kc rfl rfl rfl rfl ?_
      refine brB (fun h6 => ?_) (fun h6 => brB (fun h7 => ?_) (fun h7 => ?_))
      · exact ⟨[], _, _, ⟨rfl, rfl⟩, congrArg AV.bool h6, trivial, rfl⟩
      · refine ⟨[], _, _, ⟨rfl, rfl⟩, congrArg AV.bool ?_, trivial, rfl⟩
        have := bad (by simpa using h7)
        simpa using this
      · obtain ⟨f1, f2⟩ := fin (by simpa using h6) (by simpa using h7)
        cases f1
        refine Told.callT (kz _ f2) rfl rfl rfl rfl ?_
        exact ⟨[], _, _, ⟨rfl, rfl⟩, rfl, trivial, rfl⟩
    · have h5 := of_decide_eq_false h5
      refine ⟨⟨by kernel_rfl, Try.eqGuardType25⟩, fun c hc => ?_⟩
      have hc2 : c = decide (other ∈ m) := by
        rw [hc, decide_eq_decide, hmo]
        exact eqU.trans ⟨.inl, fun e => e.resolve_right h5⟩
      subst hc2
      refine brF (by simp) ?_
      generalize putG m h = pa at *
      generalize putG l h = pb at *
      obtain ⟨a, i⟩ := pa; obtain ⟨b, j⟩ := pb
      generalize putG b g = pc at *
      obtain ⟨c, k⟩ := pc
      refine Told.callT ka rfl rfl rfl rfl ?_
      refine Told.callT kb rfl rfl rfl rfl ?_
      refine Told.callT kc rfl rfl rfl rfl ?_
      refine brB (fun h6 => ?_) (fun h6 => brB (fun h7 => ?_) (fun h7 => ?_))
      · exact ⟨[], _, _, ⟨rfl, rfl⟩, congrArg AV.bool h6, trivial, rfl⟩
      · refine ⟨[], _, _, ⟨rfl, rfl⟩, congrArg AV.bool ?_, trivial, rfl⟩
        have := bad (by simpa using h7)
        simpa using this
      · obtain ⟨f1, f2⟩ := fin (by simpa using h6) (by simpa using h7)
        cases f1
        refine Told.callT (kz _ f2) rfl rfl rfl rfl ?_
        exact ⟨[], _, _, ⟨rfl, rfl⟩, rfl, trivial, rfl⟩
  · rw [e1] at k1
    rw [decide_eq_false h2] at kr
    refine Told.callT k1 rfl rfl rfl rfl ?_
    refine Told.callT kr rfl rfl rfl rfl ?_
    exact ⟨[], _, _, ⟨rfl, rfl⟩, rfl, trivial, rfl⟩
  · rw [e1] at k1
    rw [decide_eq_true h2] at kr
    rw [decide_eq_false h3] at kh
    refine Told.callT k1 rfl rfl rfl rfl ?_
    refine Told.callT kr rfl rfl rfl rfl ?_
    refine brT (by rw [uses_len]; simp; omega) ?_
    refine Told.callT kh rfl rfl rfl rfl ?_
    exact ⟨[], _, _, ⟨rfl, rfl⟩, rfl, trivial, rfl⟩
end
end Go.Proofs.YtfhlgmfbpoldoaaX
namespace Go.Proofs.YtfhlgmfbpoldoaaX
section
open Go Go.YtfhlgmfbpoldoaaE Go.Proofs
set_option maxRecDepth 100000
set_option autoImplicit false
theorem GoneBack_g (l : List U) (hl : ∀ u ∈ l, u.Wf) (b : List Int) (hb : Byt b) (cut : Int) (hc : 0 ≤ cut ∧ cut < 65536) : CtT Try.prog 5 [.sl 2 (uses l), .sl 1 (bys b), .int .u16 cut] (Ret (.bool true) []) := by
  refine Ct.of Try.func5 rfl rfl (n := 129) rfl (by simp [ids]) ?_
  refine Told.callT awake_ct rfl rfl rfl rfl ?_
  refine brB (fun h1 => ?_) (fun h1 => brB (fun h2 => ?_) (fun h2 => ?_))
  · exact ⟨[], _, _, ⟨rfl, rfl⟩, rfl, trivial, rfl⟩
  · exact ⟨[], _, _, ⟨rfl, rfl⟩, rfl, trivial, rfl⟩
  have h1 : l.length ≤ 300 := by have := of_decide_eq_false h1; rw [uses_len] at this; omega
  have h2 : b.length ≤ 3000 := by have := of_decide_eq_false h2; rw [bys_len] at this; omega
  have kb := GBytes_ct l (by omega) hl
  have k5 := GRead_ct b (by omega) hb
  obtain ⟨⟨m, n, e⟩, hpe⟩ : ∃ p, readG b = p := ⟨_, rfl⟩
  have hq := read_back hb hpe
  rw [hpe] at k5
  refine Told.callT kb rfl rfl rfl rfl ?_
  by_cases ok : OkL l
  · have hg : gbytes l = ((l.length : Int) :: gbody l, 0) := by rw [gbytes, if_pos ok]
    have r1 := read_bytes ok hl b
    have r2 := fun k => read_cut ok (k := k)
    have hgl := gbody_len l
    have := ok.len
    have hxb : Byt (gbytes l).1 := by
      rw [hg]; intro y hy
      rcases List.mem_cons.1 hy with rfl | hy
      · omega
      · exact gbody_byt l y hy
    have hxl : (gbytes l).1.length = 16 * l.length + 1 := by rw [hg]; simp [hgl]
    rw [hg] at r1 r2 hxb hxl ⊢
    simp only at r1 r2 hxb hxl
    generalize hx : (l.length : Int) :: gbody l = x at *
    have k3 := GRead_ct (x ++ b) (by simp; omega) (fun y hy => (List.mem_append.1 hy).elim (hxb y) (hb y))
    rw [r1] at k3
    rw [show bys (x ++ b) = bys x ++ bys b by simp [bys]] at k3
    refine brT (by simp only; rw [bys_len, hxl]; simp; omega) ?_
    refine ⟨by show _ * 1 ≤ _; simp only [List.length_nil, bys_len, hxl]; omega, by show _ * 1 ≤ _; simp only [List.length_append, List.length_nil, bys_len, hxl]; omega, ?_⟩
    refine Told.callT k3 rfl rfl rfl rfl ?_
    have hcw : (IntKind.i64.wrap cut).tmod ((bys x).length : Int) = ((cut.toNat % x.length : Nat) : Int) := by
      rw [wi (by omega) (by omega), bys_len, Int.tmod_eq_emod_of_nonneg hc.1, Int.natCast_emod, Int.toNat_of_nonneg hc.1]
    have hcl : cut.toNat % x.length < x.length := Nat.mod_lt _ (by omega)
    generalize cut.toNat % x.length = k at hcw hcl
    refine ⟨by simp only; rw [bys_len]; omega, by decide, by simp only; rw [hcw]; omega, by simp only; rw [hcw, bys_len]; omega, ?_⟩
    have k4 := GRead_ct (x.take (((IntKind.i64.wrap cut).tmod ((bys x).length : Int)).toNat)) (by simp; omega) (hxb.take _)
    rw [r2 _ (by rw [hcw]; omega), bys_take] at k4
    refine Told.callT k4 rfl rfl rfl rfl ?_
    refine brF (by simp [bys_len]) ?_
    have ks := Same_ct l l (by omega) (by omega)
    rw [decide_eq_true rfl] at ks
    refine Told.callT ks rfl rfl rfl rfl ?_
    rcases hq with ⟨e0, q1, q2, q3, q4, q5⟩ | ⟨e0, q1, q2⟩
    · subst e0
      have q6 := q1.len
      refine Told.callT k5 rfl rfl rfl rfl ?_
      have k6 := GBytes_ct m (by omega) q5
      rw [q4] at k6
      refine Told.callT k6 rfl rfl rfl rfl ?_
      refine Told.callT (Right_ct m (by omega) true (by simpa using q1)) rfl rfl rfl rfl ?_
      refine brT (decide_eq_true q2) ?_
      refine brT (decide_eq_true (by rw [bys_len]; exact q3)) ?_
      refine ⟨_, rfl, by decide, by simp only; omega, by simp only; rw [bys_len]; omega, _, (bys_take _ _).symm, fun c hc => ?_⟩
      exact ⟨[], _, _, ⟨rfl, rfl⟩, congrArg AV.bool (hc.trans (decide_eq_true rfl)), trivial, rfl⟩
    · subst q1 q2
      refine Told.callT k5 rfl rfl rfl rfl ?_
      refine brT (by simpa using e0) ?_
      exact ⟨[], _, _, ⟨rfl, rfl⟩, rfl, trivial, rfl⟩
  · have hg : gbytes l = ([], 1) := by rw [gbytes, if_neg ok]
    rw [hg]
    refine Told.callT (Right_ct l (by omega) false (by simpa using ok)) rfl rfl rfl rfl ?_
    rcases hq with ⟨e0, q1, q2, q3, q4, q5⟩ | ⟨e0, q1, q2⟩
    · subst e0
      have q6 := q1.len
      refine Told.callT k5 rfl rfl rfl rfl ?_
      have k6 := GBytes_ct m (by omega) q5
      rw [q4] at k6
      refine Told.callT k6 rfl rfl rfl rfl ?_
      refine Told.callT (Right_ct m (by omega) true (by simpa using q1)) rfl rfl rfl rfl ?_
      refine brT (decide_eq_true q2) ?_
      refine brT (decide_eq_true (by rw [bys_len]; exact q3)) ?_
      refine ⟨_, rfl, by decide, by simp only; omega, by simp only; rw [bys_len]; omega, _, (bys_take _ _).symm, fun c hc => ?_⟩
      exact ⟨[], _, _, ⟨rfl, rfl⟩, congrArg AV.bool (hc.trans (decide_eq_true rfl)), trivial, rfl⟩
    · subst q1 q2
      refine Told.callT k5 rfl rfl rfl rfl ?_
      refine brT (by simpa using e0) ?_
      exact ⟨[], _, _, ⟨rfl, rfl⟩, rfl, trivial, rfl⟩
end
end Go.Proofs.YtfhlgmfbpoldoaaX
namespace Go.Proofs.YtfhlgmfbpoldoaaX
section
open Go Go.YtfhlgmfbpoldoaaE Go.Proofs
set_option maxRecDepth 100000
set_option autoImplicit false
theorem len2 {α : Type} {l : List α} (h : l.length = 2) : ∃ a b, l = [a, b] := by
  match l, h with
  | [a, b], _ => exact ⟨a, b, rfl⟩
theorem wf_u64 {x : Int} (h : (Lit.int .u64 x).wf = true) : U64 x := by
  have h : IntKind.u64.min ≤ x ∧ x ≤ IntKind.u64.max := by simpa [Lit.wf] using h
  have e1 : IntKind.u64.min = 0 := by decide
  have e2 : IntKind.u64.max = 18446744073709551615 := by decide
  unfold U64; omega
theorem ex_U' {n : Nat} {ts : List T} (h : WfC Try.prog n 25 ts) : ∃ u : U, mkE Try.prog 25 ts = u.T ∧ u.Wf := by
  obtain ⟨hl, m, hf⟩ := h.struct Try.underlying25
  obtain ⟨a, b, rfl⟩ := len2 (hl.trans rfl)
  obtain ⟨x, hx, wx⟩ := (hf _ (List.mem_cons_self ..)).int Try.underlying23
  obtain ⟨y, hy, wy⟩ := (hf _ (List.mem_cons_of_mem _ (List.mem_cons_self ..))).int Try.underlying23
  replace hx : [a] = _ := hx
  replace hy : [b] = _ := hy
  simp only [List.cons.injEq, and_true] at hx hy
  subst hx hy
  exact ⟨⟨x, y⟩, rfl, wf_u64 wx, wf_u64 wy⟩
theorem ex_Us' {n : Nat} {ts : List T} (h : WfC Try.prog n 22 ts) : ∃ l : List U, mkE Try.prog 22 ts = .sl 2 (uses l) ∧ ∀ u ∈ l, u.Wf := by
  obtain ⟨l, m', rfl, _, hl'⟩ := h.slice Try.underlying22
  obtain ⟨r, rfl, hr⟩ := row_of (f := U.T) (p := U.Wf) hl' (fun cs hcs => ex_U' hcs)
  exact ⟨r, rfl, hr⟩
theorem ex_bys' {n : Nat} {ts : List T} (h : WfC Try.prog n 26 ts) : ∃ l : List Int, mkE Try.prog 26 ts = .sl 1 (bys l) ∧ Byt l := by
  obtain ⟨l, m', rfl, _, hl'⟩ := h.slice Try.underlying26
  obtain ⟨r, rfl, hr⟩ := row_of (f := T.int .u8) (p := fun x => 0 ≤ x ∧ x ≤ 255) hl' (fun cs hcs => by
    obtain ⟨x, rfl, wx⟩ := hcs.int Try.underlying5
    exact ⟨x, rfl, by have := wf_u8 wx; omega⟩)
  exact ⟨r, rfl, hr⟩
theorem wf_u16 {x : Int} (h : (Lit.int .u16 x).wf = true) : 0 ≤ x ∧ x < 65536 := by
  have h : IntKind.u16.min ≤ x ∧ x ≤ IntKind.u16.max := by simpa [Lit.wf] using h
  have e1 : IntKind.u16.min = 0 := by decide
  have e2 : IntKind.u16.max = 65535 := by decide
  omega
end
end Go.Proofs.YtfhlgmfbpoldoaaX
