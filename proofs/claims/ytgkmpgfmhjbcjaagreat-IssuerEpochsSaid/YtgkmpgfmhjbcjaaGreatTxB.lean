-- Written by hand for this claim's session.
import Derived.Test.YtgkmpgfmhjbcjaaGreatRows
import Derived.HandedShaped
import Derived.JoinedOf
import Derived.RowKit
import Derived.Test.YtgkmpgfmhjbcjaaGreatTxA
namespace Go.Proofs.YtgkmpgfmhjbcjaaGreatX
section
open Go Go.YtgkmpgfmhjbcjaaGreatE Go.Proofs
set_option maxRecDepth 100000
set_option autoImplicit false
namespace Gon
theorem half [Tabs] {i j : Nat} (h : i < j) (hj : j < 1000000) : IntKind.i64.wrap ((IntKind.u64.wrap (IntKind.i64.wrap ((i : Int) + j))).fdiv (2 ^ (min (1 : Int).toNat IntKind.u64.bits))) = ((i + j) / 2 : Nat) := by
  have e : ((2 : Int) ^ (min (1 : Int).toNat IntKind.u64.bits)) = 2 := by decide
  have h0 : IntKind.i64.wrap ((i : Int) + j) = (i : Int) + j := wi (by omega) (by omega)
  have h1 : IntKind.u64.wrap ((i : Int) + j) = (i : Int) + j := by
    simp [IntKind.wrap, IntKind.signed, IntKind.bits]; omega
  rw [h0, h1, e, Int.fdiv_eq_ediv_of_nonneg _ (by omega), wi (by omega) (by omega)]
  omega
theorem Search_ct [Tabs] (l : List U) (v : U) (k : Nat) (hl : l.length < 100000) (hk : k ≤ l.length) (h : ∀ i u, l[i]? = some u → (ord u v < 0 ↔ i < k)) (found : Bool) (hf : found = bif decide (k < l.length) then decide (ord (l.getD k v) v = 0) else false) :
    CtT Tryz.prog 68 [.sl 2 (uses l), v.T, .v (.func (.func 69) #[] #[])] (Ret (.tuple [.int .i64 k, .bool found]) []) := by
  refine Ct.of Tryz.func68 rfl rfl (n := 49) rfl (by simp [ids]) ?_
  refine ⟨Nat × Nat, fun y => [(0, .t (.sl 2 (uses l))), (2, .t (.v (.func (.func 69) #[] #[]))), (4, .ptr 4 0), (7, .bool false), (8, .int .i64 l.length), (9, .int .i64 y.1), (10, .int .i64 y.2)], fun _ => [(4, false, UseBox v)],
    fun y => y.1 ≤ k ∧ k ≤ y.2 ∧ y.2 ≤ l.length, fun y => y.2 - y.1, (0, l.length), ⟨by simp, hk, Nat.le_refl _⟩, Le.of [] ⟨rfl, rfl, rfl, rfl, by rw [← uses_len l]; rfl, rfl, by rw [← uses_len l]; rfl, trivial⟩ ⟨rfl, trivial⟩ rfl, ?_⟩
  rintro ⟨i, j⟩ ⟨h1, h2, h3⟩
  simp only at h1 h2 h3 ⊢
  refine brB (fun hc => ?_) (fun hc => ?_)
  · have hc : i < j := by have := of_decide_eq_true hc; omega
    have hm := half hc (by omega)
    have hx : l[(i + j) / 2]? = some (l[(i + j) / 2]'(by omega)) := List.getElem?_eq_getElem _
    generalize l[(i + j) / 2]'(by omega) = u at hx
    refine ⟨by decide, by rw [hm]; omega, _, uses_get hm hx, ?_⟩
    refine Told.callT (order_ct u v) rfl rfl rfl rfl ?_
    refine brB (fun hc2 => ?_) (fun hc2 => ?_)
    · have := (h _ _ hx).1 (of_decide_eq_true hc2)
      exact ⟨((i + j) / 2 + 1, j), ⟨this, h2, h3⟩, Le.of [] ⟨rfl, rfl, rfl, rfl, rfl, congrArg (AV.int .i64) (by rw [hm]; exact wi (by omega) (by omega)), rfl, trivial⟩ ⟨rfl, trivial⟩ rfl, by show j - ((i + j) / 2 + 1) < j - i; omega⟩
    · have hn : ¬ (i + j) / 2 < k := fun e => of_decide_eq_false hc2 ((h _ _ hx).2 e)
      exact ⟨(i, (i + j) / 2), ⟨h1, by omega, by omega⟩, Le.of [] ⟨rfl, rfl, rfl, rfl, rfl, rfl, congrArg (AV.int .i64) hm, trivial⟩ ⟨rfl, trivial⟩ rfl, by show (i + j) / 2 - i < j - i; omega⟩
  · have hc : ¬ i < j := by have := of_decide_eq_false hc; omega
    have hik : i = k := by omega
    subst hik
    refine brB (fun hc => ?_) (fun hc => ?_)
    · have hc2 : i < l.length := by have := of_decide_eq_true hc; omega
      have hx : l[i]? = some l[i] := List.getElem?_eq_getElem hc2
      refine ⟨by omega, _, uses_get rfl hx, ?_⟩
      refine Told.callT (order_ct l[i] v) rfl rfl rfl rfl ?_
      refine ⟨[], _, _, ⟨rfl, rfl⟩, ?_, trivial, rfl⟩
      rw [hf, decide_eq_true hc2, List.getD_eq_getElem?_getD, hx]
      rfl
    · have hc2 : ¬ i < l.length := by have := of_decide_eq_false hc; omega
      refine ⟨[], _, _, ⟨rfl, rfl⟩, ?_, trivial, rfl⟩
      rw [hf, decide_eq_false hc2]
      rfl

theorem Clone_ct [Tabs] (l : List U) (hl : l.length < 100000) : CtT Tryz.prog 70 [.sl 2 (uses l)] (Ret (.own 0) [(0, false, .row 63 2 (uses l))]) := by
  refine Ct.ofL Tryz.func70 rfl rfl (n := 8) rfl (by simp [ids]) (by simp) ?_
  refine ⟨fun hn => ?_, fun _ => ?_⟩
  · refine ⟨_, _, Le.nil 2 50 63 2 rfl rfl, ?_⟩
    refine ⟨[(0, 50)], _, _, ⟨rfl, rfl⟩, rfl, ⟨?_, trivial⟩, rfl⟩
    rw [hn]; rfl
  · refine ⟨by show (_ + _) * 16 ≤ _; simp; omega, _, _, Le.refl _ _ _, ?_⟩
    exact ⟨[(0, 7)], _, _, ⟨rfl, rfl⟩, rfl, ⟨rfl, trivial⟩, rfl⟩
theorem Index_ct [Tabs] (l : List U) (v : U) (hl : l.length < 100000) (n : Int) (hn : n = (l.findIdx? (fun u => decide (u = v))).elim (-1 : Int) fun i => (i : Int)) : CtT Tryz.prog 76 [.sl 2 (uses l), v.T] (Ret (.int .i64 n) []) := by
  refine Ct.of Tryz.func76 rfl rfl (n := 19) rfl (by simp [ids]) ?_
  refine ⟨Nat, fun i => [(0, .t (.sl 2 (uses l))), (3, .ptr 3 0), (6, .t (.sl 2 (uses l))), (7, .int .i64 l.length), (8, .int .i64 i)], fun _ => [(3, false, UseBox v)], fun i => i ≤ l.length ∧ ∀ j, j < i → ∀ u, l[j]? = some u → u ≠ v, fun i => l.length - i, 0, ⟨by simp, by simp⟩, Le.of [] ⟨rfl, rfl, rfl, by rw [← uses_len l]; rfl, rfl, trivial⟩ ⟨rfl, trivial⟩ rfl, ?_⟩
  rintro i ⟨h1, h2⟩
  refine brB (fun hc => ?_) (fun hc => ?_)
  · have hc : i < l.length := by have := of_decide_eq_true hc; omega
    have hx : l[i]? = some l[i] := List.getElem?_eq_getElem hc
    generalize l[i] = u at hx
    refine ⟨by omega, _, uses_get rfl hx, ?_⟩
    refine ⟨⟨by kernel_rfl, Tryz.eqGuardType63⟩, fun c hc2 => ?_⟩
    refine brB (fun hc3 => ?_) (fun hc3 => ?_)
    · rw [hc3] at hc2
      have e : u = v := by
        have := of_decide_eq_true hc2.symm
        obtain ⟨a, b⟩ := u; obtain ⟨a', b'⟩ := v
        simp at this ⊢; omega
      refine ⟨[], _, _, ⟨rfl, rfl⟩, congrArg (AV.int .i64) ?_, trivial, rfl⟩
      rw [hn]
      have : l.findIdx? (fun u => decide (u = v)) = some i := by
        rw [List.findIdx?_eq_some_iff_getElem]
        refine ⟨hc, ?_, fun j hj => ?_⟩
        · have := (List.getElem?_eq_some_iff.1 hx).2
          simp [this, e]
        · simpa using h2 j hj _ (List.getElem?_eq_getElem (by omega))
      rw [this]; rfl
    · rw [hc3] at hc2
      have e : u ≠ v := by
        have := of_decide_eq_false hc2.symm
        rintro rfl
        exact this rfl
      refine ⟨i + 1, ⟨hc, fun j hj w hw => ?_⟩, Le.of [] ⟨rfl, rfl, rfl, rfl, congrArg (AV.int .i64) (wi (by omega) (by omega)), trivial⟩ ⟨rfl, trivial⟩ rfl, by show l.length - (i + 1) < l.length - i; omega⟩
      by_cases e2 : j = i
      · subst e2; rw [hx] at hw; cases hw; exact e
      · exact h2 j (by omega) w hw
  · have hc : ¬ i < l.length := by have := of_decide_eq_false hc; omega
    refine ⟨[], _, _, ⟨rfl, rfl⟩, congrArg (AV.int .i64) ?_, trivial, rfl⟩
    rw [hn]
    have : l.findIdx? (fun u => decide (u = v)) = none := by
      rw [List.findIdx?_eq_none_iff]
      intro x hx
      obtain ⟨j, hj, rfl⟩ := List.mem_iff_getElem.1 hx
      simpa using h2 j (by omega) _ (List.getElem?_eq_getElem hj)
    rw [this]; rfl
theorem Contains_ct [Tabs] (l : List U) (v : U) (hl : l.length < 100000) : CtT Tryz.prog 51 [.sl 2 (uses l), v.T] (Ret (.bool (decide (v ∈ l))) []) := by
  refine Ct.of Tryz.func51 rfl rfl (n := 9) rfl (by simp [ids]) ?_
  refine Told.callT (Index_ct l v hl _ rfl) rfl rfl rfl rfl ?_
  refine ⟨[], _, _, ⟨rfl, rfl⟩, congrArg AV.bool ?_, trivial, rfl⟩
  cases hf : l.findIdx? (fun u => decide (u = v)) with
  | none =>
    rw [List.findIdx?_eq_none_iff] at hf
    have : ¬ v ∈ l := fun h => by simpa using hf v h
    simp [this]
  | some i =>
    rw [List.findIdx?_eq_some_iff_getElem] at hf
    obtain ⟨h1, h2, _⟩ := hf
    have : v ∈ l := by have := of_decide_eq_true h2; rw [← this]; exact List.getElem_mem _
    simp [this]

abbrev URow (l : List U) : Blk := .row 63 2 (uses l)
theorem ins_grow (l : List U) (y : U) (i : Nat) (z : T) (hi : i < l.length) :
    List.take (i + 1) (List.take i (List.take i (List.drop 0 (uses l)) ++ List.replicate (l.length + 1 - i) z) ++ List.take 1 (uses [y]) ++ List.drop (i + 1) (List.take i (List.drop 0 (uses l)) ++ List.replicate (l.length + 1 - i) z)) ++
      List.take (l.length - i) (List.drop i (uses l)) ++ List.drop (i + 1 + (l.length - i)) (List.take i (List.take i (List.drop 0 (uses l)) ++ List.replicate (l.length + 1 - i) z) ++ List.take 1 (uses [y]) ++ List.drop (i + 1) (List.take i (List.drop 0 (uses l)) ++ List.replicate (l.length + 1 - i) z)) = uses (l.take i ++ y :: l.drop i) := by
  have h1 : List.take i (List.take i (List.drop 0 (uses l)) ++ List.replicate (l.length + 1 - i) z) = uses (l.take i) := by
    rw [List.drop_zero, List.take_append_of_le_length (by simp; omega), List.take_take, Nat.min_self]; simp [uses]
  have h2 : (List.take i (List.take i (List.drop 0 (uses l)) ++ List.replicate (l.length + 1 - i) z) ++ List.take 1 (uses [y]) ++ List.drop (i + 1) (List.take i (List.drop 0 (uses l)) ++ List.replicate (l.length + 1 - i) z)).length = l.length + 1 := by simp; omega
  rw [List.drop_of_length_le (i := i + 1 + (l.length - i)) (by rw [h2]; omega), List.append_nil, h1]
  rw [List.take_append_of_le_length (by simp; omega), List.take_of_length_le (by simp; omega), List.take_of_length_le (l := List.drop i (uses l)) (by simp)]
  simp [uses]
theorem ins_shift (l : List U) (y : U) (i : Nat) (hi : i < l.length) :
    l.length + 1 = (List.take i (List.take (i + 1) (uses l) ++ List.take (l.length - i) (List.drop i (uses l)) ++ List.drop (i + 1 + (l.length - i)) (uses l)) ++ List.take 1 (uses [y]) ++ List.drop (i + 1) (List.take (i + 1) (uses l) ++ List.take (l.length - i) (List.drop i (uses l)) ++ List.drop (i + 1 + (l.length - i)) (uses l))).length ∧
    List.take i (List.take (i + 1) (uses l) ++ List.take (l.length - i) (List.drop i (uses l)) ++ List.drop (i + 1 + (l.length - i)) (uses l)) ++ List.take 1 (uses [y]) ++ List.drop (i + 1) (List.take (i + 1) (uses l) ++ List.take (l.length - i) (List.drop i (uses l)) ++ List.drop (i + 1 + (l.length - i)) (uses l)) = uses (l.take i ++ y :: l.drop i) := by
  have e : List.take (i + 1) (uses l) ++ List.take (l.length - i) (List.drop i (uses l)) ++ List.drop (i + 1 + (l.length - i)) (uses l) = List.take (i + 1) (uses l) ++ List.drop i (uses l) := by
    rw [List.drop_of_length_le (i := i + 1 + (l.length - i)) (by simp; omega), List.append_nil, List.take_of_length_le (l := List.drop i (uses l)) (by simp)]
  rw [e]
  have e2 : List.take i (List.take (i + 1) (uses l) ++ List.drop i (uses l)) = uses (l.take i) := by
    rw [List.take_append_of_le_length (by simp; omega), List.take_take, Nat.min_eq_left (by omega)]; simp [uses]
  have e3 : List.drop (i + 1) (List.take (i + 1) (uses l) ++ List.drop i (uses l)) = uses (l.drop i) := by
    rw [List.drop_append_of_le_length (by simp; omega), List.drop_of_length_le (l := List.take (i + 1) (uses l)) (by simp; omega)]; simp [uses]
  rw [e2, e3]
  refine ⟨by simp; omega, by simp [uses]⟩
theorem Insert_ct [Tabs] (l : List U) (y : U) (i : Nat) (hl : l.length < 100000) (hi : i ≤ l.length) : Ct Tryz.prog 71 [.own 0, .int .i64 i, .own 1] [(0, false, URow l), (1, false, URow [y])] (Ret (.own 2) [(2, false, URow (l.take i ++ y :: l.drop i)), (1, false, URow [y]), (0, false, .dead)]) := by
  have hn := uses_len l
  rcases Nat.lt_or_ge i l.length with hi | hge
  · have hne : uses l ≠ [] := fun e => by rw [e] at hn; simp at hn; omega
    refine Ct.room hne (by rw [hn]; unfold maxLen; omega) rfl rfl (fun N h1 h2 => ?_)
    rw [hn] at h1 ⊢
    unfold maxLen at h2
    refine Ct.ofL Tryz.func71 rfl rfl (n := 95) rfl (by simp [ids]; exact ⟨rfl, rfl⟩) (by simp) ?_
    refine ⟨i, l.length - i, by omega, by omega, by omega, by omega, by omega, by omega, ?_⟩
    refine brB (fun h => absurd (of_decide_eq_true h) (by omega)) (fun _ => ?_)
    have w1 : IntKind.i64.wrap ((l.length : Int) + (uses [y]).length) = (l.length : Int) + 1 := wi (by show _ ≤ (l.length : Int) + 1; omega) (by show (l.length : Int) + 1 < _; omega)
    have w3 : IntKind.i64.wrap ((i : Int) + (uses [y]).length) = (i : Int) + 1 := wi (by show _ ≤ (i : Int) + 1; omega) (by show (i : Int) + 1 < _; omega)
    refine brB (fun hc => ?_) (fun hc => ?_)
    · have hN : N = l.length := by
        have h3 : IntKind.i64.wrap ((l.length : Int) + (uses [y]).length) > ((N - 0 : Nat) : Int) := of_decide_eq_true hc
        rw [w1] at h3; omega
      subst hN
      have w2 : IntKind.i64.wrap (IntKind.i64.wrap ((l.length : Int) + (uses [y]).length) - i) = (l.length : Int) + 1 - i := by rw [w1]; exact wi (by omega) (by omega)
      have hlen : (List.take i (List.drop 0 (uses l)) ++ List.replicate (l.length + 1 - i) (zeroT (Value.agg #[Value.int IntKind.u64 0, Value.int IntKind.u64 0]))).length = l.length + 1 := by simp; omega
      refine ⟨0, i, by omega, by omega, by omega, by omega, by omega, by omega, l.length + 1 - i, by rw [w2]; omega, by rw [hn]; omega, by simp; omega, by show _ * 16 ≤ _; simp; omega, ?_⟩
      refine ⟨i, l.length + 1 - i, rfl, by rw [hlen]; omega, by omega, by rw [hlen]; omega, by omega, 1, by show 1 = min 1 _; omega, trivial, ?_⟩
      refine ⟨i + 1, l.length - i, by rw [w3]; omega, by rw [w3]; simp; omega, by rw [w3]; omega, by rw [w3]; simp; omega, by omega, i, l.length - i, by omega, by omega, by omega, by omega, by omega, by omega, l.length - i, by simp, by rw [hn]; omega, ?_⟩
      refine ⟨_, _, Le.kill 0 rfl, ?_⟩
      refine ⟨[(2, 40)], _, _, ⟨rfl, rfl⟩, rfl, ⟨congrArg (fun x => (false, Blk.row 63 2 x)) ?_, rfl, rfl, trivial⟩, rfl⟩
      exact ins_grow l y i _ (by omega)
    · have hN : l.length + 1 ≤ N := by
        have h3 : ¬ (IntKind.i64.wrap ((l.length : Int) + (uses [y]).length) > ((N - 0 : Nat) : Int)) := of_decide_eq_false hc
        rw [w1] at h3; omega
      refine ⟨0, l.length + 1, by omega, by rw [w1]; omega, by omega, by rw [w1]; omega, by rw [w1]; omega, by omega, i + 1, l.length - i, by rw [w3]; omega, by rw [w3]; omega, by rw [w3]; omega, by rw [w3]; omega, by omega, by omega, ?_⟩
      refine Told.overlaps (tS := 28) (tR := 4) rfl Tryz.func99 rfl rfl (by kernel_rfl) (by kernel_rfl) rfl rfl rfl rfl rfl rfl (by simp) hne rfl ?_
      refine ⟨i + 1, l.length - i, by rw [w3]; omega, by rw [w3]; omega, by rw [w3]; omega, by rw [w3]; omega, by omega, by omega, i, l.length + 1 - i, by omega, by omega, by omega, by omega, by omega, by omega, l.length - i, by show _ = min _ _; omega, by rw [hn]; omega, by rw [hn]; omega, by omega, ?_⟩
      refine ⟨i, l.length + 1 - i, by omega, by omega, by omega, by omega, by omega, by omega, 1, by show 1 = min 1 _; omega, trivial, by simp; omega, by omega, ?_⟩
      have hz := ins_shift l y i (by omega)
      refine ⟨_, _, Le.trans (Le.cutA 6 0 50 63 2 N _ (congrArg (fun n => AV.fsub 0 2 0 n N) hz.1) rfl rfl) (Le.refl _ _ _), ?_⟩
      refine ⟨[(2, 50)], _, _, ⟨rfl, rfl⟩, rfl, ⟨congrArg (fun x => (false, Blk.row 63 2 x)) ?_, rfl, rfl, trivial⟩, rfl⟩
      exact hz.2
  · have : i = l.length := by omega
    subst this
    refine Ct.ofL Tryz.func71 rfl rfl (n := 95) rfl (by simp [ids]; exact ⟨rfl, rfl⟩) (by simp) ?_
    refine ⟨l.length, 0, rfl, by rw [hn]; omega, by omega, by rw [hn]; omega, by omega, ?_⟩
    refine brB (fun _ => ?_) (fun h => absurd (of_decide_eq_false h) (by rw [hn]; simp))
    refine ⟨by show _ * 16 ≤ _; simp; omega, ?_⟩
    refine ⟨_, _, Le.refl _ _ _, ?_⟩
    refine ⟨[(2, 25)], _, _, ⟨rfl, rfl⟩, rfl, ⟨congrArg (fun x => (false, Blk.row 63 2 x)) ?_, rfl, rfl, trivial⟩, rfl⟩
    simp [uses]

theorem Has_ct [Tabs] (c : List U) (u : U) (hl : c.length < 100000) : CtT Tryz.prog 26 [.sl 2 (uses c), u.T] (Ret (.bool (decide (u ∈ c))) []) := by
  refine Ct.of Tryz.func26 rfl rfl (n := 8) rfl (by simp [ids]) ?_
  refine Told.callT (Contains_ct c u hl) rfl rfl rfl rfl ?_
  exact ⟨[], _, _, ⟨rfl, rfl⟩, rfl, trivial, rfl⟩
theorem srt_index [Tabs] (l : List U) (hs : l.Pairwise ltU) (u : U) : ∃ k, k ≤ l.length ∧ (∀ i v, l[i]? = some v → (ltU v u ↔ i < k)) := by
  induction l with
  | nil => exact ⟨0, by simp, by simp⟩
  | cons x l ih =>
    rw [List.pairwise_cons] at hs
    by_cases h : ltU x u
    · obtain ⟨k, h1, h2⟩ := ih hs.2
      refine ⟨k + 1, by simp; omega, fun i v hv => ?_⟩
      cases i with
      | zero => simp at hv; subst hv; simp [h]
      | succ i => rw [h2 i v (by simpa using hv)]; omega
    · refine ⟨0, by simp, fun i v hv => ⟨fun h' => absurd ?_ h, fun h => by omega⟩⟩
      cases i with
      | zero => simp at hv; subst hv; exact h'
      | succ i => exact ltU_trans (hs.1 v (List.mem_of_getElem? (by simpa using hv))) h'
def insU (l : List U) (u : U) : List U := l.filter (fun v => decide (ltU v u)) ++ u :: l.filter (fun v => !decide (ltU v u))
theorem insU_eq {l : List U} {u : U} {k : Nat} (hk : k ≤ l.length) (h : ∀ i v, l[i]? = some v → (ltU v u ↔ i < k)) : insU l u = l.take k ++ u :: l.drop k := by
  have h1 : l.filter (fun v => decide (ltU v u)) = l.take k := by
    conv => lhs; rw [← List.take_append_drop k l]
    rw [List.filter_append, List.filter_eq_self.2, List.filter_eq_nil_iff.2, List.append_nil]
    · intro v hv
      obtain ⟨i, hi, rfl⟩ := List.mem_iff_getElem.1 hv
      rw [List.getElem_drop]
      have := (h (k + i) _ (List.getElem?_eq_getElem (by simp at hi; omega)))
      simp [this]
    · intro v hv
      obtain ⟨i, hi, rfl⟩ := List.mem_iff_getElem.1 hv
      rw [List.getElem_take]
      have := (h i _ (List.getElem?_eq_getElem (by simp at hi; omega)))
      simp [this]; simp at hi; omega
  have h2 : l.filter (fun v => !decide (ltU v u)) = l.drop k := by
    conv => lhs; rw [← List.take_append_drop k l]
    rw [List.filter_append, List.filter_eq_nil_iff.2, List.filter_eq_self.2, List.nil_append]
    · intro v hv
      obtain ⟨i, hi, rfl⟩ := List.mem_iff_getElem.1 hv
      rw [List.getElem_drop]
      have := (h (k + i) _ (List.getElem?_eq_getElem (by simp at hi; omega)))
      simp [this]
    · intro v hv
      obtain ⟨i, hi, rfl⟩ := List.mem_iff_getElem.1 hv
      rw [List.getElem_take]
      have := (h i _ (List.getElem?_eq_getElem (by simp at hi; omega)))
      simp [this]; simp at hi; omega
  unfold insU
  rw [h1, h2]
theorem found_iff [Tabs] {l : List U} {u : U} {k : Nat} (hs : l.Pairwise ltU) (hk : k ≤ l.length) (h : ∀ i v, l[i]? = some v → (ltU v u ↔ i < k)) : (bif decide (k < l.length) then decide (ord (l.getD k u) u = 0) else false) = true ↔ u ∈ l := by
  by_cases hlt : k < l.length
  · rw [decide_eq_true hlt, cond_true, decide_eq_true_eq, ord_eq, List.getD_eq_getElem?_getD, List.getElem?_eq_getElem hlt]
    constructor
    · intro e
      rw [← (show l[k] = u from e)]
      exact List.getElem_mem hlt
    intro hu
    obtain ⟨i, hi, rfl⟩ := List.mem_iff_getElem.1 hu
    have h1 : ¬ i < k := fun e => ltU_irrefl ((h i _ (List.getElem?_eq_getElem hi)).2 e)
    have h2 : ¬ k < i := fun e => by
      have := (List.pairwise_iff_getElem.1 hs) k i hlt hi e
      have := (h k _ (List.getElem?_eq_getElem hlt)).1 this
      omega
    have : k = i := by omega
    subst this; rfl
  · rw [decide_eq_false hlt, cond_false]
    refine ⟨fun e => (by cases e), fun hu => ?_⟩
    obtain ⟨i, hi, rfl⟩ := List.mem_iff_getElem.1 hu
    exact absurd ((h i _ (List.getElem?_eq_getElem hi)).2 (by omega)) ltU_irrefl
def putG (c : List U) (u : U) : List U × Int :=
  if ¬ OkL c then ([], 1) else if u ∈ c then (c, 0) else if c.length = 64 then ([], 12) else (insU c u, 0)
@[reducible] def res (p : List U × Int) : T := .tuple [.sl 2 (uses p.1), .int .i64 p.2]
theorem Put_ct [Tabs] (c : List U) (u : U) (hl : c.length < 10000) : CtT Tryz.prog 40 [.sl 2 (uses c), u.T] (Ret (.t (res (putG c u))) []) := by
  refine CtT.ofN Tryz.func40 rfl rfl (n := 31) rfl ?_
  obtain ⟨b, hb⟩ := ex_bool (OkL c)
  refine Told.callT (Right_ct c (by omega) b hb) rfl rfl rfl rfl ?_
  cases b with
  | false =>
    refine ⟨_, rfl, ?_⟩
    rw [putG, if_pos (fun h => by have := hb.2 h; cases this)]
    repeat constructor
  | true =>
    have ok := hb.1 rfl
    obtain ⟨k, hk, hki⟩ := srt_index c ok.srt u
    have hki' : ∀ i v, c[i]? = some v → (ord v u < 0 ↔ i < k) := fun i v hv => ord_lt.trans (hki i v hv)
    refine Told.callT (Search_ct c u k (by omega) hk hki' _ rfl) rfl rfl rfl rfl ?_
    refine brB (fun h2 => ?_) (fun h2 => brB (fun h3 => ?_) (fun h3 => ?_))
    · refine Told.callT (Clone_ct c (by omega)) rfl rfl rfl rfl ?_
      refine ⟨_, rfl, ?_⟩
      rw [putG, if_neg (by simpa using ok), if_pos ((found_iff ok.srt hk hki).1 h2)]
      exact .refl _
    · refine ⟨_, rfl, ?_⟩
      have h2 : u ∉ c := fun h => by have := (found_iff ok.srt hk hki).2 h; rw [h2] at this; cases this
      have h3 := of_decide_eq_true h3
      rw [uses_len] at h3
      rw [putG, if_neg (by simpa using ok), if_neg h2, if_pos (by omega)]
      repeat constructor
    · have h2 : u ∉ c := fun h => by have := (found_iff ok.srt hk hki).2 h; rw [h2] at this; cases this
      have h3 := of_decide_eq_false h3
      rw [uses_len] at h3
      refine Told.callT (Clone_ct c (by omega)) rfl rfl rfl rfl ?_
      refine Told.callR [(0, 26), (1, 29)] (Insert_ct c u k (by omega) hk) rfl rfl rfl ⟨rfl, rfl, trivial⟩ rfl ?_
      refine ⟨_, rfl, ?_⟩
      rw [putG, if_neg (by simpa using ok), if_neg h2, if_neg (by omega), insU_eq hk hki]
      exact .refl _

theorem srt_ext [Tabs] {l m : List U} (hl : l.Pairwise ltU) (hm : m.Pairwise ltU) (h : ∀ u, u ∈ l ↔ u ∈ m) : l = m := by
  induction l generalizing m with
  | nil =>
    cases m with
    | nil => rfl
    | cons x m => exact absurd ((h x).2 (List.mem_cons_self ..)) (by simp)
  | cons x l ih =>
    cases m with
    | nil => exact absurd ((h x).1 (List.mem_cons_self ..)) (by simp)
    | cons y m =>
      rw [List.pairwise_cons] at hl hm
      have e : x = y := by
        rcases List.mem_cons.1 ((h x).1 (List.mem_cons_self ..)) with e | h1
        · exact e
        · rcases List.mem_cons.1 ((h y).2 (List.mem_cons_self ..)) with e | h2
          · exact e.symm
          · exact absurd (ltU_trans (hm.1 x h1) (hl.1 y h2)) ltU_irrefl
      subst e
      rw [ih hl.2 hm.2 (fun u => ?_)]
      refine ⟨fun hu => ?_, fun hu => ?_⟩
      · rcases List.mem_cons.1 ((h u).1 (List.mem_cons_of_mem _ hu)) with rfl | h1
        · exact absurd (hl.1 u hu) ltU_irrefl
        · exact h1
      · rcases List.mem_cons.1 ((h u).2 (List.mem_cons_of_mem _ hu)) with rfl | h1
        · exact absurd (hm.1 u hu) ltU_irrefl
        · exact h1
theorem mem_insU {l : List U} {u v : U} : v ∈ insU l u ↔ v = u ∨ v ∈ l := by
  unfold insU
  simp only [List.mem_append, List.mem_cons, List.mem_filter, decide_eq_true_eq, Bool.not_eq_true', decide_eq_false_iff_not]
  refine ⟨fun h => ?_, fun h => ?_⟩
  · rcases h with h | h | h
    · exact .inr h.1
    · exact .inl h
    · exact .inr h.1
  · rcases h with h | h
    · exact .inr (.inl h)
    · by_cases h2 : ltU v u
      · exact .inl ⟨h, h2⟩
      · exact .inr (.inr ⟨h, h2⟩)
theorem srt_insU [Tabs] {l : List U} {u : U} (hs : l.Pairwise ltU) (hu : u ∉ l) : (insU l u).Pairwise ltU := by
  unfold insU
  rw [List.pairwise_append, List.pairwise_cons]
  refine ⟨hs.sublist List.filter_sublist, ⟨fun v hv => ?_, hs.sublist List.filter_sublist⟩, fun v hv w hw => ?_⟩
  · obtain ⟨h1, h2⟩ := List.mem_filter.1 hv
    simp at h2
    rcases ltU_tri v u with h | rfl | h
    · exact absurd h h2
    · exact absurd h1 hu
    · exact h
  · have hv2 : ltU v u := by simpa using (List.mem_filter.1 hv).2
    rcases List.mem_cons.1 hw with rfl | hw
    · exact hv2
    · obtain ⟨h1, h2⟩ := List.mem_filter.1 hw
      simp at h2
      rcases ltU_tri w u with h | rfl | h
      · exact absurd h h2
      · exact absurd h1 hu
      · exact ltU_trans hv2 h
theorem insU_len (l : List U) (u : U) : (insU l u).length = l.length + 1 := by
  unfold insU
  have : ∀ (p : U → Bool), (l.filter p).length + (l.filter fun v => !p v).length = l.length := by
    intro p
    induction l with
    | nil => rfl
    | cons x l ih => cases h : p x <;> simp [h] <;> omega
  have := this (fun v => decide (ltU v u))
  simp only [List.length_append, List.length_cons]
  omega
structure Puts (l : List U) (g : U) (m : List U) : Prop where
  okl : OkL l
  ok : OkL m
  mem : ∀ x, x ∈ m ↔ x = g ∨ x ∈ l
  len : (g ∈ l ∧ m = l) ∨ (g ∉ l ∧ m.length = l.length + 1)
theorem putG_cases [Tabs] (l : List U) (g : U) : (∃ m, putG l g = (m, 0) ∧ Puts l g m) ∨ (putG l g = ([], 1) ∧ ¬ OkL l) ∨ (putG l g = ([], 12) ∧ OkL l ∧ g ∉ l ∧ l.length = 64) := by
  unfold putG
  by_cases h : OkL l
  · rw [if_neg (by simpa using h)]
    by_cases h2 : g ∈ l
    · rw [if_pos h2]
      exact .inl ⟨l, rfl, h, h, fun x => ⟨fun hx => .inr hx, fun hx => hx.elim (fun e => e ▸ h2) id⟩, .inl ⟨h2, rfl⟩⟩
    · rw [if_neg h2]
      by_cases h3 : l.length = 64
      · rw [if_pos h3]; exact .inr (.inr ⟨rfl, h, h2, h3⟩)
      · rw [if_neg h3]
        have := h.len
        exact .inl ⟨_, rfl, h, ⟨by rw [insU_len]; omega, srt_insU h.srt h2⟩, fun x => mem_insU, .inr ⟨h2, insU_len _ _⟩⟩
  · rw [if_pos h]; exact .inr (.inl ⟨rfl, h⟩)
theorem Puts.put [Tabs] {l m : List U} {g : U} (h : Puts l g m) : putG l g = (m, 0) := by
  rcases putG_cases l g with ⟨m', h1, h2⟩ | ⟨_, h2⟩ | ⟨_, _, h2, h3⟩
  · rw [h1, srt_ext h.ok.srt h2.ok.srt fun x => (h.mem x).trans (h2.mem x).symm]
  · exact absurd h.okl h2
  · rcases h.len with ⟨h4, _⟩ | ⟨_, h4⟩
    · exact absurd h4 h2
    · have := h.ok.len; omega
end Gon
end
end Go.Proofs.YtgkmpgfmhjbcjaaGreatX
namespace Go.Proofs.YtgkmpgfmhjbcjaaGreatX
section
open Go Go.YtgkmpgfmhjbcjaaGreatE Go.Proofs
set_option maxRecDepth 100000
set_option autoImplicit false
structure Holder where
  t : Int
  e : Int
  d : Int
  seed : List Int
  deriving DecidableEq
@[reducible] def Holder.T (x : Holder) : T := .agg [.int .u64 x.t, .int .u64 x.e, .int .u64 x.d, .sl 1 (bys x.seed)]
structure Holder.Wf (x : Holder) : Prop where
  t : U64 x.t
  e : U64 x.e
  d : U64 x.d
  seed : Byt x.seed
abbrev Holder.box (x : Holder) : Blk := .box 35 [.int .u64 x.t, .int .u64 x.e, .int .u64 x.d, .t (.sl 1 (bys x.seed))]
theorem Holder.row_len (l : List Holder) : (l.map Holder.T).length = l.length := by simp
theorem Holder.row_get {l : List Holder} {n : Int} {i : Nat} {x : Holder} (hn : n = i) (h : l[i]? = some x) : (l.map Holder.T)[n.toNat]? = some x.T := by subst hn; simp [h]
structure Issuer where
  key : List Int
  v : Int
  holders : List Holder
  gone : List Gon.U
  deriving DecidableEq
@[reducible] def Issuer.T (x : Issuer) : T := .agg [.sl 1 (bys x.key), .int .u64 x.v, .sl 4 (x.holders.map Holder.T), .sl 2 (x.gone.map Gon.U.T)]
structure Issuer.Wf (x : Issuer) : Prop where
  key : Byt x.key
  v : U64 x.v
  holders : ∀ y ∈ x.holders, y.Wf
  gone : ∀ y ∈ x.gone, y.Wf
abbrev Issuer.box (x : Issuer) : Blk := .box 30 [.t (.sl 1 (bys x.key)), .int .u64 x.v, .t (.sl 4 (x.holders.map Holder.T)), .t (.sl 2 (x.gone.map Gon.U.T))]
theorem Issuer.row_len (l : List Issuer) : (l.map Issuer.T).length = l.length := by simp
theorem Issuer.row_get {l : List Issuer} {n : Int} {i : Nat} {x : Issuer} (hn : n = i) (h : l[i]? = some x) : (l.map Issuer.T)[n.toNat]? = some x.T := by subst hn; simp [h]
def zeroHo : Holder := ⟨0, 0, 0, []⟩
def Holder.ok (h : Holder) : Prop := h.e ≠ 0 ∧ 1 ≤ (h.seed.length : Int) ∧ (h.seed.length : Int) ≤ 32
instance (h : Holder) : Decidable h.ok := by unfold Holder.ok; infer_instance
structure Issuer.ok (s : Issuer) : Prop where
  len : s.holders.length ≤ 64
  srt : s.holders.Pairwise (fun a b => a.t < b.t)
  each : ∀ h ∈ s.holders, h.ok
  gone : Gon.OkL s.gone
instance (x : Issuer) : Decidable x.ok := decidable_of_iff (x.holders.length ≤ 64 ∧ x.holders.Pairwise (fun a b => a.t < b.t) ∧ (∀ e ∈ x.holders, e.ok) ∧ Gon.OkL x.gone) ⟨fun h => ⟨h.1, h.2.1, h.2.2.1, h.2.2.2⟩, fun h => ⟨h.1, h.2, h.3, h.4⟩⟩
def bindL (l : List Holder) (h : Holder) : List Holder := l.filter (fun x => decide (x.t < h.t)) ++ h :: l.filter (fun x => decide (h.t < x.t))
theorem hsrt_index (l : List Holder) (hs : l.Pairwise (fun a b => a.t < b.t)) (t : Int) : ∃ k, k ≤ l.length ∧ ∀ i v, l[i]? = some v → (v.t < t ↔ i < k) := by
  induction l with
  | nil => exact ⟨0, by simp, by simp⟩
  | cons x l ih =>
    rw [List.pairwise_cons] at hs
    by_cases h : x.t < t
    · obtain ⟨k, h1, h2⟩ := ih hs.2
      refine ⟨k + 1, by simp; omega, fun i v hv => ?_⟩
      cases i with
      | zero => simp at hv; subst hv; simp [h]
      | succ i => rw [h2 i v (by simpa using hv)]; omega
    · refine ⟨0, by simp, fun i v hv => ⟨fun h' => absurd ?_ h, fun h => by omega⟩⟩
      cases i with
      | zero => simp at hv; subst hv; exact h'
      | succ i => have := hs.1 v (List.mem_of_getElem? (by simpa using hv)); omega
theorem hlow {l : List Holder} {t : Int} {k : Nat} (hk : k ≤ l.length) (h : ∀ i v, l[i]? = some v → (v.t < t ↔ i < k)) : l.filter (fun x => decide (x.t < t)) = l.take k := by
  conv => lhs; rw [← List.take_append_drop k l]
  rw [List.filter_append, List.filter_eq_self.2, List.filter_eq_nil_iff.2, List.append_nil]
  · intro v hv
    obtain ⟨i, hi, rfl⟩ := List.mem_iff_getElem.1 hv
    rw [List.getElem_drop]
    have := (h (k + i) _ (List.getElem?_eq_getElem (by simp at hi; omega)))
    simp only [decide_eq_true_eq]; omega
  · intro v hv
    obtain ⟨i, hi, rfl⟩ := List.mem_iff_getElem.1 hv
    rw [List.getElem_take]
    have := (h i _ (List.getElem?_eq_getElem (by simp at hi; omega)))
    simp only [decide_eq_true_eq]; simp at hi; omega
theorem hhigh {l : List Holder} {t : Int} {k : Nat} (hk : k ≤ l.length) (h : ∀ i v, l[i]? = some v → (t < v.t ↔ k ≤ i)) : l.filter (fun x => decide (t < x.t)) = l.drop k := by
  conv => lhs; rw [← List.take_append_drop k l]
  rw [List.filter_append, List.filter_eq_nil_iff.2, List.filter_eq_self.2, List.nil_append]
  · intro v hv
    obtain ⟨i, hi, rfl⟩ := List.mem_iff_getElem.1 hv
    rw [List.getElem_drop]
    have := (h (k + i) _ (List.getElem?_eq_getElem (by simp at hi; omega)))
    simp only [decide_eq_true_eq]; omega
  · intro v hv
    obtain ⟨i, hi, rfl⟩ := List.mem_iff_getElem.1 hv
    rw [List.getElem_take]
    have := (h i _ (List.getElem?_eq_getElem (by simp at hi; omega)))
    simp only [decide_eq_true_eq]; simp at hi; omega
theorem bindL_set [Tabs] {l : List Holder} (hs : l.Pairwise (fun a b => a.t < b.t)) {h : Holder} {k : Nat} (hki : ∀ i v, l[i]? = some v → (v.t < h.t ↔ i < k)) {u : Holder} (hu : l[k]? = some u) (ht : u.t = h.t) : bindL l h = l.set k h := by
  obtain ⟨hk, hu'⟩ := List.getElem?_eq_some_iff.1 hu
  have h2 : l.filter (fun x => decide (h.t < x.t)) = l.drop (k + 1) := hhigh (by omega) (fun i v hv => by
    obtain ⟨hi, hv'⟩ := List.getElem?_eq_some_iff.1 hv
    rw [List.pairwise_iff_getElem] at hs
    constructor
    · intro hlt
      have h1 : ¬ i < k := fun e => by have := (hki i v hv).2 e; omega
      by_cases e : i = k
      · subst e; rw [hu] at hv; cases hv; omega
      · omega
    · intro hlt
      have := hs k i hk hi (by omega)
      rw [hu', hv'] at this
      omega)
  unfold bindL
  rw [hlow (by omega) hki, h2, List.set_eq_take_append_cons_drop, if_pos hk]
theorem bindL_ins [Tabs] {l : List Holder} {h : Holder} {k : Nat} (hk : k ≤ l.length) (hki : ∀ i v, l[i]? = some v → (v.t < h.t ↔ i < k)) (hn : ∀ u ∈ l, u.t ≠ h.t) : bindL l h = l.take k ++ h :: l.drop k := by
  unfold bindL
  rw [hlow hk hki, hhigh hk (fun i v hv => by have h1 := hki i v hv; have := hn v (List.mem_of_getElem? hv); omega)]
theorem mem_bindL {l : List Holder} {h x : Holder} : x ∈ bindL l h ↔ x = h ∨ (x ∈ l ∧ x.t ≠ h.t) := by
  simp only [bindL, List.mem_append, List.mem_cons, List.mem_filter, decide_eq_true_eq]
  constructor
  · rintro (⟨h1, h2⟩ | h1 | ⟨h1, h2⟩)
    · exact .inr ⟨h1, by omega⟩
    · exact .inl h1
    · exact .inr ⟨h1, by omega⟩
  · rintro (h1 | ⟨h1, h2⟩)
    · exact .inr (.inl h1)
    · rcases Int.lt_or_gt_of_ne h2 with h3 | h3
      · exact .inl ⟨h1, h3⟩
      · exact .inr (.inr ⟨h1, h3⟩)
theorem srt_bindL {l : List Holder} (hs : l.Pairwise (fun a b => a.t < b.t)) (h : Holder) : (bindL l h).Pairwise (fun a b => a.t < b.t) := by
  unfold bindL
  rw [List.pairwise_append, List.pairwise_cons]
  refine ⟨hs.filter _, ⟨fun x hx => ?_, hs.filter _⟩, fun x hx y hy => ?_⟩
  · simpa using (List.mem_filter.1 hx).2
  · have h1 : x.t < h.t := by simpa using (List.mem_filter.1 hx).2
    rcases List.mem_cons.1 hy with rfl | hy
    · exact h1
    · have : h.t < y.t := by simpa using (List.mem_filter.1 hy).2
      omega
def findH (l : List Holder) (t : Int) : Holder × Int :=
  match l.findIdx? fun e => decide (e.t = t) with
  | none => (zeroHo, 7)
  | some i => (l.getD i zeroHo, 0)
theorem findH_hit {l : List Holder} (hs : l.Pairwise (fun a b => a.t < b.t)) {e : Holder} (h : e ∈ l) : findH l e.t = (e, 0) := by
  obtain ⟨i, hi, he⟩ := List.mem_iff_getElem.1 h
  have : l.findIdx? (fun x => decide (x.t = e.t)) = some i := by
    rw [List.findIdx?_eq_some_iff_getElem]
    refine ⟨hi, by rw [he]; simp, fun j hj => ?_⟩
    rw [List.pairwise_iff_getElem] at hs
    have h1 := hs j i (by omega) hi hj
    rw [he] at h1
    simp
    omega
  unfold findH
  rw [this]
  simp only
  rw [List.getD_eq_getElem?_getD, List.getElem?_eq_getElem hi, he]; rfl
theorem findH_miss {l : List Holder} {t : Int} (h : ∀ e ∈ l, e.t ≠ t) : findH l t = (zeroHo, 7) := by
  have : l.findIdx? (fun x => decide (x.t = t)) = none := by
    rw [List.findIdx?_eq_none_iff]
    intro e he
    exact decide_eq_false (h e he)
  unfold findH
  rw [this]
theorem findH_cases [Tabs] (l : List Holder) (t : Int) : (∃ e ∈ l, e.t = t ∧ findH l t = (e, 0)) ∨ ((∀ e ∈ l, e.t ≠ t) ∧ findH l t = (zeroHo, 7)) := by
  by_cases h : ∀ e ∈ l, e.t ≠ t
  · exact .inr ⟨h, findH_miss h⟩
  · left
    cases hi : l.findIdx? (fun x => decide (x.t = t)) with
    | none =>
      refine absurd (fun e he ht => ?_) h
      have := List.findIdx?_eq_none_iff.1 hi e he
      simp [ht] at this
    | some i =>
      obtain ⟨h1, h2, _⟩ := List.findIdx?_eq_some_iff_getElem.1 hi
      refine ⟨l[i], List.getElem_mem h1, by simpa using h2, ?_⟩
      unfold findH
      rw [hi]
      simp only
      rw [List.getD_eq_getElem?_getD, List.getElem?_eq_getElem h1]; rfl
theorem findH_bind [Tabs] {l : List Holder} (hs : l.Pairwise (fun a b => a.t < b.t)) (h : Holder) : findH (bindL l h) h.t = (h, 0) := findH_hit (srt_bindL hs h) (mem_bindL.2 (.inl rfl))
theorem findH_other [Tabs] {l : List Holder} (hs : l.Pairwise (fun a b => a.t < b.t)) {h : Holder} {t : Int} (ht : t ≠ h.t) : findH (bindL l h) t = findH l t := by
  rcases findH_cases l t with ⟨e, he, rfl, hf⟩ | ⟨hn, hf⟩
  · rw [hf]; exact findH_hit (srt_bindL hs h) (mem_bindL.2 (.inr ⟨he, ht⟩))
  · rw [hf]
    refine findH_miss fun e he => ?_
    rcases mem_bindL.1 he with rfl | ⟨h1, _⟩
    · exact fun e => ht e.symm
    · exact hn e h1
theorem bindL_len [Tabs] {l : List Holder} (hs : l.Pairwise (fun a b => a.t < b.t)) (h : Holder) : (bindL l h).length ≤ l.length + 1 ∧ ((∃ u ∈ l, u.t = h.t) → (bindL l h).length = l.length) := by
  obtain ⟨k, hk, hki⟩ := hsrt_index l hs h.t
  by_cases hn : ∀ u ∈ l, u.t ≠ h.t
  · rw [bindL_ins hk hki hn]
    refine ⟨by simp; omega, fun ⟨u, hu, e⟩ => absurd e (hn u hu)⟩
  · obtain ⟨u, hu, e⟩ : ∃ u ∈ l, u.t = h.t := by
      refine Classical.byContradiction fun h' => hn fun u hu e => h' ⟨u, hu, e⟩
    obtain ⟨i, hi, hiu⟩ := List.mem_iff_getElem.1 hu
    have h1 : ¬ i < k := fun h' => by have := (hki i _ (List.getElem?_eq_getElem hi)).2 h'; rw [hiu] at this; omega
    have h2 : k = i := by
      refine Classical.byContradiction fun h' => ?_
      rw [List.pairwise_iff_getElem] at hs
      have h3 := hs k i (by omega) hi (by omega)
      rw [hiu] at h3
      have := (hki k _ (List.getElem?_eq_getElem (by omega))).1 (by omega)
      omega
    subst h2
    rw [bindL_set hs hki (List.getElem?_eq_getElem hi) (by rw [hiu]; exact e)]
    simp
end
end Go.Proofs.YtgkmpgfmhjbcjaaGreatX
namespace Go.Proofs.YtgkmpgfmhjbcjaaGreatX
section
open Go Go.YtgkmpgfmhjbcjaaGreatE Go.Proofs
set_option maxRecDepth 100000
set_option autoImplicit false
theorem HolderF_ct [Tabs] (e : Holder) (t : Int) : CtT Tryz.prog 29 [e.T, .pt [.int .u64 t]] (Ret (.bool (decide (e.t = t))) []) := by
  refine Ct.of Tryz.func29 rfl rfl (n := 8) rfl (by simp [ids]) ?_
  exact ⟨[], _, _, ⟨rfl, rfl⟩, rfl, trivial, rfl⟩
theorem Holder_IndexFunc [Tabs] (l : List Holder) (f : FuncId) (c1 : T) (p : Holder → Bool) (hl : l.length < 1000000) (hp : ∀ x ∈ l, CtT Tryz.prog f [x.T, c1] (Ret (.bool (p x)) [])) (n : Int) (hn : n = (l.findIdx? p).elim (-1 : Int) fun i => (i : Int)) :
    CtT Tryz.prog 28 [.sl 4 (l.map Holder.T), .fn (.func f) [] [c1]] (Ret (.int .i64 n) []) := by
  refine Ct.of Tryz.func28 rfl rfl (n := 19) rfl (by simp [ids]) ?_
  refine ⟨Nat, fun i => [(0, .t (.sl 4 (l.map Holder.T))), (1, .t (.fn (.func f) [] [c1])), (7, .int .i64 l.length), (8, .int .i64 i)], fun _ => [], fun i => i ≤ l.length ∧ ∀ j, j < i → ∀ x, l[j]? = some x → p x = false, fun i => l.length - i, 0, ⟨Nat.zero_le _, fun j h => absurd h (by omega)⟩,
    Le.of [] ⟨rfl, rfl, by rw [← Holder.row_len l]; rfl, rfl, trivial⟩ trivial rfl, ?_⟩
  rintro i ⟨hi, hbef⟩
  refine brB (fun hc => ?_) (fun hc => ?_)
  · have hc : i < l.length := by have := of_decide_eq_true hc; omega
    have hx : l[i]? = some l[i] := List.getElem?_eq_getElem hc
    have hpx := hp l[i] (List.getElem_mem hc)
    generalize hy : l[i] = x at hx hpx
    refine ⟨by omega, _, Holder.row_get rfl hx, ?_⟩
    refine Told.callT hpx rfl rfl rfl rfl ?_
    cases hb : p x with
    | true =>
      refine ⟨[], _, _, ⟨rfl, rfl⟩, congrArg (AV.int .i64) ?_, trivial, rfl⟩
      have : l.findIdx? p = some i := by
        rw [List.findIdx?_eq_some_iff_getElem]
        exact ⟨hc, by rw [hy]; exact hb, fun j hj => by rw [Bool.not_eq_true]; exact hbef j hj _ (List.getElem?_eq_getElem (by omega))⟩
      rw [hn, this]; rfl
    | false =>
      refine ⟨i + 1, ⟨hc, fun j hj y hy2 => ?_⟩, Le.of [] ⟨rfl, rfl, rfl, congrArg (AV.int .i64) (wi (by omega) (by omega)), trivial⟩ trivial rfl, by show l.length - (i + 1) < l.length - i; omega⟩
      by_cases e : j = i
      · subst e; rw [hx] at hy2; cases hy2; exact hb
      · exact hbef j (by omega) y hy2
  · have hc : i = l.length := by have := of_decide_eq_false hc; omega
    subst hc
    refine ⟨[], _, _, ⟨rfl, rfl⟩, congrArg (AV.int .i64) ?_, trivial, rfl⟩
    have : l.findIdx? p = none := by
      rw [List.findIdx?_eq_none_iff]
      intro x hx
      obtain ⟨j, hj, rfl⟩ := List.mem_iff_getElem.1 hx
      exact hbef j hj _ (List.getElem?_eq_getElem hj)
    rw [hn, this]; rfl
theorem Holder_Clone [Tabs] (l : List Holder) (hl : l.length < 1000000) : CtT Tryz.prog 57 [.sl 4 (l.map Holder.T)] (Ret (.own 0) [(0, false, .row 35 4 (l.map Holder.T))]) := by
  refine Ct.ofL Tryz.func57 rfl rfl (n := 8) rfl (by simp [ids]) (by simp) ?_
  refine ⟨fun hn => ?_, fun _ => ?_⟩
  · refine ⟨_, _, Le.nil 2 50 35 4 rfl rfl, ?_⟩
    refine ⟨[(0, 50)], _, _, ⟨rfl, rfl⟩, rfl, ⟨?_, trivial⟩, rfl⟩
    rw [hn]; rfl
  · refine ⟨by show (_ + _) * 48 ≤ _; simp; omega, _, _, Le.refl _ _ _, ?_⟩
    exact ⟨[(0, 7)], _, _, ⟨rfl, rfl⟩, rfl, ⟨rfl, trivial⟩, rfl⟩
theorem Holder_CloneT [Tabs] (l : List Holder) (hl : l.length < 1000000) : CtT Tryz.prog 57 [.sl 4 (l.map Holder.T)] (Ret (.t (.sl 4 (l.map Holder.T))) []) := by
  refine CtT.ofN Tryz.func57 rfl rfl (n := 8) rfl ?_
  refine ⟨fun hn => ?_, fun _ => ?_⟩
  · have e : l.map Holder.T = [] := hn
    refine ⟨_, rfl, ?_⟩
    rw [e]; repeat constructor
  · exact ⟨by show (_ + _) * 48 ≤ _; simp; omega, _, rfl, .refl _⟩
abbrev Holderus (l : List Holder) : List T := l.map Holder.T
abbrev HolderRow (l : List Holder) : Blk := .row 35 4 (Holderus l)
theorem Holder_ins_grow (l : List Holder) (y : Holder) (i : Nat) (z : T) (hi : i < l.length) :
    List.take (i + 1) (List.take i (List.take i (List.drop 0 (Holderus l)) ++ List.replicate (l.length + 1 - i) z) ++ List.take 1 (Holderus [y]) ++ List.drop (i + 1) (List.take i (List.drop 0 (Holderus l)) ++ List.replicate (l.length + 1 - i) z)) ++
      List.take (l.length - i) (List.drop i (Holderus l)) ++ List.drop (i + 1 + (l.length - i)) (List.take i (List.take i (List.drop 0 (Holderus l)) ++ List.replicate (l.length + 1 - i) z) ++ List.take 1 (Holderus [y]) ++ List.drop (i + 1) (List.take i (List.drop 0 (Holderus l)) ++ List.replicate (l.length + 1 - i) z)) = Holderus (l.take i ++ y :: l.drop i) := by
  have h1 : List.take i (List.take i (List.drop 0 (Holderus l)) ++ List.replicate (l.length + 1 - i) z) = Holderus (l.take i) := by
    rw [List.drop_zero, List.take_append_of_le_length (by simp; omega), List.take_take, Nat.min_self]; simp [Holderus]
  have h2 : (List.take i (List.take i (List.drop 0 (Holderus l)) ++ List.replicate (l.length + 1 - i) z) ++ List.take 1 (Holderus [y]) ++ List.drop (i + 1) (List.take i (List.drop 0 (Holderus l)) ++ List.replicate (l.length + 1 - i) z)).length = l.length + 1 := by simp; omega
  rw [List.drop_of_length_le (i := i + 1 + (l.length - i)) (by rw [h2]; omega), List.append_nil, h1]
  rw [List.take_append_of_le_length (by simp; omega), List.take_of_length_le (by simp; omega), List.take_of_length_le (l := List.drop i (Holderus l)) (by simp)]
  simp [Holderus]
theorem Holder_ins_shift (l : List Holder) (y : Holder) (i : Nat) (hi : i < l.length) :
    l.length + 1 = (List.take i (List.take (i + 1) (Holderus l) ++ List.take (l.length - i) (List.drop i (Holderus l)) ++ List.drop (i + 1 + (l.length - i)) (Holderus l)) ++ List.take 1 (Holderus [y]) ++ List.drop (i + 1) (List.take (i + 1) (Holderus l) ++ List.take (l.length - i) (List.drop i (Holderus l)) ++ List.drop (i + 1 + (l.length - i)) (Holderus l))).length ∧
    List.take i (List.take (i + 1) (Holderus l) ++ List.take (l.length - i) (List.drop i (Holderus l)) ++ List.drop (i + 1 + (l.length - i)) (Holderus l)) ++ List.take 1 (Holderus [y]) ++ List.drop (i + 1) (List.take (i + 1) (Holderus l) ++ List.take (l.length - i) (List.drop i (Holderus l)) ++ List.drop (i + 1 + (l.length - i)) (Holderus l)) = Holderus (l.take i ++ y :: l.drop i) := by
  have e : List.take (i + 1) (Holderus l) ++ List.take (l.length - i) (List.drop i (Holderus l)) ++ List.drop (i + 1 + (l.length - i)) (Holderus l) = List.take (i + 1) (Holderus l) ++ List.drop i (Holderus l) := by
    rw [List.drop_of_length_le (i := i + 1 + (l.length - i)) (by simp; omega), List.append_nil, List.take_of_length_le (l := List.drop i (Holderus l)) (by simp)]
  rw [e]
  have e2 : List.take i (List.take (i + 1) (Holderus l) ++ List.drop i (Holderus l)) = Holderus (l.take i) := by
    rw [List.take_append_of_le_length (by simp; omega), List.take_take, Nat.min_eq_left (by omega)]; simp [Holderus]
  have e3 : List.drop (i + 1) (List.take (i + 1) (Holderus l) ++ List.drop i (Holderus l)) = Holderus (l.drop i) := by
    rw [List.drop_append_of_le_length (by simp; omega), List.drop_of_length_le (l := List.take (i + 1) (Holderus l)) (by simp; omega)]; simp [Holderus]
  rw [e2, e3]
  refine ⟨by simp; omega, by simp [Holderus]⟩
theorem Holder_Insert [Tabs] (l : List Holder) (y : Holder) (i : Nat) (hl : l.length < 100000) (hi : i ≤ l.length) : Ct Tryz.prog 58 [.own 0, .int .i64 i, .own 1] [(0, false, HolderRow l), (1, false, HolderRow [y])] (Ret (.own 2) [(2, false, HolderRow (l.take i ++ y :: l.drop i)), (1, false, HolderRow [y]), (0, false, .dead)]) := by
  have hn : (Holderus l).length = l.length := Holder.row_len l
  rcases Nat.lt_or_ge i l.length with hi | hge
  · have hne : Holderus l ≠ [] := fun e => by rw [e] at hn; simp at hn; omega
    refine Ct.room hne (by rw [hn]; unfold maxLen; omega) rfl rfl (fun N h1 h2 => ?_)
    rw [hn] at h1 ⊢
    unfold maxLen at h2
    refine Ct.ofL Tryz.func58 rfl rfl (n := 95) rfl (by simp [ids]; exact ⟨rfl, rfl⟩) (by simp) ?_
    refine ⟨i, l.length - i, by omega, by omega, by omega, by omega, by omega, by omega, ?_⟩
    refine brB (fun h => absurd (of_decide_eq_true h) (by omega)) (fun _ => ?_)
    have w1 : IntKind.i64.wrap ((l.length : Int) + (Holderus [y]).length) = (l.length : Int) + 1 := wi (by show _ ≤ (l.length : Int) + 1; omega) (by show (l.length : Int) + 1 < _; omega)
    have w3 : IntKind.i64.wrap ((i : Int) + (Holderus [y]).length) = (i : Int) + 1 := wi (by show _ ≤ (i : Int) + 1; omega) (by show (i : Int) + 1 < _; omega)
    refine brB (fun hc => ?_) (fun hc => ?_)
    · have hN : N = l.length := by
        have h3 : IntKind.i64.wrap ((l.length : Int) + (Holderus [y]).length) > ((N - 0 : Nat) : Int) := of_decide_eq_true hc
        rw [w1] at h3; omega
      subst hN
      have w2 : IntKind.i64.wrap (IntKind.i64.wrap ((l.length : Int) + (Holderus [y]).length) - i) = (l.length : Int) + 1 - i := by rw [w1]; exact wi (by omega) (by omega)
      have hlen : ∀ z : T, (List.take i (List.drop 0 (Holderus l)) ++ List.replicate (l.length + 1 - i) z).length = l.length + 1 := by simp; omega
      refine ⟨0, i, by omega, by omega, by omega, by omega, by omega, by omega, l.length + 1 - i, by rw [w2]; omega, by rw [hn]; omega, by simp; omega, by show _ * 48 ≤ _; simp; omega, ?_⟩
      refine ⟨i, l.length + 1 - i, rfl, by rw [hlen]; omega, by omega, by rw [hlen]; omega, by omega, 1, by show 1 = min 1 _; omega, trivial, ?_⟩
      refine ⟨i + 1, l.length - i, by rw [w3]; omega, by rw [w3]; simp; omega, by rw [w3]; omega, by rw [w3]; simp; omega, by omega, i, l.length - i, by omega, by omega, by omega, by omega, by omega, by omega, l.length - i, by simp, by rw [hn]; omega, ?_⟩
      refine ⟨_, _, Le.kill 0 rfl, ?_⟩
      refine ⟨[(2, 40)], _, _, ⟨rfl, rfl⟩, rfl, ⟨congrArg (fun x => (false, Blk.row 35 4 x)) ?_, rfl, rfl, trivial⟩, rfl⟩
      exact Holder_ins_grow l y i _ (by omega)
    · have hN : l.length + 1 ≤ N := by
        have h3 : ¬ (IntKind.i64.wrap ((l.length : Int) + (Holderus [y]).length) > ((N - 0 : Nat) : Int)) := of_decide_eq_false hc
        rw [w1] at h3; omega
      refine ⟨0, l.length + 1, by omega, by rw [w1]; omega, by omega, by rw [w1]; omega, by rw [w1]; omega, by omega, i + 1, l.length - i, by rw [w3]; omega, by rw [w3]; omega, by rw [w3]; omega, by rw [w3]; omega, by omega, by omega, ?_⟩
      refine Told.overlaps (tS := 27) (tR := 4) rfl Tryz.func85 rfl rfl (by kernel_rfl) (by kernel_rfl) rfl rfl rfl rfl rfl rfl (by simp) hne rfl ?_
      refine ⟨i + 1, l.length - i, by rw [w3]; omega, by rw [w3]; omega, by rw [w3]; omega, by rw [w3]; omega, by omega, by omega, i, l.length + 1 - i, by omega, by omega, by omega, by omega, by omega, by omega, l.length - i, by show _ = min _ _; omega, by rw [hn]; omega, by rw [hn]; omega, by omega, ?_⟩
      refine ⟨i, l.length + 1 - i, by omega, by omega, by omega, by omega, by omega, by omega, 1, by show 1 = min 1 _; omega, trivial, by simp; omega, by omega, ?_⟩
      have hz := Holder_ins_shift l y i (by omega)
      refine ⟨_, _, Le.trans (Le.cutA 6 0 50 35 4 N _ (congrArg (fun n => AV.fsub 0 4 0 n N) hz.1) rfl rfl) (Le.refl _ _ _), ?_⟩
      refine ⟨[(2, 50)], _, _, ⟨rfl, rfl⟩, rfl, ⟨congrArg (fun x => (false, Blk.row 35 4 x)) ?_, rfl, rfl, trivial⟩, rfl⟩
      exact hz.2
  · have : i = l.length := by omega
    subst this
    refine Ct.ofL Tryz.func58 rfl rfl (n := 95) rfl (by simp [ids]; exact ⟨rfl, rfl⟩) (by simp) ?_
    refine ⟨l.length, 0, rfl, by rw [hn]; omega, by omega, by rw [hn]; omega, by omega, ?_⟩
    refine brB (fun _ => ?_) (fun h => absurd (of_decide_eq_false h) (by rw [hn]; simp))
    refine ⟨by show _ * 48 ≤ _; simp; omega, ?_⟩
    refine ⟨_, _, Le.refl _ _ _, ?_⟩
    refine ⟨[(2, 25)], _, _, ⟨rfl, rfl⟩, rfl, ⟨congrArg (fun x => (false, Blk.row 35 4 x)) ?_, rfl, rfl, trivial⟩, rfl⟩
    simp [Holderus]
theorem Holder_Search [Tabs] (l : List Holder) (v : Int) (f : FuncId) (ord : Holder → Int) (kf : ∀ x, CtT Tryz.prog f [x.T, .int .u64 v] (Ret (.int .i64 (ord x)) [])) (k : Nat) (hl : l.length < 100000) (hk : k ≤ l.length) (h : ∀ i u, l[i]? = some u → (ord u < 0 ↔ i < k)) (found : Bool) (hf : found = (l[k]?).elim false fun x => decide (ord x = 0)) :
    CtT Tryz.prog 56 [.sl 4 (l.map Holder.T), .int .u64 v, .v (.func (.func f) #[] #[])] (Ret (.tuple [.int .i64 k, .bool found]) []) := by
  refine Ct.of Tryz.func56 rfl rfl (n := 49) rfl (by simp [ids]) ?_
  refine ⟨Nat × Nat, fun y => [(0, .t (.sl 4 (l.map Holder.T))), (1, .t (.int .u64 v)), (2, .t (.v (.func (.func f) #[] #[]))), (7, .bool false), (8, .int .i64 l.length), (9, .int .i64 y.1), (10, .int .i64 y.2)], fun _ => [],
    fun y => y.1 ≤ k ∧ k ≤ y.2 ∧ y.2 ≤ l.length, fun y => y.2 - y.1, (0, l.length), ⟨by simp, hk, Nat.le_refl _⟩, Le.of [] ⟨rfl, rfl, rfl, rfl, by rw [← Holder.row_len l]; rfl, rfl, by rw [← Holder.row_len l]; rfl, trivial⟩ trivial rfl, ?_⟩
  rintro ⟨i, j⟩ ⟨h1, h2, h3⟩
  simp only at h1 h2 h3 ⊢
  refine brB (fun hc => ?_) (fun hc => ?_)
  · have hc : i < j := by have := of_decide_eq_true hc; omega
    have hm := Gon.half hc (by omega)
    have hx : l[(i + j) / 2]? = some (l[(i + j) / 2]'(by omega)) := List.getElem?_eq_getElem _
    generalize l[(i + j) / 2]'(by omega) = u at hx
    refine ⟨by decide, by rw [hm]; omega, _, Holder.row_get hm hx, ?_⟩
    refine Told.callT (kf u) rfl rfl rfl rfl ?_
    refine brB (fun hc2 => ?_) (fun hc2 => ?_)
    · have := (h _ _ hx).1 (of_decide_eq_true hc2)
      exact ⟨((i + j) / 2 + 1, j), ⟨this, h2, h3⟩, Le.of [] ⟨rfl, rfl, rfl, rfl, rfl, congrArg (AV.int .i64) (by rw [hm]; exact wi (by omega) (by omega)), rfl, trivial⟩ trivial rfl, by show j - ((i + j) / 2 + 1) < j - i; omega⟩
    · have hn : ¬ (i + j) / 2 < k := fun e => of_decide_eq_false hc2 ((h _ _ hx).2 e)
      exact ⟨(i, (i + j) / 2), ⟨h1, by omega, by omega⟩, Le.of [] ⟨rfl, rfl, rfl, rfl, rfl, rfl, congrArg (AV.int .i64) hm, trivial⟩ trivial rfl, by show (i + j) / 2 - i < j - i; omega⟩
  · have hc : ¬ i < j := by have := of_decide_eq_false hc; omega
    have hik : i = k := by omega
    subst hik
    refine brB (fun hc => ?_) (fun hc => ?_)
    · have hc2 : i < l.length := by have := of_decide_eq_true hc; omega
      have hx : l[i]? = some l[i] := List.getElem?_eq_getElem hc2
      refine ⟨by omega, _, Holder.row_get rfl hx, ?_⟩
      refine Told.callT (kf l[i]) rfl rfl rfl rfl ?_
      refine ⟨[], _, _, ⟨rfl, rfl⟩, ?_, trivial, rfl⟩
      rw [hf, hx]
      rfl
    · have hc2 : ¬ i < l.length := by have := of_decide_eq_false hc; omega
      refine ⟨[], _, _, ⟨rfl, rfl⟩, ?_, trivial, rfl⟩
      rw [hf, List.getElem?_eq_none (by omega)]
      rfl
@[reducible] def resHold (p : Holder × Int) : T := .tuple [p.1.T, .int .i64 p.2]
theorem Holder_ct [Tabs] (s : Issuer) (t : Int) (hl : s.holders.length < 1000000) (hs : ∀ e ∈ s.holders, e.seed.length < 1000000) : CtT Tryz.prog 9 [s.T, .int .u64 t] (Ret (.t (resHold (findH s.holders t))) []) := by
  refine CtT.ofN Tryz.func9 rfl rfl (n := 25) rfl ?_
  have kk := fun n h => Holder_IndexFunc s.holders 29 (.pt [.int .u64 t]) (fun e => decide (e.t = t)) hl (fun e _ => HolderF_ct e t) n h
  cases hi : s.holders.findIdx? fun e => decide (e.t = t) with
  | none =>
    have k := kk (-1) (by rw [hi]; rfl)
    have hf : findH s.holders t = (zeroHo, 7) := by unfold findH; rw [hi]
    refine Told.callT k rfl rfl rfl rfl ?_
    refine ⟨_, rfl, ?_⟩
    rw [hf]
    repeat constructor
  | some i =>
    have k := kk (i : Int) (by rw [hi]; rfl)
    have h := (List.findIdx?_eq_some_iff_getElem.1 hi).1
    have hx : s.holders[i]? = some s.holders[i] := List.getElem?_eq_getElem h
    have hm := hs s.holders[i] (List.getElem_mem _)
    have hf : findH s.holders t = (s.holders[i], 0) := by unfold findH; rw [hi]; simp only; rw [List.getD_eq_getElem?_getD, hx]; rfl
    generalize s.holders[i] = e at hx hm hf
    refine Told.callT k rfl rfl rfl rfl ?_
    refine ⟨by omega, _, Holder.row_get rfl hx, ?_⟩
    refine Told.callT (CloneB_ct e.seed (by omega)) rfl rfl rfl rfl ?_
    refine ⟨_, rfl, ?_⟩
    rw [hf]
    exact .refl _
theorem iseeded_ct [Tabs] (b : List Int) : CtT Tryz.prog 42 [.sl 1 (bys b)] (Ret (.bool (decide (1 ≤ (b.length : Int) ∧ (b.length : Int) ≤ 32))) []) := by
  refine Ct.of Tryz.func42 rfl rfl (n := 11) rfl (by simp [ids]) ?_
  have hl := bys_len b
  refine brB (fun h => ?_) (fun h => ?_)
  · refine ⟨[], _, _, ⟨rfl, rfl⟩, congrArg AV.bool ?_, trivial, rfl⟩
    have h := of_decide_eq_true h
    rw [decide_eq_decide]
    omega
  · exact ⟨[], _, _, ⟨rfl, rfl⟩, congrArg AV.bool (decide_eq_false fun h2 => by have := of_decide_eq_false h; omega).symm, trivial, rfl⟩
theorem byT_ct [Tabs] (x : Holder) (t : Int) : CtT Tryz.prog 54 [x.T, .int .u64 t] (Ret (.int .i64 (Gon.cmpI x.t t)) []) := by
  refine Ct.of Tryz.func54 rfl rfl (n := 9) rfl (by simp [ids]) ?_
  refine Told.callT (Gon.Compare_ct x.t t) rfl rfl rfl rfl ?_
  exact ⟨[], _, _, ⟨rfl, rfl⟩, rfl, trivial, rfl⟩
abbrev MadeR := Engine × Issuer × List Int × Int
@[reducible] def resMade (p : MadeR) : T := .tuple [p.1.T, p.2.1.T, .sl 1 (bys p.2.2.1), .int .i64 p.2.2.2]
def actOf (h : Holder) : Activation := ⟨h.t, h.e, h.d, h.seed⟩
def bindR [Tabs] (g : Engine) (s : Issuer) (h : Holder) : MadeR :=
  ((tagG g s.key (abytes (actOf h))).1, { s with holders := bindL s.holders h }, abytes (actOf h) ++ (tagG g s.key (abytes (actOf h))).2, 0)
theorem bind_ct [Tabs] (g : Engine) (hw : g.Wf) (hs : g.Sm) (hg : g.ok) (s : Issuer) (hsw : s.Wf) (so : s.ok) (hk : s.key.length < 100000) (h : Holder) (hhw : h.Wf) (ho : h.ok) :
    CtT Tryz.prog 32 [g.T, s.T, h.T] (Ret (.t (resMade (bindR g s h))) []) := by
  refine CtT.ofN Tryz.func32 rfl rfl (n := 65) rfl ?_
  obtain ⟨k, hk1, hki⟩ := hsrt_index s.holders so.srt h.t
  have hlen := so.len
  have hki' : ∀ i u, s.holders[i]? = some u → (Gon.cmpI u.t h.t < 0 ↔ i < k) := fun i u hu => Gon.cmpI_lt.trans (hki i u hu)
  have hsl := ho.2.2
  have aw : (actOf h).Wf := ⟨hhw.t, hhw.e, hhw.d, hhw.seed⟩
  have ao : (actOf h).ok := ⟨by have := ho.2.1; simp only [actOf]; omega, by simp only [actOf]; omega⟩
  have ksl := ASealG_ct g hw hs hg s.key hsw.key hk (actOf h) aw ao
  have fin : ∀ l : List Holder, l = bindL s.holders h → bindR g s h = ((tagG g s.key (abytes (actOf h))).1, { s with holders := l }, abytes (actOf h) ++ (tagG g s.key (abytes (actOf h))).2, 0) := fun l hl => by subst hl; rfl
  cases hx : s.holders[k]? with
  | none =>
    have kse := Holder_Search s.holders h.t 54 (fun x => Gon.cmpI x.t h.t) (fun x => byT_ct x h.t) k (by omega) hk1 hki' false (by rw [hx]; rfl)
    have hL : s.holders.take k ++ h :: s.holders.drop k = bindL s.holders h := (bindL_ins hk1 hki (fun u hu e => by
      obtain ⟨i, hi, hiu⟩ := List.mem_iff_getElem.1 hu
      have h1 := hki i _ (List.getElem?_eq_getElem hi)
      have : ¬ k < s.holders.length := fun hlt => by rw [List.getElem?_eq_getElem hlt] at hx; cases hx
      rw [hiu, e] at h1
      omega)).symm
    refine Told.callT kse rfl rfl rfl rfl ?_
    refine Told.callT (CloneB_ct h.seed (by omega)) rfl rfl rfl rfl ?_
    refine Told.callT (Holder_Clone s.holders (by omega)) rfl rfl rfl rfl ?_
    refine Told.callR [(0, 32), (1, 41)] (Holder_Insert s.holders h k (by omega) hk1) rfl rfl rfl ⟨rfl, rfl, trivial⟩ rfl ?_
    refine Told.callT ksl rfl rfl rfl rfl ?_
    refine ⟨_, rfl, ?_⟩
    rw [fin _ hL]
    exact .refl _
  | some u =>
    by_cases hu : u.t = h.t
    · have kse := Holder_Search s.holders h.t 54 (fun x => Gon.cmpI x.t h.t) (fun x => byT_ct x h.t) k (by omega) hk1 hki' true (by rw [hx]; exact (decide_eq_true (Gon.cmpI_zero.2 hu)).symm)
      have hL : s.holders.set k h = bindL s.holders h := (bindL_set so.srt hki hx hu).symm
      refine Told.callT kse rfl rfl rfl rfl ?_
      refine Told.callT (CloneB_ct h.seed (by omega)) rfl rfl rfl rfl ?_
      refine Told.callT (Holder_Clone s.holders (by omega)) rfl rfl rfl rfl ?_
      refine ⟨by omega, by rw [Holder.row_len]; exact Int.ofNat_lt.2 (List.getElem?_eq_some_iff.1 hx).1, _, Holder.row_get rfl hx, ?_⟩
      refine Told.callT ksl rfl rfl rfl rfl ?_
      refine ⟨_, rfl, ?_⟩
      rw [fin _ hL]
      have hset : (s.holders.set k h).map Holder.T = (s.holders.map Holder.T).set k h.T := List.map_set
      rw [show resMade ((tagG g s.key (abytes (actOf h))).1, { s with holders := s.holders.set k h }, abytes (actOf h) ++ (tagG g s.key (abytes (actOf h))).2, 0) = .tuple [(tagG g s.key (abytes (actOf h))).1.T, .agg [.sl 1 (bys s.key), .int .u64 s.v, .sl 4 ((s.holders.map Holder.T).set k h.T), .sl 2 (s.gone.map Gon.U.T)], .sl 1 (bys (abytes (actOf h) ++ (tagG g s.key (abytes (actOf h))).2)), .int .i64 0]
        from congrArg (fun x => T.tuple [(tagG g s.key (abytes (actOf h))).1.T, .agg [.sl 1 (bys s.key), .int .u64 s.v, .sl 4 x, .sl 2 (s.gone.map Gon.U.T)], .sl 1 (bys (abytes (actOf h) ++ (tagG g s.key (abytes (actOf h))).2)), .int .i64 0]) hset]
      exact .refl _
    · have kse := Holder_Search s.holders h.t 54 (fun x => Gon.cmpI x.t h.t) (fun x => byT_ct x h.t) k (by omega) hk1 hki' false (by rw [hx]; exact (decide_eq_false (fun e => hu (Gon.cmpI_zero.1 e))).symm)
      have hL : s.holders.take k ++ h :: s.holders.drop k = bindL s.holders h := (bindL_ins hk1 hki (fun w hw e => by
        obtain ⟨i, hi, hiw⟩ := List.mem_iff_getElem.1 hw
        obtain ⟨hkl, hku⟩ := List.getElem?_eq_some_iff.1 hx
        have h1 := hki i _ (List.getElem?_eq_getElem hi)
        rw [hiw, e] at h1
        have h2 := hki k u hx
        have srt := so.srt
        rw [List.pairwise_iff_getElem] at srt
        by_cases e2 : k = i
        · subst e2; rw [hku] at hiw; subst hiw; exact hu e
        · have := srt k i hkl hi (by omega)
          rw [hku, hiw] at this
          omega)).symm
      refine Told.callT kse rfl rfl rfl rfl ?_
      refine Told.callT (CloneB_ct h.seed (by omega)) rfl rfl rfl rfl ?_
      refine Told.callT (Holder_Clone s.holders (by omega)) rfl rfl rfl rfl ?_
      refine Told.callR [(0, 32), (1, 41)] (Holder_Insert s.holders h k (by omega) hk1) rfl rfl rfl ⟨rfl, rfl, trivial⟩ rfl ?_
      refine Told.callT ksl rfl rfl rfl rfl ?_
      refine ⟨_, rfl, ?_⟩
      rw [fin _ hL]
      exact .refl _
def mayI (g : Engine) (s : Issuer) (seed : List Int) : Prop := s.ok ∧ g.ok ∧ 1 ≤ (seed.length : Int) ∧ (seed.length : Int) ≤ 32
instance mayDec (g : Engine) (s : Issuer) (seed : List Int) : Decidable (mayI g s seed) := by unfold mayI; infer_instance
def issueR [Tabs] (g : Engine) (s : Issuer) (t d : Int) (seed : List Int) : MadeR :=
  if ¬ mayI g s seed then (g, s, [], 1) else if (findH s.holders t).2 = 0 then (g, s, [], 11) else if s.holders.length = 64 then (g, s, [], 12) else bindR g s ⟨t, 1, d, seed⟩
def rebindR [Tabs] (g : Engine) (s : Issuer) (t d : Int) (seed : List Int) : MadeR :=
  if ¬ mayI g s seed then (g, s, [], 1) else if (findH s.holders t).2 ≠ 0 then (g, s, [], (findH s.holders t).2) else if (findH s.holders t).1.e = 18446744073709551615 then (g, s, [], 15)
  else bindR g s ⟨t, (findH s.holders t).1.e + 1, d, seed⟩
def revokeR (s : Issuer) (t : Int) : Issuer × Int :=
  if ¬ s.ok then (s, 1) else if (findH s.holders t).2 ≠ 0 then (s, (findH s.holders t).2) else if (Gon.putG s.gone ⟨t, (findH s.holders t).1.e⟩).2 ≠ 0 then (s, (Gon.putG s.gone ⟨t, (findH s.holders t).1.e⟩).2)
  else ({ s with gone := (Gon.putG s.gone ⟨t, (findH s.holders t).1.e⟩).1 }, 0)
def bunOf (s : Issuer) (v : Int) : Bundle := ⟨v, s.holders.map (fun h => ⟨h.t, h.e, h.seed⟩), s.gone⟩
def buildR [Tabs] (g : Engine) (s : Issuer) : MadeR :=
  if ¬ s.ok ∨ ¬ g.ok then (g, s, [], 1) else if s.v = 18446744073709551615 then (g, s, [], 15)
  else ((tagG g s.key (bbytes (bunOf s (s.v + 1)))).1, { s with v := s.v + 1 }, bbytes (bunOf s (s.v + 1)) ++ (tagG g s.key (bbytes (bunOf s (s.v + 1)))).2, 0)
end
end Go.Proofs.YtgkmpgfmhjbcjaaGreatX
namespace Go.Proofs.YtgkmpgfmhjbcjaaGreatX
section
open Go Go.YtgkmpgfmhjbcjaaGreatE Go.Proofs
set_option maxRecDepth 100000
set_option autoImplicit false
theorem hsrt_of_adj {l : List Holder} (h : ∀ i u v, l[i]? = some u → l[i + 1]? = some v → u.t < v.t) : l.Pairwise (fun a b => a.t < b.t) := by
  rw [List.pairwise_iff_getElem]
  intro i j hi hj hij
  induction j with
  | zero => omega
  | succ j ih =>
    have h1 := h j l[j] l[j + 1] (List.getElem?_eq_getElem _) (List.getElem?_eq_getElem _)
    by_cases e : i = j
    · subst e; exact h1
    · exact Int.lt_trans (ih (by omega) (by omega)) h1
theorem hadj_of_srt {l : List Holder} (h : l.Pairwise (fun a b => a.t < b.t)) {i : Nat} {u v : Holder} (hu : l[i]? = some u) (hv : l[i + 1]? = some v) : u.t < v.t := by
  rw [List.pairwise_iff_getElem] at h
  obtain ⟨h1, rfl⟩ := List.getElem?_eq_some_iff.1 hu
  obtain ⟨h2, rfl⟩ := List.getElem?_eq_some_iff.1 hv
  exact h i (i + 1) h1 h2 (by omega)
theorem IRight_ct [Tabs] (x : Issuer) (hl : x.holders.length < 100000) (hg : x.gone.length < 100000) : CtT Tryz.prog 21 [x.T] (Ret (.bool (decide x.ok)) []) := by
  refine Ct.of Tryz.func21 rfl rfl (n := 48) rfl (by simp [ids]) ?_
  have fb : ¬ x.ok → false = decide x.ok := fun h => (decide_eq_false h).symm
  refine ⟨Nat, fun i => [(1, .ptr 1 0), (6, .t (.sl 4 (x.holders.map Holder.T))), (7, .int .i64 x.holders.length), (8, .int .i64 i)], fun _ => [(1, false, x.box)],
      fun i => i ≤ x.holders.length ∧ (∀ j u, j < i → x.holders[j]? = some u → u.ok) ∧ ∀ j u v, j + 1 < i → x.holders[j]? = some u → x.holders[j + 1]? = some v → u.t < v.t, fun i => x.holders.length - i, 0, ⟨Nat.zero_le _, fun j u h => absurd h (by omega), fun j u v h => absurd h (by omega)⟩, Le.of [] ⟨rfl, rfl, by rw [← Holder.row_len]; rfl, rfl, trivial⟩ ⟨rfl, trivial⟩ rfl, ?_⟩
  rintro i ⟨q1, q2, q3⟩
  refine brB (fun hc => ?_) (fun hc => ?_)
  · have hc : i < x.holders.length := Int.ofNat_lt.1 (of_decide_eq_true hc)
    have hx : x.holders[i]? = some x.holders[i] := List.getElem?_eq_getElem hc
    generalize x.holders[i] = u at hx
    refine ⟨by omega, _, Holder.row_get rfl hx, ?_⟩
    have hum : u ∈ x.holders := List.mem_of_getElem? hx
    have sd : ∀ (hs : u.ok) (had : ∀ v, x.holders[i - 1]? = some v → 0 < i → v.t < u.t), (∀ j w, j < i + 1 → x.holders[j]? = some w → w.ok) ∧ ∀ j w z, j + 1 < i + 1 → x.holders[j]? = some w → x.holders[j + 1]? = some z → w.t < z.t := fun hs had => by
      refine ⟨fun j w hj hw => ?_, fun j w z hj hw hz => ?_⟩
      · by_cases e : j = i
        · subst e; rw [hx] at hw; cases hw; exact hs
        · exact q2 j w (by omega) hw
      · by_cases e : j + 1 = i
        · subst e
          rw [hx] at hz; cases hz
          exact had w (by simpa using hw) (by omega)
        · exact q3 j w z (by omega) hw hz
    refine brB (fun h5 => ?_) (fun h5 => ?_)
    · have h5 : 0 < i := by have := of_decide_eq_true h5; omega
      have hp : x.holders[i - 1]? = some x.holders[i - 1] := List.getElem?_eq_getElem (by omega)
      generalize x.holders[i - 1] = v at hp
      have w1 : IntKind.i64.wrap ((i : Int) - 1) = ((i - 1 : Nat) : Int) := by rw [wi (by omega) (by omega)]; omega
      refine ⟨by rw [w1]; omega, _, Holder.row_get w1 hp, ?_⟩
      refine brB (fun h6 => ?_) (fun h6 => ?_)
      · refine ⟨[], _, _, ⟨rfl, rfl⟩, congrArg AV.bool (fb fun h => ?_), trivial, rfl⟩
        have h7 := hadj_of_srt h.srt hp (by rw [show i - 1 + 1 = i by omega]; exact hx)
        have := of_decide_eq_true h6
        omega
      · have h6 := of_decide_eq_false h6
        refine brB (fun h9 => ?_) (fun h9 => ?_)
        · refine ⟨[], _, _, ⟨rfl, rfl⟩, congrArg AV.bool (fb fun h => (h.each u hum).1 (of_decide_eq_true h9)), trivial, rfl⟩
        have h9 := of_decide_eq_false h9
        refine Told.callT (iseeded_ct u.seed) rfl rfl rfl rfl ?_
        refine brB (fun h7 => ?_) (fun h7 => ?_)
        · refine ⟨[], _, _, ⟨rfl, rfl⟩, congrArg AV.bool (fb fun h => ?_), trivial, rfl⟩
          have := (h.each u hum).2
          simp at h7
          omega
        · refine ⟨i + 1, ⟨hc, sd ?_ (fun w hw _ => ?_)⟩, Le.of [] ⟨rfl, rfl, rfl, congrArg (AV.int .i64) (wi (by omega) (by omega)), trivial⟩ ⟨rfl, trivial⟩ rfl, by show x.holders.length - (i + 1) < x.holders.length - i; omega⟩
          · exact ⟨h9, by simpa using h7⟩
          · rw [hp] at hw; cases hw; omega
    · have h5 : ¬ 0 < i := by have := of_decide_eq_false h5; omega
      refine brB (fun h9 => ?_) (fun h9 => ?_)
      · refine ⟨[], _, _, ⟨rfl, rfl⟩, congrArg AV.bool (fb fun h => (h.each u hum).1 (of_decide_eq_true h9)), trivial, rfl⟩
      have h9 := of_decide_eq_false h9
      refine Told.callT (iseeded_ct u.seed) rfl rfl rfl rfl ?_
      refine brB (fun h7 => ?_) (fun h7 => ?_)
      · refine ⟨[], _, _, ⟨rfl, rfl⟩, congrArg AV.bool (fb fun h => ?_), trivial, rfl⟩
        have := (h.each u hum).2
        simp at h7
        omega
      · refine ⟨i + 1, ⟨hc, sd ?_ (fun w hw h => absurd h h5)⟩, Le.of [] ⟨rfl, rfl, rfl, congrArg (AV.int .i64) (wi (by omega) (by omega)), trivial⟩ ⟨rfl, trivial⟩ rfl, by show x.holders.length - (i + 1) < x.holders.length - i; omega⟩
        exact ⟨h9, by simpa using h7⟩
  · have hc : i = x.holders.length := Nat.le_antisymm q1 (Int.ofNat_le.1 (Int.not_lt.1 (of_decide_eq_false hc)))
    subst hc
    have srt : x.holders.Pairwise (fun a b => a.t < b.t) := hsrt_of_adj fun j u v hu hv => q3 j u v (List.getElem?_eq_some_iff.1 hv).1 hu hv
    have sds : ∀ e ∈ x.holders, e.ok := fun e he => by
      obtain ⟨j, hj, rfl⟩ := List.mem_iff_getElem.1 he
      exact q2 j _ hj (List.getElem?_eq_getElem hj)
    refine brB (fun h8 => ?_) (fun h8 => ?_)
    · have h8 : x.holders.length ≤ 64 := by have h := of_decide_eq_true h8; rw [Holder.row_len] at h; omega
      refine Told.callT (Gon.Right_ct x.gone hg _ decide_eq_true_iff) rfl rfl rfl rfl ?_
      refine ⟨[], _, _, ⟨rfl, rfl⟩, congrArg AV.bool ?_, trivial, rfl⟩
      rw [decide_eq_decide]
      exact ⟨fun h => ⟨h8, srt, sds, h⟩, fun h => h.gone⟩
    · refine ⟨[], _, _, ⟨rfl, rfl⟩, congrArg AV.bool (fb fun h => ?_), trivial, rfl⟩
      have h9 := of_decide_eq_false h8
      rw [Holder.row_len] at h9
      have := h.len
      omega
end
end Go.Proofs.YtgkmpgfmhjbcjaaGreatX
namespace Go.Proofs.YtgkmpgfmhjbcjaaGreatX
section
open Go Go.YtgkmpgfmhjbcjaaGreatE Go.Proofs
set_option maxRecDepth 100000
set_option autoImplicit false
theorem may_ct [Tabs] (g : Engine) (hw : g.Wf) (hs : g.Sm) (s : Issuer) (hl : s.holders.length < 100000) (hg : s.gone.length < 100000) (seed : List Int) :
    CtT Tryz.prog 31 [g.T, s.T, .sl 1 (bys seed)] (Ret (.bool (decide (mayI g s seed))) []) := by
  refine Ct.of Tryz.func31 rfl rfl (n := 17) rfl (by simp [ids]) ?_
  have kr := IRight_ct s hl hg
  have km := MRight_ct g hw hs
  by_cases h1 : s.ok
  · rw [decide_eq_true h1] at kr
    refine Told.callT kr rfl rfl rfl rfl ?_
    by_cases h2 : g.ok
    · rw [decide_eq_true h2] at km
      refine Told.callT km rfl rfl rfl rfl ?_
      refine Told.callT (iseeded_ct seed) rfl rfl rfl rfl ?_
      refine ⟨[], _, _, ⟨rfl, rfl⟩, congrArg AV.bool (decide_eq_decide.2 ?_), trivial, rfl⟩
      exact ⟨fun h => ⟨h1, h2, h⟩, fun h => h.2.2⟩
    · rw [decide_eq_false h2] at km
      refine Told.callT km rfl rfl rfl rfl ?_
      exact ⟨[], _, _, ⟨rfl, rfl⟩, congrArg AV.bool (decide_eq_false fun h => h2 h.2.1).symm, trivial, rfl⟩
  · rw [decide_eq_false h1] at kr
    refine Told.callT kr rfl rfl rfl rfl ?_
    exact ⟨[], _, _, ⟨rfl, rfl⟩, congrArg AV.bool (decide_eq_false fun h => h1 h.1).symm, trivial, rfl⟩
theorem Issue_ct [Tabs] (g : Engine) (hw : g.Wf) (hs : g.Sm) (s : Issuer) (hsw : s.Wf) (hl : s.holders.length < 100000) (hsd : ∀ e ∈ s.holders, e.seed.length < 1000000) (hg : s.gone.length < 100000) (hk : s.key.length < 100000) (t d : Int) (ht : U64 t) (hd : U64 d) (seed : List Int) (hb : Byt seed) :
    CtT Tryz.prog 12 [g.T, s.T, .int .u64 t, .int .u64 d, .sl 1 (bys seed)] (Ret (.t (resMade (issueR g s t d seed))) []) := by
  refine CtT.ofN Tryz.func12 rfl rfl (n := 53) rfl ?_
  have kh := Holder_ct s t (by omega) hsd
  have km := may_ct g hw hs s hl hg seed
  refine Told.callT kh rfl rfl rfl rfl ?_
  by_cases h1 : mayI g s seed
  · rw [decide_eq_true h1] at km
    refine Told.callT km rfl rfl rfl rfl ?_
    by_cases h2 : (findH s.holders t).2 = 0
    · refine brT (decide_eq_true h2) ?_
      refine ⟨_, rfl, ?_⟩
      rw [issueR, if_neg (by simpa using h1), if_pos h2]
      repeat constructor
    · refine brF (decide_eq_false h2) ?_
      refine brB (fun h3 => ?_) (fun h3 => ?_)
      · refine ⟨_, rfl, ?_⟩
        have h3 := of_decide_eq_true h3
        rw [Holder.row_len] at h3
        rw [issueR, if_neg (by simpa using h1), if_neg h2, if_pos (by omega)]
        repeat constructor
      · have h3 := of_decide_eq_false h3
        rw [Holder.row_len] at h3
        have kb := bind_ct g hw hs h1.2.1 s hsw h1.1 hk ⟨t, 1, d, seed⟩ ⟨ht, ⟨by show (0 : Int) ≤ 1; decide, by show (1 : Int) < 2 ^ 64; decide⟩, hd, hb⟩ ⟨by simp, h1.2.2⟩
        refine Told.callT kb rfl rfl rfl rfl ?_
        refine ⟨_, rfl, ?_⟩
        rw [issueR, if_neg (by simpa using h1), if_neg h2, if_neg (by omega)]
        exact .refl _
  · rw [decide_eq_false h1] at km
    refine Told.callT km rfl rfl rfl rfl ?_
    refine ⟨_, rfl, ?_⟩
    rw [issueR, if_pos h1]
    repeat constructor
theorem findH_e [Tabs] {s : Issuer} (hw : s.Wf) (t : Int) : U64 (findH s.holders t).1.e := by
  rcases findH_cases s.holders t with ⟨e, he, _, hf⟩ | ⟨_, hf⟩
  · rw [hf]; exact (hw.holders e he).e
  · rw [hf]; constructor <;> decide
theorem Rebind_ct [Tabs] (g : Engine) (hw : g.Wf) (hs : g.Sm) (s : Issuer) (hsw : s.Wf) (hl : s.holders.length < 100000) (hsd : ∀ e ∈ s.holders, e.seed.length < 1000000) (hg : s.gone.length < 100000) (hk : s.key.length < 100000) (t d : Int) (ht : U64 t) (hd : U64 d) (seed : List Int) (hb : Byt seed) :
    CtT Tryz.prog 15 [g.T, s.T, .int .u64 t, .int .u64 d, .sl 1 (bys seed)] (Ret (.t (resMade (rebindR g s t d seed))) []) := by
  refine CtT.ofN Tryz.func15 rfl rfl (n := 56) rfl ?_
  have kh := Holder_ct s t (by omega) hsd
  have km := may_ct g hw hs s hl hg seed
  have hu := findH_e hsw t
  refine Told.callT kh rfl rfl rfl rfl ?_
  by_cases h1 : mayI g s seed
  · rw [decide_eq_true h1] at km
    refine Told.callT km rfl rfl rfl rfl ?_
    by_cases h2 : (findH s.holders t).2 = 0
    · refine brF (by simpa using h2) ?_
      by_cases h3 : (findH s.holders t).1.e = 18446744073709551615
      · refine brT (decide_eq_true h3) ?_
        refine ⟨_, rfl, ?_⟩
        rw [rebindR, if_neg (by simpa using h1), if_neg (by simpa using h2), if_pos h3]
        repeat constructor
      · refine brF (decide_eq_false h3) ?_
        have w1 : IntKind.u64.wrap ((findH s.holders t).1.e + 1) = (findH s.holders t).1.e + 1 := by
          unfold U64 at hu
          simp [IntKind.wrap, IntKind.signed, IntKind.bits]; omega
        have kb := bind_ct g hw hs h1.2.1 s hsw h1.1 hk ⟨t, (findH s.holders t).1.e + 1, d, seed⟩ ⟨ht, by unfold U64 at *; simp only; omega, hd, hb⟩ ⟨by unfold U64 at hu; simp only; omega, h1.2.2⟩
        refine Told.callT kb rfl rfl (congrArg (fun x => some [g.T, s.T, T.agg [.int .u64 t, .int .u64 x, .int .u64 d, .sl 1 (bys seed)]]) w1) rfl ?_
        refine ⟨_, rfl, ?_⟩
        rw [rebindR, if_neg (by simpa using h1), if_neg (by simpa using h2), if_neg h3]
        exact .refl _
    · refine brT (by simpa using h2) ?_
      refine ⟨_, rfl, ?_⟩
      rw [rebindR, if_neg (by simpa using h1), if_pos h2]
      repeat constructor
  · rw [decide_eq_false h1] at km
    refine Told.callT km rfl rfl rfl rfl ?_
    refine ⟨_, rfl, ?_⟩
    rw [rebindR, if_pos h1]
    repeat constructor
theorem Revoke_ct [Tabs] (s : Issuer) (hl : s.holders.length < 100000) (hsd : ∀ e ∈ s.holders, e.seed.length < 1000000) (hg : s.gone.length < 10000) (t : Int) :
    CtT Tryz.prog 19 [s.T, .int .u64 t] (Ret (.t (.tuple [(revokeR s t).1.T, .int .i64 (revokeR s t).2])) []) := by
  refine CtT.ofN Tryz.func19 rfl rfl (n := 40) rfl ?_
  have kr := IRight_ct s hl (by omega)
  have kh := Holder_ct s t (by omega) hsd
  by_cases h1 : s.ok
  · rw [decide_eq_true h1] at kr
    refine Told.callT kr rfl rfl rfl rfl ?_
    refine Told.callT kh rfl rfl rfl rfl ?_
    by_cases h2 : (findH s.holders t).2 = 0
    · refine brF (by simpa using h2) ?_
      have kp := Gon.Put_ct s.gone ⟨t, (findH s.holders t).1.e⟩ hg
      refine Told.callT kp rfl rfl rfl rfl ?_
      by_cases h3 : (Gon.putG s.gone ⟨t, (findH s.holders t).1.e⟩).2 = 0
      · refine brF (by simpa using h3) ?_
        refine ⟨_, rfl, ?_⟩
        rw [revokeR, if_neg (by simpa using h1), if_neg (by simpa using h2), if_neg (by simpa using h3)]
        repeat constructor
      · refine brT (by simpa using h3) ?_
        refine ⟨_, rfl, ?_⟩
        rw [revokeR, if_neg (by simpa using h1), if_neg (by simpa using h2), if_pos h3]
        repeat constructor
    · refine brT (by simpa using h2) ?_
      refine ⟨_, rfl, ?_⟩
      rw [revokeR, if_neg (by simpa using h1), if_pos h2]
      repeat constructor
  · rw [decide_eq_false h1] at kr
    refine Told.callT kr rfl rfl rfl rfl ?_
    refine ⟨_, rfl, ?_⟩
    rw [revokeR, if_pos h1]
    repeat constructor
end
end Go.Proofs.YtgkmpgfmhjbcjaaGreatX
namespace Go.Proofs.YtgkmpgfmhjbcjaaGreatX
section
open Go Go.YtgkmpgfmhjbcjaaGreatE Go.Proofs
set_option maxRecDepth 100000
set_option autoImplicit false
theorem holder_eq {a b : Holder} : a = b ↔ a.t = b.t ∧ a.e = b.e ∧ a.d = b.d ∧ a.seed = b.seed := by
  obtain ⟨a1, a2, a3, a4⟩ := a; obtain ⟨b1, b2, b3, b4⟩ := b; simp
theorem HEq_ct [Tabs] (a b : Holder) (ha : Byt a.seed) (hb : Byt b.seed) : CtT Tryz.prog 11 [a.T, b.T] (Ret (.bool (decide (a = b))) []) := by
  refine Ct.of Tryz.func11 rfl rfl (n := 33) rfl (by simp [ids]) ?_
  have fin : ∀ x : Bool, (x = true ↔ a.t = b.t ∧ a.e = b.e ∧ a.d = b.d ∧ a.seed = b.seed) → x = decide (a = b) := fun x h => by
    rw [Bool.eq_iff_iff, h, decide_eq_true_iff, holder_eq]
  have bad : ¬ (a.t = b.t ∧ a.e = b.e ∧ a.d = b.d ∧ a.seed = b.seed) → false = decide (a = b) := fun h => fin false ⟨fun h => (by cases h), fun h2 => absurd h2 h⟩
  refine brB (fun h1 => brB (fun h2 => brB (fun h3 => ?_) (fun h3 => ?_)) (fun h2 => ?_)) (fun h1 => ?_)
  · refine ⟨_, rfl, _, rfl, fun c hc => ?_⟩
    refine ⟨[], _, _, ⟨rfl, rfl⟩, congrArg AV.bool (fin c ?_), trivial, rfl⟩
    rw [hc, decide_eq_true_iff, strOf_eq (fun x h => by have := ha x h; omega) (fun y h => by have := hb y h; omega)]
    exact ⟨fun h => ⟨of_decide_eq_true h1, of_decide_eq_true h2, of_decide_eq_true h3, h⟩, fun h => h.2.2.2⟩
  · exact ⟨[], _, _, ⟨rfl, rfl⟩, congrArg AV.bool (bad fun h => of_decide_eq_false h3 h.2.2.1), trivial, rfl⟩
  · exact ⟨[], _, _, ⟨rfl, rfl⟩, congrArg AV.bool (bad fun h => of_decide_eq_false h2 h.2.1), trivial, rfl⟩
  · exact ⟨[], _, _, ⟨rfl, rfl⟩, congrArg AV.bool (bad fun h => of_decide_eq_false h1 h.1), trivial, rfl⟩
theorem issuer_eq {x y : Issuer} : x = y ↔ x.key = y.key ∧ x.v = y.v ∧ x.holders = y.holders ∧ x.gone = y.gone := by
  obtain ⟨a0, a1, a2, a3⟩ := x; obtain ⟨b0, b1, b2, b3⟩ := y; simp
theorem ISame_ct [Tabs] (x y : Issuer) (kx : Byt x.key) (ky : Byt y.key) (hx : ∀ e ∈ x.holders, Byt e.seed) (hy : ∀ e ∈ y.holders, Byt e.seed) (lx : x.holders.length < 100000) (_ : y.holders.length < 100000) (gx : x.gone.length < 100000) (gy : y.gone.length < 100000) :
    CtT Tryz.prog 23 [x.T, y.T] (Ret (.bool (decide (x = y))) []) := by
  refine Ct.of Tryz.func23 rfl rfl (n := 56) rfl (by simp [ids]) ?_
  have bad : ¬ x = y → false = decide (x = y) := fun h => (decide_eq_false h).symm
  refine ⟨_, rfl, _, rfl, fun c hc => ?_⟩
  rw [show (decide ((strOf x.key).toList = (strOf y.key).toList)) = decide (x.key = y.key) from decide_eq_decide.2 (strOf_eq (fun z h => by have := kx z h; omega) (fun z h => by have := ky z h; omega))] at hc
  cases c with
  | true =>
    refine ⟨[], _, _, ⟨rfl, rfl⟩, congrArg AV.bool (bad fun h => ?_), trivial, rfl⟩
    rw [h] at hc; simp at hc
  | false =>
  have h0 : x.key = y.key := by simpa using hc
  refine brB (fun h1 => ?_) (fun h1 => ?_)
  · refine ⟨[], _, _, ⟨rfl, rfl⟩, congrArg AV.bool (bad fun h => ?_), trivial, rfl⟩
    rw [h] at h1; simp at h1
  have h1 : x.v = y.v := by simpa using h1
  refine brB (fun h2 => ?_) (fun h2 => ?_)
  · refine ⟨[], _, _, ⟨rfl, rfl⟩, congrArg AV.bool (bad fun h => ?_), trivial, rfl⟩
    rw [h] at h2; simp at h2
  have h2 : x.holders.length = y.holders.length := by rw [Holder.row_len, Holder.row_len] at h2; simp at h2; omega
  have kg := Gon.Same_ct x.gone y.gone gx gy
  refine Told.callT kg rfl rfl rfl rfl ?_
  refine brB (fun h3 => ?_) (fun h3 => ?_)
  · refine ⟨[], _, _, ⟨rfl, rfl⟩, congrArg AV.bool (bad fun h => ?_), trivial, rfl⟩
    rw [h] at h3; simp at h3
  have h3 : x.gone = y.gone := by simpa using h3
  refine ⟨Nat, fun i => [(2, .ptr 2 0), (3, .ptr 3 0), (5, .int .i64 i)], fun _ => [(2, false, x.box), (3, false, y.box)], fun i => i ≤ x.holders.length ∧ ∀ j, j < i → x.holders[j]? = y.holders[j]?, fun i => x.holders.length - i, 0, ⟨Nat.zero_le _, fun j h => absurd h (by omega)⟩, Le.of [] ⟨rfl, rfl, rfl, trivial⟩ ⟨rfl, rfl, trivial⟩ rfl, ?_⟩
  rintro i ⟨q1, q2⟩
  refine brB (fun hc => ?_) (fun hc => ?_)
  · have hc : i < x.holders.length := by have h := of_decide_eq_true hc; rw [Holder.row_len] at h; exact Int.ofNat_lt.1 h
    have ha : x.holders[i]? = some x.holders[i] := List.getElem?_eq_getElem hc
    have hb : y.holders[i]? = some y.holders[i] := List.getElem?_eq_getElem (by omega)
    have ba := hx _ (List.mem_of_getElem? ha)
    have bb := hy _ (List.mem_of_getElem? hb)
    generalize x.holders[i] = u at ha ba
    generalize y.holders[i] = v at hb bb
    refine ⟨by omega, _, Holder.row_get rfl ha, by omega, _, Holder.row_get rfl hb, ?_⟩
    refine Told.callT (HEq_ct u v ba bb) rfl rfl rfl rfl ?_
    refine brB (fun h4 => ?_) (fun h4 => ?_)
    · refine ⟨[], _, _, ⟨rfl, rfl⟩, congrArg AV.bool (bad fun h => ?_), trivial, rfl⟩
      rw [h, hb] at ha; cases ha; simp at h4
    · have h4 : u = v := by simpa using h4
      refine ⟨i + 1, ⟨hc, fun j hj => ?_⟩, Le.of [] ⟨rfl, rfl, congrArg (AV.int .i64) (wi (by omega) (by omega)), trivial⟩ ⟨rfl, rfl, trivial⟩ rfl, by show x.holders.length - (i + 1) < x.holders.length - i; omega⟩
      by_cases e2 : j = i
      · subst e2; rw [ha, hb, h4]
      · exact q2 j (by omega)
  · have hc : i = x.holders.length := by have h := of_decide_eq_false hc; rw [Holder.row_len] at h; exact Nat.le_antisymm q1 (Int.ofNat_le.1 (Int.not_lt.1 h))
    refine ⟨[], _, _, ⟨rfl, rfl⟩, congrArg AV.bool (decide_eq_true (issuer_eq.2 ⟨h0, h1, ?_, h3⟩)).symm, trivial, rfl⟩
    apply List.ext_getElem?
    intro j
    by_cases hj : j < i
    · exact q2 j hj
    · rw [List.getElem?_eq_none (by omega), List.getElem?_eq_none (by omega)]
def shortI (x : Issuer) : Prop := x.key.length ≤ 300 ∧ x.holders.length ≤ 99 ∧ x.gone.length ≤ 99 ∧ ∀ e ∈ x.holders, e.seed.length ≤ 99
theorem IShort_ct [Tabs] (x : Issuer) : ∃ z : Bool, (z = true → shortI x) ∧ CtT Tryz.prog 8 [x.T] (Ret (.bool z) []) := by
  by_cases hs : shortI x
  · refine ⟨true, fun _ => hs, ?_⟩
    refine Ct.of Tryz.func8 rfl rfl (n := 39) rfl (by simp [ids]) ?_
    refine ⟨Nat, fun i => [(1, .ptr 1 0), (3, .int .i64 i)], fun _ => [(1, false, x.box)], fun i => i ≤ x.holders.length, fun i => x.holders.length - i, 0, Nat.zero_le _, Le.of [] ⟨rfl, rfl, trivial⟩ ⟨rfl, trivial⟩ rfl, ?_⟩
    intro i hi
    have hkey := hs.1
    have h99 := hs.2.1
    have hg := hs.2.2.1
    refine brB (fun hc => ?_) (fun hc => ?_)
    · have hc : i < x.holders.length := by have h := of_decide_eq_true hc; rw [Holder.row_len] at h; exact Int.ofNat_lt.1 h
      refine brB (fun hc2 => ?_) (fun hc2 => absurd (of_decide_eq_false hc2) (by omega))
      have hx : x.holders[i]? = some x.holders[i] := List.getElem?_eq_getElem hc
      have hm := hs.2.2.2 x.holders[i] (List.getElem_mem _)
      generalize x.holders[i] = t at hx hm
      refine ⟨by omega, _, Holder.row_get rfl hx, ?_⟩
      refine brF (decide_eq_false (by rw [bys_len]; omega)) ?_
      exact ⟨i + 1, hc, Le.of [] ⟨rfl, congrArg (AV.int .i64) (wi (by omega) (by omega)), trivial⟩ ⟨rfl, trivial⟩ rfl, by show x.holders.length - (i + 1) < x.holders.length - i; omega⟩
    · refine brT (decide_eq_true (by rw [bys_len]; omega)) ?_
      refine brT (decide_eq_true (by rw [Holder.row_len]; omega)) ?_
      exact ⟨[], _, _, ⟨rfl, rfl⟩, congrArg AV.bool (decide_eq_true (by rw [List.length_map]; omega)), trivial, rfl⟩
  · refine ⟨false, fun h => (by cases h), ?_⟩
    refine Ct.of Tryz.func8 rfl rfl (n := 39) rfl (by simp [ids]) ?_
    refine ⟨Nat, fun i => [(1, .ptr 1 0), (3, .int .i64 i)], fun _ => [(1, false, x.box)], fun i => i ≤ x.holders.length ∧ i ≤ 99 ∧ ∀ j, j < i → ∀ t, x.holders[j]? = some t → t.seed.length ≤ 99, fun i => x.holders.length - i, 0, ⟨Nat.zero_le _, Nat.zero_le _, fun j h => absurd h (by omega)⟩, Le.of [] ⟨rfl, rfl, trivial⟩ ⟨rfl, trivial⟩ rfl, ?_⟩
    rintro i ⟨hi, hi4, hb⟩
    refine brB (fun hc => ?_) (fun hc => ?_)
    · have hc : i < x.holders.length := by have h := of_decide_eq_true hc; rw [Holder.row_len] at h; exact Int.ofNat_lt.1 h
      refine brB (fun hc2 => ?_) (fun hc2 => ?_)
      · have hc2 := of_decide_eq_true hc2
        have hx : x.holders[i]? = some x.holders[i] := List.getElem?_eq_getElem hc
        generalize x.holders[i] = t at hx
        refine ⟨by omega, _, Holder.row_get rfl hx, ?_⟩
        refine brB (fun h1 => ?_) (fun h1 => ?_)
        · exact ⟨[], _, _, ⟨rfl, rfl⟩, rfl, trivial, rfl⟩
        have h1 := of_decide_eq_false h1
        rw [bys_len] at h1
        refine ⟨i + 1, ⟨hc, by omega, fun j hj u hu => ?_⟩, Le.of [] ⟨rfl, congrArg (AV.int .i64) (wi (by omega) (by omega)), trivial⟩ ⟨rfl, trivial⟩ rfl, by show x.holders.length - (i + 1) < x.holders.length - i; omega⟩
        by_cases e : j = i
        · subst e; rw [hx] at hu; cases hu; omega
        · exact hb j (by omega) u hu
      · have hc2 := of_decide_eq_false hc2
        refine brB (fun _ => ?_) (fun _ => ?_)
        · refine brF (decide_eq_false (by rw [Holder.row_len]; omega)) ?_
          exact ⟨[], _, _, ⟨rfl, rfl⟩, rfl, trivial, rfl⟩
        · exact ⟨[], _, _, ⟨rfl, rfl⟩, rfl, trivial, rfl⟩
    · have hc : i = x.holders.length := by have h := of_decide_eq_false hc; rw [Holder.row_len] at h; exact Nat.le_antisymm hi (Int.ofNat_le.1 (Int.not_lt.1 h))
      subst hc
      refine brB (fun hk => ?_) (fun _ => ⟨[], _, _, ⟨rfl, rfl⟩, rfl, trivial, rfl⟩)
      have hk := of_decide_eq_true hk
      rw [bys_len] at hk
      refine brT (decide_eq_true (by rw [Holder.row_len]; omega)) ?_
      refine ⟨[], _, _, ⟨rfl, rfl⟩, congrArg AV.bool (decide_eq_false (fun hg => hs ⟨by omega, hi4, by rw [List.length_map] at hg; omega, fun t ht => ?_⟩)), trivial, rfl⟩
      obtain ⟨j, hj, rfl⟩ := List.mem_iff_getElem.1 ht
      exact hb j hj _ (List.getElem?_eq_getElem hj)
end
end Go.Proofs.YtgkmpgfmhjbcjaaGreatX
namespace Go.Proofs.YtgkmpgfmhjbcjaaGreatX
section
open Go Go.YtgkmpgfmhjbcjaaGreatE Go.Proofs
set_option maxRecDepth 100000
set_option autoImplicit false
theorem tmm_eq {a b : Term} : a = b ↔ a.key = b.key ∧ a.msg = b.msg := by obtain ⟨a1, a2⟩ := a; obtain ⟨b1, b2⟩ := b; simp
theorem byt256 {l : List Int} (h : Byt l) : ∀ x ∈ l, 0 ≤ x ∧ x < 256 := fun x hx => by have := h x hx; omega
theorem TmSame_ct [Tabs] (l m : List Term) (hl : l.length < 100000) (_ : m.length < 100000) (wl : ∀ t ∈ l, t.Wf) (wm : ∀ t ∈ m, t.Wf) : CtT Tryz.prog 46 [.sl 2 (l.map Term.T), .sl 2 (m.map Term.T)] (Ret (.bool (decide (l = m))) []) := by
  refine Ct.of Tryz.func46 rfl rfl (n := 45) rfl (by simp [ids]) ?_
  have bad : ¬ l = m → false = decide (l = m) := fun h => (decide_eq_false h).symm
  refine brB (fun h2 => ?_) (fun h2 => ?_)
  · refine ⟨[], _, _, ⟨rfl, rfl⟩, congrArg AV.bool (bad fun h => ?_), trivial, rfl⟩
    rw [h] at h2; simp at h2
  have h2 : l.length = m.length := by rw [Term.row_len, Term.row_len] at h2; simp at h2; omega
  refine ⟨Nat, fun i => [(0, .t (.sl 2 (l.map Term.T))), (1, .t (.sl 2 (m.map Term.T))), (5, .int .i64 i)], fun _ => [], fun i => i ≤ l.length ∧ ∀ j, j < i → l[j]? = m[j]?, fun i => l.length - i, 0, ⟨Nat.zero_le _, fun j h => absurd h (by omega)⟩, Le.of [] ⟨rfl, rfl, rfl, trivial⟩ trivial rfl, ?_⟩
  rintro i ⟨q1, q2⟩
  refine brB (fun hc => ?_) (fun hc => ?_)
  · have hc : i < l.length := by have h := of_decide_eq_true hc; rw [Term.row_len] at h; exact Int.ofNat_lt.1 h
    have ha : l[i]? = some l[i] := List.getElem?_eq_getElem hc
    have hb : m[i]? = some m[i] := List.getElem?_eq_getElem (by omega)
    have ba := wl _ (List.mem_of_getElem? ha)
    have bb := wm _ (List.mem_of_getElem? hb)
    generalize l[i] = u at ha ba
    generalize m[i] = v at hb bb
    refine ⟨by omega, _, Term.row_get rfl ha, _, rfl, by omega, _, Term.row_get rfl hb, _, rfl, fun c hcc => ?_⟩
    rw [show (decide ((strOf u.key).toList = (strOf v.key).toList)) = decide (u.key = v.key) from decide_eq_decide.2 (strOf_eq (byt256 ba.key) (byt256 bb.key))] at hcc
    cases c with
    | true =>
      refine ⟨[], _, _, ⟨rfl, rfl⟩, congrArg AV.bool (bad fun h => ?_), trivial, rfl⟩
      rw [h, hb] at ha; cases ha; simp at hcc
    | false =>
      have h3 : u.key = v.key := by simpa using hcc
      refine ⟨by omega, _, Term.row_get rfl ha, _, rfl, by omega, _, Term.row_get rfl hb, _, rfl, fun c hcc => ?_⟩
      rw [show (decide ((strOf u.msg).toList = (strOf v.msg).toList)) = decide (u.msg = v.msg) from decide_eq_decide.2 (strOf_eq (byt256 ba.msg) (byt256 bb.msg))] at hcc
      cases c with
      | true =>
        refine ⟨[], _, _, ⟨rfl, rfl⟩, congrArg AV.bool (bad fun h => ?_), trivial, rfl⟩
        rw [h, hb] at ha; cases ha; simp at hcc
      | false =>
        have h4 : u.msg = v.msg := by simpa using hcc
        refine ⟨i + 1, ⟨hc, fun j hj => ?_⟩, Le.of [] ⟨rfl, rfl, congrArg (AV.int .i64) (wi (by omega) (by omega)), trivial⟩ trivial rfl, by show l.length - (i + 1) < l.length - i; omega⟩
        by_cases e2 : j = i
        · subst e2; rw [ha, hb, tmm_eq.2 ⟨h3, h4⟩]
        · exact q2 j (by omega)
  · have hc : i = l.length := by have h := of_decide_eq_false hc; rw [Term.row_len] at h; exact Nat.le_antisymm q1 (Int.ofNat_le.1 (Int.not_lt.1 h))
    refine ⟨[], _, _, ⟨rfl, rfl⟩, congrArg AV.bool (decide_eq_true ?_).symm, trivial, rfl⟩
    apply List.ext_getElem?
    intro j
    by_cases hj : j < i
    · exact q2 j hj
    · rw [List.getElem?_eq_none (by omega), List.getElem?_eq_none (by omega)]
theorem engine_eq {a b : Engine} : a = b ↔ a.kind = b.kind ∧ a.terms = b.terms := by obtain ⟨a1, a2⟩ := a; obtain ⟨b1, b2⟩ := b; simp
theorem ESame_ct [Tabs] (a b : Engine) (ha : a.Wf) (hb : b.Wf) (la : a.terms.length < 100000) (lb : b.terms.length < 100000) : CtT Tryz.prog 24 [a.T, b.T] (Ret (.bool (decide (a = b))) []) := by
  refine Ct.of Tryz.func24 rfl rfl (n := 17) rfl (by simp [ids]) ?_
  refine brB (fun h => ?_) (fun h => ?_)
  · refine Told.callT (TmSame_ct a.terms b.terms la lb ha.terms hb.terms) rfl rfl rfl rfl ?_
    have h := of_decide_eq_true h
    refine ⟨[], _, _, ⟨rfl, rfl⟩, congrArg AV.bool (decide_eq_decide.2 ?_), trivial, rfl⟩
    rw [engine_eq]
    exact ⟨fun h2 => ⟨h, h2⟩, fun h2 => h2.2⟩
  · have h := of_decide_eq_false h
    exact ⟨[], _, _, ⟨rfl, rfl⟩, congrArg AV.bool (decide_eq_false fun h2 => h (by rw [h2])).symm, trivial, rfl⟩
def entOf (h : Holder) : Entry := ⟨h.t, h.e, h.seed⟩
theorem bunOf_ok {s : Issuer} (h : s.ok) (v : Int) : (bunOf s v).ok := by
  refine ⟨by simp only [bunOf, List.length_map]; exact h.len, ?_, fun e he => ?_, h.gone⟩
  · simp only [bunOf]
    exact List.pairwise_map.2 h.srt
  · obtain ⟨x, hx, rfl⟩ := List.mem_map.1 he
    exact (h.each x hx).2
theorem bunOf_wf {s : Issuer} (h : s.Wf) {v : Int} (hv : U64 v) : (bunOf s v).Wf := by
  refine ⟨hv, fun e he => ?_, h.gone⟩
  obtain ⟨x, hx, rfl⟩ := List.mem_map.1 he
  have := h.holders x hx
  exact ⟨this.t, this.e, this.seed⟩
theorem Build_ct [Tabs] (g : Engine) (hw : g.Wf) (hs : g.Sm) (s : Issuer) (hsw : s.Wf) (hl : s.holders.length < 100000) (hg : s.gone.length < 100000) (hk : s.key.length < 100000) :
    CtT Tryz.prog 17 [g.T, s.T] (Ret (.t (resMade (buildR g s))) []) := by
  refine CtT.ofN Tryz.func17 rfl rfl (n := 70) rfl ?_
  have kr := IRight_ct s hl hg
  have km := MRight_ct g hw hs
  by_cases h1 : s.ok
  case neg =>
    rw [decide_eq_false h1] at kr
    refine Told.callT kr rfl rfl rfl rfl ?_
    refine ⟨_, rfl, ?_⟩
    rw [buildR, if_pos (.inl h1)]
    repeat constructor
  rw [decide_eq_true h1] at kr
  refine Told.callT kr rfl rfl rfl rfl ?_
  by_cases h2 : g.ok
  case neg =>
    rw [decide_eq_false h2] at km
    refine Told.callT km rfl rfl rfl rfl ?_
    refine ⟨_, rfl, ?_⟩
    rw [buildR, if_pos (.inr h2)]
    repeat constructor
  rw [decide_eq_true h2] at km
  refine Told.callT km rfl rfl rfl rfl ?_
  by_cases h3 : s.v = 18446744073709551615
  · refine brT (decide_eq_true h3) ?_
    refine ⟨_, rfl, ?_⟩
    rw [buildR, if_neg (by simp [h1, h2]), if_pos h3]
    repeat constructor
  refine brF (decide_eq_false h3) ?_
  have hv := hsw.v
  have w1 : IntKind.u64.wrap (s.v + 1) = s.v + 1 := by
    unfold U64 at hv
    simp [IntKind.wrap, IntKind.signed, IntKind.bits]; omega
  have hlen := h1.len
  have ksl := BSealG_ct g hw hs h2 s.key hsw.key hk (bunOf s (s.v + 1)) (bunOf_wf hsw (by unfold U64 at *; omega)) (bunOf_ok h1 _)
  refine ⟨Nat, fun i => [(2, .ptr 2 0), (3, .ptr 3 0), (4, .ptr 4 0), (5, .ptr 5 0), (8, .ptr 8 0), (39, .t (.sl 4 (s.holders.map Holder.T))), (40, .int .i64 s.holders.length), (41, .int .i64 i)],
    fun i => [(60, false, .row 71 3 (((s.holders.take i).map entOf).map Entry.T)), (8, false, .box 67 [.int .u64 (s.v + 1), .own 60, .t (.sl 2 (s.gone.map Gon.U.T))]), (2, false, .box 24 [.t (.int .i64 g.kind), .t (.sl 2 (g.terms.map Term.T))]),
      (3, false, .box 30 [.t (.sl 1 (bys s.key)), .t (.int .u64 (s.v + 1)), .t (.sl 4 (s.holders.map Holder.T)), .t (.sl 2 (s.gone.map Gon.U.T))]), (4, false, .box 24 [.int .i64 0, .t (.v (.slice none 0 0))]), (5, false, .box 30 [.t (.v (.slice none 0 0)), .int .u64 0, .t (.v (.slice none 0 0)), .t (.v (.slice none 0 0))])],
    fun i => i ≤ s.holders.length, fun i => s.holders.length - i, 0, Nat.zero_le _, Le.trans (Le.nilBox 8 1 60 67 71 3 _ rfl rfl rfl) (Le.of [] ⟨rfl, rfl, rfl, rfl, rfl, rfl, by rw [← Holder.row_len]; rfl, rfl, trivial⟩ ⟨rfl, congrArg (fun x => (false, Blk.box 67 [.int .u64 x, .own 60, .t (.sl 2 (s.gone.map Gon.U.T))])) w1, rfl, congrArg (fun x => (false, Blk.box 30 [.t (.sl 1 (bys s.key)), .t (.int .u64 x), .t (.sl 4 (s.holders.map Holder.T)), .t (.sl 2 (s.gone.map Gon.U.T))])) w1, rfl, rfl, trivial⟩ rfl), ?_⟩
  intro i hi
  refine brB (fun hc => ?_) (fun hc => ?_)
  · have hc : i < s.holders.length := Int.ofNat_lt.1 (of_decide_eq_true hc)
    have hx : s.holders[i]? = some s.holders[i] := List.getElem?_eq_getElem hc
    have htk : s.holders.take (i + 1) = s.holders.take i ++ [s.holders[i]] := by rw [List.take_add_one, hx]; rfl
    generalize s.holders[i] = u at hx htk
    refine ⟨by omega, _, Holder.row_get rfl hx, ?_⟩
    refine ⟨by show (_ + 1) * 40 ≤ _; simp; omega, i + 1, hc, Le.of [(60, 55)] ⟨rfl, rfl, rfl, rfl, rfl, rfl, rfl, congrArg (AV.int .i64) (wi (by omega) (by omega)), trivial⟩ ⟨congrArg (fun x => (false, Blk.row 71 3 x)) ?_, rfl, rfl, rfl, rfl, rfl, trivial⟩ rfl, by show s.holders.length - (i + 1) < s.holders.length - i; omega⟩
    rw [htk]; simp [entOf]
  · have hc : i = s.holders.length := Nat.le_antisymm hi (Int.ofNat_le.1 (Int.not_lt.1 (of_decide_eq_false hc)))
    subst hc
    have e : ((s.holders.take s.holders.length).map entOf) = (bunOf s (s.v + 1)).entries := by rw [List.take_length]; rfl
    refine Told.callT ksl rfl rfl (congrArg (fun x : List Entry => some [g.T, T.sl 1 (bys s.key), T.agg [.int .u64 (s.v + 1), .sl 3 (x.map Entry.T), .sl 2 (s.gone.map Gon.U.T)]]) e) rfl ?_
    refine ⟨_, rfl, ?_⟩
    rw [buildR, if_neg (by simp [h1, h2]), if_neg h3]
    exact .refl _
end
end Go.Proofs.YtgkmpgfmhjbcjaaGreatX
namespace Go.Proofs.YtgkmpgfmhjbcjaaGreatX
section
open Go Go.YtgkmpgfmhjbcjaaGreatE Go.Proofs
set_option maxRecDepth 100000
set_option autoImplicit false
def isA : List Int := [65, 0, 0, 0, 0, 0, 0, 0, 5, 0, 0, 0, 0, 0, 0, 0, 1, 0, 0, 0, 0, 0, 0, 0, 9, 1, 115]
def isB : List Int := [65, 0, 0, 0, 0, 0, 0, 0, 5, 0, 0, 0, 0, 0, 0, 0, 2, 0, 0, 0, 0, 0, 0, 0, 8, 1, 116]
def isC : List Int := [66, 0, 0, 0, 0, 0, 0, 0, 1, 1, 0, 0, 0, 0, 0, 0, 0, 5, 0, 0, 0, 0, 0, 0, 0, 2, 1, 116, 1, 0, 0, 0, 0, 0, 0, 0, 5, 0, 0, 0, 0, 0, 0, 0, 2]
def isBt : List Int := [65, 0, 0, 0, 0, 0, 0, 0, 5, 0, 0, 0, 0, 0, 0, 0, 2, 0, 0, 0, 0, 0, 0, 0, 8, 1, 116, 0, 0, 0, 0, 0, 0, 0, 2]
def isCt : List Int := [66, 0, 0, 0, 0, 0, 0, 0, 1, 1, 0, 0, 0, 0, 0, 0, 0, 5, 0, 0, 0, 0, 0, 0, 0, 2, 1, 116, 1, 0, 0, 0, 0, 0, 0, 0, 5, 0, 0, 0, 0, 0, 0, 0, 2, 0, 0, 0, 0, 0, 0, 0, 3]
def isG1 : Engine := ⟨2, [⟨[107], isA⟩]⟩
def isG2 : Engine := ⟨2, [⟨[107], isA⟩, ⟨[107], isB⟩]⟩
def isG3 : Engine := ⟨2, [⟨[107], isA⟩, ⟨[107], isB⟩, ⟨[107], isC⟩]⟩
def isS0 : Issuer := ⟨[107], 0, [], []⟩
def isS1 : Issuer := ⟨[107], 0, [⟨5, 1, 9, [115]⟩], []⟩
def isS2 : Issuer := ⟨[107], 0, [⟨5, 2, 8, [116]⟩], []⟩
def isS3 : Issuer := ⟨[107], 0, [⟨5, 2, 8, [116]⟩], [⟨5, 2⟩]⟩
def isS4 : Issuer := ⟨[107], 1, [⟨5, 2, 8, [116]⟩], [⟨5, 2⟩]⟩
theorem u64s {x : Int} (h : (decide (0 ≤ x) && decide (x < 18446744073709551616)) = true) : U64 x := by
  simp only [Bool.and_eq_true, decide_eq_true_eq] at h
  unfold U64; omega
theorem byts {l : List Int} (h : l.all (fun x => decide (0 ≤ x) && decide (x ≤ 255)) = true) : Byt l := fun x hx => by
  have := List.all_eq_true.1 h x hx
  simp only [Bool.and_eq_true, decide_eq_true_eq] at this
  exact this
theorem tagG_sym [Tabs] {g : Engine} (h : g.kind = 2) (k m : List Int) : tagG g k m = tagE g k m := by unfold tagG; rw [if_pos h]
theorem awake22_ct [Tabs] : CtT Tryz.prog 6 [] (Ret (.bool true) []) := by
  refine Ct.of Tryz.func6 rfl rfl (n := 145) rfl (by simp [ids]) ?_
  have kb : Byt [107] := byts rfl
  have ba : Byt isA := byts rfl
  have bb : Byt isB := byts rfl
  have bc : Byt isC := byts rfl
  have bbt : Byt isBt := byts rfl
  have bct : Byt isCt := byts rfl
  have w0 : Engine.Wf ⟨2, []⟩ := wf_of (by simp)
  have w1 : isG1.Wf := wf_of (by intro t ht; rw [List.mem_singleton.1 ht]; exact ⟨kb, ba⟩)
  have w2 : isG2.Wf := wf_of (by intro t ht; simp only [List.mem_cons, List.not_mem_nil, or_false] at ht; rcases ht with rfl | rfl; exact ⟨kb, ba⟩; exact ⟨kb, bb⟩)
  have w3 : isG3.Wf := wf_of (by intro t ht; simp only [List.mem_cons, List.not_mem_nil, or_false] at ht; rcases ht with rfl | rfl | rfl; exact ⟨kb, ba⟩; exact ⟨kb, bb⟩; exact ⟨kb, bc⟩)
  have sm : ∀ l : List Term, l.length ≤ 400 → (∀ t ∈ l, t.key.length ≤ 3000 ∧ t.msg.length ≤ 3000) → Engine.Sm ⟨2, l⟩ := fun l h1 h2 => sm_of ⟨h1, h2⟩
  have m0 : Engine.Sm ⟨2, []⟩ := sm _ (by decide) (by decide)
  have m1 : isG1.Sm := sm _ (by decide) (by decide +kernel)
  have m2 : isG2.Sm := sm _ (by decide) (by decide +kernel)
  have m3 : isG3.Sm := sm _ (by decide) (by decide +kernel)
  have h1 : (⟨5, 1, 9, [115]⟩ : Holder).Wf := ⟨u64s rfl, u64s rfl, u64s rfl, byts rfl⟩
  have h2 : (⟨5, 2, 8, [116]⟩ : Holder).Wf := ⟨u64s rfl, u64s rfl, u64s rfl, byts rfl⟩
  have x0 : isS0.Wf := ⟨kb, u64s rfl, (by intro e he; cases he), (by intro e he; cases he)⟩
  have x1 : isS1.Wf := ⟨kb, u64s rfl, (by intro e he; rw [List.mem_singleton.1 he]; exact h1), (by intro e he; cases he)⟩
  have x3 : isS3.Wf := ⟨kb, u64s rfl, (by intro e he; rw [List.mem_singleton.1 he]; exact h2), (by intro e he; rw [List.mem_singleton.1 he]; exact ⟨u64s rfl, u64s rfl⟩)⟩
  have x4 : isS4.Wf := ⟨kb, u64s rfl, (by intro e he; rw [List.mem_singleton.1 he]; exact h2), (by intro e he; rw [List.mem_singleton.1 he]; exact ⟨u64s rfl, u64s rfl⟩)⟩
  have c1 := Issue_ct ⟨2, []⟩ w0 m0 isS0 x0 (by decide) (by decide) (by decide) (by decide) 5 9 (u64s rfl) (u64s rfl) [115] (byts rfl)
  rw [show issueR ⟨2, []⟩ isS0 5 9 [115] = (isG1, isS1, isA ++ [0, 0, 0, 0, 0, 0, 0, 1], 0) by rw [issueR, if_neg (by decide +kernel), if_neg (by decide +kernel), if_neg (by decide +kernel), bindR, tagG_sym rfl]; decide +kernel] at c1
  have c2 := Rebind_ct isG1 w1 m1 isS1 x1 (by decide) (by decide) (by decide) (by decide) 5 8 (u64s rfl) (u64s rfl) [116] (byts rfl)
  rw [show rebindR isG1 isS1 5 8 [116] = (isG2, isS2, isBt, 0) by rw [rebindR, if_neg (by decide +kernel), if_neg (by decide +kernel), if_neg (by decide +kernel), bindR, tagG_sym rfl]; decide +kernel] at c2
  have f1 := FitsG_ct isG2 w2 m2 (by decide +kernel) [107] (isBt.take (isBt.length - 8)) (isBt.drop (isBt.length - 8)) kb (bbt.take _) (bbt.drop _) (by decide +kernel) (by decide) (by decide +kernel) ⟨by decide, by decide +kernel⟩
  rw [decide_eq_true (by unfold fitG; rw [if_pos (by decide)]; decide +kernel)] at f1
  have c3 := AOpen_ct isG2 [107] isBt bbt (by decide) (by decide +kernel) _ f1
  rw [show parseA isBt = ⟨5, 2, 8, [116]⟩ by decide +kernel] at c3
  have c4 := Revoke_ct isS2 (by decide) (by decide) (by decide) 5
  rw [show revokeR isS2 5 = (isS3, 0) by decide +kernel] at c4
  have c5 := Build_ct isG2 w2 m2 isS3 x3 (by decide) (by decide) (by decide)
  rw [show buildR isG2 isS3 = (isG3, isS4, isCt, 0) by rw [buildR, if_neg (by decide +kernel), if_neg (by decide +kernel), tagG_sym rfl]; decide +kernel] at c5
  have f2 := FitsG_ct isG3 w3 m3 (by decide +kernel) [107] (isCt.take (isCt.length - 8)) (isCt.drop (isCt.length - 8)) kb (bct.take _) (bct.drop _) (by decide +kernel) (by decide) (by decide +kernel) ⟨by decide, by decide +kernel⟩
  rw [decide_eq_true (by unfold fitG; rw [if_pos (by decide)]; decide +kernel)] at f2
  have c6 := BOpen_ct isG3 [107] isCt bct (by decide) (by decide +kernel) _ f2
  rw [show (readB isCt).1 = ⟨1, [⟨5, 2, [116]⟩], [⟨5, 2⟩]⟩ by decide +kernel] at c6
  have c7 := Issue_ct isG3 w3 m3 isS4 x4 (by decide) (by decide) (by decide) (by decide) 5 9 (u64s rfl) (u64s rfl) [115] (byts rfl)
  rw [show issueR isG3 isS4 5 9 [115] = (isG3, isS4, [], 11) by rw [issueR, if_neg (by decide +kernel), if_pos (by decide +kernel)]] at c7
  have c8 := Gon.Has_ct [⟨5, 2⟩] ⟨5, 2⟩ (by decide)
  rw [decide_eq_true (by decide)] at c8
  have c9 := IRight_ct isS4 (by decide) (by decide)
  rw [decide_eq_true (by decide +kernel)] at c9
  refine Told.callT (c1.tas (by repeat constructor)) rfl rfl rfl rfl ?_
  refine Told.callT c2 rfl rfl rfl rfl ?_
  refine Told.callT c3 rfl rfl rfl rfl ?_
  refine Told.callT c4 rfl rfl rfl rfl ?_
  refine Told.callT c5 rfl rfl rfl rfl ?_
  refine Told.callT c6 rfl rfl rfl rfl ?_
  refine Told.callT c7 rfl rfl rfl rfl ?_
  refine ⟨by decide, _, rfl, ?_⟩
  refine ⟨_, rfl, fun c hc => ?_⟩
  have hc : c = true := by rw [hc]; decide +kernel
  subst hc
  refine Told.callT (c8.tas (by repeat constructor)) rfl rfl rfl rfl ?_
  refine Told.callT c9 rfl rfl rfl rfl ?_
  exact ⟨[], _, _, ⟨rfl, rfl⟩, rfl, trivial, rfl⟩
end
end Go.Proofs.YtgkmpgfmhjbcjaaGreatX
namespace Go.Proofs.YtgkmpgfmhjbcjaaGreatX
section
open Go Go.YtgkmpgfmhjbcjaaGreatE Go.Proofs
set_option maxRecDepth 100000
set_option autoImplicit false
theorem sm_ofS {g : Engine} (h : shortT g.terms) : g.Sm := ⟨by have := h.1; omega, fun t ht => by have := h.2 t ht; exact ⟨by omega, by omega⟩⟩
theorem seal_open [Tabs] (g : Engine) (hw : g.Wf) (sm : g.Sm) (gok : g.ok) (hn : g.terms.length ≤ 400) (key : List Int) (hk : Byt key) (hkl : key.length ≤ 300) (x : Bundle) (hx : x.Wf) (ok : x.ok) :
    CtT Tryz.prog 27 [(tagG g key (bbytes x)).1.T, .sl 1 (bys key), .sl 1 (bys (bbytes x ++ (tagG g key (bbytes x)).2))] (Ret (.t (resBOpen x (.v .nilIface))) []) := by
  have hbl := bbytes_len ok
  have hgl := tagG_len g key (bbytes x)
  have hgb := tagG_byt g key (bbytes x)
  have hgo := tagG_ok gok key (bbytes x)
  have hgw := tagG_wf hw hk (bbytes_byt hx ok)
  have hgs := tagG_sm sm (by omega) (k := key) (m := bbytes x) ⟨by simp only; omega, by simp only; omega⟩
  have hgf := tagG_fit (g := g) key (bbytes x)
  generalize tagG g key (bbytes x) = p at hgl hgb hgo hgw hgs hgf ⊢
  obtain ⟨hr1, hr2⟩ := readB_seal hx ok hgl
  obtain ⟨s, hs⟩ : ∃ s, s = bbytes x ++ p.2 := ⟨_, rfl⟩
  have hsl : s.length = (bbytes x).length + 8 := by rw [hs, List.length_append, hgl]
  have hsb : Byt s := by rw [hs]; exact (bbytes_byt hx ok).append hgb
  have e1 : s.take (s.length - 8) = bbytes x := by rw [hsl, hs, List.take_left' (by omega)]
  have e2 : s.drop (s.length - 8) = p.2 := by rw [hsl, hs, List.drop_left' (by omega)]
  rw [← hs] at hr1 hr2 ⊢
  have kf := FitsG_ct p.1 hgw hgs hgo key (s.take (s.length - 8)) (s.drop (s.length - 8)) hk (hsb.take _) (hsb.drop _) (by simp; omega) (by omega) (by rw [List.length_take]; omega) ⟨by simp only; omega, by simp only [List.length_take]; omega⟩
  rw [decide_eq_true (by rw [e1, e2]; exact hgf)] at kf
  have ko := BOpen_ct p.1 key s hsb (by omega) hr2 _ kf
  rw [hr1] at ko
  exact ko
theorem IssuerBuilds_g [Tabs] (g : Engine) (hw : g.Wf) (s : Issuer) (hsw : s.Wf) : CtT Tryz.prog 5 [g.T, s.T] (Ret (.bool true) []) := by
  refine Ct.of Tryz.func5 rfl rfl (n := 167) rfl (by simp [ids]) ?_
  refine Told.callT awake22_ct rfl rfl rfl rfl ?_
  obtain ⟨z, hz, ks⟩ := TShort_ct g.terms
  refine Told.callT ks rfl rfl rfl rfl ?_
  cases z with
  | false => exact ⟨[], _, _, ⟨rfl, rfl⟩, rfl, trivial, rfl⟩
  | true =>
  have hsh := hz rfl
  have sm := sm_ofS hsh
  obtain ⟨z, hz, ks⟩ := IShort_ct s
  refine Told.callT ks rfl rfl rfl rfl ?_
  cases z with
  | false => exact ⟨[], _, _, ⟨rfl, rfl⟩, rfl, trivial, rfl⟩
  | true =>
  obtain ⟨s1, s2, s3, s4⟩ := hz rfl
  have kb := Build_ct g hw sm s hsw (by omega) (by omega) (by omega)
  have seedB : ∀ {y : Issuer}, y.Wf → ∀ e ∈ y.holders, Byt e.seed := fun hy e he => (hy.holders e he).seed
  have kss := ISame_ct s s hsw.key hsw.key (seedB hsw) (seedB hsw) (by omega) (by omega) (by omega) (by omega)
  rw [decide_eq_true rfl] at kss
  by_cases h1 : ¬ s.ok ∨ ¬ g.ok
  · rw [show buildR g s = (g, s, [], 1) by rw [buildR, if_pos h1]] at kb
    refine Told.callT kb rfl rfl rfl rfl ?_
    refine Told.callT kss rfl rfl rfl rfl ?_
    exact ⟨[], _, _, ⟨rfl, rfl⟩, rfl, trivial, rfl⟩
  by_cases h2 : s.v = 18446744073709551615
  · rw [show buildR g s = (g, s, [], 15) by rw [buildR, if_neg h1, if_pos h2]] at kb
    refine Told.callT kb rfl rfl rfl rfl ?_
    refine Told.callT kss rfl rfl rfl rfl ?_
    exact ⟨[], _, _, ⟨rfl, rfl⟩, rfl, trivial, rfl⟩
  rw [buildR, if_neg h1, if_neg h2] at kb
  have sok : s.ok := Classical.byContradiction fun h => h1 (.inl h)
  have gok : g.ok := Classical.byContradiction fun h => h1 (.inr h)
  have hv := hsw.v
  have w1 : IntKind.u64.wrap (s.v + 1) = s.v + 1 := by
    unfold U64 at hv
    simp [IntKind.wrap, IntKind.signed, IntKind.bits]; omega
  have hv1 : s.v + 1 ≠ 0 := by unfold U64 at hv; omega
  have bok := bunOf_ok sok (s.v + 1)
  have bwf := bunOf_wf hsw (v := s.v + 1) (by unfold U64 at *; omega)
  have ko := seal_open g hw sm gok hsh.1 s.key hsw.key s1 _ bwf bok
  generalize tagG g s.key (bbytes (bunOf s (s.v + 1))) = p at kb ko
  generalize bbytes (bunOf s (s.v + 1)) ++ p.2 = b at kb ko
  have tok : ({ s with v := s.v + 1 } : Issuer).ok := ⟨sok.len, sok.srt, sok.each, sok.gone⟩
  have kr := IRight_ct { s with v := s.v + 1 } (by simp only; omega) (by simp only; omega)
  rw [decide_eq_true tok] at kr
  refine Told.callT kb rfl rfl rfl rfl ?_
  refine Told.callT ko rfl rfl rfl rfl ?_
  conv => whnf
  refine brF (by rw [w1]; simp) ?_
  conv => whnf
  refine brF (decide_eq_false hv1) ?_
  conv => whnf
  refine brF (by simp [bunOf]) ?_
  refine Told.callT kss rfl rfl rfl rfl ?_
  conv => whnf
  refine brF (by simp [bunOf]) ?_
  conv => whnf
  refine brF (by simp [bunOf]) ?_
  have hbl : (bunOf s (s.v + 1)).entries.length = s.holders.length := by simp [bunOf]
  refine ⟨Nat, fun i => [(3, .ptr 3 0), (6, .ptr 6 0), (9, .ptr 9 0), (12, .int .i64 i)], fun _ => [(3, false, s.box), (6, false, ({ s with v := s.v + 1 } : Issuer).box), (9, false, (bunOf s (s.v + 1)).box)], fun i => i ≤ s.holders.length, fun i => s.holders.length - i, 0, Nat.zero_le _, Le.of [] ⟨rfl, rfl, rfl, rfl, trivial⟩ ⟨rfl, rfl, rfl, trivial⟩ rfl, ?_⟩
  intro i hi
  refine brB (fun hc => ?_) (fun hc => ?_)
  · have hc : i < s.holders.length := by have h := of_decide_eq_true hc; rw [Entry.row_len, hbl] at h; exact Int.ofNat_lt.1 h
    have hx : s.holders[i]? = some s.holders[i] := List.getElem?_eq_getElem hc
    have he : (bunOf s (s.v + 1)).entries[i]? = some (entOf s.holders[i]) := by simp [bunOf, hx, entOf]
    have hb := (hsw.holders s.holders[i] (List.getElem_mem hc)).seed
    generalize s.holders[i] = u at hx he hb
    refine ⟨by omega, _, Holder.row_get rfl hx, by omega, _, Entry.row_get rfl he, ?_⟩
    refine brF (by simp [entOf]) ?_
    refine ⟨by omega, _, Entry.row_get rfl he, ?_⟩
    refine brF (by simp [entOf]) ?_
    refine ⟨by omega, _, Entry.row_get rfl he, _, rfl, _, rfl, fun c hcc => ?_⟩
    have hcc : c = false := by rw [hcc]; simp [entOf]
    subst hcc
    exact ⟨i + 1, hc, Le.of [] ⟨rfl, rfl, rfl, congrArg (AV.int .i64) (wi (by omega) (by omega)), trivial⟩ ⟨rfl, rfl, rfl, trivial⟩ rfl, by show s.holders.length - (i + 1) < s.holders.length - i; omega⟩
  · refine ⟨Nat, fun i => [(3, .ptr 3 0), (6, .ptr 6 0), (9, .ptr 9 0), (14, .int .i64 i)], fun _ => [(3, false, s.box), (6, false, ({ s with v := s.v + 1 } : Issuer).box), (9, false, (bunOf s (s.v + 1)).box)], fun i => i ≤ s.gone.length, fun i => s.gone.length - i, 0, Nat.zero_le _, Le.of [] ⟨rfl, rfl, rfl, rfl, trivial⟩ ⟨rfl, rfl, rfl, trivial⟩ rfl, ?_⟩
    intro i hi
    refine brB (fun hc => ?_) (fun hc => ?_)
    · have hc : i < s.gone.length := by have h := of_decide_eq_true hc; rw [Gon.uses_len] at h; exact Int.ofNat_lt.1 h
      have hx : s.gone[i]? = some s.gone[i] := List.getElem?_eq_getElem hc
      generalize s.gone[i] = u at hx
      refine ⟨by omega, _, Gon.uses_get rfl hx, by omega, _, Gon.uses_get rfl hx, ⟨by kernel_rfl, Tryz.eqGuardType63⟩, fun c hcc => ?_⟩
      have hcc : c = false := by rw [hcc]; simp
      subst hcc
      exact ⟨i + 1, hc, Le.of [] ⟨rfl, rfl, rfl, congrArg (AV.int .i64) (wi (by omega) (by omega)), trivial⟩ ⟨rfl, rfl, rfl, trivial⟩ rfl, by show s.gone.length - (i + 1) < s.gone.length - i; omega⟩
    · refine Told.callT kr rfl rfl rfl rfl ?_
      exact ⟨[], _, _, ⟨rfl, rfl⟩, rfl, trivial, rfl⟩
end
end Go.Proofs.YtgkmpgfmhjbcjaaGreatX
namespace Go.Proofs.YtgkmpgfmhjbcjaaGreatX
section
open Go Go.YtgkmpgfmhjbcjaaGreatE Go.Proofs
set_option maxRecDepth 100000
set_option autoImplicit false
theorem aseal_open [Tabs] (g : Engine) (hw : g.Wf) (sm : g.Sm) (gok : g.ok) (hn : g.terms.length ≤ 400) (key : List Int) (hk : Byt key) (hkl : key.length ≤ 300) (a : Activation) (ha : a.Wf) (ok : a.ok) :
    CtT Tryz.prog 25 [(tagG g key (abytes a)).1.T, .sl 1 (bys key), .sl 1 (bys (abytes a ++ (tagG g key (abytes a)).2))] (Ret (.t (resOpen a (.v .nilIface))) []) := by
  have hal := abytes_len a
  have hsl := ok.2
  have hgl := tagG_len g key (abytes a)
  have hgb := tagG_byt g key (abytes a)
  have hgo := tagG_ok gok key (abytes a)
  have hgw := tagG_wf hw hk (abytes_byt ha ok)
  have hgs := tagG_sm sm (by omega) (k := key) (m := abytes a) ⟨by simp only; omega, by simp only; omega⟩
  have hgf := tagG_fit (g := g) key (abytes a)
  generalize tagG g key (abytes a) = p at hgl hgb hgo hgw hgs hgf ⊢
  have hs0 := sized_seal ok hgl
  have hps := parse_seal ha ok hgl hgb
  obtain ⟨x, hx⟩ : ∃ x, x = abytes a ++ p.2 := ⟨_, rfl⟩
  have hxl : x.length = 34 + a.seed.length := by rw [hx, List.length_append, hal, hgl]; omega
  have hxb : Byt x := by rw [hx]; exact (abytes_byt ha ok).append hgb
  have e1 : x.take (x.length - 8) = abytes a := by rw [hxl, hx, List.take_left' (by omega)]
  have e2 : x.drop (x.length - 8) = p.2 := by rw [hxl, hx, List.drop_left' (by omega)]
  rw [← hx] at hs0 hps ⊢
  have kf := FitsG_ct p.1 hgw hgs hgo key (x.take (x.length - 8)) (x.drop (x.length - 8)) hk (hxb.take _) (hxb.drop _) (by simp; omega) (by omega) (by rw [List.length_take]; omega) ⟨by simp only; omega, by simp only [List.length_take]; omega⟩
  rw [decide_eq_true (by rw [e1, e2]; exact hgf)] at kf
  have ko := AOpen_ct p.1 key x hxb (by omega) hs0 _ kf
  rw [hps] at ko
  exact ko
theorem issue_cases [Tabs] (g : Engine) (s : Issuer) (t d : Int) (seed : List Int) : (∃ c : Int, c ≠ 0 ∧ issueR g s t d seed = (g, s, [], c)) ∨ (mayI g s seed ∧ (findH s.holders t).2 ≠ 0 ∧ s.holders.length ≠ 64 ∧ issueR g s t d seed = bindR g s ⟨t, 1, d, seed⟩) := by
  unfold issueR
  split
  · exact .inl ⟨1, by decide, rfl⟩
  · rename_i h1
    split
    · exact .inl ⟨11, by decide, rfl⟩
    · rename_i h2
      split
      · exact .inl ⟨12, by decide, rfl⟩
      · rename_i h3
        exact .inr ⟨by simpa using h1, h2, h3, rfl⟩
theorem rebind_cases [Tabs] (g : Engine) (s : Issuer) (t d : Int) (seed : List Int) : (∃ c : Int, c ≠ 0 ∧ rebindR g s t d seed = (g, s, [], c)) ∨ (mayI g s seed ∧ (findH s.holders t).2 = 0 ∧ (findH s.holders t).1.e ≠ 18446744073709551615 ∧ rebindR g s t d seed = bindR g s ⟨t, (findH s.holders t).1.e + 1, d, seed⟩) := by
  unfold rebindR
  split
  · exact .inl ⟨1, by decide, rfl⟩
  · rename_i h1
    split
    · rename_i h2; exact .inl ⟨_, h2, rfl⟩
    · rename_i h2
      split
      · exact .inl ⟨15, by decide, rfl⟩
      · rename_i h3
        exact .inr ⟨by simpa using h1, by simpa using h2, h3, rfl⟩
theorem bind_wf [Tabs] {l : List Holder} {h : Holder} (hl : ∀ x ∈ l, x.Wf) (hh : h.Wf) : ∀ x ∈ bindL l h, x.Wf := fun x hx => by
  rcases mem_bindL.1 hx with rfl | ⟨h1, _⟩
  · exact hh
  · exact hl x h1
theorem bind_ok [Tabs] {s : Issuer} (so : s.ok) {h : Holder} (ho : h.ok) (hroom : s.holders.length ≠ 64 ∨ ∃ u ∈ s.holders, u.t = h.t) : ({ s with holders := bindL s.holders h } : Issuer).ok := by
  have hl := bindL_len so.srt h
  have h64 := so.len
  refine ⟨?_, srt_bindL so.srt h, fun x hx => ?_, so.gone⟩
  · simp only
    rcases hroom with h1 | h1
    · have := hl.1; omega
    · rw [hl.2 h1]; exact h64
  · rcases mem_bindL.1 hx with rfl | ⟨h1, _⟩
    · exact ho
    · exact so.each x h1
end
end Go.Proofs.YtgkmpgfmhjbcjaaGreatX
namespace Go.Proofs.YtgkmpgfmhjbcjaaGreatX
section
open Go Go.YtgkmpgfmhjbcjaaGreatE Go.Proofs
set_option maxRecDepth 100000
set_option autoImplicit false
theorem IssuerEpochs_g [Tabs] (g : Engine) (hw : g.Wf) (s : Issuer) (hsw : s.Wf) (t d o : Int) (ht : U64 t) (hd : U64 d) (seed : List Int) (hb : Byt seed) (again : Bool) :
    CtT Tryz.prog 4 [g.T, s.T, .int .u64 t, .int .u64 d, .int .u64 o, .sl 1 (bys seed), .bool again] (Ret (.bool true) []) := by
  refine Ct.of Tryz.func4 rfl rfl (n := 244) rfl (by simp [ids]) ?_
  refine Told.callT awake22_ct rfl rfl rfl rfl ?_
  obtain ⟨z, hz, ks⟩ := TShort_ct g.terms
  refine Told.callT ks rfl rfl rfl rfl ?_
  cases z with
  | false => exact ⟨[], _, _, ⟨rfl, rfl⟩, rfl, trivial, rfl⟩
  | true =>
  have hsh := hz rfl
  have sm := sm_ofS hsh
  obtain ⟨z, hz, ks⟩ := IShort_ct s
  refine Told.callT ks rfl rfl rfl rfl ?_
  cases z with
  | false => exact ⟨[], _, _, ⟨rfl, rfl⟩, rfl, trivial, rfl⟩
  | true =>
  obtain ⟨s1, s2, s3, s4⟩ := hz rfl
  conv => whnf
  refine brB (fun _ => ?_) (fun hsl => ?_)
  · exact ⟨[], _, _, ⟨rfl, rfl⟩, rfl, trivial, rfl⟩
  have hsd : ∀ e ∈ s.holders, e.seed.length < 1000000 := fun e he => by have := s4 e he; omega
  have seedB : ∀ {y : Issuer}, y.Wf → ∀ e ∈ y.holders, Byt e.seed := fun hy e he => (hy.holders e he).seed
  have kh := Holder_ct s t (by omega) hsd
  have kis := Issue_ct g hw sm s hsw (by omega) hsd (by omega) (by omega) t d ht hd seed hb
  have kre := Rebind_ct g hw sm s hsw (by omega) hsd (by omega) (by omega) t d ht hd seed hb
  have kss := ISame_ct s s hsw.key hsw.key (seedB hsw) (seedB hsw) (by omega) (by omega) (by omega) (by omega)
  have kee := ESame_ct g g hw hw (by have := hsh.1; omega) (by have := hsh.1; omega)
  rw [decide_eq_true rfl] at kss kee
  have hu := findH_e hsw t
  have hfound : (findH s.holders t).2 = 0 → ∃ u ∈ s.holders, u.t = t := fun h => by
    rcases findH_cases s.holders t with ⟨e, he, h1, _⟩ | ⟨_, h2⟩
    · exact ⟨e, he, h1⟩
    · rw [h2] at h; cases h
  have facts : ∀ hd : Holder, hd.t = t → hd.Wf → hd.ok → mayI g s seed → (s.holders.length ≠ 64 ∨ ∃ u ∈ s.holders, u.t = t) →
      CtT Tryz.prog 9 [({ s with holders := bindL s.holders hd } : Issuer).T, .int .u64 t] (Ret (.t (resHold (hd, 0))) []) ∧
      CtT Tryz.prog 25 [(bindR g s hd).1.T, .sl 1 (bys s.key), .sl 1 (bys (bindR g s hd).2.2.1)] (Ret (.t (resOpen (actOf hd) (.v .nilIface))) []) ∧
      CtT Tryz.prog 9 [({ s with holders := bindL s.holders hd } : Issuer).T, .int .u64 o] (Ret (.t (resHold (findH (bindL s.holders hd) o))) []) ∧
      CtT Tryz.prog 21 [({ s with holders := bindL s.holders hd } : Issuer).T] (Ret (.bool true) []) ∧
      (o ≠ t → findH (bindL s.holders hd) o = findH s.holders o) ∧
      ((CtT Tryz.prog 19 [({ s with holders := bindL s.holders hd } : Issuer).T, .int .u64 t] (Ret (.t (.tuple [({ s with holders := bindL s.holders hd } : Issuer).T, .int .i64 12])) []) ∧
        CtT Tryz.prog 23 [({ s with holders := bindL s.holders hd } : Issuer).T, ({ s with holders := bindL s.holders hd } : Issuer).T] (Ret (.bool true) [])) ∨
       ∃ m : List Gon.U, CtT Tryz.prog 19 [({ s with holders := bindL s.holders hd } : Issuer).T, .int .u64 t] (Ret (.t (.tuple [({ s with holders := bindL s.holders hd, gone := m } : Issuer).T, .int .i64 0])) []) ∧
        (∀ u ∈ s.gone, CtT Tryz.prog 26 [.sl 2 (Gon.uses m), u.T] (Ret (.bool true) [])) ∧ CtT Tryz.prog 26 [.sl 2 (Gon.uses m), (⟨t, hd.e⟩ : Gon.U).T] (Ret (.bool true) []) ∧
        CtT Tryz.prog 21 [({ s with holders := bindL s.holders hd, gone := m } : Issuer).T] (Ret (.bool true) [])) := by
    intro hd e1 hhw hho hm hroom
    subst e1
    have so := hm.1
    have ok := bind_ok so hho hroom
    have hl := bindL_len so.srt hd
    have hwf : ∀ x ∈ bindL s.holders hd, x.Wf := bind_wf hsw.holders hhw
    have hse : ∀ e ∈ bindL s.holders hd, e.seed.length < 1000000 := fun e he => by have := (ok.each e he).2; omega
    have k1 := Holder_ct { s with holders := bindL s.holders hd } hd.t (by simp only; omega) hse
    have k3 := Holder_ct { s with holders := bindL s.holders hd } o (by simp only; omega) hse
    simp only at k1 k3
    rw [findH_bind so.srt hd] at k1
    have kr := IRight_ct { s with holders := bindL s.holders hd } (by simp only; omega) (by simp only; omega)
    rw [decide_eq_true ok] at kr
    have kv := Revoke_ct { s with holders := bindL s.holders hd } (by simp only; omega) hse (by simp only; omega) hd.t
    have aw : (actOf hd).Wf := ⟨hhw.t, hhw.e, hhw.d, hhw.seed⟩
    have ao : (actOf hd).ok := ⟨by have := hho.2.1; simp only [actOf]; omega, by have := hho.2.2; simp only [actOf]; omega⟩
    refine ⟨k1, aseal_open g hw sm hm.2.1 hsh.1 s.key hsw.key s1 (actOf hd) aw ao, k3, kr, fun h => findH_other so.srt h, ?_⟩
    have hrv : revokeR { s with holders := bindL s.holders hd } hd.t = if (Gon.putG s.gone ⟨hd.t, hd.e⟩).2 ≠ 0 then ({ s with holders := bindL s.holders hd }, (Gon.putG s.gone ⟨hd.t, hd.e⟩).2) else ({ s with holders := bindL s.holders hd, gone := (Gon.putG s.gone ⟨hd.t, hd.e⟩).1 }, 0) := by
      rw [revokeR, if_neg (by simpa using ok)]
      simp only [findH_bind so.srt hd]
      rw [if_neg (by simp)]
    rcases Gon.putG_cases s.gone ⟨hd.t, hd.e⟩ with ⟨m, hp, hput⟩ | ⟨hp, hno⟩ | ⟨hp, _⟩
    · rw [hp] at hrv
      simp only [ne_eq, not_true_eq_false, if_false] at hrv
      rw [hrv] at kv
      have mok := hput.ok
      have mlen := mok.len
      have zok : ({ s with holders := bindL s.holders hd, gone := m } : Issuer).ok := ⟨ok.len, ok.srt, ok.each, mok⟩
      have kz := IRight_ct { s with holders := bindL s.holders hd, gone := m } (by simp only; omega) (by simp only; omega)
      rw [decide_eq_true zok] at kz
      have has : ∀ u, u ∈ m → CtT Tryz.prog 26 [.sl 2 (Gon.uses m), u.T] (Ret (.bool true) []) := fun u hu => by
        have := Gon.Has_ct m u (by omega)
        rwa [decide_eq_true hu] at this
      exact .inr ⟨m, kv, fun u hu => has u ((hput.mem u).2 (.inr hu)), has _ ((hput.mem _).2 (.inl rfl)), kz⟩
    · exact absurd so.gone hno
    · rw [hp] at hrv
      simp only at hrv
      rw [if_pos (by decide)] at hrv
      rw [hrv] at kv
      have kq := ISame_ct { s with holders := bindL s.holders hd } { s with holders := bindL s.holders hd } hsw.key hsw.key (fun e he => (hwf e he).seed) (fun e he => (hwf e he).seed) (by simp only; omega) (by simp only; omega) (by simp only; omega) (by simp only; omega)
      rw [decide_eq_true rfl] at kq
      exact .inl ⟨kv, kq⟩
  have koth := Holder_ct s o (by omega) hsd
  have hfs : ∀ x, Byt (findH s.holders x).1.seed := fun x => by
    rcases findH_cases s.holders x with ⟨e, he, _, hf⟩ | ⟨_, hf⟩
    · rw [hf]; exact (hsw.holders e he).seed
    · rw [hf]; intro y hy; cases hy
  refine Told.callT kh rfl rfl rfl rfl ?_
  cases again with
  | false =>
    rcases issue_cases g s t d seed with ⟨c, hc, e⟩ | ⟨hm, h2, h3, e⟩
    · rw [e] at kis
      refine Told.callT kis rfl rfl rfl rfl ?_
      conv => whnf
      refine brT (by simpa using hc) ?_
      refine Told.callT kss rfl rfl rfl rfl ?_
      refine Told.callT kee rfl rfl rfl rfl ?_
      exact ⟨[], _, _, ⟨rfl, rfl⟩, rfl, trivial, rfl⟩
    · rw [e] at kis
      obtain ⟨k1, k2, k3, k4, k5, k6⟩ := facts ⟨t, 1, d, seed⟩ rfl ⟨ht, u64s rfl, hd, hb⟩ ⟨by simp, hm.2.2⟩ hm (.inl h3)
      refine Told.callT kis rfl rfl rfl rfl ?_
      refine Told.callT k1 rfl rfl rfl rfl ?_
      refine Told.callT k2 rfl rfl rfl rfl ?_
      by_cases hot : o = t
      · subst hot
        refine Told.callT kh rfl rfl rfl rfl ?_
        refine Told.callT k1 rfl rfl rfl rfl ?_
        refine Told.callT k4 rfl rfl rfl rfl ?_
        conv => whnf
        refine brF (by simp [h2]) ?_
        conv => whnf
        refine brF (by simp) ?_
        refine ⟨_, rfl, _, rfl, fun c hcc => ?_⟩
        have hcc : c = false := by rw [hcc]; simp
        subst hcc
        conv => whnf
        refine brF (by simp [actOf]) ?_
        conv => whnf
        refine brF (by simp [actOf]) ?_
        refine ⟨_, rfl, _, rfl, fun c hcc => ?_⟩
        have hcc : c = false := by rw [hcc]; simp [actOf]
        subst hcc
        conv => whnf
        refine brF (by simp) ?_
        rcases k6 with ⟨k7, k8⟩ | ⟨m, k7, k8, k9, k10⟩
        · refine Told.callT k7 rfl rfl rfl rfl ?_
          refine Told.callT k8 rfl rfl rfl rfl ?_
          exact ⟨[], _, _, ⟨rfl, rfl⟩, rfl, trivial, rfl⟩
        · refine Told.callT k7 rfl rfl rfl rfl ?_
          refine ⟨Nat, fun i => [(2, .t (.int .u64 o)), (18, .ptr 18 0), (21, .int .u64 (1)), (30, .ptr 30 0), (32, .int .i64 i)], fun _ => [(18, false, ({ s with holders := bindL s.holders ⟨o, 1, d, seed⟩ } : Issuer).box), (30, false, ({ s with holders := bindL s.holders ⟨o, 1, d, seed⟩, gone := m } : Issuer).box)], fun i => i ≤ s.gone.length, fun i => s.gone.length - i, 0, Nat.zero_le _, Le.of [] ⟨rfl, rfl, rfl, rfl, rfl, trivial⟩ ⟨rfl, rfl, trivial⟩ rfl, ?_⟩
          intro i hi
          refine brB (fun hc => ?_) (fun hc => ?_)
          · have hc : i < s.gone.length := by have h := of_decide_eq_true hc; rw [Gon.uses_len] at h; exact Int.ofNat_lt.1 h
            have hx : s.gone[i]? = some s.gone[i] := List.getElem?_eq_getElem hc
            have kk := k8 s.gone[i] (List.getElem_mem hc)
            generalize s.gone[i] = u at hx kk
            refine ⟨by omega, _, Gon.uses_get rfl hx, ?_⟩
            refine Told.callT kk rfl rfl rfl rfl ?_
            exact ⟨i + 1, hc, Le.of [] ⟨rfl, rfl, rfl, rfl, congrArg (AV.int .i64) (wi (by omega) (by omega)), trivial⟩ ⟨rfl, rfl, trivial⟩ rfl, by show s.gone.length - (i + 1) < s.gone.length - i; omega⟩
          · refine Told.callT k9 rfl rfl rfl rfl ?_
            refine Told.callT k10 rfl rfl rfl rfl ?_
            exact ⟨[], _, _, ⟨rfl, rfl⟩, rfl, trivial, rfl⟩
      · refine Told.callT koth rfl rfl rfl rfl ?_
        rw [k5 hot] at k3
        have khe := HEq_ct (findH s.holders o).1 (findH s.holders o).1 (hfs o) (hfs o)
        rw [decide_eq_true rfl] at khe
        refine Told.callT k3 rfl rfl rfl rfl ?_
        refine Told.callT k4 rfl rfl rfl rfl ?_
        conv => whnf
        refine brF (by simp [h2]) ?_
        conv => whnf
        refine brF (by simp) ?_
        refine ⟨_, rfl, _, rfl, fun c hcc => ?_⟩
        have hcc : c = false := by rw [hcc]; simp
        subst hcc
        conv => whnf
        refine brF (by simp [actOf]) ?_
        conv => whnf
        refine brF (by simp [actOf]) ?_
        refine ⟨_, rfl, _, rfl, fun c hcc => ?_⟩
        have hcc : c = false := by rw [hcc]; simp [actOf]
        subst hcc
        conv => whnf
        refine brT (by simpa using hot) ?_
        conv => whnf
        refine brF (by simp) ?_
        refine Told.callT khe rfl rfl rfl rfl ?_
        rcases k6 with ⟨k7, k8⟩ | ⟨m, k7, k8, k9, k10⟩
        · refine Told.callT k7 rfl rfl rfl rfl ?_
          refine Told.callT k8 rfl rfl rfl rfl ?_
          exact ⟨[], _, _, ⟨rfl, rfl⟩, rfl, trivial, rfl⟩
        · refine Told.callT k7 rfl rfl rfl rfl ?_
          refine ⟨Nat, fun i => [(2, .t (.int .u64 t)), (18, .ptr 18 0), (21, .int .u64 (1)), (30, .ptr 30 0), (32, .int .i64 i)], fun _ => [(18, false, ({ s with holders := bindL s.holders ⟨t, 1, d, seed⟩ } : Issuer).box), (30, false, ({ s with holders := bindL s.holders ⟨t, 1, d, seed⟩, gone := m } : Issuer).box)], fun i => i ≤ s.gone.length, fun i => s.gone.length - i, 0, Nat.zero_le _, Le.of [] ⟨rfl, rfl, rfl, rfl, rfl, trivial⟩ ⟨rfl, rfl, trivial⟩ rfl, ?_⟩
          intro i hi
          refine brB (fun hc => ?_) (fun hc => ?_)
          · have hc : i < s.gone.length := by have h := of_decide_eq_true hc; rw [Gon.uses_len] at h; exact Int.ofNat_lt.1 h
            have hx : s.gone[i]? = some s.gone[i] := List.getElem?_eq_getElem hc
            have kk := k8 s.gone[i] (List.getElem_mem hc)
            generalize s.gone[i] = u at hx kk
            refine ⟨by omega, _, Gon.uses_get rfl hx, ?_⟩
            refine Told.callT kk rfl rfl rfl rfl ?_
            exact ⟨i + 1, hc, Le.of [] ⟨rfl, rfl, rfl, rfl, congrArg (AV.int .i64) (wi (by omega) (by omega)), trivial⟩ ⟨rfl, rfl, trivial⟩ rfl, by show s.gone.length - (i + 1) < s.gone.length - i; omega⟩
          · refine Told.callT k9 rfl rfl rfl rfl ?_
            refine Told.callT k10 rfl rfl rfl rfl ?_
            exact ⟨[], _, _, ⟨rfl, rfl⟩, rfl, trivial, rfl⟩
  | true =>
    generalize issueR g s t d seed = q at kis
    refine Told.callT kis rfl rfl rfl rfl ?_
    rcases rebind_cases g s t d seed with ⟨c, hc, e⟩ | ⟨hm, h2, h3, e⟩
    · rw [e] at kre
      refine Told.callT kre rfl rfl rfl rfl ?_
      conv => whnf
      refine brT (by simpa using hc) ?_
      refine Told.callT kss rfl rfl rfl rfl ?_
      refine Told.callT kee rfl rfl rfl rfl ?_
      exact ⟨[], _, _, ⟨rfl, rfl⟩, rfl, trivial, rfl⟩
    · have w1 : IntKind.u64.wrap ((findH s.holders t).1.e + 1) = (findH s.holders t).1.e + 1 := by
        unfold U64 at hu
        simp [IntKind.wrap, IntKind.signed, IntKind.bits]; omega
      rw [← w1] at e
      have hne : IntKind.u64.wrap ((findH s.holders t).1.e + 1) ≠ 0 := by rw [w1]; unfold U64 at hu; omega
      rw [e] at kre
      obtain ⟨k1, k2, k3, k4, k5, k6⟩ := facts ⟨t, IntKind.u64.wrap ((findH s.holders t).1.e + 1), d, seed⟩ rfl ⟨ht, by rw [w1]; unfold U64 at *; simp only; omega, hd, hb⟩ ⟨hne, hm.2.2⟩ hm (.inr (hfound h2))
      refine Told.callT kre rfl rfl rfl rfl ?_
      refine Told.callT k1 rfl rfl rfl rfl ?_
      refine Told.callT k2 rfl rfl rfl rfl ?_
      by_cases hot : o = t
      · subst hot
        refine Told.callT kh rfl rfl rfl rfl ?_
        refine Told.callT k1 rfl rfl rfl rfl ?_
        refine Told.callT k4 rfl rfl rfl rfl ?_
        conv => whnf
        refine brF (by simp [h2]) ?_
        conv => whnf
        refine brF (by simp) ?_
        conv => whnf
        refine brF (decide_eq_false hne) ?_
        conv => whnf
        refine brF (by simp) ?_
        refine ⟨_, rfl, _, rfl, fun c hcc => ?_⟩
        have hcc : c = false := by rw [hcc]; simp
        subst hcc
        conv => whnf
        refine brF (by simp [actOf]) ?_
        conv => whnf
        refine brF (by simp [actOf]) ?_
        conv => whnf
        refine brF (by simp [actOf]) ?_
        refine ⟨_, rfl, _, rfl, fun c hcc => ?_⟩
        have hcc : c = false := by rw [hcc]; simp [actOf]
        subst hcc
        conv => whnf
        refine brF (by simp) ?_
        rcases k6 with ⟨k7, k8⟩ | ⟨m, k7, k8, k9, k10⟩
        · refine Told.callT k7 rfl rfl rfl rfl ?_
          refine Told.callT k8 rfl rfl rfl rfl ?_
          exact ⟨[], _, _, ⟨rfl, rfl⟩, rfl, trivial, rfl⟩
        · refine Told.callT k7 rfl rfl rfl rfl ?_
          refine ⟨Nat, fun i => [(2, .t (.int .u64 o)), (18, .ptr 18 0), (21, .int .u64 (IntKind.u64.wrap ((findH s.holders o).1.e + 1))), (30, .ptr 30 0), (32, .int .i64 i)], fun _ => [(18, false, ({ s with holders := bindL s.holders ⟨o, IntKind.u64.wrap ((findH s.holders o).1.e + 1), d, seed⟩ } : Issuer).box), (30, false, ({ s with holders := bindL s.holders ⟨o, IntKind.u64.wrap ((findH s.holders o).1.e + 1), d, seed⟩, gone := m } : Issuer).box)], fun i => i ≤ s.gone.length, fun i => s.gone.length - i, 0, Nat.zero_le _, Le.of [] ⟨rfl, rfl, rfl, rfl, rfl, trivial⟩ ⟨rfl, rfl, trivial⟩ rfl, ?_⟩
          intro i hi
          refine brB (fun hc => ?_) (fun hc => ?_)
          · have hc : i < s.gone.length := by have h := of_decide_eq_true hc; rw [Gon.uses_len] at h; exact Int.ofNat_lt.1 h
            have hx : s.gone[i]? = some s.gone[i] := List.getElem?_eq_getElem hc
            have kk := k8 s.gone[i] (List.getElem_mem hc)
            generalize s.gone[i] = u at hx kk
            refine ⟨by omega, _, Gon.uses_get rfl hx, ?_⟩
            refine Told.callT kk rfl rfl rfl rfl ?_
            exact ⟨i + 1, hc, Le.of [] ⟨rfl, rfl, rfl, rfl, congrArg (AV.int .i64) (wi (by omega) (by omega)), trivial⟩ ⟨rfl, rfl, trivial⟩ rfl, by show s.gone.length - (i + 1) < s.gone.length - i; omega⟩
          · refine Told.callT k9 rfl rfl rfl rfl ?_
            refine Told.callT k10 rfl rfl rfl rfl ?_
            exact ⟨[], _, _, ⟨rfl, rfl⟩, rfl, trivial, rfl⟩
      · refine Told.callT koth rfl rfl rfl rfl ?_
        rw [k5 hot] at k3
        have khe := HEq_ct (findH s.holders o).1 (findH s.holders o).1 (hfs o) (hfs o)
        rw [decide_eq_true rfl] at khe
        refine Told.callT k3 rfl rfl rfl rfl ?_
        refine Told.callT k4 rfl rfl rfl rfl ?_
        conv => whnf
        refine brF (by simp [h2]) ?_
        conv => whnf
        refine brF (by simp) ?_
        conv => whnf
        refine brF (decide_eq_false hne) ?_
        conv => whnf
        refine brF (by simp) ?_
        refine ⟨_, rfl, _, rfl, fun c hcc => ?_⟩
        have hcc : c = false := by rw [hcc]; simp
        subst hcc
        conv => whnf
        refine brF (by simp [actOf]) ?_
        conv => whnf
        refine brF (by simp [actOf]) ?_
        conv => whnf
        refine brF (by simp [actOf]) ?_
        refine ⟨_, rfl, _, rfl, fun c hcc => ?_⟩
        have hcc : c = false := by rw [hcc]; simp [actOf]
        subst hcc
        conv => whnf
        refine brT (by simpa using hot) ?_
        conv => whnf
        refine brF (by simp) ?_
        refine Told.callT khe rfl rfl rfl rfl ?_
        rcases k6 with ⟨k7, k8⟩ | ⟨m, k7, k8, k9, k10⟩
        · refine Told.callT k7 rfl rfl rfl rfl ?_
          refine Told.callT k8 rfl rfl rfl rfl ?_
          exact ⟨[], _, _, ⟨rfl, rfl⟩, rfl, trivial, rfl⟩
        · refine Told.callT k7 rfl rfl rfl rfl ?_
          refine ⟨Nat, fun i => [(2, .t (.int .u64 t)), (18, .ptr 18 0), (21, .int .u64 (IntKind.u64.wrap ((findH s.holders t).1.e + 1))), (30, .ptr 30 0), (32, .int .i64 i)], fun _ => [(18, false, ({ s with holders := bindL s.holders ⟨t, IntKind.u64.wrap ((findH s.holders t).1.e + 1), d, seed⟩ } : Issuer).box), (30, false, ({ s with holders := bindL s.holders ⟨t, IntKind.u64.wrap ((findH s.holders t).1.e + 1), d, seed⟩, gone := m } : Issuer).box)], fun i => i ≤ s.gone.length, fun i => s.gone.length - i, 0, Nat.zero_le _, Le.of [] ⟨rfl, rfl, rfl, rfl, rfl, trivial⟩ ⟨rfl, rfl, trivial⟩ rfl, ?_⟩
          intro i hi
          refine brB (fun hc => ?_) (fun hc => ?_)
          · have hc : i < s.gone.length := by have h := of_decide_eq_true hc; rw [Gon.uses_len] at h; exact Int.ofNat_lt.1 h
            have hx : s.gone[i]? = some s.gone[i] := List.getElem?_eq_getElem hc
            have kk := k8 s.gone[i] (List.getElem_mem hc)
            generalize s.gone[i] = u at hx kk
            refine ⟨by omega, _, Gon.uses_get rfl hx, ?_⟩
            refine Told.callT kk rfl rfl rfl rfl ?_
            exact ⟨i + 1, hc, Le.of [] ⟨rfl, rfl, rfl, rfl, congrArg (AV.int .i64) (wi (by omega) (by omega)), trivial⟩ ⟨rfl, rfl, trivial⟩ rfl, by show s.gone.length - (i + 1) < s.gone.length - i; omega⟩
          · refine Told.callT k9 rfl rfl rfl rfl ?_
            refine Told.callT k10 rfl rfl rfl rfl ?_
            exact ⟨[], _, _, ⟨rfl, rfl⟩, rfl, trivial, rfl⟩
end
end Go.Proofs.YtgkmpgfmhjbcjaaGreatX
namespace Go.Proofs.YtgkmpgfmhjbcjaaGreatX
section
open Go Go.YtgkmpgfmhjbcjaaGreatE Go.Proofs
set_option maxRecDepth 100000
set_option autoImplicit false
theorem Gon.exc_U [Tabs] {n : Nat} {ts : List T} (h : WfC Tryz.prog n 63 ts) : ∃ x : Gon.U, ts = [.int .u64 x.t, .int .u64 x.e] ∧ x.Wf := by
  obtain ⟨hl, m, hf⟩ := h.struct Tryz.underlying63
  obtain ⟨c0, c1, rfl⟩ : ∃ c0 c1, ts = [c0, c1] := by
    match ts, hl.trans rfl with
    | [c0, c1], _ => exact ⟨c0, c1, rfl⟩
  obtain ⟨x0, e0, w0⟩ := (hf _ (List.mem_cons_self ..)).int Tryz.underlying26
  replace e0 : [c0] = _ := e0
  simp only [List.cons.injEq, and_true] at e0
  subst e0
  obtain ⟨x1, e1, w1⟩ := (hf _ (List.mem_cons_of_mem _ (List.mem_cons_self ..))).int Tryz.underlying26
  replace e1 : [c1] = _ := e1
  simp only [List.cons.injEq, and_true] at e1
  subst e1
  exact ⟨⟨x0, x1⟩, rfl, ⟨wf_u64 w0, wf_u64 w1⟩⟩
theorem Gon.ex_U' [Tabs] {n : Nat} {ts : List T} (h : WfC Tryz.prog n 63 ts) : ∃ x : Gon.U, mkE Tryz.prog 63 ts = x.T ∧ x.Wf := by
  obtain ⟨x, rfl, w⟩ := Gon.exc_U h
  exact ⟨x, rfl, w⟩
theorem Gon.exs_U' [Tabs] {n : Nat} {ts : List T} (h : WfC Tryz.prog n 28 ts) : ∃ l : List Gon.U, mkE Tryz.prog 28 ts = .sl 2 (l.map Gon.U.T) ∧ ∀ x ∈ l, x.Wf := by
  obtain ⟨l, m', rfl, _, hl'⟩ := h.slice Tryz.underlying28
  obtain ⟨r, rfl, hr⟩ := row_of (f := Gon.U.T) (p := Gon.U.Wf) hl' (fun cs hcs => Gon.ex_U' hcs)
  exact ⟨r, rfl, hr⟩
theorem exc_Holder [Tabs] {n : Nat} {ts : List T} (h : WfC Tryz.prog n 35 ts) : ∃ x : Holder, ts = [.int .u64 x.t, .int .u64 x.e, .int .u64 x.d, .sl 1 (bys x.seed)] ∧ x.Wf := by
  obtain ⟨hl, m, hf⟩ := h.struct Tryz.underlying35
  obtain ⟨c0, c1, c2, c3, rfl⟩ : ∃ c0 c1 c2 c3, ts = [c0, c1, c2, c3] := by
    match ts, hl.trans rfl with
    | [c0, c1, c2, c3], _ => exact ⟨c0, c1, c2, c3, rfl⟩
  obtain ⟨x0, e0, w0⟩ := (hf _ (List.mem_cons_self ..)).int Tryz.underlying26
  replace e0 : [c0] = _ := e0
  simp only [List.cons.injEq, and_true] at e0
  subst e0
  obtain ⟨x1, e1, w1⟩ := (hf _ (List.mem_cons_of_mem _ (List.mem_cons_self ..))).int Tryz.underlying26
  replace e1 : [c1] = _ := e1
  simp only [List.cons.injEq, and_true] at e1
  subst e1
  obtain ⟨x2, e2, w2⟩ := (hf _ (List.mem_cons_of_mem _ (List.mem_cons_of_mem _ (List.mem_cons_self ..)))).int Tryz.underlying26
  replace e2 : [c2] = _ := e2
  simp only [List.cons.injEq, and_true] at e2
  subst e2
  obtain ⟨x3, e3, w3⟩ := ex_bys' (hf _ (List.mem_cons_of_mem _ (List.mem_cons_of_mem _ (List.mem_cons_of_mem _ (List.mem_cons_self ..)))))
  replace e3 : c3 = _ := e3
  subst e3
  exact ⟨⟨x0, x1, x2, x3⟩, rfl, ⟨wf_u64 w0, wf_u64 w1, wf_u64 w2, w3⟩⟩
theorem ex_Holder' [Tabs] {n : Nat} {ts : List T} (h : WfC Tryz.prog n 35 ts) : ∃ x : Holder, mkE Tryz.prog 35 ts = x.T ∧ x.Wf := by
  obtain ⟨x, rfl, w⟩ := exc_Holder h
  exact ⟨x, rfl, w⟩
theorem exs_Holder' [Tabs] {n : Nat} {ts : List T} (h : WfC Tryz.prog n 27 ts) : ∃ l : List Holder, mkE Tryz.prog 27 ts = .sl 4 (l.map Holder.T) ∧ ∀ x ∈ l, x.Wf := by
  obtain ⟨l, m', rfl, _, hl'⟩ := h.slice Tryz.underlying27
  obtain ⟨r, rfl, hr⟩ := row_of (f := Holder.T) (p := Holder.Wf) hl' (fun cs hcs => ex_Holder' hcs)
  exact ⟨r, rfl, hr⟩
theorem exc_Issuer [Tabs] {n : Nat} {ts : List T} (h : WfC Tryz.prog n 30 ts) : ∃ x : Issuer, ts = [.sl 1 (bys x.key), .int .u64 x.v, .sl 4 (x.holders.map Holder.T), .sl 2 (x.gone.map Gon.U.T)] ∧ x.Wf := by
  obtain ⟨hl, m, hf⟩ := h.struct Tryz.underlying30
  obtain ⟨c0, c1, c2, c3, rfl⟩ : ∃ c0 c1 c2 c3, ts = [c0, c1, c2, c3] := by
    match ts, hl.trans rfl with
    | [c0, c1, c2, c3], _ => exact ⟨c0, c1, c2, c3, rfl⟩
  obtain ⟨x0, e0, w0⟩ := ex_bys' (hf _ (List.mem_cons_self ..))
  replace e0 : c0 = _ := e0
  subst e0
  obtain ⟨x1, e1, w1⟩ := (hf _ (List.mem_cons_of_mem _ (List.mem_cons_self ..))).int Tryz.underlying26
  replace e1 : [c1] = _ := e1
  simp only [List.cons.injEq, and_true] at e1
  subst e1
  obtain ⟨x2, e2, w2⟩ := exs_Holder' (hf _ (List.mem_cons_of_mem _ (List.mem_cons_of_mem _ (List.mem_cons_self ..))))
  replace e2 : c2 = _ := e2
  subst e2
  obtain ⟨x3, e3, w3⟩ := Gon.exs_U' (hf _ (List.mem_cons_of_mem _ (List.mem_cons_of_mem _ (List.mem_cons_of_mem _ (List.mem_cons_self ..)))))
  replace e3 : c3 = _ := e3
  subst e3
  exact ⟨⟨x0, x1, x2, x3⟩, rfl, ⟨w0, wf_u64 w1, w2, w3⟩⟩
theorem ex_Issuer' [Tabs] {n : Nat} {ts : List T} (h : WfC Tryz.prog n 30 ts) : ∃ x : Issuer, mkE Tryz.prog 30 ts = x.T ∧ x.Wf := by
  obtain ⟨x, rfl, w⟩ := exc_Issuer h
  exact ⟨x, rfl, w⟩
end
end Go.Proofs.YtgkmpgfmhjbcjaaGreatX
namespace Go.Proofs.YtgkmpgfmhjbcjaaGreatX
section
open Go Go.YtgkmpgfmhjbcjaaGreatE Go.Proofs Go.RowKit
set_option maxRecDepth 100000
set_option autoImplicit false
theorem ownNone : ownKnob Tryz.prog.godebug = none := by kernel_rfl
theorem ints_of_shaped {P : Program} {w : World} {g : Nat} {t u : TypeId} {k : IntKind} (n : Nat) (h : w.ShapedOpen P) (hg : g < P.globals.size)
    (h0 : (((begin P (fun _ _ => 0) default).world.heap[g]?).bind Obj.row?).any (fun z => z.1.size == n && z.2 == t) = true)
    (hb : P.buildable t = true) (hc : P.cellTypes P.depth t = some (List.replicate n u)) (hu : P.underlying u = some (.int k)) :
    g < w.heap.size ∧ ∃ f : Nat → Int, ∀ i, i < n → w.cell? ⟨g, i, none⟩ = some (.int k (f i)) := by
  obtain ⟨⟨zero, t'⟩, e0, e1⟩ := (Option.any_eq_true _ _).1 h0
  simp only [Bool.and_eq_true, beq_iff_eq] at e1
  obtain ⟨e1, rfl⟩ := e1
  obtain ⟨cs, hh, hs, hr⟩ := h.1 g zero t' hg e0
  obtain ⟨ts, hts, _, hall⟩ := hr hb
  rw [hc] at hts
  cases hts
  have key : ∀ i, ∃ m, i < n → w.cell? ⟨g, i, none⟩ = some (.int k m) := fun i => by
    by_cases hi : i < n
    · have h1 : i < cs.size := by omega
      obtain ⟨u', hu', hok⟩ := hall i cs[i] (by simp [h1])
      have : u' = u := by
        have h2 : (List.replicate n u)[i % (List.replicate n u).length]? = some u := by rw [List.length_replicate, Nat.mod_eq_of_lt hi, List.getElem?_replicate]; simp [hi]
        exact Option.some.inj (hu'.symm.trans h2)
      subst this
      have hcell : w.cell? ⟨g, i, none⟩ = some cs[i] := by simp [World.cell?, hh, h1]
      rw [hcell]
      unfold Cell.ok at hok
      rw [hu] at hok
      cases hv : cs[i] <;> rw [hv] at hok <;> simp at hok
      case int k' m => exact ⟨m, fun _ => by rw [hok.1]⟩
    · exact ⟨0, fun h => absurd h hi⟩
  refine ⟨(Array.getElem?_eq_some_iff.1 hh).1, fun i => Classical.choose (key i), fun i hi => Classical.choose_spec (key i) hi⟩
theorem HT.tab {w : World} {g n : Nat} {k : IntKind} {f : Nat → Int} (hb : g < w.heap.size) (h : ∀ i, i < n → w.cell? ⟨g, i, none⟩ = some (.int k (f i))) (l : List T) (hl : l = (List.range n).map fun i => .v (.int k (f i))) :
    HT w (fun _ => False) (.pt l) (.pointer (some ⟨g, 0, none⟩)) := by
  subst hl
  refine .pt _ g 0 (fun i => .int k (f i)) (fun h => h) hb ?_ ?_ ?_
  · intro y hy
    obtain ⟨i, _, rfl⟩ := List.mem_map.1 hy
    rfl
  · intro i hi
    rw [List.length_map, List.length_range] at hi
    rw [Nat.zero_add]
    exact h i hi
  · intro i x hx
    rw [List.getElem?_map] at hx
    obtain ⟨j, hj, rfl⟩ := Option.map_eq_some_iff.1 hx
    obtain ⟨hi, hj⟩ := List.getElem?_eq_some_iff.1 hj
    rw [List.getElem_range] at hj
    subst hj
    exact .v _
theorem globs_of {W : World} (hS : W.ShapedOpen Tryz.prog) : ∃ i : Tabs, @Globs i W := by
  obtain ⟨b1, f1, h1⟩ := ints_of_shaped (g := 0) (t := 200) (u := 173) (k := .u32) 8 hS (of_decide_eq_true (by kernel_rfl)) (by kernel_rfl) (by kernel_rfl) (by kernel_rfl) (by kernel_rfl)
  obtain ⟨b2, f2, h2⟩ := ints_of_shaped (g := 1) (t := 210) (u := 173) (k := .u32) 64 hS (of_decide_eq_true (by kernel_rfl)) (by kernel_rfl) (by kernel_rfl) (by kernel_rfl) (by kernel_rfl)
  exact ⟨⟨f2, f1⟩, List.forall_mem_cons.2 ⟨HT.tab b2 h2 _ rfl, List.forall_mem_cons.2 ⟨HT.tab b1 h1 _ rfl, fun _ h => by cases h⟩⟩⟩
end
end Go.Proofs.YtgkmpgfmhjbcjaaGreatX
