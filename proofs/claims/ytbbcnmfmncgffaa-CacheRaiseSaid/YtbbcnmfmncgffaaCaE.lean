-- Written by hand for this claim's session.
import Derived.Test.YtbbcnmfmncgffaaCaD
open Go Go.YtbbcnmfmncgffaaE Go.Proofs
set_option maxRecDepth 100000
set_option autoImplicit false
namespace Go.Proofs.YtbbcnmfmncgffaaX
theorem ins_grow (l : List U) (y : U) (i : Nat) (z : T) (hi : i < l.length) :
    List.take (i + 1) (List.take i (List.take i (List.drop 0 (uses l)) ++ List.replicate (l.length + 1 - i) z) ++ List.take 1 (uses [y]) ++ List.drop (i + 1) (List.take i (List.drop 0 (uses l)) ++ List.replicate (l.length + 1 - i) z)) ++
      List.take (l.length - i) (List.drop i (uses l)) ++ List.drop (i + 1 + (l.length - i)) (List.take i (List.take i (List.drop 0 (uses l)) ++ List.replicate (l.length + 1 - i) z) ++ List.take 1 (uses [y]) ++ List.drop (i + 1) (List.take i (List.drop 0 (uses l)) ++ List.replicate (l.length + 1 - i) z)) = uses (l.take i ++ y :: l.drop i) := by
  have h1 : List.take i (List.take i (List.drop 0 (uses l)) ++ List.replicate (l.length + 1 - i) z) = uses (l.take i) := by
    rw [List.drop_zero, List.take_append_of_le_length (by simp; omega), List.take_take, Nat.min_self]; simp [uses]
  have h2 : (List.take i (List.take i (List.drop 0 (uses l)) ++ List.replicate (l.length + 1 - i) z) ++ List.take 1 (uses [y]) ++ List.drop (i + 1) (List.take i (List.drop 0 (uses l)) ++ List.replicate (l.length + 1 - i) z)).length = l.length + 1 := by simp; omega
  rw [List.drop_of_length_le (i := i + 1 + (l.length - i)) (by rw [h2]; omega), List.append_nil, h1]
  rw [List.take_append_of_le_length (by simp; omega), List.take_of_length_le (by simp; omega), List.take_of_length_le (l := List.drop i (uses l)) (by simp)]
  simp [uses]
theorem ins_shift (l : List U) (y : U) (i : Nat) (hi : i < l.length) :
    l.length + 1 = (List.take i (List.take (i + 1) (uses l) ++ List.take (l.length - i) (List.drop i (uses l)) ++ List.drop (i + 1 + (l.length - i)) (uses l)) ++ List.take 1 (uses [y]) ++ List.drop (i + 1) (List.take (i + 1) (uses l) ++ List.take (l.length - i) (List.drop i (uses l)) ++ List.drop (i + 1 + (l.length - i)) (uses l))).length ∧
    List.take i (List.take (i + 1) (uses l) ++ List.take (l.length - i) (List.drop i (uses l)) ++ List.drop (i + 1 + (l.length - i)) (uses l)) ++ List.take 1 (uses [y]) ++ List.drop (i + 1) (List.take (i + 1) (uses l) ++ List.take (l.length - i) (List.drop i (uses l)) ++ List.drop (i + 1 + (l.length - i)) (uses l)) = uses (l.take i ++ y :: l.drop i) := by
  have e : List.take (i + 1) (uses l) ++ List.take (l.length - i) (List.drop i (uses l)) ++ List.drop (i + 1 + (l.length - i)) (uses l) = List.take (i + 1) (uses l) ++ List.drop i (uses l) := by
    rw [List.drop_of_length_le (i := i + 1 + (l.length - i)) (by simp; omega), List.append_nil, List.take_of_length_le (l := List.drop i (uses l)) (by simp)]
  rw [e]
  have e2 : List.take i (List.take (i + 1) (uses l) ++ List.drop i (uses l)) = uses (l.take i) := by
    rw [List.take_append_of_le_length (by simp; omega), List.take_take, Nat.min_eq_left (by omega)]; simp [uses]
  have e3 : List.drop (i + 1) (List.take (i + 1) (uses l) ++ List.drop i (uses l)) = uses (l.drop i) := by
    rw [List.drop_append_of_le_length (by simp; omega), List.drop_of_length_le (l := List.take (i + 1) (uses l)) (by simp; omega)]; simp [uses]
  rw [e2, e3]
  refine ⟨by simp; omega, by simp [uses]⟩
theorem Insert_ct (l : List U) (y : U) (i : Nat) (hl : l.length < 100000) (hi : i ≤ l.length) : Ct Try.prog 19 [.own 0, .int .i64 i, .own 1] [(0, false, URow l), (1, false, URow [y])] (Ret (.own 2) [(2, false, URow (l.take i ++ y :: l.drop i)), (1, false, URow [y]), (0, false, .dead)]) := by
  have hn := uses_len l
  rcases Nat.lt_or_ge i l.length with hi | hge
  · have hne : uses l ≠ [] := fun e => by rw [e] at hn; simp at hn; omega
    refine Ct.room hne (by rw [hn]; unfold maxLen; omega) rfl rfl (fun N h1 h2 => ?_)
    rw [hn] at h1 ⊢
    unfold maxLen at h2
    refine Ct.ofL Try.func19 rfl rfl (n := 95) rfl (by simp [ids]; exact ⟨rfl, rfl⟩) (by simp) ?_
    refine ⟨i, l.length - i, by omega, by omega, by omega, by omega, by omega, by omega, ?_⟩
    refine brB (fun h => absurd (of_decide_eq_true h) (by omega)) (fun _ => ?_)
    have w1 : IntKind.i64.wrap ((l.length : Int) + (uses [y]).length) = (l.length : Int) + 1 := wi (by show _ ≤ (l.length : Int) + 1; omega) (by show (l.length : Int) + 1 < _; omega)
    have w3 : IntKind.i64.wrap ((i : Int) + (uses [y]).length) = (i : Int) + 1 := wi (by show _ ≤ (i : Int) + 1; omega) (by show (i : Int) + 1 < _; omega)
    refine brB (fun hc => ?_) (fun hc => ?_)
    · have hN : N = l.length := by
        have h3 : IntKind.i64.wrap ((l.length : Int) + (uses [y]).length) > ((N - 0 : Nat) : Int) := of_decide_eq_true hc
        rw [w1] at h3; omega
      subst hN
      have w2 : IntKind.i64.wrap (IntKind.i64.wrap ((l.length : Int) + (uses [y]).length) - i) = (l.length : Int) + 1 - i := by rw [w1]; exact wi (by omega) (by omega)
      have hlen : (List.take i (List.drop 0 (uses l)) ++ List.replicate (l.length + 1 - i) (zeroT (Value.agg #[Value.int IntKind.u64 0, Value.int IntKind.u64 0, Value.int IntKind.u64 0]))).length = l.length + 1 := by simp; omega
      refine ⟨0, i, by omega, by omega, by omega, by omega, by omega, by omega, l.length + 1 - i, by rw [w2]; omega, by rw [hn]; omega, by simp; omega, by show _ * 24 ≤ _; simp; omega, ?_⟩
      refine ⟨i, l.length + 1 - i, rfl, by rw [hlen]; omega, by omega, by rw [hlen]; omega, by omega, 1, by show 1 = min 1 _; omega, trivial, ?_⟩
      refine ⟨i + 1, l.length - i, by rw [w3]; omega, by rw [w3]; simp; omega, by rw [w3]; omega, by rw [w3]; simp; omega, by omega, i, l.length - i, by omega, by omega, by omega, by omega, by omega, by omega, l.length - i, by simp, by rw [hn]; omega, ?_⟩
      refine ⟨_, _, Le.kill 0 rfl, ?_⟩
      refine ⟨[(2, 40)], _, _, ⟨rfl, rfl⟩, rfl, ⟨congrArg (fun x => (false, Blk.row 27 3 x)) ?_, rfl, rfl, trivial⟩, rfl⟩
      exact ins_grow l y i _ (by omega)
    · have hN : l.length + 1 ≤ N := by
        have h3 : ¬ (IntKind.i64.wrap ((l.length : Int) + (uses [y]).length) > ((N - 0 : Nat) : Int)) := of_decide_eq_false hc
        rw [w1] at h3; omega
      refine ⟨0, l.length + 1, by omega, by rw [w1]; omega, by omega, by rw [w1]; omega, by rw [w1]; omega, by omega, i + 1, l.length - i, by rw [w3]; omega, by rw [w3]; omega, by rw [w3]; omega, by rw [w3]; omega, by omega, by omega, ?_⟩
      refine Told.overlaps (tS := 23) (tR := 4) rfl Try.func27 rfl rfl (by kernel_rfl) (by kernel_rfl) rfl rfl rfl rfl rfl rfl (by simp) hne rfl ?_
      refine ⟨i + 1, l.length - i, by rw [w3]; omega, by rw [w3]; omega, by rw [w3]; omega, by rw [w3]; omega, by omega, by omega, i, l.length + 1 - i, by omega, by omega, by omega, by omega, by omega, by omega, l.length - i, by show _ = min _ _; omega, by rw [hn]; omega, by rw [hn]; omega, by omega, ?_⟩
      refine ⟨i, l.length + 1 - i, by omega, by omega, by omega, by omega, by omega, by omega, 1, by show 1 = min 1 _; omega, trivial, by simp; omega, by omega, ?_⟩
      have hz := ins_shift l y i (by omega)
      refine ⟨_, _, Le.trans (Le.cutA 6 0 50 27 3 N _ (congrArg (fun n => AV.fsub 0 3 0 n N) hz.1) rfl rfl) (Le.refl _ _ _), ?_⟩
      refine ⟨[(2, 50)], _, _, ⟨rfl, rfl⟩, rfl, ⟨congrArg (fun x => (false, Blk.row 27 3 x)) ?_, rfl, rfl, trivial⟩, rfl⟩
      exact hz.2
  · have : i = l.length := by omega
    subst this
    refine Ct.ofL Try.func19 rfl rfl (n := 95) rfl (by simp [ids]; exact ⟨rfl, rfl⟩) (by simp) ?_
    refine ⟨l.length, 0, rfl, by rw [hn]; omega, by omega, by rw [hn]; omega, by omega, ?_⟩
    refine brB (fun _ => ?_) (fun h => absurd (of_decide_eq_false h) (by rw [hn]; simp))
    refine ⟨by show _ * 24 ≤ _; simp; omega, ?_⟩
    refine ⟨_, _, Le.refl _ _ _, ?_⟩
    refine ⟨[(2, 25)], _, _, ⟨rfl, rfl⟩, rfl, ⟨congrArg (fun x => (false, Blk.row 27 3 x)) ?_, rfl, rfl, trivial⟩, rfl⟩
    simp [uses]
end Go.Proofs.YtbbcnmfmncgffaaX
