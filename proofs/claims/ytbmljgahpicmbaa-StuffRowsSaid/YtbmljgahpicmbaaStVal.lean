-- Written by hand for this claim's session.
import Derived.Test.YtbmljgahpicmbaaStBits
open Go Go.YtbmljgahpicmbaaE Go.Proofs
set_option maxRecDepth 100000
set_option autoImplicit false
namespace Go.Proofs.YtbmljgahpicmbaaSt
theorem bi_val (b : Bool) : bi b = (val [b] : Nat) := by cases b <;> rfl
theorem ref_value_ct (x : List Bool) (h8 : x.length = 8) : CtT Try.prog 14 [.sl 1 (bys (x.map bi))] (Ret (.int .u8 (V x)) []) := by
  refine Ct.of Try.func14 (by rfl) rfl (n := 17) rfl (by simp [ids]) ?_
  refine ⟨Nat, fun i => [(0, .t (.sl 1 (bys (x.map bi)))), (3, .int .u8 (V (x.take i))), (4, .int .i64 i)], fun i => [], fun i => i ≤ 8, fun i => 8 - i, 0, by omega, Le.of [] ⟨rfl, rfl, rfl, trivial⟩ trivial rfl, ?_⟩
  intro i h1
  simp only at h1 ⊢
  refine brB (fun hc => ?_) (fun hc => ?_)
  · have hc : (i : Int) < 8 := of_decide_eq_true hc
    obtain ⟨b, hb⟩ : ∃ b, x[i]? = some b := ⟨_, List.getElem?_eq_getElem (by omega)⟩
    have hbV : (x.map bi)[i]? = some (bi b) := by rw [List.getElem?_map, hb]; rfl
    refine ⟨by omega, .int .u8 (bi b), bys_get hbV, ?_⟩
    refine ⟨i + 1, by show i + 1 ≤ 8; omega, Le.of [] ⟨rfl, ?_, ?_, trivial⟩ trivial rfl, by show 8 - (i + 1) < 8 - i; omega⟩
    · obtain ⟨q1, q2⟩ := List.getElem?_eq_some_iff.1 hb
      have hv : V (x.take (i + 1)) = 2 * V (x.take i) + bi b := by
        rw [bi_val]
        unfold V
        rw [List.take_succ_eq_append_getElem q1, q2, val_append]
        simp only [List.length_singleton, Nat.pow_one]
        push_cast
        omega
      have h3 := V_lt8 (l := x.take (i + 1)) (by rw [List.length_take]; omega)
      have h4 := V_nonneg (x.take i)
      have h5 : 0 ≤ bi b := by cases b <;> decide
      refine congrArg (AV.int .u8) ?_
      show IntKind.u8.wrap (IntKind.u8.wrap (2 * V (x.take i)) + bi b) = V (x.take (i + 1))
      rw [wb' (n := 2 * V (x.take i)) (by omega) (by omega), ← hv, wb' (by omega) (by omega)]
    · exact congrArg (AV.int .i64) (by rw [wi (by omega) (by omega)]; rfl)
  · have hc : ¬ (i : Int) < 8 := of_decide_eq_false hc
    refine ⟨[], _, _, ⟨rfl, rfl⟩, ?_, trivial, rfl⟩
    have ex : x.take i = x := List.take_of_length_le (by omega)
    exact congrArg (AV.int .u8) (by rw [ex])
theorem Most_ct (n : Int) (h0 : -9223372036854775808 ≤ n) (h1 : n < 9223372036854775808) : CtT Try.prog 11 [.int .i64 n] (Ret (.int .i64 (if n < 0 ∨ n > 1048576 then 0 else (8 * n + 6) / 7)) []) := by
  refine Ct.of Try.func11 (by rfl) rfl (n := 14) rfl (by simp [ids]) ?_
  refine brB (fun hc => ?_) (fun hc => brB (fun hc2 => ?_) (fun hc2 => ?_))
  · have hc := of_decide_eq_true hc
    exact ⟨[], _, _, ⟨rfl, rfl⟩, congrArg (AV.int .i64) (by rw [if_pos (.inl hc)]), trivial, rfl⟩
  · have hc2 := of_decide_eq_true hc2
    exact ⟨[], _, _, ⟨rfl, rfl⟩, congrArg (AV.int .i64) (by rw [if_pos (.inr hc2)]), trivial, rfl⟩
  · have hc := of_decide_eq_false hc
    have hc2 := of_decide_eq_false hc2
    refine ⟨by decide, [], _, _, ⟨rfl, rfl⟩, congrArg (AV.int .i64) ?_, trivial, rfl⟩
    rw [if_neg (by omega)]
    have e1 : IntKind.i64.wrap (8 * n) = 8 * n := wi (by omega) (by omega)
    rw [e1, wi (n := 8 * n + 8) (by omega) (by omega), wi (n := 8 * n + 8 - 2) (by omega) (by omega), Int.tdiv_eq_ediv_of_nonneg (by omega), wi (by omega) (by omega)]
    congr 1
    omega
end Go.Proofs.YtbmljgahpicmbaaSt
