-- Written by hand for this claim's session.
import Derived.Test.YtbbcnmfmncgffaaCaM
open Go Go.YtbbcnmfmncgffaaE Go.Proofs
set_option maxRecDepth 100000
set_option autoImplicit false
namespace Go.Proofs.YtbbcnmfmncgffaaX
theorem CacheRaise_g (c : C) (u : U) (a b : Int) : CtT Try.prog 5 [c.T, u.T, .int .u64 a, .int .u64 b] (Ret (.bool true) []) := by
  refine Ct.of Try.func5 rfl rfl (n := 119) rfl (by simp [ids]) ?_
  refine Told.callT awake_ct rfl rfl rfl rfl ?_
  refine brB (fun h1 => ?_) (fun h1 => ?_)
  · exact ⟨[], _, _, ⟨rfl, rfl⟩, rfl, trivial, rfl⟩
  have hl : c.s.length ≤ 300 := by have := of_decide_eq_false h1; rw [uses_len] at this; omega
  obtain ⟨z, hz⟩ := ex_bool c.Ok
  refine Told.callT (Right_ct c (by omega) z hz) rfl rfl rfl rfl ?_
  cases z with
  | false => exact ⟨[], _, _, ⟨rfl, rfl⟩, rfl, trivial, rfl⟩
  | true =>
    have ok := hz.1 rfl
    have k1 := Raise_ct c a (by omega)
    rw [raiseC_0 ok] at k1
    refine Told.callT k1 rfl rfl rfl rfl ?_
    have okx : C.Ok ⟨c.r, mx c.f a, keep (mx c.f a) c.s⟩ := ok_keep ok _
    have lk : ∀ g (l : List U), (keep g l).length ≤ l.length := fun g l => List.length_filter_le _ _
    have l1 := lk (mx c.f a) c.s
    have k2 := Raise_ct ⟨c.r, mx c.f a, keep (mx c.f a) c.s⟩ b (by simp only; omega)
    rw [raiseC_0 okx] at k2
    refine Told.callT k2 rfl rfl rfl rfl ?_
    have k3 := Raise_ct c (if b > a then b else a) (by omega)
    rw [raiseC_0 ok] at k3
    refine Told.callT k3 rfl rfl rfl rfl ?_
    have l2 := lk (mx (mx c.f a) b) (keep (mx c.f a) c.s)
    have l3 := lk (mx c.f (if b > a then b else a)) c.s
    have e : mx c.f (if b > a then b else a) = mx (mx c.f a) b := by unfold mx; repeat' split <;> omega
    refine Told.callT (Same_ct _ _ (by simp only; omega) (by simp only; omega) true (by
      simp only [C.mk.injEq, true_and, true_iff]
      rw [e, keep_keep _ _ _ (by unfold mx; split <;> omega)]
      exact ⟨rfl, rfl⟩)) rfl rfl rfl rfl ?_
    refine Told.callT (Right_ct _ (by simp only; omega) true (by simpa using okx)) rfl rfl rfl rfl ?_
    refine brB (fun h => absurd h (by simp [mx])) (fun _ => ?_)
    have k4 := Put_ct c u (by omega)
    by_cases p1 : u.c < c.f
    · rw [putC_10 ok p1] at k4
      refine Told.callT k4 rfl rfl rfl rfl ?_
      exact ⟨[], _, _, ⟨rfl, rfl⟩, rfl, trivial, rfl⟩
    by_cases p2 : u ∈ c.s
    · rw [putC_11 ok p1 p2] at k4
      refine Told.callT k4 rfl rfl rfl rfl ?_
      exact ⟨[], _, _, ⟨rfl, rfl⟩, rfl, trivial, rfl⟩
    by_cases p3 : (c.s.length : Int) = c.r
    · rw [putC_12 ok p1 p2 p3] at k4
      refine Told.callT k4 rfl rfl rfl rfl ?_
      exact ⟨[], _, _, ⟨rfl, rfl⟩, rfl, trivial, rfl⟩
    rw [putC_0 ok p1 p2 p3] at k4
    refine Told.callT k4 rfl rfl rfl rfl ?_
    refine brB (fun h => ?_) (fun h => ?_)
    · exact ⟨[], _, _, ⟨rfl, rfl⟩, rfl, trivial, rfl⟩
    have hua : ¬ u.c < a := of_decide_eq_false h
    have okp := ok_put ok p1 p2 p3
    have l4 := insU_len c.s u
    have k5 := Raise_ct ⟨c.r, c.f, insU c.s u⟩ a (by simp only; omega)
    rw [raiseC_0 okp] at k5
    refine Told.callT k5 rfl rfl rfl rfl ?_
    have hum : mx c.f a ≤ u.c := by unfold mx; split <;> omega
    have hnk : u ∉ keep (mx c.f a) c.s := fun h => p2 (mem_keep.1 h).1
    have k6 := Put_ct ⟨c.r, mx c.f a, keep (mx c.f a) c.s⟩ u (by simp only; omega)
    rw [putC_0 okx (by simp only; omega) hnk (by have := ok.len; simp only; omega)] at k6
    refine Told.callT k6 rfl rfl rfl rfl ?_
    have l5 := lk (mx c.f a) (insU c.s u)
    have l6 := insU_len (keep (mx c.f a) c.s) u
    refine Told.callT (Same_ct _ _ (by simp only; omega) (by simp only; omega) true (by
      simp only [C.mk.injEq, true_and, true_iff]
      exact keep_insU ok.srt p2 hum)) rfl rfl rfl rfl ?_
    exact ⟨[], _, _, ⟨rfl, rfl⟩, rfl, trivial, rfl⟩
end Go.Proofs.YtbbcnmfmncgffaaX
