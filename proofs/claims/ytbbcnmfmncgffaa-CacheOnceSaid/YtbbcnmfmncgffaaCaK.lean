-- Written by hand for this claim's session.
import Derived.Test.YtbbcnmfmncgffaaCaJ
open Go Go.YtbbcnmfmncgffaaE Go.Proofs
set_option maxRecDepth 100000
set_option autoImplicit false
namespace Go.Proofs.YtbbcnmfmncgffaaX
theorem insU_len (l : List U) (u : U) : (insU l u).length = l.length + 1 := by
  classical
  unfold insU
  have : ∀ (p : U → Bool), (l.filter p).length + (l.filter fun v => !p v).length = l.length := by
    intro p
    induction l with
    | nil => rfl
    | cons x l ih => cases h : p x <;> simp [h] <;> omega
  have := this (fun v => decide (ltU v u))
  simp only [List.length_append, List.length_cons]
  omega
theorem putC_len (c : C) (u : U) : (putC c u).1.s.length ≤ c.s.length + 1 := by
  unfold putC
  repeat' split
  all_goals simp only [insU_len]; omega
theorem raiseC_len (c : C) (f : Int) : (raiseC c f).1.s.length ≤ c.s.length := by
  unfold raiseC
  split
  · exact Nat.le_refl _
  · exact List.length_filter_le _ _
theorem newC_len (r : Int) : (newC r).1.s.length = 0 := by unfold newC; split <;> rfl
theorem CacheRight_g (c : C) (u : U) (room floor : Int) : CtT Try.prog 3 [c.T, u.T, .int .i64 room, .int .u64 floor] (Ret (.bool true) []) := by
  refine Ct.of Try.func3 rfl rfl (n := 111) rfl (by simp [ids]) ?_
  refine Told.callT awake_ct rfl rfl rfl rfl ?_
  refine brB (fun h1 => ?_) (fun h1 => ?_)
  · exact ⟨[], _, _, ⟨rfl, rfl⟩, rfl, trivial, rfl⟩
  have hl : c.s.length ≤ 300 := by have := of_decide_eq_false h1; rw [uses_len] at this; omega
  have kn := New_ct room
  have hn0 := newC_len room
  have e1 := putC_len c u
  have e2 := raiseC_len c floor
  obtain ⟨b, hb⟩ := ex_bool c.Ok
  have k1 := Put_ct c u (by omega)
  have k2 := RPut_ct c u (by omega)
  have k3 := Raise_ct c floor (by omega)
  have k4 := RRaise_ct c floor (by omega)
  have k5 := Same_ct (putC c u).1 (putC c u).1 (by omega) (by omega) true (by simp)
  have k6 := Same_ct (raiseC c floor).1 (raiseC c floor).1 (by omega) (by omega) true (by simp)
  have k7 := Right_ct c (by omega) b hb
  have k8 := RRight_ct c (by omega) b hb
  have k9 := Has_ct c u (by omega)
  have k10 := RHas_ct c u (by omega)
  generalize putC c u = p at k1 k2 k5
  generalize raiseC c floor = q at k3 k4 k6
  generalize decide (u ∈ c.s) = z at k9 k10
  obtain ⟨p, pe⟩ := p
  obtain ⟨q, qe⟩ := q
  have hr := Same_ct ⟨room, 0, []⟩ ⟨room, 0, []⟩ (by simp) (by simp) true (by simp)
  have hz := Same_ct ⟨0, 0, []⟩ ⟨0, 0, []⟩ (by simp) (by simp) true (by simp)
  by_cases hroom : 0 ≤ room ∧ room ≤ 64
  · have en : newC room = (⟨room, 0, []⟩, 0) := by unfold newC; rw [if_pos hroom]
    rw [en] at kn
    refine Told.callT kn rfl rfl rfl rfl ?_
    refine brB (fun h2 => brB (fun h3 => ?_) (fun h3 => absurd hroom.2 (of_decide_eq_false h3))) (fun h2 => absurd hroom.1 (of_decide_eq_false h2))
    refine Told.callT (hr.tas (by repeat constructor)) rfl rfl rfl rfl ?_
    refine Told.callT k1 rfl rfl rfl rfl ?_
    refine Told.callT k2 rfl rfl rfl rfl ?_
    refine Told.callT k3 rfl rfl rfl rfl ?_
    refine Told.callT k4 rfl rfl rfl rfl ?_
    refine Told.callT k7 rfl rfl rfl rfl ?_
    refine Told.callT k8 rfl rfl rfl rfl ?_
    refine brB (fun _ => ?_) (fun h => absurd h (by simp))
    refine Told.callT k9 rfl rfl rfl rfl ?_
    refine Told.callT k10 rfl rfl rfl rfl ?_
    refine brB (fun _ => ?_) (fun h => absurd h (by simp))
    refine Told.callT k5 rfl rfl rfl rfl ?_
    refine brB (fun _ => ?_) (fun h => absurd h (by simp))
    refine Told.callT k6 rfl rfl rfl rfl ?_
    exact ⟨[], _, _, ⟨rfl, rfl⟩, congrArg AV.bool (decide_eq_true rfl), trivial, rfl⟩
  · have en : newC room = (⟨0, 0, []⟩, 1) := by unfold newC; rw [if_neg hroom]
    rw [en] at kn
    refine Told.callT kn rfl rfl rfl rfl ?_
    refine brB (fun h2 => brB (fun h3 => absurd ⟨of_decide_eq_true h2, of_decide_eq_true h3⟩ hroom) (fun h3 => ?_)) (fun h2 => ?_)
    · refine Told.callT (hz.tas (by repeat constructor)) rfl rfl rfl rfl ?_
      refine Told.callT k1 rfl rfl rfl rfl ?_
      refine Told.callT k2 rfl rfl rfl rfl ?_
      refine Told.callT k3 rfl rfl rfl rfl ?_
      refine Told.callT k4 rfl rfl rfl rfl ?_
      refine Told.callT k7 rfl rfl rfl rfl ?_
      refine Told.callT k8 rfl rfl rfl rfl ?_
      refine brB (fun _ => ?_) (fun h => absurd h (by simp))
      refine Told.callT k9 rfl rfl rfl rfl ?_
      refine Told.callT k10 rfl rfl rfl rfl ?_
      refine brB (fun _ => ?_) (fun h => absurd h (by simp))
      refine Told.callT k5 rfl rfl rfl rfl ?_
      refine brB (fun _ => ?_) (fun h => absurd h (by simp))
      refine Told.callT k6 rfl rfl rfl rfl ?_
      exact ⟨[], _, _, ⟨rfl, rfl⟩, congrArg AV.bool (decide_eq_true rfl), trivial, rfl⟩
    · refine Told.callT (hz.tas (by repeat constructor)) rfl rfl rfl rfl ?_
      refine Told.callT k1 rfl rfl rfl rfl ?_
      refine Told.callT k2 rfl rfl rfl rfl ?_
      refine Told.callT k3 rfl rfl rfl rfl ?_
      refine Told.callT k4 rfl rfl rfl rfl ?_
      refine Told.callT k7 rfl rfl rfl rfl ?_
      refine Told.callT k8 rfl rfl rfl rfl ?_
      refine brB (fun _ => ?_) (fun h => absurd h (by simp))
      refine Told.callT k9 rfl rfl rfl rfl ?_
      refine Told.callT k10 rfl rfl rfl rfl ?_
      refine brB (fun _ => ?_) (fun h => absurd h (by simp))
      refine Told.callT k5 rfl rfl rfl rfl ?_
      refine brB (fun _ => ?_) (fun h => absurd h (by simp))
      refine Told.callT k6 rfl rfl rfl rfl ?_
      exact ⟨[], _, _, ⟨rfl, rfl⟩, congrArg AV.bool (decide_eq_true rfl), trivial, rfl⟩
end Go.Proofs.YtbbcnmfmncgffaaX
