-- Written by hand for this claim's session.
import Derived.Test.YtbbcnmfmncgffaaCaI
open Go Go.YtbbcnmfmncgffaaE Go.Proofs
set_option maxRecDepth 100000
set_option autoImplicit false
namespace Go.Proofs.YtbbcnmfmncgffaaX
theorem putC_1 {c : C} {u : U} (h : ¬ c.Ok) : putC c u = (c, 1) := by unfold putC; rw [if_pos h]
theorem putC_10 {c : C} {u : U} (h : c.Ok) (h1 : u.c < c.f) : putC c u = (c, 10) := by unfold putC; rw [if_neg (by simpa using h), if_pos h1]
theorem putC_11 {c : C} {u : U} (h : c.Ok) (h1 : ¬ u.c < c.f) (h2 : u ∈ c.s) : putC c u = (c, 11) := by unfold putC; rw [if_neg (by simpa using h), if_neg h1, if_pos h2]
theorem putC_12 {c : C} {u : U} (h : c.Ok) (h1 : ¬ u.c < c.f) (h2 : u ∉ c.s) (h3 : (c.s.length : Int) = c.r) : putC c u = (c, 12) := by unfold putC; rw [if_neg (by simpa using h), if_neg h1, if_neg h2, if_pos h3]
theorem putC_0 {c : C} {u : U} (h : c.Ok) (h1 : ¬ u.c < c.f) (h2 : u ∉ c.s) (h3 : ¬ (c.s.length : Int) = c.r) : putC c u = (⟨c.r, c.f, insU c.s u⟩, 0) := by unfold putC; rw [if_neg (by simpa using h), if_neg h1, if_neg h2, if_neg h3]
theorem raiseC_0 {c : C} {f : Int} (h : c.Ok) : raiseC c f = (⟨c.r, mx c.f f, keep (mx c.f f) c.s⟩, 0) := by unfold raiseC; rw [if_neg (by simpa using h)]
theorem insU_nil (u : U) : insU [] u = [u] := by simp [insU]
theorem awake_ct : CtT Try.prog 6 [] (Ret (.bool true) []) := by
  refine Ct.of Try.func6 rfl rfl (n := 114) rfl (by simp [ids]) ?_
  have k1 := New_ct 2
  have e1 : newC 2 = (⟨2, 0, []⟩, 0) := by simp [newC]
  rw [e1] at k1
  refine Told.callT k1 rfl rfl rfl rfl ?_
  have o2 : C.Ok ⟨2, 0, []⟩ := ok_new.2 (by decide)
  have k2 := Put_ct ⟨2, 0, []⟩ ⟨3, 1, 10⟩ (by simp)
  rw [putC_0 o2 (by simp) (by simp) (by simp), insU_nil] at k2
  refine Told.callT k2 rfl rfl rfl rfl ?_
  have o3 : C.Ok ⟨2, 0, [⟨3, 1, 10⟩]⟩ := ⟨by decide, by decide, by simp, by simp, by simp⟩
  have k3 := Put_ct ⟨2, 0, [⟨3, 1, 10⟩]⟩ ⟨3, 1, 10⟩ (by simp)
  rw [putC_11 o3 (by simp) (by simp)] at k3
  refine Told.callT k3 rfl rfl rfl rfl ?_
  have k4 := Raise_ct ⟨2, 0, [⟨3, 1, 10⟩]⟩ 11 (by simp)
  rw [raiseC_0 o3] at k4
  have e4 : mx 0 11 = 11 := rfl
  have e5 : keep 11 [⟨3, 1, 10⟩] = [] := rfl
  simp only [e4, e5] at k4
  refine Told.callT k4 rfl rfl rfl rfl ?_
  have o5 : C.Ok ⟨2, 11, []⟩ := ⟨by decide, by decide, by simp, by simp, by simp⟩
  have k5 := Put_ct ⟨2, 11, []⟩ ⟨3, 1, 10⟩ (by simp)
  rw [putC_10 o5 (by simp)] at k5
  refine Told.callT k5 rfl rfl rfl rfl ?_
  have k6 := Put_ct ⟨2, 0, [⟨3, 1, 10⟩]⟩ ⟨0, 0, 1⟩ (by simp)
  have e6 : insU [⟨3, 1, 10⟩] ⟨0, 0, 1⟩ = [⟨0, 0, 1⟩, ⟨3, 1, 10⟩] := by simp [insU, ltU]
  rw [putC_0 o3 (by simp) (by simp) (by simp), e6] at k6
  refine Told.callT k6 rfl rfl rfl rfl ?_
  have o7 : C.Ok ⟨2, 0, [⟨0, 0, 1⟩, ⟨3, 1, 10⟩]⟩ := ⟨by decide, by decide, by simp, by simp, by simp [ltU]⟩
  have k7 := Put_ct ⟨2, 0, [⟨0, 0, 1⟩, ⟨3, 1, 10⟩]⟩ ⟨0, 0, 2⟩ (by simp)
  rw [putC_12 o7 (by simp) (by simp) (by simp)] at k7
  refine Told.callT k7 rfl rfl rfl rfl ?_
  refine ⟨by decide, _, rfl, Try.eqGuardType27, fun c hc => ?_⟩
  subst hc
  have k8 := Has_ct ⟨2, 0, [⟨0, 0, 1⟩, ⟨3, 1, 10⟩]⟩ ⟨3, 1, 10⟩ (by simp)
  rw [show decide ((⟨3, 1, 10⟩ : U) ∈ ([⟨0, 0, 1⟩, ⟨3, 1, 10⟩] : List U)) = true by decide] at k8
  refine Told.callT k8 rfl rfl rfl rfl ?_
  refine Told.callT (Right_ct _ (by simp) true (by simpa using o7)) rfl rfl rfl rfl ?_
  exact ⟨[], _, _, ⟨rfl, rfl⟩, rfl, trivial, rfl⟩
end Go.Proofs.YtbbcnmfmncgffaaX
