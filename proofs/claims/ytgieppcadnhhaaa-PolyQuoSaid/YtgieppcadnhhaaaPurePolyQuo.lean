/- PolyQuo is proved: what is divided is so often the divisor, and what is left, whose degree is below the divisor's; a product is divided without anything left. No conditions. -/
import Derived.Test.YtgieppcadnhhaaaPx2
import Derived.Test.YtgieppcadnhhaaaPx3
import Derived.Test.YtgieppcadnhhaaaPx4
import Derived.Test.YtgieppcadnhhaaaPx5
import Derived.Test.YtgieppcadnhhaaaPx6
import Derived.Test.YtgieppcadnhhaaaPx7
import Derived.Test.YtgieppcadnhhaaaPx8
import Derived.Test.YtgieppcadnhhaaaPx9
import Derived.Test.YtgieppcadnhhaaaPx15
import Derived.Test.YtgieppcadnhhaaaPolyF
namespace Go.Proofs.Ytgieppcadnhhaaa.Pure
open Go Go.RowKit Go.Proofs.Ytgieppcadnhhaaa.P Go.Proofs.YtgieppcadnhhaaaW.PrintWords Go.Proofs.YtgieppcadnhhaaaW.PrintLast Go.Proofs.YtgieppcadnhhaaaW.PrintMore
open Go.Ar Pl Go.Proofs.Ytgieppcadnhhaaa.PolyF
namespace PolyQuoLaw
theorem up {α : Type} {f : Nat → Option α} (h : ∀ k, LeO (f k) (f (k + 1))) {k0 : Nat} {r : α} (e : f k0 = some r) : ∀ k, k0 ≤ k → f k = some r := by
  intro k hk
  obtain ⟨d, rfl⟩ : ∃ d, k = k0 + d := ⟨k - k0, by omega⟩
  clear hk
  induction d with
  | zero => exact e
  | succ d ih => exact h (k0 + d) r ih
theorem quo1 : poly_Quo.f 30 [1, 0, 1] [1, 1] = some ([1, 1], [], 0) := by
  unfold poly_Quo.f
  rw [show poly_Degree.f [1, 1] = some 1 by decide +kernel, Option.bind_some, if_neg (by decide), if_pos (by decide), show gf_Inv.f 30 (rd [1, 1] 1) = some (1, 0) by decide +kernel, Option.bind_some,
    show poly_Plain.f [1, 0, 1] = some [1, 0, 1] by decide +kernel, Option.bind_some]
  unfold poly_Quo.rest
  rw [if_pos ⟨okAll 30 (by decide), by decide +kernel, by decide +kernel, by decide, by decide, by decide, by decide⟩]
  decide +kernel
theorem quo2 : poly_Quo.f 30 [1] [0, 0] = some ([], [], 1) := by
  unfold poly_Quo.f
  rw [show poly_Degree.f [0, 0] = some (-1) by decide +kernel, Option.bind_some, if_pos (by decide)]
theorem awake (k : Nat) (hk : 100 ≤ k) : wristbandlaw08_awake.ok k := by
  unfold wristbandlaw08_awake.ok
  refine ⟨[1, 1], [], 0, up (fun k => poly_Quo.mono _ _ k) quo1 k (by omega), [], [], 1, up (fun k => poly_Quo.mono _ _ k) quo2 k (by omega), by decide +kernel, rfl, rfl, rfl, [1, 0, 1],
    up (fun k => poly_Mul.mono _ _ k) (k0 := 100) (by decide +kernel) k hk, by decide +kernel, 0, by decide +kernel, rfl, 2, up (fun k => poly_Eval.mono _ _ k) (k0 := 30) (by decide +kernel) k (by omega), rfl,
    [8, 0, 6], up (fun k => poly_Slope.mono _ k) (k0 := 30) (by decide +kernel) k (by omega), by decide +kernel, [0, 0, 3], up (fun k => poly_Add.mono _ _ k) (k0 := 30) (by decide +kernel) k (by omega), by decide +kernel,
    [], by decide +kernel, rfl, [2, 45], up (fun k => poly_Times.mono _ _ k) (k0 := 30) (by decide +kernel) k (by omega), by decide +kernel, trivial⟩
theorem law (p q : List GF) (hp : p.length ≤ 120) (hq : q.length ≤ 120) (k : Nat) (hk : 40000 ≤ k) : ∃ (t1 : List Int) (t2 : List Int) (t3 : Int), poly_Quo.f k (M p) (M q) = some (t1, t2, t3) ∧
    (((t3 = (0 : Int)) → (∃ (t4 : List Int), poly_Mul.f k (M p) (M q) = some t4 ∧ (∃ (t5 : List Int) (t6 : List Int) (t7 : Int), poly_Quo.f k (t4) (M q) = some (t5, t6, t7) ∧ (∃ (t8 : Int), poly_Degree.f (t2) = some t8 ∧ (∃ (t9 : Int), poly_Degree.f (M q) = some t9 ∧ ((t8 < t9) ∧ (∃ (t10 : List Int), poly_Mul.f k (t1) (M q) = some t10 ∧ (∃ (t11 : List Int), poly_Add.f k (t10) (t2) = some t11 ∧ (∃ (t12 : List Int), poly_Plain.f (M p) = some t12 ∧ (((strOfNums (t11)).toList = (strOfNums (t12)).toList) ∧ ((t7 = (0 : Int)) ∧ ((((t6).length : Int) = (0 : Int)) ∧ (((strOfNums (t5)).toList = (strOfNums (t12)).toList) ∧ True)))))))))))))
      ∧ (¬ (t3 = (0 : Int)) → (∃ (t4 : Int), poly_Degree.f (M q) = some t4 ∧ ((t4 < (0 : Int)) ∧ True)))) := by
  have hm : ∀ a b : Nat, a ≤ 240 → b ≤ 120 → a * (b + 2) + 12 ≤ k := fun a b ha hb => by
    have := Nat.mul_le_mul ha (show b + 2 ≤ 122 by omega); omega
  by_cases h : plain q = []
  · refine ⟨[], [], 1, f_quo0 k p q (by omega) h, fun h => absurd h (by decide), fun _ => ⟨_, f_degree q (by omega), ?_, trivial⟩⟩
    rw [h]; decide
  · obtain ⟨a, r, h1, h2, h3, h4, h5, h6⟩ := f_quo k (by omega) p q (by omega) (by omega) h
    obtain ⟨m, m1, m2, m3, m4⟩ := f_mul k p q (by omega) (hm _ _ (by omega) hq)
    obtain ⟨a', r', g1, g2, g3, g4, g5, g6⟩ := f_quo k (by omega) m q (by omega) (by omega) h
    obtain ⟨n, n1, n2, n3, n4⟩ := f_mul k a q (by omega) (hm _ _ (by omega) hq)
    have hl := plain_length q
    obtain ⟨s, s1, s2, s3, s4⟩ := f_add k n r (by omega) (by omega) (by omega) (by omega)
    have hr : PS.Bd (co q) ((plain q).length - 1 + 1) := by rw [Nat.sub_add_cancel (by omega)]; exact (Top.plain q).1
    have hne : co q ((plain q).length - 1) ≠ 0 := by have := ends_ne (plain_ends q) h; rwa [co_plain] at this
    rw [m3] at g6
    obtain ⟨u1, u2⟩ := PS.div_unique hr hne (co_bd a') (co_bd p) ((co_bd r').mono (by omega)) (PS.Bd.zero _) (by rw [g6, PS.add_zero])
    have e1 : a' = plain p := ends_eq g2 (plain_ends p) (by rw [u1, co_plain])
    have e2 : r' = [] := ends_eq g3 ends_nil (by rw [u2, co_nil])
    have e3 : s = plain p := ends_eq s2 (plain_ends p) (by rw [s3, n3, h6, co_plain])
    refine ⟨M a, M r, 0, h1, fun _ => ⟨M m, m1, M a', M r', 0, g1, _, f_degree r (by omega), _, f_degree q (by omega), ?_, M n, n1, M s, s1, _, f_plain p (by omega), ?_, rfl, ?_, ?_, trivial⟩, fun h => absurd rfl h⟩
    · rw [plain_of_ends h3]; omega
    · rw [e3]
    · rw [e2]; rfl
    · rw [e1]
end PolyQuoLaw
theorem PolyQuo : wristbandlaw08_PolyQuo.Pure := by
  intro l0 l1 _ _ w0 _ _ w1
  obtain ⟨p, rfl⟩ := ex_M w0
  obtain ⟨q, rfl⟩ := ex_M w1
  refine ⟨40000, PolyQuoLaw.awake _ (by decide), fun _ => trivial, fun hp => ⟨fun _ => trivial, fun hq => ?_⟩⟩
  rw [M_length] at hp hq
  exact PolyQuoLaw.law p q (by omega) (by omega) 40000 (Nat.le_refl _)
end Go.Proofs.Ytgieppcadnhhaaa.Pure
