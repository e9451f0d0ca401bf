/- PolyRight is proved: plain forms, degrees, sums, products, values, quotients and slopes are what the reference reckons. No conditions. -/
import Derived.Test.YtgieppcadnhhaaaPx2
import Derived.Test.YtgieppcadnhhaaaPx3
import Derived.Test.YtgieppcadnhhaaaPx4
import Derived.Test.YtgieppcadnhhaaaPx5
import Derived.Test.YtgieppcadnhhaaaPx6
import Derived.Test.YtgieppcadnhhaaaPx7
import Derived.Test.YtgieppcadnhhaaaPx8
import Derived.Test.YtgieppcadnhhaaaPx9
import Derived.Test.YtgieppcadnhhaaaPx14
import Derived.Test.YtgieppcadnhhaaaPolyF
import Derived.Test.YtgieppcadnhhaaaRefPolyF
namespace Go.Proofs.Ytgieppcadnhhaaa.Pure
open Go Go.RowKit Go.Proofs.Ytgieppcadnhhaaa.P Go.Proofs.YtgieppcadnhhaaaW.PrintWords Go.Proofs.YtgieppcadnhhaaaW.PrintLast Go.Proofs.YtgieppcadnhhaaaW.PrintMore
open Go.Ar Pl Go.Proofs.Ytgieppcadnhhaaa.PolyF Go.Proofs.Ytgieppcadnhhaaa.RefPolyF
namespace PolyRightLaw
theorem up {α : Type} {f : Nat → Option α} (h : ∀ k, LeO (f k) (f (k + 1))) {k0 : Nat} {r : α} (e : f k0 = some r) : ∀ k, k0 ≤ k → f k = some r := by
  intro k hk
  obtain ⟨d, rfl⟩ : ∃ d, k = k0 + d := ⟨k - k0, by omega⟩
  clear hk
  induction d with
  | zero => exact e
  | succ d ih => exact h (k0 + d) r ih
theorem quo1 : poly_Quo.f 30 [1, 0, 1] [1, 1] = some ([1, 1], [], 0) := by
  unfold poly_Quo.f
  rw [show poly_Degree.f [1, 1] = some 1 by decide +kernel, Option.bind_some, if_neg (by decide), if_pos (by decide), show gf_Inv.f 30 (rd [1, 1] 1) = some (1, 0) by decide +kernel, Option.bind_some,
    show poly_Plain.f [1, 0, 1] = some [1, 0, 1] by decide +kernel, Option.bind_some]
  unfold poly_Quo.rest
  rw [if_pos ⟨okAll 30 (by decide), by decide +kernel, by decide +kernel, by decide, by decide, by decide, by decide⟩]
  decide +kernel
theorem quo2 : poly_Quo.f 30 [1] [0, 0] = some ([], [], 1) := by
  unfold poly_Quo.f
  rw [show poly_Degree.f [0, 0] = some (-1) by decide +kernel, Option.bind_some, if_pos (by decide)]
theorem awake (k : Nat) (hk : 100 ≤ k) : wristbandlaw08_awake.ok k := by
  unfold wristbandlaw08_awake.ok
  refine ⟨[1, 1], [], 0, up (fun k => poly_Quo.mono _ _ k) quo1 k (by omega), [], [], 1, up (fun k => poly_Quo.mono _ _ k) quo2 k (by omega), by decide +kernel, rfl, rfl, rfl, [1, 0, 1],
    up (fun k => poly_Mul.mono _ _ k) (k0 := 100) (by decide +kernel) k hk, by decide +kernel, 0, by decide +kernel, rfl, 2, up (fun k => poly_Eval.mono _ _ k) (k0 := 30) (by decide +kernel) k (by omega), rfl,
    [8, 0, 6], up (fun k => poly_Slope.mono _ k) (k0 := 30) (by decide +kernel) k (by omega), by decide +kernel, [0, 0, 3], up (fun k => poly_Add.mono _ _ k) (k0 := 30) (by decide +kernel) k (by omega), by decide +kernel,
    [], by decide +kernel, rfl, [2, 45], up (fun k => poly_Times.mono _ _ k) (k0 := 30) (by decide +kernel) k (by omega), by decide +kernel, trivial⟩
theorem Is.same {o o' : Option (List Int)} {f : PS} {n n' : Nat} (h : Is o f n) (h' : Is o' f n') : ∃ m, o = some m ∧ o' = some m := by
  obtain ⟨a, a1, a2, a3, _⟩ := h
  obtain ⟨b, b1, b2, b3, _⟩ := h'
  have : a = b := ends_eq a2 b2 (by rw [a3, b3])
  exact ⟨M a, a1, by rw [b1, this]⟩
end PolyRightLaw
open PolyRightLaw in
theorem PolyRight : wristbandlaw08_PolyRight.Pure := by
  intro l0 l1 a2 _ _ w0 _ _ w1 w2
  obtain ⟨p, rfl⟩ := ex_M w0
  obtain ⟨q, rfl⟩ := ex_M w1
  obtain ⟨x, rfl⟩ := GF.ex_I w2
  refine ⟨100000, PolyRightLaw.awake _ (by decide), fun _ => trivial, fun hp => ⟨fun _ => trivial, fun hq => ?_⟩⟩
  rw [M_length] at hp hq
  have hp' : p.length ≤ 120 := by omega
  have hq' : q.length ≤ 120 := by omega
  clear hp hq
  have hl := plain_length p
  have hlq := plain_length q
  have hm : p.length * (q.length + 2) + 12 ≤ 100000 := by
    have := Nat.mul_le_mul hp' (show q.length + 2 ≤ 122 by omega); omega
  have hm2 : (p.length + q.length) * (2 * p.length + 4) + 100 + p.length + q.length ≤ 100000 := by
    have := Nat.mul_le_mul (show p.length + q.length ≤ 240 by omega) (show 2 * p.length + 4 ≤ 244 by omega); omega
  have hs : p.length * (p.length + 3) + 2 + p.length ≤ 100000 := by
    have := Nat.mul_le_mul hp' (show p.length + 3 ≤ 123 by omega); omega
  obtain ⟨A, A1, A2⟩ := Is.same (f_add 100000 p q (by omega) (by omega) (by omega) (by omega)) (r_add 100000 p q (by omega) (by omega) (by omega))
  obtain ⟨B, B1, B2⟩ := Is.same (f_mul 100000 p q (by omega) hm) (r_mul8 100000 p q (by omega) hm2)
  obtain ⟨C, C1, C2⟩ := Is.same (f_times 100000 p x (by omega) (by omega)) (r_times 100000 p x (by omega) (by omega))
  obtain ⟨D, D1, D2⟩ := Is.same (f_slope 100000 p (by omega) (by omega)) (r_slope 100000 p (by omega) hs)
  refine ⟨_, f_plain p (by omega), _, r_plain p (by omega) _ (by omega), rfl, _, f_degree p (by omega), ?_, A, A1, A, A2, rfl, B, B1, B, B2, rfl, C, C1, C, C2, rfl, _, f_eval _ (by omega) p x (by omega), _, r_eval _ p x (by omega) (by omega), rfl, D, D1, D, D2, rfl, ?_⟩
  · rw [M_length, w64 (by omega) (by omega)]
  · by_cases h : plain q = []
    · refine ⟨_, _, _, f_quo0 _ p q (by omega) h, _, r_plain q (by omega) _ (by omega), fun _ => ⟨rfl, rfl, rfl, trivial⟩, fun hn => absurd ?_ hn⟩
      rw [M_length, h]; rfl
    · obtain ⟨a, r, h1, h2, h3, h4, h5, h6⟩ := f_quo 100000 (by omega) p q (by omega) (by omega) h
      obtain ⟨a', r', g1, g2, g3, g4, g6⟩ := r_quo 100000 (by omega) p q hp' hq' h
      have hr : PS.Bd (co q) ((plain q).length - 1 + 1) := by rw [Nat.sub_add_cancel (by omega)]; exact (Top.plain q).1
      have hne : co q ((plain q).length - 1) ≠ 0 := by have := ends_ne (plain_ends q) h; rwa [co_plain] at this
      obtain ⟨u1, u2⟩ := PS.div_unique hr hne (co_bd a) (co_bd a') ((co_bd r).mono (by omega)) ((co_bd r').mono (by omega)) (by rw [h6, g6])
      have e1 : a = a' := ends_eq h2 g2 u1
      have e2 : r = r' := ends_eq h3 g3 u2
      refine ⟨_, _, _, h1, _, r_plain q (by omega) _ (by omega), fun hz => absurd hz ?_, fun _ => ⟨_, _, g1, rfl, by rw [e1], by rw [e2], trivial⟩⟩
      rw [M_length]
      have : (plain q).length ≠ 0 := by simpa using h
      omega
end Go.Proofs.Ytgieppcadnhhaaa.Pure
