/- PolyValues is proved: values of sums, products and multiples; degrees of products; what is left by x less a; slopes of products. No conditions. -/
import Derived.Test.YtgieppcadnhhaaaPx2
import Derived.Test.YtgieppcadnhhaaaPx3
import Derived.Test.YtgieppcadnhhaaaPx4
import Derived.Test.YtgieppcadnhhaaaPx5
import Derived.Test.YtgieppcadnhhaaaPx6
import Derived.Test.YtgieppcadnhhaaaPx7
import Derived.Test.YtgieppcadnhhaaaPx8
import Derived.Test.YtgieppcadnhhaaaPx9
import Derived.Test.YtgieppcadnhhaaaPx16
import Derived.Test.YtgieppcadnhhaaaPolyF
namespace Go.Proofs.Ytgieppcadnhhaaa.Pure
open Go Go.RowKit Go.Proofs.Ytgieppcadnhhaaa.P Go.Proofs.YtgieppcadnhhaaaW.PrintWords Go.Proofs.YtgieppcadnhhaaaW.PrintLast Go.Proofs.YtgieppcadnhhaaaW.PrintMore
open Go.Ar Pl Go.Proofs.Ytgieppcadnhhaaa.PolyF
namespace PolyValuesLaw
theorem up {α : Type} {f : Nat → Option α} (h : ∀ k, LeO (f k) (f (k + 1))) {k0 : Nat} {r : α} (e : f k0 = some r) : ∀ k, k0 ≤ k → f k = some r := by
  intro k hk
  obtain ⟨d, rfl⟩ : ∃ d, k = k0 + d := ⟨k - k0, by omega⟩
  clear hk
  induction d with
  | zero => exact e
  | succ d ih => exact h (k0 + d) r ih
theorem quo1 : poly_Quo.f 30 [1, 0, 1] [1, 1] = some ([1, 1], [], 0) := by
  unfold poly_Quo.f
  rw [show poly_Degree.f [1, 1] = some 1 by decide +kernel, Option.bind_some, if_neg (by decide), if_pos (by decide), show gf_Inv.f 30 (rd [1, 1] 1) = some (1, 0) by decide +kernel, Option.bind_some,
    show poly_Plain.f [1, 0, 1] = some [1, 0, 1] by decide +kernel, Option.bind_some]
  unfold poly_Quo.rest
  rw [if_pos ⟨okAll 30 (by decide), by decide +kernel, by decide +kernel, by decide, by decide, by decide, by decide⟩]
  decide +kernel
theorem quo2 : poly_Quo.f 30 [1] [0, 0] = some ([], [], 1) := by
  unfold poly_Quo.f
  rw [show poly_Degree.f [0, 0] = some (-1) by decide +kernel, Option.bind_some, if_pos (by decide)]
theorem awake (k : Nat) (hk : 100 ≤ k) : wristbandlaw08_awake.ok k := by
  unfold wristbandlaw08_awake.ok
  refine ⟨[1, 1], [], 0, up (fun k => poly_Quo.mono _ _ k) quo1 k (by omega), [], [], 1, up (fun k => poly_Quo.mono _ _ k) quo2 k (by omega), by decide +kernel, rfl, rfl, rfl, [1, 0, 1],
    up (fun k => poly_Mul.mono _ _ k) (k0 := 100) (by decide +kernel) k hk, by decide +kernel, 0, by decide +kernel, rfl, 2, up (fun k => poly_Eval.mono _ _ k) (k0 := 30) (by decide +kernel) k (by omega), rfl,
    [8, 0, 6], up (fun k => poly_Slope.mono _ k) (k0 := 30) (by decide +kernel) k (by omega), by decide +kernel, [0, 0, 3], up (fun k => poly_Add.mono _ _ k) (k0 := 30) (by decide +kernel) k (by omega), by decide +kernel,
    [], by decide +kernel, rfl, [2, 45], up (fun k => poly_Times.mono _ _ k) (k0 := 30) (by decide +kernel) k (by omega), by decide +kernel, trivial⟩
theorem slope_part (k : Nat) (hk : 40000 ≤ k) (p q m : List GF) (hp : p.length ≤ 60) (hq : q.length ≤ 60) (hm : co m = PS.conv (co p) (co q)) (hml : m.length ≤ 120) :
    ∃ (t18 : List Int), poly_Slope.f k (M m) = some t18 ∧ (∃ (t19 : List Int), poly_Slope.f k (M p) = some t19 ∧ (∃ (t20 : List Int), poly_Mul.f k (t19) (M q) = some t20 ∧ (∃ (t21 : List Int), poly_Slope.f k (M q) = some t21 ∧ (∃ (t22 : List Int), poly_Mul.f k (M p) (t21) = some t22 ∧ (∃ (t23 : List Int), poly_Add.f k (t20) (t22) = some t23 ∧ (((strOfNums (t18)).toList = (strOfNums (t23)).toList) ∧ True)))))) := by
  have hmu : ∀ a b : Nat, a ≤ 60 → b ≤ 60 → a * (b + 2) + 12 ≤ k := fun a b ha hb => by
    have := Nat.mul_le_mul ha (show b + 2 ≤ 62 by omega); omega
  obtain ⟨a, a1, a2, a3, a4⟩ := f_slope k m (by omega) (by omega)
  obtain ⟨b, b1, b2, b3, b4⟩ := f_slope k p (by omega) (by omega)
  obtain ⟨c, c1, c2, c3, c4⟩ := f_mul k b q (by omega) (hmu _ _ (by omega) hq)
  obtain ⟨d, d1, d2, d3, d4⟩ := f_slope k q (by omega) (by omega)
  obtain ⟨e, e1, e2, e3, e4⟩ := f_mul k p d (by omega) (hmu _ _ hp (by omega))
  obtain ⟨f, f1, f2, f3, f4⟩ := f_add k c e (by omega) (by omega) (by omega) (by omega)
  have : a = f := ends_eq a2 f2 (by rw [a3, hm, PS.D_conv, f3, c3, e3, b3, d3])
  exact ⟨M a, a1, M b, b1, M c, c1, M d, d1, M e, e1, M f, f1, by rw [this], trivial⟩
theorem ev_len {f : PS} {m n : Nat} (x : GF) (h : PS.Bd f m) (h' : PS.Bd f n) : PS.ev m f x = PS.ev n f x := by
  rcases Nat.le_total m n with e | e
  · exact (PS.ev_more x h e).symm
  · exact PS.ev_more x h' e
theorem law (p q : List GF) (hp : p.length ≤ 60) (hq : q.length ≤ 60) (x a : GF) (k : Nat) (hk : 40000 ≤ k) :
    (∃ (t1 : Int), poly_Eval.f k (M p) (GF.I x) = some t1 ∧ (∃ (t2 : Int), poly_Eval.f k (M q) (GF.I x) = some t2 ∧ (∃ (t3 : List Int), poly_Mul.f k (M p) (M q) = some t3 ∧ (∃ (t4 : List Int), poly_Add.f k (M p) (M q) = some t4 ∧ (∃ (t5 : Int), poly_Eval.f k (t4) (GF.I x) = some t5 ∧ (∃ (t6 : Int), gf_Add.f (t1) (t2) = some t6 ∧ ((t5 = t6) ∧ (∃ (t7 : Int), poly_Eval.f k (t3) (GF.I x) = some t7 ∧ (∃ (t8 : Int), gf_Mul.f k (t1) (t2) = some t8 ∧ ((t7 = t8) ∧ (∃ (t9 : List Int), poly_Times.f k (M p) (GF.I a) = some t9 ∧ (∃ (t10 : Int), poly_Eval.f k (t9) (GF.I x) = some t10 ∧ (∃ (t11 : Int), gf_Mul.f k (GF.I a) (t1) = some t11 ∧ ((t10 = t11) ∧ (∃ (t12 : List Int) (t13 : List Int) (t14 : Int), poly_Quo.f k (M p) (([GF.I x, (1 : Int)] : List Int)) = some (t12, t13, t14) ∧ ((t14 = (0 : Int)) ∧ (∃ (t15 : Int), poly_Eval.f k (t13) ((0 : Int)) = some t15 ∧ ((t15 = t1) ∧ (∃ (t16 : Int), poly_Degree.f (M p) = some t16 ∧ (((t16 ≥ (0 : Int)) → (∃ (t17 : Int), poly_Degree.f (M q) = some t17 ∧ (((t17 ≥ (0 : Int)) → (∃ (t18 : Int), poly_Degree.f (t3) = some t18 ∧ ((t18 = wrap64 (t16 + t17)) ∧ (∃ (t19 : List Int), poly_Slope.f k (t3) = some t19 ∧ (∃ (t20 : List Int), poly_Slope.f k (M p) = some t20 ∧ (∃ (t21 : List Int), poly_Mul.f k (t20) (M q) = some t21 ∧ (∃ (t22 : List Int), poly_Slope.f k (M q) = some t22 ∧ (∃ (t23 : List Int), poly_Mul.f k (M p) (t22) = some t23 ∧ (∃ (t24 : List Int), poly_Add.f k (t21) (t23) = some t24 ∧ (((strOfNums (t19)).toList = (strOfNums (t24)).toList) ∧ True)))))))))) ∧ (¬ (t17 ≥ (0 : Int)) → (∃ (t18 : List Int), poly_Slope.f k (t3) = some t18 ∧ (∃ (t19 : List Int), poly_Slope.f k (M p) = some t19 ∧ (∃ (t20 : List Int), poly_Mul.f k (t19) (M q) = some t20 ∧ (∃ (t21 : List Int), poly_Slope.f k (M q) = some t21 ∧ (∃ (t22 : List Int), poly_Mul.f k (M p) (t21) = some t22 ∧ (∃ (t23 : List Int), poly_Add.f k (t20) (t22) = some t23 ∧ (((strOfNums (t18)).toList = (strOfNums (t23)).toList) ∧ True))))))))))) ∧ (¬ (t16 ≥ (0 : Int)) → (∃ (t17 : List Int), poly_Slope.f k (t3) = some t17 ∧ (∃ (t18 : List Int), poly_Slope.f k (M p) = some t18 ∧ (∃ (t19 : List Int), poly_Mul.f k (t18) (M q) = some t19 ∧ (∃ (t20 : List Int), poly_Slope.f k (M q) = some t20 ∧ (∃ (t21 : List Int), poly_Mul.f k (M p) (t20) = some t21 ∧ (∃ (t22 : List Int), poly_Add.f k (t19) (t21) = some t22 ∧ (((strOfNums (t17)).toList = (strOfNums (t22)).toList) ∧ True)))))))))))))))))))))))))))) := by
  have hmu : ∀ a b : Nat, a ≤ 60 → b ≤ 60 → a * (b + 2) + 12 ≤ k := fun a b ha hb => by
    have := Nat.mul_le_mul ha (show b + 2 ≤ 62 by omega); omega
  obtain ⟨m, m1, m2, m3, m4⟩ := f_mul k p q (by omega) (hmu _ _ hp hq)
  obtain ⟨s, s1, s2, s3, s4⟩ := f_add k p q (by omega) (by omega) (by omega) (by omega)
  obtain ⟨t, u1, u2, u3, u4⟩ := f_times k p a (by omega) (by omega)
  have hX : M [x, 1] = [GF.I x, (1 : Int)] := rfl
  have hXp : plain [x, 1] = [x, 1] := plain_of_ends (fun _ => by show (1 : GF) ≠ 0; decide)
  have hXe : plain [x, 1] ≠ [] := by rw [hXp]; exact List.cons_ne_nil _ _
  obtain ⟨b, r, r1, r2, r3, r4, r5, r6⟩ := f_quo k (by omega) p [x, 1] (by omega) (by simp) hXe
  rw [hXp] at r4
  have r4' : r.length ≤ 1 := by simpa using Nat.lt_succ_iff.1 r4
  have hbp : PS.Bd (co p) 120 := (co_bd p).mono (by omega)
  have hbq : PS.Bd (co q) 120 := (co_bd q).mono (by omega)
  have eX : PS.ev 2 (co [x, 1]) x = 0 := by
    show x + x * (1 + x * 0) = 0
    rw [GF.mul_zero, GF.add_zero, GF.mul_one, GF.add_self]
  have hev : PS.ev r.length (co r) 0 = PS.ev p.length (co p) x := by
    have h1 : PS.ev (b.length + 2) (PS.conv (co b) (co [x, 1])) x = 0 := by
      have h := PS.ev_conv x (co_bd b) (co_bd [x, 1])
      rw [show [x, 1].length = 2 from rfl, eX, GF.mul_zero] at h
      exact h
    have hbc : PS.Bd (PS.conv (co b) (co [x, 1])) (b.length + 2) := (co_bd b).conv' (co_bd [x, 1])
    have h2 : PS.ev 200 (co p) x = PS.ev 200 (co r) x := by
      rw [← r6, PS.ev_add, ev_len x (hbc.mono (show b.length + 2 ≤ 200 by omega)) hbc, h1, GF.zero_add]
    rw [ev_len x (co_bd p) ((co_bd p).mono (show p.length ≤ 200 by omega)), h2, ← ev_len x (co_bd r) ((co_bd r).mono (show r.length ≤ 200 by omega))]
    have hr1 : PS.Bd (co r) 1 := (co_bd r).mono r4'
    rw [ev_len x (co_bd r) hr1, ev_len 0 (co_bd r) hr1]
    show co r 0 + 0 * 0 = co r 0 + x * 0
    rw [GF.mul_zero, GF.mul_zero]
  refine ⟨_, f_eval k (by omega) p x (by omega), _, f_eval k (by omega) q x (by omega), M m, m1, M s, s1, _, f_eval k (by omega) s x (by omega), _, g_add _ _, ?_, _, f_eval k (by omega) m x (by omega), _, g_mul k (by omega) _ _, ?_,
    M t, u1, _, f_eval k (by omega) t x (by omega), _, g_mul k (by omega) _ _, ?_, M b, M r, 0, r1, rfl, _, f_eval k (by omega) r 0 (by omega), ?_, _, f_degree p (by omega), fun hd => ⟨_, f_degree q (by omega), fun hd2 => ⟨_, f_degree m (by omega), ?_, slope_part k hk p q m hp hq m3 (by omega)⟩,
      fun _ => slope_part k hk p q m hp hq m3 (by omega)⟩, fun _ => slope_part k hk p q m hp hq m3 (by omega)⟩
  · rw [ev_len x (co_bd s) ((co_bd s).mono (show s.length ≤ 120 by omega)), s3, PS.ev_add, ev_len x hbp (co_bd p), ev_len x hbq (co_bd q)]
  · rw [ev_len x (co_bd m) ((co_bd m).mono m4), m3, PS.ev_conv x (co_bd p) (co_bd q)]
  · rw [ev_len x (co_bd t) ((co_bd t).mono u4), u3, PS.ev_smul]
  · rw [hev]
  · have hp1 : (plain p).length ≠ 0 := by omega
    have hq1 : (plain q).length ≠ 0 := by omega
    have hpl := plain_length p
    have hql := plain_length q
    have ht : Top (co m) ((plain p).length + (plain q).length - 1) := by
      have tp := Top.plain p
      have tq := Top.plain q
      have hpb : PS.Bd (co p) ((plain p).length - 1 + 1) := by rw [Nat.sub_add_cancel (by omega)]; exact tp.1
      have hqb : PS.Bd (co q) ((plain q).length - 1 + 1) := by rw [Nat.sub_add_cancel (by omega)]; exact tq.1
      have hpn := tp.2.resolve_left hp1
      have hqn := tq.2.resolve_left hq1
      rw [m3]
      refine ⟨(hpb.conv hqb).mono (by omega), .inr ?_⟩
      rw [show (plain p).length + (plain q).length - 1 - 1 = (plain p).length - 1 + ((plain q).length - 1) by omega, PS.conv_top hpb hqb]
      intro h
      rcases GF.mul_eq_zero.1 h with h | h
      · exact hpn h
      · exact hqn h
    rw [(Top.plain m).unique ht, w64 (by omega) (by omega)]
    omega
end PolyValuesLaw
theorem PolyValues : wristbandlaw08_PolyValues.Pure := by
  intro l0 l1 a2 a3 _ _ w0 _ _ w1 w2 w3
  obtain ⟨p, rfl⟩ := ex_M w0
  obtain ⟨q, rfl⟩ := ex_M w1
  obtain ⟨x, rfl⟩ := GF.ex_I w2
  obtain ⟨a, rfl⟩ := GF.ex_I w3
  refine ⟨40000, PolyValuesLaw.awake _ (by decide), fun _ => trivial, fun hp => ⟨fun _ => trivial, fun hq => ?_⟩⟩
  rw [M_length] at hp hq
  exact PolyValuesLaw.law p q (by omega) (by omega) x a 40000 (Nat.le_refl _)
end Go.Proofs.Ytgieppcadnhhaaa.Pure
