/- SolomonSums is proved: sums and multiples of what is fine are fine; fewer checks too; what is fine is its own data with its checks. No conditions. -/
import Derived.Test.YtgieppcadnhhaaaPx9
import Derived.Test.YtgieppcadnhhaaaPx11
import Derived.Test.YtgieppcadnhhaaaPx12
import Derived.Test.YtgieppcadnhhaaaPx13
import Derived.Test.YtgieppcadnhhaaaPolyF
import Derived.Test.YtgieppcadnhhaaaRefPolyF
import Derived.Test.YtgieppcadnhhaaaSolF
import Derived.Test.YtgieppcadnhhaaaAlg
namespace Go.Proofs.Ytgieppcadnhhaaa.Pure
open Go Go.RowKit Go.Proofs.Ytgieppcadnhhaaa.P Go.Proofs.YtgieppcadnhhaaaW.PrintWords Go.Proofs.YtgieppcadnhhaaaW.PrintLast Go.Proofs.YtgieppcadnhhaaaW.PrintMore
open Go.Ar Pl Go.Proofs.Ytgieppcadnhhaaa.PolyF Go.Proofs.Ytgieppcadnhhaaa.RefPolyF Go.Proofs.Ytgieppcadnhhaaa.SolF
namespace SolomonSumsLaw
theorem up {α : Type} {f : Nat → Option α} (h : ∀ k, LeO (f k) (f (k + 1))) {k0 : Nat} {r : α} (e : f k0 = some r) : ∀ k, k0 ≤ k → f k = some r := by
  intro k hk
  obtain ⟨d, rfl⟩ : ∃ d, k = k0 + d := ⟨k - k0, by omega⟩
  clear hk
  induction d with
  | zero => exact e
  | succ d ih => exact h (k0 + d) r ih
theorem aw_put (k : Nat) (hk : 1000 ≤ k) : solomon_Put.f k [1] 1 = some ([1, 2], 0) := by
  obtain ⟨c, h1, h2, h3⟩ := f_put k hk [1] 1 (by decide) (by decide) (by decide)
  have f2 : solomon_Fine.f 1000 [1, 2] 1 = some true := up (fun k => solomon_Fine.mono _ _ k) (k0 := 60) (by decide +kernel) 1000 (by decide)
  obtain ⟨t, e1, e2⟩ := f_fine_all 1000 (by decide) [1, GF.ofI 2] (by decide) 1 (by decide) (by decide)
  rw [show M [1, GF.ofI 2] = [1, 2] from rfl, show ((1 : Nat) : Int) = 1 from rfl, f2] at e1
  have ht : true = t := Option.some.inj e1
  have := checks_unique (d := [1]) (c := c) (c' := [GF.ofI 2]) (n := 1) h1 rfl (by decide) h3 (e2.1 ht.symm).2.2
  rw [this] at h2
  exact h2
theorem awake (k : Nat) (hk : 1000 ≤ k) : wristbandlaw09_awake.ok k := by
  refine ⟨[1, 2], 0, aw_put k hk, [2], 0, up (fun k => solomon_Signs.mono _ _ k) (k0 := 60) (by decide +kernel) k (by omega), by decide, by omega, [], 4, ?_, rfl, rfl, rfl, by decide +kernel, by decide +kernel,
    true, up (fun k => solomon_Fine.mono _ _ k) (k0 := 60) (by decide +kernel) k (by omega), rfl, false, up (fun k => solomon_Fine.mono _ _ k) (k0 := 60) (by decide +kernel) k (by omega), by decide, trivial⟩
  have := f_put_long k hk (List.replicate 246 0) 10 (by decide) (by decide) (by rw [List.length_replicate]; omega)
  rw [← M_zeros] at this
  exact this
theorem co_reverse (l : List GF) (j : Nat) : co l.reverse j = if j < l.length then co l (l.length - 1 - j) else 0 := by
  by_cases h : j < l.length
  · rw [if_pos h]
    show (l.reverse).getD j 0 = l.getD (l.length - 1 - j) 0
    rw [List.getD_eq_getElem?_getD, List.getD_eq_getElem?_getD, List.getElem?_reverse h]
  · rw [if_neg h]; exact co_bd _ j (by rw [List.length_reverse]; omega)
theorem ok_add {x y z : List GF} {n : Nat} (hy : y.length = x.length) (hz : z.length = x.length) (h : ∀ j, j < x.length → co z j = co x j + co y j) (hx : OK x n) (hy' : OK y n) : OK z n := by
  intro i hi
  have e1 := hx i hi
  have e2 := hy' i hi
  rw [sg_sum] at e1 e2 ⊢
  rw [hz]
  rw [hy] at e2
  rw [GF.sm_congr (g := fun j => co x.reverse j * GF.ex (j * (i + 1)) + co y.reverse j * GF.ex (j * (i + 1))) (fun j hj => by
    rw [co_reverse, co_reverse, co_reverse, hz, hy, if_pos hj, if_pos hj, if_pos hj, h _ (by omega), GF.add_mul]), GF.sm_add, e1, e2, GF.add_zero]
theorem ok_smul {x t : List GF} {n : Nat} (a : GF) (ht : t.length = x.length) (h : co t = PS.smul a (co x)) (hx : OK x n) : OK t n := by
  intro i hi
  have e1 := hx i hi
  rw [sg_sum] at e1 ⊢
  rw [ht, GF.sm_congr (g := fun j => a * (co x.reverse j * GF.ex (j * (i + 1)))) (fun j hj => by
    rw [co_reverse, co_reverse, ht, if_pos hj, if_pos hj, h, ← GF.mul_assoc]; rfl), GF.sm_mul, e1, GF.mul_zero]
theorem ok_less {x : List GF} {n m : Nat} (h : m ≤ n) (hx : OK x n) : OK x m := fun i hi => hx i (by omega)
theorem fine_of (k : Nat) (hk : 1000 ≤ k) (b : List GF) (n : Nat) (h1 : 1 ≤ n) (h2 : n ≤ 64) (hl : n ≤ b.length) (hb : b.length ≤ 255) (h : OK b n) : solomon_Fine.f k (M b) (n : Int) = some true := by
  obtain ⟨t, e1, e2⟩ := f_fine_all k hk b (by omega) n h1 h2
  rw [e1, e2.2 ⟨hl, hb, h⟩]
theorem sums_l2 (k : Nat) (hk : 1000 ≤ k) (l1 : List Int) (d x z : List GF) (u v : Int) (by_ : GF) (n m : Nat) (hn0 : wrap64 (Int.tmod (wrap64 u) 64 + 1) = (n : Int)) (hm0 : wrap64 (Int.tmod (wrap64 v) (n : Int) + 1) = (m : Int)) (h1 : 1 ≤ n) (h2 : n ≤ 64) (hm1 : 1 ≤ m) (hm2 : m ≤ n)
    (hl : n ≤ x.length) (hx : x.length ≤ 255) (hd : d.length ≤ 255) (ok : OK x n) (hz : z.length = x.length) (okz : OK z n) :
    ∀ (e q : Nat) (t : List GF), t.length + e = x.length → co t = PS.smul by_ (co x) → e < q → wristbandlaw09_SolomonSums.l2 k q (M d) l1 u v (GF.I by_) (M x) (M z) (M t) := by
  intro e
  induction e with
  | zero =>
    intro q t hi ht hq
    obtain ⟨q, rfl⟩ : ∃ m, q = m + 1 := ⟨q - 1, by omega⟩
    simp only [wristbandlaw09_SolomonSums.l2]
    rw [hn0, hm0, M_length, M_length, M_length]
    refine ⟨fun hc => absurd hc (by omega), fun _ => ⟨true, fine_of k hk z n h1 h2 (by omega) (by omega) okz, rfl, true, fine_of k hk t n h1 h2 (by omega) (by omega) (ok_smul by_ (by omega) ht ok), rfl, by omega,
      true, fine_of k hk x m hm1 (by omega) (by omega) hx (ok_less hm2 ok), rfl, fun _ => trivial, fun hc => ?_⟩⟩
    rw [w64 (n := (d.length : Int) - (n : Int)) (by omega) (by omega)]
    obtain ⟨p, hp⟩ : ∃ p, d.length = p + n := ⟨d.length - n, by omega⟩
    have e0 : ((d.length : Int) - (n : Int)) = (p : Int) := by omega
    rw [e0, Int.toNat_natCast, M_take]
    obtain ⟨c, c1, c2, c3⟩ := f_put k hk (d.take p) n h1 h2 (by rw [List.length_take]; omega)
    obtain ⟨r, e1, e2⟩ := f_fine_all k hk d (by omega) n h1 h2
    refine ⟨by omega, by omega, _, _, c2, rfl, r, e1, fun hr => ⟨?_, trivial⟩, fun hr => ⟨fun hs => hr (e2.2 ⟨by omega, hd, ?_⟩), trivial⟩⟩
    · have hok := (e2.1 hr).2.2
      have h3 : d.take p ++ d.drop p = d := List.take_append_drop p d
      have := checks_unique (d := d.take p) (c := c) (c' := d.drop p) (n := n) c1 (by rw [List.length_drop]; omega) (by rw [List.length_take]; omega) c3 (by rw [h3]; exact hok)
      rw [this, h3]
    · have := Str.inj hs
      rw [← this]; exact c3
  | succ e ih =>
    intro q t hi ht hq
    obtain ⟨q, rfl⟩ : ∃ m, q = m + 1 := ⟨q - 1, by omega⟩
    simp only [wristbandlaw09_SolomonSums.l2]
    rw [hn0, hm0, M_length, M_length, M_length]
    refine ⟨fun _ => ⟨by simp; omega, ?_⟩, fun hc => absurd (by omega) hc⟩
    rw [show M t ++ [(0 : Int)] = M (t ++ [0]) from M_snoc t 0]
    refine ih q (t ++ [0]) (by rw [List.length_append]; simp; omega) ?_ (by omega)
    rw [co_snoc, ht, show PS.C (0 : GF) = PS.zero from PS.cons_zero, shift_zero, PS.add_zero]
theorem sums_l1 (k : Nat) (hk : 100000 ≤ k) (l1 : List Int) (d x y : List GF) (u v : Int) (by_ : GF) (n m : Nat) (hn0 : wrap64 (Int.tmod (wrap64 u) 64 + 1) = (n : Int)) (hm0 : wrap64 (Int.tmod (wrap64 v) (n : Int) + 1) = (m : Int)) (h1 : 1 ≤ n) (h2 : n ≤ 64) (hm1 : 1 ≤ m) (hm2 : m ≤ n)
    (hl : n ≤ x.length) (hx : x.length ≤ 255) (hd : d.length ≤ 255) (ok : OK x n) (hy : y.length = x.length) (oky : OK y n) :
    ∀ (e q i : Nat) (z : List GF), i + e = x.length → z.length = x.length → (∀ j, j < i → co z j = co x j + co y j) → e < q → wristbandlaw09_SolomonSums.l1 k q (M d) l1 u v (GF.I by_) (M x) (M y) (M z) (i : Int) := by
  intro e
  induction e with
  | zero =>
    intro q i z hi hz h hq
    obtain ⟨q, rfl⟩ : ∃ m, q = m + 1 := ⟨q - 1, by omega⟩
    simp only [wristbandlaw09_SolomonSums.l1]
    rw [M_length]
    refine ⟨fun hc => absurd hc (by omega), fun _ => ?_⟩
    obtain ⟨t, e1, _, e3, e4⟩ := f_times k x by_ (by omega) (by omega)
    refine ⟨M t, e1, x.length - t.length + 1, ?_⟩
    exact sums_l2 k (by omega) l1 d x z u v by_ n m hn0 hm0 h1 h2 hm1 hm2 hl hx hd ok hz (ok_add hy hz (fun j hj => h j (by omega)) ok oky) (x.length - t.length) _ t (by omega) e3 (by omega)
  | succ e ih =>
    intro q i z hi hz h hq
    obtain ⟨q, rfl⟩ : ∃ m, q = m + 1 := ⟨q - 1, by omega⟩
    simp only [wristbandlaw09_SolomonSums.l1]
    rw [M_length, M_length, M_length]
    refine ⟨fun _ => ⟨by omega, by omega, by omega, ?_⟩, fun hc => absurd (by omega) hc⟩
    rw [rd_M, rd_M, GF.xor, M_set, w64 (by omega) (by omega), show (i : Int) + 1 = ((i + 1 : Nat) : Int) by omega, Int.toNat_natCast]
    refine ih q (i + 1) _ (by omega) (by rw [List.length_set, hz]) (fun j hj => ?_) (by omega)
    show (z.set i _).getD j 0 = _
    rw [List.getD_eq_getElem?_getD, List.getElem?_set]
    by_cases c : i = j
    · rw [if_pos c, if_pos (by omega), ← c]; rfl
    · rw [if_neg c, ← List.getD_eq_getElem?_getD]; exact h j (by omega)
end SolomonSumsLaw
open SolomonSumsLaw in
theorem SolomonSums : wristbandlaw09_SolomonSums.Pure := by
  intro l0 l1 a2 a3 a4 _ _ w0 _ _ w1 w2 w3 w4
  obtain ⟨d, rfl⟩ := ex_M w0
  obtain ⟨d', rfl⟩ := ex_M w1
  obtain ⟨x, rfl⟩ := GF.ex_I w2
  obtain ⟨y, rfl⟩ := GF.ex_I w3
  obtain ⟨by_, rfl⟩ := GF.ex_I w4
  have b := GF.I_bd x
  have b' := GF.I_bd y
  obtain ⟨n, hn⟩ : ∃ n : Nat, GF.I x % 64 + 1 = n := ⟨(GF.I x % 64 + 1).toNat, by omega⟩
  have h1 : 1 ≤ n := by omega
  have h2 : n ≤ 64 := by omega
  have hn0 : wrap64 (Int.tmod (wrap64 (GF.I x)) 64 + 1) = (n : Int) := by
    rw [w64 (n := GF.I x) (by omega) (by omega), tmodp _ _ b.1, w64 (by omega) (by omega), hn]
  have m1 := Int.emod_nonneg (GF.I y) (show (n : Int) ≠ 0 by omega)
  have m2 := Int.emod_lt_of_pos (GF.I y) (show 0 < (n : Int) by omega)
  obtain ⟨m, hm⟩ : ∃ m : Nat, GF.I y % (n : Int) + 1 = m := ⟨(GF.I y % (n : Int) + 1).toNat, by omega⟩
  have hm1 : 1 ≤ m := by omega
  have hm2 : m ≤ n := by omega
  have hm0 : wrap64 (Int.tmod (wrap64 (GF.I y)) (n : Int) + 1) = (m : Int) := by
    rw [w64 (n := GF.I y) (by omega) (by omega), tmodp _ _ b'.1, w64 (by omega) (by omega), hm]
  refine ⟨100000, SolomonSumsLaw.awake _ (by decide), fun he => ⟨fun _ => trivial, fun hl => ?_⟩, fun _ => trivial⟩
  rw [M_length, M_length] at he
  rw [hn0, M_length, w64 (by omega) (by omega)] at hl
  obtain ⟨c, c1, c2, c3⟩ := f_put 100000 (by decide) d n h1 h2 (by omega)
  obtain ⟨c', c1', c2', c3'⟩ := f_put 100000 (by decide) d' n h1 h2 (by omega)
  have hlen : (d ++ c).length = d.length + n := by rw [List.length_append, c1]
  have hlen' : (d' ++ c').length = d.length + n := by rw [List.length_append, c1']; omega
  rw [hn0]
  refine ⟨M (d ++ c), 0, c2, M (d' ++ c'), 0, c2', rfl, rfl, by rw [M_length, M_length]; omega, by omega, by rw [M_length]; omega, (d ++ c).length + 1, ?_⟩
  rw [M_length, Int.toNat_natCast, M_zeros]
  exact sums_l1 100000 (Nat.le_refl _) _ d (d ++ c) (d' ++ c') _ _ by_ n m hn0 hm0 h1 h2 hm1 hm2 (by omega) (by omega) (by omega) c3 (by omega) c3' (d ++ c).length _ 0 _ (by omega) (by rw [List.length_replicate]) (fun j hj => by omega) (by omega)
end Go.Proofs.Ytgieppcadnhhaaa.Pure
