/- SolomonFine is proved: data with its checks is fine and begins with the data; what is fine is its own data with its checks; turned in at most as many places as there are checks it isn't. No conditions. -/
import Derived.Test.YtgieppcadnhhaaaPx9
import Derived.Test.YtgieppcadnhhaaaPx11
import Derived.Test.YtgieppcadnhhaaaPx12
import Derived.Test.YtgieppcadnhhaaaPx13
import Derived.Test.YtgieppcadnhhaaaPolyF
import Derived.Test.YtgieppcadnhhaaaRefPolyF
import Derived.Test.YtgieppcadnhhaaaSolF
import Derived.Test.YtgieppcadnhhaaaAlg
namespace Go.Proofs.Ytgieppcadnhhaaa.Pure
open Go Go.RowKit Go.Proofs.Ytgieppcadnhhaaa.P Go.Proofs.YtgieppcadnhhaaaW.PrintWords Go.Proofs.YtgieppcadnhhaaaW.PrintLast Go.Proofs.YtgieppcadnhhaaaW.PrintMore
open Go.Ar Pl Go.Proofs.Ytgieppcadnhhaaa.PolyF Go.Proofs.Ytgieppcadnhhaaa.RefPolyF Go.Proofs.Ytgieppcadnhhaaa.SolF
namespace SolomonFineLaw
theorem up {α : Type} {f : Nat → Option α} (h : ∀ k, LeO (f k) (f (k + 1))) {k0 : Nat} {r : α} (e : f k0 = some r) : ∀ k, k0 ≤ k → f k = some r := by
  intro k hk
  obtain ⟨d, rfl⟩ : ∃ d, k = k0 + d := ⟨k - k0, by omega⟩
  clear hk
  induction d with
  | zero => exact e
  | succ d ih => exact h (k0 + d) r ih
theorem aw_put (k : Nat) (hk : 1000 ≤ k) : solomon_Put.f k [1] 1 = some ([1, 2], 0) := by
  obtain ⟨c, h1, h2, h3⟩ := f_put k hk [1] 1 (by decide) (by decide) (by decide)
  have f2 : solomon_Fine.f 1000 [1, 2] 1 = some true := up (fun k => solomon_Fine.mono _ _ k) (k0 := 60) (by decide +kernel) 1000 (by decide)
  obtain ⟨t, e1, e2⟩ := f_fine_all 1000 (by decide) [1, GF.ofI 2] (by decide) 1 (by decide) (by decide)
  rw [show M [1, GF.ofI 2] = [1, 2] from rfl, show ((1 : Nat) : Int) = 1 from rfl, f2] at e1
  have ht : true = t := Option.some.inj e1
  have := checks_unique (d := [1]) (c := c) (c' := [GF.ofI 2]) (n := 1) h1 rfl (by decide) h3 (e2.1 ht.symm).2.2
  rw [this] at h2
  exact h2
theorem awake (k : Nat) (hk : 1000 ≤ k) : wristbandlaw09_awake.ok k := by
  refine ⟨[1, 2], 0, aw_put k hk, [2], 0, up (fun k => solomon_Signs.mono _ _ k) (k0 := 60) (by decide +kernel) k (by omega), by decide, by omega, [], 4, ?_, rfl, rfl, rfl, by decide +kernel, by decide +kernel,
    true, up (fun k => solomon_Fine.mono _ _ k) (k0 := 60) (by decide +kernel) k (by omega), rfl, false, up (fun k => solomon_Fine.mono _ _ k) (k0 := 60) (by decide +kernel) k (by omega), by decide, trivial⟩
  have := f_put_long k hk (List.replicate 246 0) 10 (by decide) (by decide) (by rw [List.length_replicate]; omega)
  rw [← M_zeros] at this
  exact this
theorem fine_l (k : Nat) (hk : 1000 ≤ k) (l0 : List Int) (u : Int) (x at_ by_ : List GF) (n : Nat) (hn0 : wrap64 (Int.tmod (wrap64 u) 64 + 1) = (n : Int)) (h1 : 1 ≤ n) (h2 : n ≤ 64) (hn : n ≤ x.length) (hx : x.length ≤ 255) (ok : OK x n) :
    ∀ (e q i : Nat) (y : List GF) (J : List Nat), i + e = n → y.length = x.length → J.length ≤ i → (∀ j, j < x.length → co x.reverse j ≠ co y.reverse j → j ∈ J) → e < q →
    wristbandlaw09_SolomonFine.l1 k q l0 u (M at_) (M by_) (M x) (M y) (i : Int) := by
  intro e
  induction e with
  | zero =>
    intro q i y J hi hy hJ hd hq
    obtain ⟨q, rfl⟩ : ∃ m, q = m + 1 := ⟨q - 1, by omega⟩
    obtain ⟨t, e1, e2⟩ := f_fine_all k hk y (by omega) n h1 h2
    simp only [wristbandlaw09_SolomonFine.l1]
    rw [hn0]
    have fin : (((strOfNums (M x)).toList = (strOfNums (M y)).toList) → (∃ (t : Bool), solomon_Fine.f k (M y) (n : Int) = some t ∧ ((t = true) ∧ True))) ∧ (¬ ((strOfNums (M x)).toList = (strOfNums (M y)).toList) → (∃ (t : Bool), solomon_Fine.f k (M y) (n : Int) = some t ∧ (¬ (t = true) ∧ True))) :=
      ⟨fun h => ⟨t, e1, e2.2 ⟨by omega, by omega, (Str.inj h) ▸ ok⟩, trivial⟩, fun h => ⟨t, e1, fun ht => h (by rw [dist hy.symm hx J (by omega) hd ok (e2.1 ht).2.2]), trivial⟩⟩
    exact ⟨fun _ => ⟨fun _ => ⟨fun hc => absurd hc (by omega), fun _ => fin⟩, fun _ => fin⟩, fun _ => fin⟩
  | succ e ih =>
    intro q i y J hi hy hJ hd hq
    obtain ⟨q, rfl⟩ : ∃ m, q = m + 1 := ⟨q - 1, by omega⟩
    obtain ⟨t, e1, e2⟩ := f_fine_all k hk y (by omega) n h1 h2
    simp only [wristbandlaw09_SolomonFine.l1]
    rw [hn0]
    have fin : (((strOfNums (M x)).toList = (strOfNums (M y)).toList) → (∃ (t : Bool), solomon_Fine.f k (M y) (n : Int) = some t ∧ ((t = true) ∧ True))) ∧ (¬ ((strOfNums (M x)).toList = (strOfNums (M y)).toList) → (∃ (t : Bool), solomon_Fine.f k (M y) (n : Int) = some t ∧ (¬ (t = true) ∧ True))) :=
      ⟨fun h => ⟨t, e1, e2.2 ⟨by omega, by omega, (Str.inj h) ▸ ok⟩, trivial⟩, fun h => ⟨t, e1, fun ht => h (by rw [dist hy.symm hx J (by omega) hd ok (e2.1 ht).2.2]), trivial⟩⟩
    refine ⟨fun _ => ⟨fun _ => ⟨fun _ => ?_, fun _ => fin⟩, fun _ => fin⟩, fun _ => fin⟩
    have b := GF.I_bd (co at_ i)
    have b1 := Int.emod_nonneg (GF.I (co at_ i)) (show (y.length : Int) ≠ 0 by omega)
    have b2 := Int.emod_lt_of_pos (GF.I (co at_ i)) (show 0 < (y.length : Int) by omega)
    rw [M_length, rd_M, Int.toNat_natCast, w64 (by omega) (by omega), tmodp _ _ b.1]
    obtain ⟨p, hp⟩ : ∃ p : Nat, (GF.I (co at_ i) % (y.length : Int)) = p := ⟨(GF.I (co at_ i) % (y.length : Int)).toNat, by omega⟩
    have hpl : p < y.length := by omega
    rw [hp]
    refine ⟨by omega, by omega, by omega, by omega, ?_⟩
    rw [rd_M, rd_M, GF.xor, M_set, w64 (by omega) (by omega), show (i : Int) + 1 = ((i + 1 : Nat) : Int) by omega, Int.toNat_natCast, Int.toNat_natCast]
    refine ih q (i + 1) _ ((y.length - 1 - p) :: J) (by omega) (by rw [List.length_set, hy]) (by rw [List.length_cons]; omega) (fun j hj hne => ?_) (by omega)
    by_cases c : j = y.length - 1 - p
    · rw [c]; exact List.mem_cons_self ..
    · refine List.mem_cons_of_mem _ (hd j hj (fun e => hne (e.trans ?_)))
      show (y.reverse).getD j 0 = ((y.set p _).reverse).getD j 0
      rw [List.getD_eq_getElem?_getD, List.getD_eq_getElem?_getD, List.getElem?_reverse (by omega), List.getElem?_reverse (by rw [List.length_set]; omega), List.length_set, List.getElem?_set_ne (by omega)]
end SolomonFineLaw
open SolomonFineLaw in
theorem SolomonFine : wristbandlaw09_SolomonFine.Pure := by
  intro l0 a1 l2 l3 _ _ w0 w1 _ _ w2 _ _ w3
  obtain ⟨d, rfl⟩ := ex_M w0
  obtain ⟨x, rfl⟩ := GF.ex_I w1
  obtain ⟨p, rfl⟩ := ex_M w2
  obtain ⟨q, rfl⟩ := ex_M w3
  have b := GF.I_bd x
  obtain ⟨n, hn⟩ : ∃ n : Nat, GF.I x % 64 + 1 = n := ⟨(GF.I x % 64 + 1).toNat, by omega⟩
  have h1 : 1 ≤ n := by omega
  have h2 : n ≤ 64 := by omega
  have hn0 : wrap64 (Int.tmod (wrap64 (GF.I x)) 64 + 1) = (n : Int) := by
    rw [w64 (n := GF.I x) (by omega) (by omega), tmodp _ _ b.1, w64 (by omega) (by omega), hn]
  refine ⟨100000, SolomonFineLaw.awake _ (by decide), fun _ => trivial, fun hl => ?_⟩
  rw [hn0, M_length, w64 (by omega) (by omega)] at hl
  obtain ⟨c, c1, c2, c3⟩ := f_put 100000 (by decide) d n h1 h2 (by omega)
  have hlen : (d ++ c).length = d.length + n := by rw [List.length_append, c1]
  obtain ⟨t, e1, e2⟩ := f_fine_all 100000 (by decide) (d ++ c) (by omega) n h1 h2
  rw [hn0]
  refine ⟨M (d ++ c), 0, c2, rfl, ?_, by rw [M_length]; omega, by rw [M_length, M_length]; omega, ?_, t, e1, e2.2 ⟨by omega, by omega, c3⟩, by rw [M_length]; simp; omega, n + 1, ?_⟩
  · rw [M_length, M_length, w64 (by omega) (by omega)]; omega
  · rw [M_length, Int.toNat_natCast, M_take, List.take_left' rfl]
  · exact fine_l 100000 (by decide) _ _ (d ++ c) p q n hn0 h1 h2 (by omega) (by omega) c3 n (n + 1) 0 (d ++ c) [] (by omega) rfl (by simp) (fun j _ h => absurd rfl h) (by omega)
end Go.Proofs.Ytgieppcadnhhaaa.Pure
