/- SolomonRight is proved: the generator of any number, any data with its checks, the signs of any bytes, and whether they are fine, is what the reference reckons. No conditions. -/
import Derived.Test.YtgieppcadnhhaaaPx9
import Derived.Test.YtgieppcadnhhaaaPx11
import Derived.Test.YtgieppcadnhhaaaPx14
import Derived.Test.YtgieppcadnhhaaaPx16
import Derived.Test.YtgieppcadnhhaaaPx17
import Derived.Test.YtgieppcadnhhaaaPolyF
import Derived.Test.YtgieppcadnhhaaaRefPolyF
import Derived.Test.YtgieppcadnhhaaaSolF
import Derived.Test.YtgieppcadnhhaaaRefSolF
namespace Go.Proofs.Ytgieppcadnhhaaa.Pure
open Go Go.RowKit Go.Proofs.Ytgieppcadnhhaaa.P Go.Proofs.YtgieppcadnhhaaaW.PrintWords Go.Proofs.YtgieppcadnhhaaaW.PrintLast Go.Proofs.YtgieppcadnhhaaaW.PrintMore
open Go.Ar Pl Go.Proofs.Ytgieppcadnhhaaa.PolyF Go.Proofs.Ytgieppcadnhhaaa.RefPolyF Go.Proofs.Ytgieppcadnhhaaa.SolF Go.Proofs.Ytgieppcadnhhaaa.RefSolF
namespace SolomonRightLaw
theorem up {α : Type} {f : Nat → Option α} (h : ∀ k, LeO (f k) (f (k + 1))) {k0 : Nat} {r : α} (e : f k0 = some r) : ∀ k, k0 ≤ k → f k = some r := by
  intro k hk
  obtain ⟨d, rfl⟩ : ∃ d, k = k0 + d := ⟨k - k0, by omega⟩
  clear hk
  induction d with
  | zero => exact e
  | succ d ih => exact h (k0 + d) r ih
theorem aw_put (k : Nat) (hk : 1000 ≤ k) : solomon_Put.f k [1] 1 = some ([1, 2], 0) := by
  obtain ⟨c, h1, h2, h3⟩ := f_put k hk [1] 1 (by decide) (by decide) (by decide)
  have f2 : solomon_Fine.f 1000 [1, 2] 1 = some true := up (fun k => solomon_Fine.mono _ _ k) (k0 := 60) (by decide +kernel) 1000 (by decide)
  obtain ⟨t, e1, e2⟩ := f_fine_all 1000 (by decide) [1, GF.ofI 2] (by decide) 1 (by decide) (by decide)
  rw [show M [1, GF.ofI 2] = [1, 2] from rfl, show ((1 : Nat) : Int) = 1 from rfl, f2] at e1
  have ht : true = t := Option.some.inj e1
  have := checks_unique (d := [1]) (c := c) (c' := [GF.ofI 2]) (n := 1) h1 rfl (by decide) h3 (e2.1 ht.symm).2.2
  rw [this] at h2
  exact h2
theorem awake (k : Nat) (hk : 1000 ≤ k) : wristbandlaw09_awake.f k = some true := by
  unfold wristbandlaw09_awake.f
  rw [aw_put k hk, Option.bind_some, show solomon_Signs.f k [1, 0] 1 = some ([2], 0) from up (fun k => solomon_Signs.mono _ _ k) (k0 := 60) (by decide +kernel) k (by omega), Option.bind_some, if_pos (by omega),
    M_zeros, show (10 : Int) = ((10 : Nat) : Int) from rfl, f_put_long k hk _ 10 (by decide) (by decide) (by rw [List.length_replicate]; omega), Option.bind_some, if_pos rfl, if_pos rfl, if_pos rfl, if_pos (by decide +kernel), if_pos (by decide +kernel),
    show solomon_Fine.f k [1, 2] 1 = some true from up (fun k => solomon_Fine.mono _ _ k) (k0 := 60) (by decide +kernel) k (by omega), Option.bind_some, if_pos rfl,
    show solomon_Fine.f k [1, 0] 1 = some false from up (fun k => solomon_Fine.mono _ _ k) (k0 := 60) (by decide +kernel) k (by omega)]
  rfl
end SolomonRightLaw
open SolomonRightLaw in
theorem SolomonRight : wristbandlaw09_SolomonRight.Pure := by
  intro l0 a1 _ _ w0 w1
  obtain ⟨b, rfl⟩ := ex_M w0
  refine ⟨100000, true, SolomonRightLaw.awake _ (by decide), rfl, fun _ => trivial, fun hb => ?_⟩
  have hb' : b.length ≤ 300 := by rw [M_length] at hb; omega
  clear hb
  by_cases hn : a1 < 1 ∨ 64 < a1
  · refine ⟨_, _, f_gen_no _ (by decide) _ hn, _, _, f_put_no _ (by decide) _ _ hn, _, _, f_signs_no _ (by decide) _ _ hn, ?_, ?_⟩
    · intro _
      exact ⟨rfl, rfl, rfl, rfl, rfl, rfl, _, f_fine_no _ (by decide) _ _ hn, by decide, trivial⟩
    · intro _
      refine ⟨?_, fun h => absurd hn (by omega)⟩
      intro _
      exact ⟨rfl, rfl, rfl, rfl, rfl, rfl, _, f_fine_no _ (by decide) _ _ hn, by decide, trivial⟩
  · obtain ⟨n, rfl⟩ : ∃ n : Nat, a1 = n := ⟨a1.toNat, by omega⟩
    have h1 : 1 ≤ n := by omega
    have h2 : n ≤ 64 := by omega
    obtain ⟨t, t1, t2⟩ := f_fine_all 100000 (by decide) b (by omega) n h1 h2
    obtain ⟨u, u1, u2⟩ := r_fine 100000 (by decide) b hb' n h1 h2
    have htu : t = u := by
      rw [Bool.eq_iff_iff, t2, u2]
    subst htu
    -- the end, alike on each way
    have fin : ∀ (x : List Int) (e : Int), solomon_Put.f 100000 (M b) (n : Int) = some (x, e) →
        ((wrap64 (((M b).length : Int) + (n : Int)) > (255 : Int)) → ((e = (4 : Int)) ∧ (((x.length : Int) = (0 : Int)) ∧ True))) ∧
        (¬ (wrap64 (((M b).length : Int) + (n : Int)) > (255 : Int)) → ((e = (0 : Int)) ∧ (∃ (t13 : List Int), wristbandref09_Put.f 100000 (M b) (n : Int) = some t13 ∧ (((strOfNums x).toList = (strOfNums t13).toList) ∧ True)))) := by
      intro x e he
      rw [M_length, w64 (by omega) (by omega)]
      constructor
      · intro h
        rw [f_put_long 100000 (by decide) b n h1 h2 (by omega)] at he
        obtain ⟨rfl, rfl⟩ := Prod.mk.inj (Option.some.inj he)
        exact ⟨rfl, rfl, trivial⟩
      · intro h
        obtain ⟨c, c1, c2, c3⟩ := f_put 100000 (by decide) b n h1 h2 (by omega)
        obtain ⟨c', c1', c2', c3'⟩ := r_put 100000 (by decide) b n h1 h2 (by omega)
        rw [c2] at he
        obtain ⟨rfl, rfl⟩ := Prod.mk.inj (Option.some.inj he)
        exact ⟨rfl, _, c2', by rw [checks_unique c1 c1' (by omega) c3 c3'], trivial⟩
    have hput : ∃ x e, solomon_Put.f 100000 (M b) (n : Int) = some (x, e) := by
      by_cases h : 255 < b.length + n
      · exact ⟨_, _, f_put_long 100000 (by decide) b n h1 h2 h⟩
      · obtain ⟨c, c1, c2, c3⟩ := f_put 100000 (by decide) b n h1 h2 (by omega)
        exact ⟨_, _, c2⟩
    obtain ⟨x, e, hx⟩ := hput
    have fin := fin x e hx
    have hs := f_signs_all 100000 (by decide) b (by omega) n h1 h2
    have he := r_error 100000 (by decide) b n h1 h2
    refine ⟨_, _, f_gen 100000 (by decide) n h1 h2, x, e, hx, ?_⟩
    obtain ⟨s, h, hsh, hh, hz, hnz⟩ : ∃ s h, solomon_Signs.f 100000 (M b) (n : Int) = some (s, h) ∧ wristbandref09_Error.f 100000 (M b) (n : Int) = some h ∧ (h = 0 → s = M (signs b n)) ∧ (h ≠ 0 → s = []) := by
      rw [hs, he]
      by_cases c1 : b.length < n
      · rw [if_pos c1, if_pos c1]; exact ⟨_, _, rfl, rfl, fun h => absurd h (by decide), fun _ => rfl⟩
      · rw [if_neg c1, if_neg c1]
        by_cases c2 : 255 < b.length
        · rw [if_pos c2, if_pos c2]; exact ⟨_, _, rfl, rfl, fun h => absurd h (by decide), fun _ => rfl⟩
        · rw [if_neg c2, if_neg c2]; exact ⟨_, _, rfl, rfl, fun _ => rfl, fun h => absurd rfl h⟩
    have two : (h = 0 → (∃ (t12 : List Int), wristbandref09_Signs.f 100000 (M b) (n : Int) = some t12 ∧ ((strOfNums s).toList = (strOfNums t12).toList))) ∧ (¬ h = 0 → ((s.length : Int) = 0)) :=
      ⟨fun hq => ⟨_, r_signs 100000 (by decide) b hb' n h2, by rw [hz hq]⟩, fun hq => by rw [hnz hq]; rfl⟩
    refine ⟨s, h, hsh, fun hc => absurd hc (by omega), fun _ => ⟨fun hc => absurd hc (by omega), fun _ => ⟨rfl, _, r_gen 100000 (by decide) n h2, rfl, h, hh, rfl, t, t1, ?_, ?_⟩⟩⟩
    · intro ht
      refine ⟨t, u1, ht, fun hq => ?_, fun hq => ?_⟩
      · obtain ⟨y, y1, y2⟩ := two.1 hq
        exact ⟨y, y1, y2, fin⟩
      · exact ⟨two.2 hq, fin⟩
    · intro ht
      refine ⟨t, u1, ht, fun hq => ?_, fun hq => ?_⟩
      · obtain ⟨y, y1, y2⟩ := two.1 hq
        exact ⟨y, y1, y2, fin⟩
      · exact ⟨two.2 hq, fin⟩
end Go.Proofs.Ytgieppcadnhhaaa.Pure
