-- Written by hand for this claim's session.
import Derived.Test.YtbmljgahpicmbaaStAwake
import Derived.Test.YtbmljgahpicmbaaStLp
open Go Go.YtbmljgahpicmbaaE Go.Proofs
set_option maxRecDepth 100000
set_option autoImplicit false
namespace Go.Proofs.YtbmljgahpicmbaaSt
theorem V_mixed {g : List Bool} (h8 : g.length = 8) (hm : ∀ b, g ≠ List.replicate 8 b) : ¬ V g = 0 ∧ ¬ V g = 255 := by
  constructor
  · intro h
    exact hm false (V_inj (h8.trans rfl) (h.trans rfl))
  · intro h
    exact hm true (V_inj (h8.trans rfl) (h.trans rfl))
theorem StuffBack_g (a b : List (List Bool)) (h8 : ∀ x ∈ a, x.length = 8) (h8' : ∀ x ∈ b, x.length = 8) : CtT Try.prog 4 [.sl 1 (bys (a.map V)), .sl 1 (bys (b.map V))] (Ret (.bool true) []) := by
  refine Ct.of Try.func4 (by rfl) rfl (n := 102) rfl (by simp [ids]) ?_
  refine Told.callT awake_ct rfl rfl rfl rfl ?_
  have hgl : ∀ g : List (List Bool), (bys (g.map V)).length = g.length := fun g => by rw [bys_length, List.length_map]
  refine brB (fun hc => ?_) (fun hc => brB (fun hc2 => ?_) (fun hc2 => ?_))
  · exact ⟨[], _, _, ⟨rfl, rfl⟩, rfl, trivial, rfl⟩
  · exact ⟨[], _, _, ⟨rfl, rfl⟩, rfl, trivial, rfl⟩
  have hc : ¬ ((bys (a.map V)).length : Int) > 3000 := of_decide_eq_false hc
  have hc2 : ¬ ((bys (b.map V)).length : Int) > 3000 := of_decide_eq_false hc2
  rw [hgl] at hc hc2
  have hac := E_count a.flatten
  have hbc := E_count b.flatten
  have hgot : got (E a.flatten) = a := by rw [got_mixed (E_Mixed _)]; exact got_E h8
  have hbgot : chop (dec (E b.flatten)) = b := got_E h8'
  have hfa := flat8 a h8
  have hfb := flat8 b h8'
  have hg1 := stuff_Get_ct (E a.flatten) (fun x hx => E_len hx) (by omega) true (decide_eq_true (by rw [hgot]))
  rw [hgot] at hg1
  have ebys : ∀ g : List (List Bool), bys (g.map V) = (g.map V).map (T.int .u8) := fun g => rfl
  refine Told.callT (stuff_Put_ct a h8 (by omega)) rfl rfl rfl rfl ?_
  refine Told.callT (stuff_Put_ct b h8' (by omega)) rfl rfl rfl rfl ?_
  refine Told.callT hg1 rfl rfl rfl rfl ?_
  refine ⟨_, rfl, _, rfl, fun c1 e1 => ?_⟩
  refine brF (e1.trans (by rw [decide_eq_true rfl]; rfl)) ?_
  refine ⟨_, rfl, _, rfl, fun c2 e2 => ⟨_, rfl, _, rfl, fun c3 e3 => ?_⟩⟩
  have e23 : c2 = c3 := by
    rw [e2, e3]
    have hb1 := strOf_eq (xs := (E a.flatten).map V) (ys := (E b.flatten).map V) (fun x hx => V_byte (fun y hy => E_len hy) hx) (fun x hx => V_byte (fun y hy => E_len hy) hx)
    have hb2 := strOf_eq (xs := a.map V) (ys := b.map V) (fun x hx => V_byte h8 hx) (fun x hx => V_byte h8' hx)
    rw [decide_eq_decide]
    refine hb1.trans (Iff.trans ⟨fun h => ?_, fun h => ?_⟩ hb2.symm)
    · have e := mapV_inj (fun g hg => E_len hg) (fun g hg => E_len hg) h
      have e2 : a = b := by rw [← got_E h8, ← got_E h8', e]
      rw [e2]
    · rw [mapV_inj h8 h8' h]
  refine brF (by rw [e23]; simp) ?_
  refine Told.callT (Most_ct ((bys (a.map V)).length) (by omega) (by rw [hgl]; omega)) rfl rfl rfl rfl ?_
  refine brF (decide_eq_false ?_) ?_
  · show ¬ ((bys ((E a.flatten).map V)).length : Int) > _
    rw [hgl, hgl, if_neg (by omega)]
    omega
  refine brF (decide_eq_false ?_) ?_
  · show ¬ ((bys ((E a.flatten).map V)).length : Int) < (bys (a.map V)).length
    rw [hgl, hgl]
    omega
  refine ⟨Nat, fun i => [(1, .t (.sl 1 (bys (b.map V)))), (5, .t (.sl 1 (bys ((E a.flatten).map V)))), (9, .int .i64 i)], fun _ => [], fun i => i ≤ (E a.flatten).length, fun i => (E a.flatten).length - i, 0, by omega, ?_, ?_⟩
  · exact Le.trans (Le.flat 5 (.sl 1 (bys ((E a.flatten).map V))) rfl) (Le.of [] ⟨rfl, rfl, rfl, trivial⟩ trivial rfl)
  intro i h1
  simp only at h1 ⊢
  refine brB (fun hc3 => ?_) (fun hc3 => ?_)
  · have hc3 : (i : Int) < (bys ((E a.flatten).map V)).length := of_decide_eq_true hc3
    rw [hgl] at hc3
    obtain ⟨x, hx⟩ : ∃ x, (E a.flatten)[i]? = some x := ⟨_, List.getElem?_eq_getElem (by omega)⟩
    have hxm := List.mem_of_getElem? hx
    obtain ⟨v1, v2⟩ := V_mixed (E_len hxm) (fun b => E_mixed hxm b)
    have hxV : ((E a.flatten).map V)[i]? = some (V x) := by rw [List.getElem?_map, hx]; rfl
    refine ⟨by omega, .int .u8 (V x), bys_get hxV, ?_⟩
    refine brF (decide_eq_false v1) ?_
    refine ⟨by omega, .int .u8 (V x), bys_get hxV, ?_⟩
    refine brF (decide_eq_false v2) ?_
    exact ⟨i + 1, by show i + 1 ≤ _; omega, Le.of [] ⟨rfl, rfl, congrArg (AV.int .i64) (by rw [wi (by omega) (by omega)]; rfl), trivial⟩ trivial rfl, by show (E a.flatten).length - (i + 1) < (E a.flatten).length - i; omega⟩
  · cases hok : decide ((E (got b).flatten).map V = b.map V) with
    | true =>
      have hdl := dec2_len b h8'
      have htot : (got b).length * 8 ≤ 8 * b.length := Nat.le_trans (chop_count _ _ (Nat.le_refl _)) hdl
      refine Told.callT (stuff_Get_ct b h8' (by omega) true hok) rfl rfl rfl rfl ?_
      refine Told.callT (stuff_Put_ct (got b) (chop_mem _ _ (Nat.le_refl _)) (by omega)) rfl rfl rfl rfl ?_
      refine ⟨_, rfl, _, rfl, fun c4 e4 => ?_⟩
      refine ⟨[], _, _, ⟨rfl, rfl⟩, congrArg AV.bool (e4.trans (decide_eq_true (by rw [of_decide_eq_true hok]))), trivial, rfl⟩
    | false =>
      refine Told.callT (stuff_Get_ct b h8' (by omega) false hok) rfl rfl rfl rfl ?_
      exact ⟨[], _, _, ⟨rfl, rfl⟩, rfl, trivial, rfl⟩
end Go.Proofs.YtbmljgahpicmbaaSt
