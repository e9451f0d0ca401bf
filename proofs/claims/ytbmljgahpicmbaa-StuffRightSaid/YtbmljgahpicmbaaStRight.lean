-- Written by hand for this claim's session.
import Derived.Test.YtbmljgahpicmbaaStAwake
import Derived.Test.YtbmljgahpicmbaaStLp
open Go Go.YtbmljgahpicmbaaE Go.Proofs
set_option maxRecDepth 100000
set_option autoImplicit false
namespace Go.Proofs.YtbmljgahpicmbaaSt
theorem StuffRight_g (g : List (List Bool)) (h8 : ∀ x ∈ g, x.length = 8) (n : Int) (h0 : -9223372036854775808 ≤ n) (h1 : n < 9223372036854775808) : CtT Try.prog 3 [.sl 1 (bys (g.map V)), .int .i64 n] (Ret (.bool true) []) := by
  refine Ct.of Try.func3 (by rfl) rfl (n := 70) rfl (by simp [ids]) ?_
  refine Told.callT awake_ct rfl rfl rfl rfl ?_
  have hgl : (bys (g.map V)).length = g.length := by rw [bys_length, List.length_map]
  refine brB (fun hc => ?_) (fun hc => ?_)
  · exact ⟨[], _, _, ⟨rfl, rfl⟩, rfl, trivial, rfl⟩
  have hc : ¬ ((bys (g.map V)).length : Int) > 3000 := of_decide_eq_false hc
  rw [hgl] at hc
  obtain ⟨q1, q2⟩ := read_same h8
  refine brB (fun hn => brB (fun hn2 => ?_) (fun hn2 => ?_)) (fun hn => ?_)
  · have hn := of_decide_eq_true hn
    have hn2 := of_decide_eq_true hn2
    refine ⟨by decide, ?_⟩
    have hw : (if n < 0 ∨ n > 1048576 then (0 : Int) else (8 * n + 6) / 7) = IntKind.i64.wrap ((IntKind.i64.wrap (IntKind.i64.wrap (8 * n) + 6)).tdiv 7) := by
      rw [if_neg (by omega), wi (n := 8 * n) (by omega) (by omega), wi (n := 8 * n + 6) (by omega) (by omega), Int.tdiv_eq_ediv_of_nonneg (by omega), wi (by omega) (by omega)]
    cases hok : decide ((E (got g).flatten).map V = g.map V) with
    | true =>
      have hok2 : decide ((E (gotR g).flatten).map V = g.map V) = true := decide_eq_true (q1.1 (of_decide_eq_true hok))
      have eg : got g = gotR g := q2 (of_decide_eq_true hok)
      refine Told.callT (stuff_Get_ct g h8 (by omega) true hok) rfl rfl rfl rfl ?_
      refine Told.callT (ref_Get_ct g h8 (by omega) true hok2) rfl rfl rfl rfl ?_
      refine Told.callT (stuff_Put_ct g h8 (by omega)) rfl rfl rfl rfl ?_
      refine ⟨_, rfl, ?_⟩
      refine Told.callT (ref_Put_ct g h8 (by omega)) rfl rfl rfl rfl ?_
      refine ⟨_, rfl, fun c1 e1 => ?_⟩
      refine brT (e1.trans (decide_eq_true rfl)) ?_
      refine ⟨_, rfl, _, rfl, fun c2 e2 => ?_⟩
      refine brT (e2.trans (decide_eq_true (by rw [eg]))) ?_
      refine Told.callT (Most_ct n h0 h1) rfl rfl rfl rfl ?_
      refine ⟨[], _, _, ⟨rfl, rfl⟩, ?_, trivial, rfl⟩
      exact congrArg AV.bool (decide_eq_true hw)
    | false =>
      have hok2 : decide ((E (gotR g).flatten).map V = g.map V) = false := decide_eq_false (fun h => of_decide_eq_false hok (q1.2 h))
      refine Told.callT (stuff_Get_ct g h8 (by omega) false hok) rfl rfl rfl rfl ?_
      refine Told.callT (ref_Get_ct g h8 (by omega) false hok2) rfl rfl rfl rfl ?_
      refine Told.callT (stuff_Put_ct g h8 (by omega)) rfl rfl rfl rfl ?_
      refine ⟨_, rfl, ?_⟩
      refine Told.callT (ref_Put_ct g h8 (by omega)) rfl rfl rfl rfl ?_
      refine ⟨_, rfl, fun c1 e1 => ?_⟩
      refine brT (e1.trans (decide_eq_true rfl)) ?_
      refine ⟨[], rfl, [], rfl, fun c2 e2 => ?_⟩
      refine brT (e2.trans (decide_eq_true rfl)) ?_
      refine Told.callT (Most_ct n h0 h1) rfl rfl rfl rfl ?_
      refine ⟨[], _, _, ⟨rfl, rfl⟩, ?_, trivial, rfl⟩
      exact congrArg AV.bool (decide_eq_true hw)
  · have hn2 := of_decide_eq_false hn2
    have hw : (if n < 0 ∨ n > 1048576 then (0 : Int) else (8 * n + 6) / 7) = 0 := if_pos (.inr (by omega))
    cases hok : decide ((E (got g).flatten).map V = g.map V) with
    | true =>
      have hok2 : decide ((E (gotR g).flatten).map V = g.map V) = true := decide_eq_true (q1.1 (of_decide_eq_true hok))
      have eg : got g = gotR g := q2 (of_decide_eq_true hok)
      refine Told.callT (stuff_Get_ct g h8 (by omega) true hok) rfl rfl rfl rfl ?_
      refine Told.callT (ref_Get_ct g h8 (by omega) true hok2) rfl rfl rfl rfl ?_
      refine Told.callT (stuff_Put_ct g h8 (by omega)) rfl rfl rfl rfl ?_
      refine ⟨_, rfl, ?_⟩
      refine Told.callT (ref_Put_ct g h8 (by omega)) rfl rfl rfl rfl ?_
      refine ⟨_, rfl, fun c1 e1 => ?_⟩
      refine brT (e1.trans (decide_eq_true rfl)) ?_
      refine ⟨_, rfl, _, rfl, fun c2 e2 => ?_⟩
      refine brT (e2.trans (decide_eq_true (by rw [eg]))) ?_
      refine Told.callT (Most_ct n h0 h1) rfl rfl rfl rfl ?_
      refine ⟨[], _, _, ⟨rfl, rfl⟩, ?_, trivial, rfl⟩
      exact congrArg AV.bool (decide_eq_true hw)
    | false =>
      have hok2 : decide ((E (gotR g).flatten).map V = g.map V) = false := decide_eq_false (fun h => of_decide_eq_false hok (q1.2 h))
      refine Told.callT (stuff_Get_ct g h8 (by omega) false hok) rfl rfl rfl rfl ?_
      refine Told.callT (ref_Get_ct g h8 (by omega) false hok2) rfl rfl rfl rfl ?_
      refine Told.callT (stuff_Put_ct g h8 (by omega)) rfl rfl rfl rfl ?_
      refine ⟨_, rfl, ?_⟩
      refine Told.callT (ref_Put_ct g h8 (by omega)) rfl rfl rfl rfl ?_
      refine ⟨_, rfl, fun c1 e1 => ?_⟩
      refine brT (e1.trans (decide_eq_true rfl)) ?_
      refine ⟨[], rfl, [], rfl, fun c2 e2 => ?_⟩
      refine brT (e2.trans (decide_eq_true rfl)) ?_
      refine Told.callT (Most_ct n h0 h1) rfl rfl rfl rfl ?_
      refine ⟨[], _, _, ⟨rfl, rfl⟩, ?_, trivial, rfl⟩
      exact congrArg AV.bool (decide_eq_true hw)
  · have hn := of_decide_eq_false hn
    have hw : (if n < 0 ∨ n > 1048576 then (0 : Int) else (8 * n + 6) / 7) = 0 := if_pos (.inl (by omega))
    cases hok : decide ((E (got g).flatten).map V = g.map V) with
    | true =>
      have hok2 : decide ((E (gotR g).flatten).map V = g.map V) = true := decide_eq_true (q1.1 (of_decide_eq_true hok))
      have eg : got g = gotR g := q2 (of_decide_eq_true hok)
      refine Told.callT (stuff_Get_ct g h8 (by omega) true hok) rfl rfl rfl rfl ?_
      refine Told.callT (ref_Get_ct g h8 (by omega) true hok2) rfl rfl rfl rfl ?_
      refine Told.callT (stuff_Put_ct g h8 (by omega)) rfl rfl rfl rfl ?_
      refine ⟨_, rfl, ?_⟩
      refine Told.callT (ref_Put_ct g h8 (by omega)) rfl rfl rfl rfl ?_
      refine ⟨_, rfl, fun c1 e1 => ?_⟩
      refine brT (e1.trans (decide_eq_true rfl)) ?_
      refine ⟨_, rfl, _, rfl, fun c2 e2 => ?_⟩
      refine brT (e2.trans (decide_eq_true (by rw [eg]))) ?_
      refine Told.callT (Most_ct n h0 h1) rfl rfl rfl rfl ?_
      refine ⟨[], _, _, ⟨rfl, rfl⟩, ?_, trivial, rfl⟩
      exact congrArg AV.bool (decide_eq_true hw)
    | false =>
      have hok2 : decide ((E (gotR g).flatten).map V = g.map V) = false := decide_eq_false (fun h => of_decide_eq_false hok (q1.2 h))
      refine Told.callT (stuff_Get_ct g h8 (by omega) false hok) rfl rfl rfl rfl ?_
      refine Told.callT (ref_Get_ct g h8 (by omega) false hok2) rfl rfl rfl rfl ?_
      refine Told.callT (stuff_Put_ct g h8 (by omega)) rfl rfl rfl rfl ?_
      refine ⟨_, rfl, ?_⟩
      refine Told.callT (ref_Put_ct g h8 (by omega)) rfl rfl rfl rfl ?_
      refine ⟨_, rfl, fun c1 e1 => ?_⟩
      refine brT (e1.trans (decide_eq_true rfl)) ?_
      refine ⟨[], rfl, [], rfl, fun c2 e2 => ?_⟩
      refine brT (e2.trans (decide_eq_true rfl)) ?_
      refine Told.callT (Most_ct n h0 h1) rfl rfl rfl rfl ?_
      refine ⟨[], _, _, ⟨rfl, rfl⟩, ?_, trivial, rfl⟩
      exact congrArg AV.bool (decide_eq_true hw)
end Go.Proofs.YtbmljgahpicmbaaSt
