-- Written by hand for this claim's session.
import Derived.Test.YtbbcnmfmncgffaaCaH
open Go Go.YtbbcnmfmncgffaaE Go.Proofs
set_option maxRecDepth 100000
set_option autoImplicit false
namespace Go.Proofs.YtbbcnmfmncgffaaX
theorem RPut_ct (c : C) (u : U) (hl : c.s.length < 10000) : CtT Try.prog 10 [c.T, u.T] (Ret (.t (res (putC c u))) []) := by
  refine CtT.ofN Try.func10 rfl rfl (n := 68) rfl ?_
  obtain ⟨b, hb⟩ := ex_bool c.Ok
  refine Told.callT (RRight_ct c (by omega) b hb) rfl rfl rfl rfl ?_
  cases b with
  | false =>
    refine ⟨_, rfl, ?_⟩
    rw [putC, if_pos (fun h => by have := hb.2 h; cases this)]
    exact .refl _
  | true =>
    have ok := hb.1 rfl
    obtain ⟨k, hk, hki⟩ := srt_index c.s ok.srt u
    refine brB (fun h1 => ?_) (fun h1 => ?_)
    · refine ⟨_, rfl, ?_⟩
      rw [putC, if_neg (by simpa using ok), if_pos (of_decide_eq_true h1)]
      exact .refl _
    refine Told.callT (RHas_ct c u (by omega)) rfl rfl rfl rfl ?_
    refine brB (fun h2 => ?_) (fun h2 => brB (fun h3 => ?_) (fun h3 => ?_))
    · refine ⟨_, rfl, ?_⟩
      rw [putC, if_neg (by simpa using ok), if_neg (of_decide_eq_false h1), if_pos (of_decide_eq_true h2)]
      exact .refl _
    · refine ⟨_, rfl, ?_⟩
      have h3 := of_decide_eq_true h3
      rw [uses_len] at h3
      rw [putC, if_neg (by simpa using ok), if_neg (of_decide_eq_false h1), if_neg (of_decide_eq_false h2), if_pos (by have := ok.len; omega)]
      exact .refl _
    · have h3 := of_decide_eq_false h3
      rw [uses_len] at h3
      refine ⟨Nat, fun i => [(2, .ptr 2 0), (3, .ptr 3 0), (4, .ptr 4 0), (6, .own 9), (7, .int .i64 i)], fun i => [(9, false, URow (c.s.take i)), (2, false, CacBox c.r c.f c.s), (3, false, UseBox u), (4, false, .box 25 [.int .i64 0, .int .u64 0, .t (.v (.slice none 0 0))])],
        fun i => i ≤ k, fun i => k - i, 0, Nat.zero_le _, Le.trans (Le.nil 6 9 27 3 rfl rfl) (Le.of [] ⟨rfl, rfl, rfl, rfl, rfl, trivial⟩ ⟨rfl, rfl, rfl, rfl, trivial⟩ rfl), ?_⟩
      intro i hi
      have fin : i = k → Tas (res (⟨c.r, c.f, []⟩, 0)) (res (⟨c.r, c.f, []⟩, 0)) ∧ Tas (.tuple [.agg [.int .i64 c.r, .int .u64 c.f, .sl 3 (uses (c.s.take i) ++ [u.T] ++ (uses c.s).drop i)], .int .i64 0]) (res (putC c u)) := fun e => by
        subst e
        rw [putC, if_neg (by simpa using ok), if_neg (of_decide_eq_false h1), if_neg (of_decide_eq_false h2), if_neg (by omega), insU_eq hk hki]
        refine ⟨.refl _, ?_⟩
        have e : uses (c.s.take i) ++ [u.T] ++ (uses c.s).drop i = uses (c.s.take i ++ u :: c.s.drop i) := by simp [uses]
        rw [e]
        exact .refl _
      refine brB (fun hc => ?_) (fun hc => ?_)
      · have hc : i < c.s.length := by have := of_decide_eq_true hc; rw [uses_len] at this; omega
        have hx : c.s[i]? = some c.s[i] := List.getElem?_eq_getElem hc
        generalize c.s[i] = v at hx
        refine ⟨by omega, _, uses_get rfl hx, ?_⟩
        obtain ⟨z, hz⟩ := ex_bool (ltU v u)
        refine Told.callT (Less_ct v u z hz) rfl rfl rfl rfl ?_
        cases z with
        | true =>
          have hik := (hki i v hx).1 (hz.1 rfl)
          refine ⟨by omega, _, uses_get rfl hx, by show _ * 24 ≤ _; simp; omega, ?_⟩
          refine ⟨i + 1, hik, Le.of [(9, 50)] ⟨rfl, rfl, rfl, rfl, congrArg (AV.int .i64) (wi (by omega) (by omega)), trivial⟩ ⟨congrArg (fun x => (false, Blk.row 27 3 x)) ?_, rfl, rfl, rfl, trivial⟩ rfl, by show k - (i + 1) < k - i; omega⟩
          show uses (c.s.take i) ++ [v.T] = uses (c.s.take (i + 1))
          rw [List.take_add_one, hx]
          simp [uses]
        | false =>
          have hik : i = k := by have : ¬ i < k := fun e => (by cases hz.2 ((hki i v hx).2 e)); omega
          exact ⟨by show _ * 24 ≤ _; simp; omega, by omega, by rw [uses_len]; omega, by omega, by show _ * 24 ≤ _; simp; omega, _, rfl, (fin hik).2⟩
      · have hc : ¬ i < c.s.length := by have := of_decide_eq_false hc; rw [uses_len] at this; omega
        exact ⟨by show _ * 24 ≤ _; simp; omega, by omega, by rw [uses_len]; omega, by omega, by show _ * 24 ≤ _; simp; omega, _, rfl, (fin (by omega)).2⟩
theorem RRaise_ct (c : C) (f : Int) (hl : c.s.length < 10000) : CtT Try.prog 12 [c.T, .int .u64 f] (Ret (.t (res (raiseC c f))) []) := by
  refine CtT.ofN Try.func12 rfl rfl (n := 50) rfl ?_
  obtain ⟨b, hb⟩ := ex_bool c.Ok
  refine Told.callT (RRight_ct c (by omega) b hb) rfl rfl rfl rfl ?_
  cases b with
  | false =>
    refine ⟨_, rfl, ?_⟩
    rw [raiseC, if_pos (fun h => by have := hb.2 h; cases this)]
    exact .refl _
  | true =>
    have ok := hb.1 rfl
    have main : ∀ g : Int, g = mx c.f f → Tas (res (⟨c.r, g, keep g c.s⟩, 0)) (res (raiseC c f)) := fun g hg => by
      subst hg
      rw [raiseC, if_neg (by simpa using ok)]
      exact .refl _
    refine brB (fun h1 => ?_) (fun h1 => ?_)
    all_goals
      have hg : (if f > c.f then f else c.f) = mx c.f f := rfl
    · rw [if_pos (of_decide_eq_true h1)] at hg
      generalize mx c.f f = g at hg main
      subst hg
      replace main := main _ rfl
      refine ⟨Nat, fun i => [(2, .ptr 2 0), (4, .ptr 4 0), (6, .ptr 6 0), (7, .int .i64 i)], fun i => [(9, false, URow (keep f (c.s.take i))), (6, false, .box 25 [.int .i64 c.r, .int .u64 f, .own 9]), (2, false, CacBox c.r c.f c.s), (4, false, .box 25 [.int .i64 0, .int .u64 0, .t (.v (.slice none 0 0))])],
        fun i => i ≤ c.s.length, fun i => c.s.length - i, 0, Nat.zero_le _, Le.trans (Le.nilBox 6 2 9 25 27 3 _ rfl rfl rfl) (Le.of [] ⟨rfl, rfl, rfl, rfl, trivial⟩ ⟨rfl, rfl, rfl, rfl, trivial⟩ rfl), ?_⟩
      intro i hi
      refine brB (fun hc => ?_) (fun hc => ?_)
      · have hc : i < c.s.length := by have := of_decide_eq_true hc; rw [uses_len] at this; omega
        have hx : c.s[i]? = some c.s[i] := List.getElem?_eq_getElem hc
        generalize c.s[i] = v at hx
        have hk := keep_take_succ (f := f) hx
        refine ⟨by omega, _, uses_get rfl hx, ?_⟩
        refine brB (fun hv => ?_) (fun hv => ?_)
        · have hv : decide (v.c < f) = false := by have := of_decide_eq_true hv; exact decide_eq_false (by omega)
          rw [hv] at hk
          refine ⟨by omega, _, uses_get rfl hx, by show _ * 24 ≤ _; have := List.length_filter_le (fun u => !decide (u.c < f)) (c.s.take i); simp [keep] at *; omega, ?_⟩
          refine ⟨i + 1, hc, Le.of [(9, 47)] ⟨rfl, rfl, rfl, congrArg (AV.int .i64) (wi (by omega) (by omega)), trivial⟩ ⟨congrArg (fun x => (false, Blk.row 27 3 x)) ?_, rfl, rfl, rfl, trivial⟩ rfl, by show c.s.length - (i + 1) < c.s.length - i; omega⟩
          show uses (keep f (c.s.take i)) ++ [v.T] = uses (keep f (c.s.take (i + 1)))
          rw [hk]
          simp [uses]
        · have hv : decide (v.c < f) = true := by have := of_decide_eq_false hv; exact decide_eq_true (by omega)
          rw [hv] at hk
          refine ⟨i + 1, hc, Le.of [] ⟨rfl, rfl, rfl, congrArg (AV.int .i64) (wi (by omega) (by omega)), trivial⟩ ⟨congrArg (fun x => (false, Blk.row 27 3 x)) ?_, rfl, rfl, rfl, trivial⟩ rfl, by show c.s.length - (i + 1) < c.s.length - i; omega⟩
          show uses (keep f (c.s.take i)) = uses (keep f (c.s.take (i + 1)))
          rw [hk]
          simp [uses]
      · have hc : i = c.s.length := by have := of_decide_eq_false hc; rw [uses_len] at this; omega
        subst hc
        refine ⟨_, rfl, ?_⟩
        rw [List.take_length]
        exact main
    · rw [if_neg (of_decide_eq_false h1)] at hg
      generalize mx c.f f = g at hg main
      subst hg
      replace main := main _ rfl
      refine ⟨Nat, fun i => [(2, .ptr 2 0), (4, .ptr 4 0), (6, .ptr 6 0), (7, .int .i64 i)], fun i => [(9, false, URow (keep c.f (c.s.take i))), (6, false, .box 25 [.int .i64 c.r, .int .u64 c.f, .own 9]), (2, false, CacBox c.r c.f c.s), (4, false, .box 25 [.int .i64 0, .int .u64 0, .t (.v (.slice none 0 0))])],
        fun i => i ≤ c.s.length, fun i => c.s.length - i, 0, Nat.zero_le _, Le.trans (Le.nilBox 6 2 9 25 27 3 _ rfl rfl rfl) (Le.of [] ⟨rfl, rfl, rfl, rfl, trivial⟩ ⟨rfl, rfl, rfl, rfl, trivial⟩ rfl), ?_⟩
      intro i hi
      refine brB (fun hc => ?_) (fun hc => ?_)
      · have hc : i < c.s.length := by have := of_decide_eq_true hc; rw [uses_len] at this; omega
        have hx : c.s[i]? = some c.s[i] := List.getElem?_eq_getElem hc
        generalize c.s[i] = v at hx
        have hk := keep_take_succ (f := c.f) hx
        refine ⟨by omega, _, uses_get rfl hx, ?_⟩
        refine brB (fun hv => ?_) (fun hv => ?_)
        · have hv : decide (v.c < c.f) = false := by have := of_decide_eq_true hv; exact decide_eq_false (by omega)
          rw [hv] at hk
          refine ⟨by omega, _, uses_get rfl hx, by show _ * 24 ≤ _; have := List.length_filter_le (fun u => !decide (u.c < c.f)) (c.s.take i); simp [keep] at *; omega, ?_⟩
          refine ⟨i + 1, hc, Le.of [(9, 47)] ⟨rfl, rfl, rfl, congrArg (AV.int .i64) (wi (by omega) (by omega)), trivial⟩ ⟨congrArg (fun x => (false, Blk.row 27 3 x)) ?_, rfl, rfl, rfl, trivial⟩ rfl, by show c.s.length - (i + 1) < c.s.length - i; omega⟩
          show uses (keep c.f (c.s.take i)) ++ [v.T] = uses (keep c.f (c.s.take (i + 1)))
          rw [hk]
          simp [uses]
        · have hv : decide (v.c < c.f) = true := by have := of_decide_eq_false hv; exact decide_eq_true (by omega)
          rw [hv] at hk
          refine ⟨i + 1, hc, Le.of [] ⟨rfl, rfl, rfl, congrArg (AV.int .i64) (wi (by omega) (by omega)), trivial⟩ ⟨congrArg (fun x => (false, Blk.row 27 3 x)) ?_, rfl, rfl, rfl, trivial⟩ rfl, by show c.s.length - (i + 1) < c.s.length - i; omega⟩
          show uses (keep c.f (c.s.take i)) = uses (keep c.f (c.s.take (i + 1)))
          rw [hk]
          simp [uses]
      · have hc : i = c.s.length := by have := of_decide_eq_false hc; rw [uses_len] at this; omega
        subst hc
        refine ⟨_, rfl, ?_⟩
        rw [List.take_length]
        exact main
end Go.Proofs.YtbbcnmfmncgffaaX
