-- Written by hand for this claim's session.
import Derived.Test.YtbbcnmfmncgffaaCaF
open Go Go.YtbbcnmfmncgffaaE Go.Proofs
set_option maxRecDepth 100000
set_option autoImplicit false
namespace Go.Proofs.YtbbcnmfmncgffaaX
open Classical in
noncomputable def newC (room : Int) : C × Int := if 0 ≤ room ∧ room ≤ 64 then (⟨room, 0, []⟩, 0) else (⟨0, 0, []⟩, 1)
@[reducible] def res (p : C × Int) : T := .tuple [p.1.T, .int .i64 p.2]
theorem ok_new {room : Int} : C.Ok ⟨room, 0, []⟩ ↔ 0 ≤ room ∧ room ≤ 64 := ⟨fun h => ⟨h.r0, h.r1⟩, fun h => ⟨h.1, h.2, h.1, by simp, .nil⟩⟩
theorem New_ct (room : Int) : CtT Try.prog 7 [.int .i64 room] (Ret (.t (res (newC room))) []) := by
  refine CtT.ofN Try.func7 rfl rfl (n := 11) rfl ?_
  obtain ⟨b, hb⟩ := ex_bool (C.Ok ⟨room, 0, []⟩)
  refine Told.callT ((Right_ct ⟨room, 0, []⟩ (by simp) b hb).tas (by repeat constructor)) rfl rfl rfl rfl ?_
  have e := hb.trans ok_new
  cases b with
  | true =>
    refine ⟨_, rfl, ?_⟩
    unfold newC
    rw [if_pos (e.1 rfl)]
    repeat constructor
  | false =>
    refine ⟨_, rfl, ?_⟩
    unfold newC
    rw [if_neg (fun h => by have := e.2 h; cases this)]
    repeat constructor
theorem Has_ct (c : C) (u : U) (hl : c.s.length < 100000) : CtT Try.prog 15 [c.T, u.T] (Ret (.bool (decide (u ∈ c.s))) []) := by
  refine Ct.of Try.func15 rfl rfl (n := 9) rfl (by simp [ids]) ?_
  refine Told.callT (Contains_ct c.s u hl) rfl rfl rfl rfl ?_
  exact ⟨[], _, _, ⟨rfl, rfl⟩, rfl, trivial, rfl⟩
theorem srt_index (l : List U) (hs : l.Pairwise ltU) (u : U) : ∃ k, k ≤ l.length ∧ (∀ i v, l[i]? = some v → (ltU v u ↔ i < k)) := by
  induction l with
  | nil => exact ⟨0, by simp, by simp⟩
  | cons x l ih =>
    rw [List.pairwise_cons] at hs
    by_cases h : ltU x u
    · obtain ⟨k, h1, h2⟩ := ih hs.2
      refine ⟨k + 1, by simp; omega, fun i v hv => ?_⟩
      cases i with
      | zero => simp at hv; subst hv; simp [h]
      | succ i => rw [h2 i v (by simpa using hv)]; omega
    · refine ⟨0, by simp, fun i v hv => ⟨fun h' => absurd ?_ h, fun h => by omega⟩⟩
      cases i with
      | zero => simp at hv; subst hv; exact h'
      | succ i => exact ltU_trans (hs.1 v (List.mem_of_getElem? (by simpa using hv))) h'
noncomputable def insU (l : List U) (u : U) : List U := open Classical in l.filter (fun v => decide (ltU v u)) ++ u :: l.filter (fun v => !decide (ltU v u))
theorem insU_eq {l : List U} {u : U} {k : Nat} (hk : k ≤ l.length) (h : ∀ i v, l[i]? = some v → (ltU v u ↔ i < k)) : insU l u = l.take k ++ u :: l.drop k := by
  classical
  have h1 : l.filter (fun v => decide (ltU v u)) = l.take k := by
    conv => lhs; rw [← List.take_append_drop k l]
    rw [List.filter_append, List.filter_eq_self.2, List.filter_eq_nil_iff.2, List.append_nil]
    · intro v hv
      obtain ⟨i, hi, rfl⟩ := List.mem_iff_getElem.1 hv
      rw [List.getElem_drop]
      have := (h (k + i) _ (List.getElem?_eq_getElem (by simp at hi; omega)))
      simp [this]
    · intro v hv
      obtain ⟨i, hi, rfl⟩ := List.mem_iff_getElem.1 hv
      rw [List.getElem_take]
      have := (h i _ (List.getElem?_eq_getElem (by simp at hi; omega)))
      simp [this]; simp at hi; omega
  have h2 : l.filter (fun v => !decide (ltU v u)) = l.drop k := by
    conv => lhs; rw [← List.take_append_drop k l]
    rw [List.filter_append, List.filter_eq_nil_iff.2, List.filter_eq_self.2, List.nil_append]
    · intro v hv
      obtain ⟨i, hi, rfl⟩ := List.mem_iff_getElem.1 hv
      rw [List.getElem_drop]
      have := (h (k + i) _ (List.getElem?_eq_getElem (by simp at hi; omega)))
      simp [this]
    · intro v hv
      obtain ⟨i, hi, rfl⟩ := List.mem_iff_getElem.1 hv
      rw [List.getElem_take]
      have := (h i _ (List.getElem?_eq_getElem (by simp at hi; omega)))
      simp [this]; simp at hi; omega
  unfold insU
  rw [h1, h2]
theorem found_iff {l : List U} {u : U} {k : Nat} (hs : l.Pairwise ltU) (hk : k ≤ l.length) (h : ∀ i v, l[i]? = some v → (ltU v u ↔ i < k)) : (bif decide (k < l.length) then decide (ord (l.getD k u) u = 0) else false) = true ↔ u ∈ l := by
  by_cases hlt : k < l.length
  · rw [decide_eq_true hlt, cond_true, decide_eq_true_eq, ord_eq, List.getD_eq_getElem?_getD, List.getElem?_eq_getElem hlt]
    constructor
    · intro e
      rw [← (show l[k] = u from e)]
      exact List.getElem_mem hlt
    intro hu
    obtain ⟨i, hi, rfl⟩ := List.mem_iff_getElem.1 hu
    have h1 : ¬ i < k := fun e => ltU_irrefl ((h i _ (List.getElem?_eq_getElem hi)).2 e)
    have h2 : ¬ k < i := fun e => by
      have := (List.pairwise_iff_getElem.1 hs) k i hlt hi e
      have := (h k _ (List.getElem?_eq_getElem hlt)).1 this
      omega
    have : k = i := by omega
    subst this; rfl
  · rw [decide_eq_false hlt, cond_false]
    refine ⟨fun e => (by cases e), fun hu => ?_⟩
    obtain ⟨i, hi, rfl⟩ := List.mem_iff_getElem.1 hu
    exact absurd ((h i _ (List.getElem?_eq_getElem hi)).2 (by omega)) ltU_irrefl
open Classical in
noncomputable def putC (c : C) (u : U) : C × Int :=
  if ¬ c.Ok then (c, 1) else if u.c < c.f then (c, 10) else if u ∈ c.s then (c, 11) else if (c.s.length : Int) = c.r then (c, 12) else (⟨c.r, c.f, insU c.s u⟩, 0)
theorem Put_ct (c : C) (u : U) (hl : c.s.length < 10000) : CtT Try.prog 9 [c.T, u.T] (Ret (.t (res (putC c u))) []) := by
  refine CtT.ofN Try.func9 rfl rfl (n := 46) rfl ?_
  obtain ⟨b, hb⟩ := ex_bool c.Ok
  refine Told.callT (Right_ct c (by omega) b hb) rfl rfl rfl rfl ?_
  cases b with
  | false =>
    refine ⟨_, rfl, ?_⟩
    rw [putC, if_pos (fun h => by have := hb.2 h; cases this)]
    exact .refl _
  | true =>
    have ok := hb.1 rfl
    obtain ⟨k, hk, hki⟩ := srt_index c.s ok.srt u
    have hki' : ∀ i v, c.s[i]? = some v → (ord v u < 0 ↔ i < k) := fun i v hv => ord_lt.trans (hki i v hv)
    refine Told.callT (Search_ct c.s u k (by omega) hk hki' _ rfl) rfl rfl rfl rfl ?_
    refine brB (fun h1 => ?_) (fun h1 => brB (fun h2 => ?_) (fun h2 => brB (fun h3 => ?_) (fun h3 => ?_)))
    · refine ⟨_, rfl, ?_⟩
      rw [putC, if_neg (by simpa using ok), if_pos (of_decide_eq_true h1)]
      exact .refl _
    · refine ⟨_, rfl, ?_⟩
      rw [putC, if_neg (by simpa using ok), if_neg (of_decide_eq_false h1), if_pos ((found_iff ok.srt hk hki).1 h2)]
      exact .refl _
    · refine ⟨_, rfl, ?_⟩
      have h2 : u ∉ c.s := fun h => by have := (found_iff ok.srt hk hki).2 h; rw [h2] at this; cases this
      have h3 := of_decide_eq_true h3
      rw [uses_len] at h3
      rw [putC, if_neg (by simpa using ok), if_neg (of_decide_eq_false h1), if_neg h2, if_pos h3]
      exact .refl _
    · have h2 : u ∉ c.s := fun h => by have := (found_iff ok.srt hk hki).2 h; rw [h2] at this; cases this
      have h3 := of_decide_eq_false h3
      rw [uses_len] at h3
      refine Told.callT (Clone_ct c.s (by omega)) rfl rfl rfl rfl ?_
      refine Told.callR [(0, 39), (1, 42)] (Insert_ct c.s u k (by omega) hk) rfl rfl rfl ⟨rfl, rfl, trivial⟩ rfl ?_
      refine ⟨_, rfl, ?_⟩
      rw [putC, if_neg (by simpa using ok), if_neg (of_decide_eq_false h1), if_neg h2, if_neg h3, insU_eq hk hki]
      exact .refl _
def mx (a b : Int) : Int := if b > a then b else a
open Classical in
noncomputable def raiseC (c : C) (f : Int) : C × Int :=
  if ¬ c.Ok then (c, 1) else (⟨c.r, mx c.f f, keep (mx c.f f) c.s⟩, 0)
theorem Raise_ct (c : C) (f : Int) (hl : c.s.length < 10000) : CtT Try.prog 11 [c.T, .int .u64 f] (Ret (.t (res (raiseC c f))) []) := by
  refine CtT.ofN Try.func11 rfl rfl (n := 22) rfl ?_
  obtain ⟨b, hb⟩ := ex_bool c.Ok
  refine Told.callT (Right_ct c (by omega) b hb) rfl rfl rfl rfl ?_
  cases b with
  | false =>
    refine ⟨_, rfl, ?_⟩
    rw [raiseC, if_pos (fun h => by have := hb.2 h; cases this)]
    exact .refl _
  | true =>
    have ok := hb.1 rfl
    refine Told.callT (Clone_ct c.s (by omega)) rfl rfl rfl rfl ?_
    refine Told.callR [(0, 17), (1, 2)] (DeleteFunc_ct c.s c.r (mx c.f f) c.s (by omega)) rfl rfl rfl ⟨rfl, rfl, trivial⟩ rfl ?_
    refine ⟨_, rfl, ?_⟩
    rw [raiseC, if_neg (by simpa using ok)]
    exact .refl _
end Go.Proofs.YtbbcnmfmncgffaaX
