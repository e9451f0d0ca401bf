/-
  Regions whose order is open: the rule.
  Written by hand for this claim's session.
-/
import Derived.Test.YtbbcnmfmncgffaaEvDraw2
namespace Go.YtbbcnmfmncgffaaE
open Go.RowKit
set_option linter.unusedVariables false
set_option linter.unusedSimpArgs false
section
variable {P : Program} {ops : Array Oper} {Q : Exit → Act → World → Prop} {w0 : Bse} {X O0 D D' : Nat → Prop} {tf tf' : Nat → AV} {hf hf' : Hp} {rs : List Rec} {n : Nat}
def Shut (ops : Array Oper) (listed : Array Bool) : Prop := ∀ (i : Nat) o, ops[i]? = some o → listed.getD i false = true → ∀ e ∈ o.after, Region.binds .any e = true → listed.getD e.on false = true
theorem getD_set' {l : Array Bool} {i j : Nat} (h : (l.setIfInBounds i true).getD j false = true) : j = i ∨ l.getD j false = true := by
  by_cases e : j = i
  · exact .inl e
  · refine .inr ?_
    simp only [Array.getD_eq_getD_getElem?, Array.getElem?_setIfInBounds] at h ⊢
    rw [if_neg (fun x => e x.symm)] at h
    exact h
theorem Shut.set {ops : Array Oper} {listed : Array Bool} (h : Shut ops listed) {i : Nat} (hr : i ∈ Region.ready .any ops listed) : Shut ops (listed.setIfInBounds i true) := by
  obtain ⟨_, o, ho, hall⟩ := mem_ready.1 hr
  intro j o' ho' hj e he hb
  refine getD_set_true ?_
  rcases getD_set' hj with rfl | hj
  · rw [ho] at ho'
    simp at ho'
    subst ho'
    exact hall e he hb
  · exact h j o' ho' hj e he hb
def LB (listed : Array Bool) : Nat → Bool := fun j => listed.getD j false
structure InvD (ops : Array Oper) (w0 : Bse) (X O0 D : Nat → Prop) (tf : Nat → AV) (hf : Hp) (rs : List Rec) (n : Nat) (df : List Deferred) (listed : Array Bool) (a : Act) (w : World) : Prop where
  size : listed.size = ops.size
  closed : Shut ops listed
  tmps : a.tmps.size = n
  defers : a.defers = df
  rel : ∃ m, Rel w0 X O0 (fun b => stD D rs (LB listed) b ops.size) m (fun t => stT tf ops.toList rs (LB listed) t ops.size) (fun b => stH hf rs (LB listed) b ops.size) a w
structure Sure (ops : Array Oper) (rs : List Rec) : Prop where
  len : rs.length = ops.size
  down : ∀ (i : Nat) o, ops[i]? = some o → ∀ e ∈ o.after, Region.binds .any e = true → e.on < i
  bits : ∀ (i : Nat) o, ops[i]? = some o → ∀ j, ((tableL ops.toList []).getD i 0).testBit j = true → ∃ e ∈ o.after, Region.binds .any e = true ∧ (e.on = j ∨ ((tableL ops.toList []).getD e.on 0).testBit j = true)
  pair : ∀ (i j : Nat) oi oj ri rj, i < j → ops[i]? = some oi → ops[j]? = some oj → rs[i]? = some ri → rs[j]? = some rj → ((tableL ops.toList []).getD j 0).testBit i = true ∨ Apart ⟨oi.dst, readsOf ops.toList oi, ri.R, ids ri.W⟩ ⟨oj.dst, readsOf ops.toList oj, rj.R, ids rj.W⟩
theorem sure_of (hl : rs.length = ops.size) (h : drawOk ops.toList (rs.map fun r => (r.R, ids r.W)) = true) : Sure ops rs := by
  unfold drawOk at h
  simp only [Bool.and_eq_true] at h
  refine ⟨hl, fun i o ho e he hb => ?_, fun i o ho j hj => ?_, fun i j oi oj ri rj hij hoi hoj hri hrj => ?_⟩
  · have := downB_spec h.1 i o (by simpa using ho) e (by simpa using he) hb
    omega
  · have := table_bits ops.toList [] h.1 i o (by simpa using ho) j (by simpa using hj)
    obtain ⟨e, he, hb, h⟩ := this
    exact ⟨e, by simpa using he, hb, h⟩
  · have h1 := tchs_get ops.toList ops.toList (rs.map fun r => (r.R, ids r.W)) i oi (ri.R, ids ri.W) (by simpa using hoi) (by rw [List.getElem?_map, hri]; rfl)
    have h2 := tchs_get ops.toList ops.toList (rs.map fun r => (r.R, ids r.W)) j oj (rj.R, ids rj.W) (by simpa using hoj) (by rw [List.getElem?_map, hrj]; rfl)
    have := pairsOk_spec h.2 i j _ _ hij h1 h2
    simpa using this
theorem Sure.listed (hs : Sure ops rs) {listed : Array Bool} (hl : Shut ops listed) : ∀ (i : Nat) {o : Oper} (_ : ops[i]? = some o) {j : Nat}, ((tableL ops.toList []).getD i 0).testBit j = true → listed.getD i false = true → listed.getD j false = true := by
  intro i
  induction i using Nat.strongRecOn with
  | _ i ih =>
    intro o ho j hj hi
    obtain ⟨e, he, hb, h⟩ := hs.bits i o ho j hj
    have h1 := hl i o ho hi e he hb
    rcases h with rfl | h
    · exact h1
    · have hlt := hs.down i o ho e he hb
      obtain ⟨o', ho'⟩ : ∃ o', ops[e.on]? = some o' := ⟨ops[e.on]'(Nat.lt_trans hlt (Array.getElem?_eq_some_iff.1 ho).1), Array.getElem?_eq_getElem _⟩
      exact ih e.on hlt ho' h h1
/-- What may come up in either order is apart. -/
theorem Sure.apart (hs : Sure ops rs) {listed : Array Bool} (hl : Shut ops listed) {i : Nat} {o : Oper} (ho : ops[i]? = some o) (hall : ∀ e ∈ o.after, Region.binds .any e = true → listed.getD e.on false = true) (hun : listed.getD i false = false) :
    (∀ j, i < j → listed.getD j false = true → ∀ oj ri rj, ops[j]? = some oj → rs[i]? = some ri → rs[j]? = some rj → Apart ⟨o.dst, readsOf ops.toList o, ri.R, ids ri.W⟩ ⟨oj.dst, readsOf ops.toList oj, rj.R, ids rj.W⟩) ∧
    (∀ j, j < i → listed.getD j false = false → ∀ oj ri rj, ops[j]? = some oj → rs[i]? = some ri → rs[j]? = some rj → Apart ⟨oj.dst, readsOf ops.toList oj, rj.R, ids rj.W⟩ ⟨o.dst, readsOf ops.toList o, ri.R, ids ri.W⟩) := by
  refine ⟨fun j hij hj oj ri rj hoj hri hrj => ?_, fun j hij hj oj ri rj hoj hri hrj => ?_⟩
  · refine (hs.pair i j o oj ri rj hij ho hoj hri hrj).resolve_left (fun hb => ?_)
    rw [hs.listed hl j hoj hb hj] at hun
    cases hun
  · refine (hs.pair j i oj o rj ri hij hoj ho hrj hri).resolve_left (fun hb => ?_)
    obtain ⟨e, he, hbe, h⟩ := hs.bits i o ho j hb
    have h1 := hall e he hbe
    rcases h with rfl | h
    · rw [h1] at hj; cases hj
    · obtain ⟨o', ho'⟩ : ∃ o', ops[e.on]? = some o' := ⟨ops[e.on]'(Nat.lt_trans (hs.down i o ho e he hbe) (Array.getElem?_eq_some_iff.1 ho).1), Array.getElem?_eq_getElem _⟩
      rw [hs.listed hl e.on ho' h h1] at hj
      cases hj
theorem at_some {os : List Oper} {i : Nat} {o : Oper} (h : os[i]? = some o) : dAt os i = o.dst := by simp [dAt, h]
theorem W_some {i : Nat} {r : Rec} (h : rs[i]? = some r) : vAt rs i = r.v ∧ WAt rs i = r.W ∧ NAt rs i = r.N := by simp [vAt, WAt, NAt, h]
theorem invD_step (hs : Sure ops rs) (hf0 : ∀ (i : Nat) o r, ops.toList[i]? = some o → rs[i]? = some r → Stp P ops o (fun t => stT tf ops.toList rs (fun _ => true) t i) (fun b => stH hf rs (fun _ => true) b i) r ∧ ∀ n ∈ r.N, ¬ stD D rs (fun _ => true) n i)
    (hd : ∀ o ∈ ops.toList, ∀ x, o.dst = some x → x < n) {df : List Deferred} {listed : Array Bool} {a : Act} {w : World} (hI : InvD ops w0 X O0 D tf hf rs n df listed a w) {i : Nat} (hr : i ∈ Region.ready .any ops listed) :
    wpOp P ops Q i (fun a' w' => InvD ops w0 X O0 D tf hf rs n df (listed.setIfInBounds i true) a' w') a w := by
  obtain ⟨hun0, o, ho, hall⟩ := mem_ready.1 hr
  have hlt : i < ops.size := (Array.getElem?_eq_some_iff.1 ho).1
  have hlt2 : i < listed.size := by rw [hI.size]; exact hlt
  have hun : listed.getD i false = false := by
    simp only [Array.getD_eq_getD_getElem?, Array.getElem?_eq_getElem hlt2, Option.getD_some] at hun0 ⊢
    exact hun0
  have hol : ops.toList[i]? = some o := by simpa using ho
  have hri : rs[i]? = some (rs[i]'(by rw [hs.len]; exact hlt)) := List.getElem?_eq_getElem _
  generalize hrr : rs[i]'(by rw [hs.len]; exact hlt) = r at hri
  obtain ⟨hstp, hfresh⟩ := hf0 i o r hol hri
  obtain ⟨hap1, hap2⟩ := hs.apart hI.closed ho hall hun
  obtain ⟨m, hR⟩ := hI.rel
  obtain ⟨hv, hW, hN⟩ := W_some hri
  have get : ∀ j, j < ops.size → ∃ oj rj, ops[j]? = some oj ∧ ops.toList[j]? = some oj ∧ rs[j]? = some rj := fun j hj => ⟨ops[j], rs[j]'(by rw [hs.len]; exact hj), Array.getElem?_eq_getElem hj, by simp, List.getElem?_eq_getElem _⟩
  -- the places and blocks that it looks at are as in its own turn
  have sameT : ∀ t ∈ readsOf ops.toList o, stT tf ops.toList rs (LB listed) t ops.size = stT tf ops.toList rs (fun _ => true) t i := by
    intro t ht
    rw [stT_skip ops.size (Nat.le_of_lt hlt) (fun j h1 h2 hj => ?_)]
    · refine stT_agree i (fun j hj hd => ?_)
      cases hLj : listed.getD j false with
      | true => exact hLj
      | false =>
        obtain ⟨oj, rj, ho1, ho2, ho3⟩ := get j (by omega)
        have ha := hap2 j hj hLj oj r rj ho1 hri ho3
        rw [at_some ho2] at hd
        exact absurd ht (ha.d1 t hd)
    · by_cases e : j = i
      · subst e
        have hj' : listed.getD j false = true := hj
        rw [hun] at hj'; cases hj'
      · obtain ⟨oj, rj, ho1, ho2, ho3⟩ := get j h2
        have ha := hap1 j (by omega) hj oj r rj ho1 hri ho3
        rw [at_some ho2]
        exact fun hd => ha.d3 t hd ht
  have sameH : ∀ b ∈ r.R, stH hf rs (LB listed) b ops.size = stH hf rs (fun _ => true) b i := by
    intro b hb
    rw [stH_skip ops.size (Nat.le_of_lt hlt) (fun j h1 h2 hj => ?_)]
    · refine stH_agree i (fun j hj hd => ?_)
      cases hLj : listed.getD j false with
      | true => exact hLj
      | false =>
        obtain ⟨oj, rj, ho1, ho2, ho3⟩ := get j (by omega)
        have ha := hap2 j hj hLj oj r rj ho1 hri ho3
        rw [(W_some ho3).2.1] at hd
        exact absurd hd (ha.w1 b hb)
    · by_cases e : j = i
      · subst e
        have hj' : listed.getD j false = true := hj
        rw [hun] at hj'; cases hj'
      · obtain ⟨oj, rj, ho1, ho2, ho3⟩ := get j h2
        have ha := hap1 j (by omega) hj oj r rj ho1 hri ho3
        rw [(W_some ho3).2.1]
        exact ha.w3 b hb
  have hstp' : Stp P ops o (fun t => stT tf ops.toList rs (LB listed) t ops.size) (fun b => stH hf rs (LB listed) b ops.size) r := by
    have hgrd : ∀ b, Grd ops o (fun t => stT tf ops.toList rs (fun _ => true) t i) b → Grd ops o (fun t => stT tf ops.toList rs (LB listed) t ops.size) b := by
      intro b hg
      have hguard : ∀ j g want, o.guard = some (j, want) → (ops[j]?).bind (·.dst) = some g → g ∈ readsOf ops.toList o := by
        intro j g want h1 h2
        unfold readsOf
        rw [h1]
        have : (ops.toList[j]?).bind (·.dst) = some g := by simpa using h2
        simp only
        rw [this]
        exact List.mem_cons_self ..
      cases hg with
      | none h => exact .none h
      | some j g want c h hg hc => exact .some j g want c h hg ((sameT g (hguard j g want h hg)).trans hc)
      | off j g want h hg hc => exact .off j g want h hg ((sameT g (hguard j g want h hg)).trans hc)
    have hsub : ∀ t ∈ tmpsOf o, t ∈ readsOf ops.toList o := by
      intro t ht
      unfold readsOf
      split
      · exact ht
      · split
        · exact List.mem_cons_of_mem _ ht
        · exact ht
    rcases hstp with ⟨h1, h2⟩ | ⟨h1, h2⟩
    · exact .inl ⟨hgrd _ h1, h2.same (fun t ht => sameT t (hsub t ht)) sameH⟩
    · exact .inr ⟨hgrd _ h1, h2⟩
  have hfresh' : ∀ x ∈ r.N, ¬ stD D rs (LB listed) x ops.size := by
    intro x hx hD
    rcases (stD_mem ops.size).1 hD with h | ⟨j, hj, hLj, hxj⟩
    · exact hfresh x hx ((stD_mem i).2 (.inl h))
    · by_cases e : j = i
      · subst e
        have hj' : listed.getD j false = true := hLj
        rw [hun] at hj'; cases hj'
      · rcases Nat.lt_or_gt_of_ne e with h | h
        · exact hfresh x hx ((stD_mem i).2 (.inr ⟨j, h, rfl, hxj⟩))
        · obtain ⟨oj, rj, ho1, ho2, ho3⟩ := get j hj
          rw [(W_some ho3).2.2] at hxj
          exact (hf0 j oj rj ho2 ho3).2 x hxj ((stD_mem j).2 (.inr ⟨i, h, rfl, by rw [hN]; exact hx⟩))
  have hL' : LB (listed.setIfInBounds i true) i = true := by unfold LB; simp [hlt2]
  have hLne : ∀ j, j ≠ i → LB (listed.setIfInBounds i true) j = LB listed j := fun j hj => by
    unfold LB
    simp only [Array.getD_eq_getD_getElem?, Array.getElem?_setIfInBounds]
    rw [if_neg (fun e => hj e.symm)]
  have hdst : ∀ x, o.dst = some x → x < a.tmps.size := fun x hx => by rw [hI.tmps]; exact hd o (List.mem_of_getElem? hol) x hx
  unfold wpOp
  rw [ho]
  simp only
  refine stp_wp hR hstp' hdst hfresh' fun u m' w' hR' => ?_
  refine ⟨by rw [Array.size_setIfInBounds, hI.size], hI.closed.set hr, by rw [size_put, hI.tmps], by rw [defers_put, hI.defers], m', ?_⟩
  have e1 : (fun t => stT tf ops.toList rs (LB (listed.setIfInBounds i true)) t ops.size) = upT (fun t => stT tf ops.toList rs (LB listed) t ops.size) o.dst r.v := by
    funext t
    rw [stT_set hun hL' hLne ops.size hlt (fun j hij hj h1 h2 => ?_)]
    · unfold upT
      rw [at_some hol, hv]
    · by_cases hjn : j < ops.size
      · obtain ⟨oj, rj, ho1, ho2, ho3⟩ := get j hjn
        have ha := hap1 j hij hj oj r rj ho1 hri ho3
        rw [at_some hol] at h1
        rw [at_some ho2] at h2
        exact ha.d2 t h1 h2
      · have : dAt ops.toList j = none := by unfold dAt; rw [List.getElem?_eq_none (by simp; omega)]; rfl
        rw [this] at h2; cases h2
  have e2 : (fun b => stH hf rs (LB (listed.setIfInBounds i true)) b ops.size) = upH (fun b => stH hf rs (LB listed) b ops.size) r.W := by
    funext b
    rw [stH_set hun hL' hLne ops.size hlt (fun j hij hj h1 h2 => ?_)]
    · unfold upH
      rw [hW]
    · by_cases hjn : j < ops.size
      · obtain ⟨oj, rj, ho1, ho2, ho3⟩ := get j hjn
        have ha := hap1 j hij hj oj r rj ho1 hri ho3
        rw [hW] at h1
        rw [(W_some ho3).2.1] at h2
        exact ha.w2 b h2 h1
      · have : WAt rs j = [] := by unfold WAt; rw [List.getElem?_eq_none (by rw [hs.len]; omega)]; rfl
        rw [this] at h2; simp [ids] at h2
  have e3 : (fun b => stD D rs (LB (listed.setIfInBounds i true)) b ops.size) = fun b => stD D rs (LB listed) b ops.size ∨ b ∈ r.N := by
    funext b
    rw [propext ((stD_set (D := D) (rs := rs) (b := b) hun hL' hLne ops.size).2 hlt), hN]
  rw [e1, e2, e3]
  exact hR'
/-- How many have not come up. -/
def left (listed : Array Bool) (n : Nat) : Nat := (List.range n).countP fun i => !listed.getD i false
theorem left_set {listed : Array Bool} {i n : Nat} (hi : i < n) (hs : listed.size = n) (hu : listed.getD i false = false) : left (listed.setIfInBounds i true) n + 1 = left listed n := by
  have key : ∀ (l : List Nat), l.Nodup → i ∈ l → (l.countP fun j => !(listed.setIfInBounds i true).getD j false) + 1 = l.countP fun j => !listed.getD j false := by
    intro l
    induction l with
    | nil => intro _ h; cases h
    | cons x l ih =>
      intro hnd hm
      rw [List.nodup_cons] at hnd
      have hsame : ∀ j, j ≠ i → (listed.setIfInBounds i true).getD j false = listed.getD j false := by
        intro j hj
        simp only [Array.getD_eq_getD_getElem?, Array.getElem?_setIfInBounds]
        rw [if_neg (fun e => hj e.symm)]
      have hself : (listed.setIfInBounds i true).getD i false = true := by
        simp [Array.getD_eq_getD_getElem?, Array.getElem?_setIfInBounds, hs, hi]
      by_cases e : x = i
      · subst e
        have : (l.countP fun j => !(listed.setIfInBounds x true).getD j false) = l.countP fun j => !listed.getD j false := by
          apply List.countP_congr
          intro j hj
          rw [hsame j (fun h => hnd.1 (h ▸ hj))]
        simp only [List.countP_cons, hself, hu, this]
        simp
      · have := ih hnd.2 ((List.mem_cons.1 hm).resolve_left (fun h => e h.symm))
        simp only [List.countP_cons, hsame x e]
        omega
  exact key _ List.nodup_range (List.mem_range.2 hi)
theorem all_listed (hs : Sure ops rs) {listed : Array Bool} (hz : listed.size = ops.size) (hr : Region.ready .any ops listed = []) : ∀ i, i < ops.size → listed.getD i false = true := by
  intro i
  induction i using Nat.strongRecOn with
  | _ i ih =>
    intro hi
    by_cases h : listed.getD i false = true
    · exact h
    · exfalso
      have hm : i ∈ Region.ready .any ops listed := by
        refine mem_ready.2 ⟨?_, ops[i], Array.getElem?_eq_getElem hi, fun e he hb => ih e.on (hs.down i _ (Array.getElem?_eq_getElem hi) e he hb) (Nat.lt_trans (hs.down i _ (Array.getElem?_eq_getElem hi) e he hb) hi)⟩
        have h2 : i < listed.size := by rw [hz]; exact hi
        simp only [Array.getD_eq_getD_getElem?, Array.getElem?_eq_getElem h2, Option.getD_some] at h ⊢
        simpa using h
      rw [hr] at hm
      cases hm
theorem any_draw (hs : Sure ops rs) (hf0 : ∀ (i : Nat) o r, ops.toList[i]? = some o → rs[i]? = some r → Stp P ops o (fun t => stT tf ops.toList rs (fun _ => true) t i) (fun b => stH hf rs (fun _ => true) b i) r ∧ ∀ n ∈ r.N, ¬ stD D rs (fun _ => true) n i)
    (hd : ∀ o ∈ ops.toList, ∀ x, o.dst = some x → x < n) {df : List Deferred} (hk : ∀ listed a w, InvD ops w0 X O0 D tf hf rs n df listed a w → (∀ i, i < ops.size → listed.getD i false = true) → Q .normal a w) :
    ∀ (fuel : Nat) (listed : Array Bool) (a : Act) (w : World), InvD ops w0 X O0 D tf hf rs n df listed a w → left listed ops.size ≤ fuel → wpAny P .any ops Q fuel listed a w
  | 0, listed, a, w, hI, hf => by
    have hall : ∀ i, i < ops.size → listed.getD i false = true := by
      intro i hi
      have h0 : left listed ops.size = 0 := by omega
      unfold left at h0
      have := List.countP_eq_zero.1 h0 i (List.mem_range.2 hi)
      simpa using this
    refine ⟨?_, hk listed a w hI hall⟩
    refine List.eq_nil_iff_forall_not_mem.2 (fun i hi => ?_)
    obtain ⟨hun, o, ho, _⟩ := mem_ready.1 hi
    have hlt : i < ops.size := (Array.getElem?_eq_some_iff.1 ho).1
    have h1 := hall i hlt
    have h2 : i < listed.size := by rw [hI.size]; exact hlt
    simp only [Array.getD_eq_getD_getElem?, Array.getElem?_eq_getElem h2, Option.getD_some] at hun h1
    rw [h1] at hun
    cases hun
  | fuel + 1, listed, a, w, hI, hf => by
    refine ⟨fun hr => hk listed a w hI (all_listed hs hI.size hr), fun i hi => ?_⟩
    refine wpOp_mono ?_ (invD_step hs hf0 hd hI hi)
    intro a' w' hI'
    refine any_draw hs hf0 hd hk fuel _ a' w' hI' ?_
    obtain ⟨hun, o, ho, _⟩ := mem_ready.1 hi
    have hlt : i < ops.size := (Array.getElem?_eq_some_iff.1 ho).1
    have h2 : i < listed.size := by rw [hI.size]; exact hlt
    have hu : listed.getD i false = false := by
      simp only [Array.getD_eq_getD_getElem?, Array.getElem?_eq_getElem h2, Option.getD_some] at hun ⊢
      simpa using hun
    have := left_set hlt hI.size hu
    omega
/-- A region that draws its order. -/
theorem region_draw (hm : P.follows .mixedOrders = true) {id : Nat} {m : Nat → Option Value} {a : Act} {w : World} (h : Run P ops ops.toList tf hf D rs tf' hf' D') (hck : drawOk ops.toList (rs.map fun r => (r.R, ids r.W)) = true) (hR : Rel w0 X O0 D m tf hf a w) (hn : a.tmps.size = n) (hd : ∀ o ∈ ops.toList, ∀ x, o.dst = some x → x < n)
    (hk : ∀ m a' w', Rel w0 X O0 D' m tf' hf' a' w' → a'.tmps.size = n → a'.defers = a.defers → Q .normal a' w') : (Code.region id ops true).wp P Q a w := by
  obtain ⟨h1, h2, h3, h4, h5⟩ := run_facts h
  have hlen : rs.length = ops.size := by rw [h1]; simp
  have hs := sure_of hlen hck
  have hf0 : ∀ j, LB (Array.replicate ops.size false) j = false := fun j => by
    unfold LB
    simp only [Array.getD_eq_getD_getElem?, Array.getElem?_replicate]
    split <;> simp
  refine wp_region_any hm (any_draw (w0 := w0) (X := X) (O0 := O0) hs h2 hd (df := a.defers) ?_ _ _ _ _ ?_ ?_)
  · rintro listed a' w' ⟨q1, q2, q3, q4, m', q5⟩ hall
    have e1 : (fun t => stT tf ops.toList rs (LB listed) t ops.size) = tf' := by
      funext t
      rw [h3 t, show ops.toList.length = ops.size by simp]
      exact stT_agree _ (fun j hj _ => hall j hj)
    have e2 : (fun b => stH hf rs (LB listed) b ops.size) = hf' := by
      funext b
      rw [h4 b, show ops.toList.length = ops.size by simp]
      exact stH_agree _ (fun j hj _ => hall j hj)
    rw [e1, e2] at q5
    refine hk m' a' w' (q5.weaken fun b hb => h5 b ?_) q3 q4
    rw [show ops.toList.length = ops.size by simp]
    rcases (stD_mem ops.size).1 hb with h | ⟨j, hj, _, h⟩
    · exact (stD_mem ops.size).2 (.inl h)
    · exact (stD_mem ops.size).2 (.inr ⟨j, hj, rfl, h⟩)
  · refine ⟨by simp, fun j o ho hj => ?_, hn, rfl, m, ?_⟩
    · have h := hf0 j
      unfold LB at h
      rw [h] at hj; cases hj
    · have e1 : (fun t => stT tf ops.toList rs (LB (Array.replicate ops.size false)) t ops.size) = tf := by
        funext t
        have := stT_skip (tf := tf) (os := ops.toList) (rs := rs) (L := LB (Array.replicate ops.size false)) (t := t) (i := 0) ops.size (Nat.zero_le _) (fun j _ _ hj => by rw [hf0 j] at hj; cases hj)
        rw [this]; rfl
      have e2 : (fun b => stH hf rs (LB (Array.replicate ops.size false)) b ops.size) = hf := by
        funext b
        have := stH_skip (hf := hf) (rs := rs) (L := LB (Array.replicate ops.size false)) (b := b) (i := 0) ops.size (Nat.zero_le _) (fun j _ _ hj => by rw [hf0 j] at hj; cases hj)
        rw [this]; rfl
      have e3 : (fun b => stD D rs (LB (Array.replicate ops.size false)) b ops.size) = D := by
        funext b
        rw [propext (stD_mem ops.size)]
        apply propext
        exact ⟨fun h => h.elim (fun x => x) (fun ⟨j, _, hj, _⟩ => by rw [hf0 j] at hj; cases hj), .inl⟩
      rw [e1, e2, e3]
      have := hR.put none .un undef (by simp) (But.drew w _) (.un _)
      have e4 : upT tf none .un = tf := by funext t; simp [upT]
      rw [e4] at this
      exact this
  · exact Nat.le_trans List.countP_le_length (by simp)
end
end Go.YtbbcnmfmncgffaaE
