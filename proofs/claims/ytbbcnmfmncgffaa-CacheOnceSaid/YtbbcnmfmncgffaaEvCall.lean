/-
  Calls: by a contract.
  Written by hand for this claim's session.
-/
import Derived.Test.YtbbcnmfmncgffaaEvFn
namespace Go.YtbbcnmfmncgffaaE
open Go.RowKit
set_option linter.unusedVariables false
set_option linter.unusedSimpArgs false
/-- What a call's operand calls: the function, and what is handed on ahead and behind. -/
def calleeOf : AV → Option (FuncId × List AV × List AV)
  | .t (.v (.func (.func f) a c)) => some (f, a.toList.map fun v => .t (.v v), c.toList.map fun v => .t (.v v))
  | .fn (.func f) a c => some (f, a, c)
  | .t (.fn (.func f) a c) => some (f, a.map .t, c.map .t)
  | _ => none
/-- Numbers for blocks that a call made. -/
def newIds (d : Nat) : List Nat → List (Nat × Nat)
  | [] => []
  | b :: l => (b, d) :: newIds (d + 1000) l
def renH (φ : List (Nat × Nat)) : Heap → Heap
  | [] => []
  | (b, fz, k) :: l => (rn φ b, fz, k.ren φ) :: renH φ l
theorem newIds_fst (d : Nat) (l : List Nat) : (newIds d l).map (·.1) = l := by
  induction l generalizing d with
  | nil => rfl
  | cons b l ih => simp [newIds, ih]
theorem ids_renH (φ : List (Nat × Nat)) (H : Heap) : ids (renH φ H) = (ids H).map (rn φ) := by
  induction H with
  | nil => rfl
  | cons x l ih => obtain ⟨b, fz, k⟩ := x; unfold renH; show rn φ b :: ids (renH φ l) = rn φ b :: (ids l).map (rn φ); rw [ih]
theorem lookH_renH (φ : List (Nat × Nat)) {H : Heap} (hn : ((ids H).map (rn φ)).Nodup) {b : Nat} (hb : b ∈ ids H) : lookH (renH φ H) (rn φ b) = ((lookH H b).1, (lookH H b).2.ren φ) := by
  induction H with
  | nil => simp [ids] at hb
  | cons x l ih =>
    obtain ⟨y, fz, k⟩ := x
    rw [show ids ((y, fz, k) :: l) = y :: ids l from rfl, List.map_cons, List.nodup_cons] at hn
    unfold renH lookH
    rw [look_cons, look_cons]
    by_cases e : y = b
    · subst e; simp
    · have hb' : b ∈ ids l := (List.mem_cons.1 (show b ∈ y :: ids l from hb)).resolve_left (fun h => e h.symm)
      have : ¬ rn φ y = rn φ b := fun e' => hn.1 (by rw [e']; exact List.mem_map.2 ⟨b, hb', rfl⟩)
      rw [if_neg this, if_neg e]
      exact ih hn.2 hb'
section
variable {P : Program} {o : Oper} {tf : Nat → AV} {hf : Hp}
theorem call_run {cal : Operand} {as : Array Operand} {ts : Array TypeId} {f : FuncId} {fs cs : List AV} {tf' : Nat → AV} {hf' : Hp} {w0 : Bse} {X O0 D : Nat → Prop} {m : Nat → Option Value} {a : Act} {w : World} (hR : Rel w0 X O0 D m tf' hf' a w) (ho : o.op = .call { callee := .value cal, args := as, argTypes := ts }) (hc : calleeOf (opd tf' cal) = some (f, fs, cs))
    (hfn : ∃ fn, P.funcs[f]? = some fn ∧ (fn.name == "runtime.NumGoroutine") = false ∧ fn.body.isSome = true) :
    ∃ vals : List Value, (execOp a.eval o).run P w = .ok (.enter f vals.toArray) w ∧ vals.length = (fs ++ as.toList.map (opd tf') ++ cs).length ∧ ∀ (i : Nat) x v, (fs ++ as.toList.map (opd tf') ++ cs)[i]? = some x → vals[i]? = some v → HA m w (Own X m hf') x v := by
  obtain ⟨fn, h1, h2, h3⟩ := hfn
  have hcal := opd_told hR cal
  have main : ∀ (us ws : List Value), a.eval cal = .func (.func f) us.toArray ws.toArray → us.length = fs.length → ws.length = cs.length → (∀ (i : Nat) x v, fs[i]? = some x → us[i]? = some v → HA m w (Own X m hf') x v) → (∀ (i : Nat) x v, cs[i]? = some x → ws[i]? = some v → HA m w (Own X m hf') x v) →
      ∃ vals : List Value, (execOp a.eval o).run P w = .ok (.enter f vals.toArray) w ∧ vals.length = (fs ++ as.toList.map (opd tf') ++ cs).length ∧ ∀ (i : Nat) x v, (fs ++ as.toList.map (opd tf') ++ cs)[i]? = some x → vals[i]? = some v → HA m w (Own X m hf') x v := by
    intro us ws he hl1 hl2 hv1 hv2
    refine ⟨us ++ as.toList.map a.eval ++ ws, ?_, by simp [hl1, hl2], fun i x v hx hv => ?_⟩
    · have hb : ¬ fn.body = none := fun hh => by rw [hh] at h3; cases h3
      have hne : ¬ fn.name = "runtime.NumGoroutine" := by simpa using h2
      have e1 : (us.toArray ++ as.map a.eval ++ ws.toArray) = (us ++ as.toList.map a.eval ++ ws).toArray := by
        apply Array.ext'; simp
      unfold execOp
      rw [ho]
      simp only [resolve, he, Deferred.ofValue, Sem.run_bind, Sem.run_pure, Result.andThen_ok, invoke]
      rw [e1]
      simp [callFunc, h1, hne, hb]
    · rw [List.append_assoc] at hx hv
      rw [List.getElem?_append] at hx hv
      by_cases c1 : i < fs.length
      · rw [if_pos c1] at hx
        rw [if_pos (by omega)] at hv
        exact hv1 i x v hx hv
      · rw [if_neg c1, List.getElem?_append] at hx
        rw [if_neg (by omega), List.getElem?_append, hl1] at hv
        simp only [List.length_map] at hx hv
        by_cases c2 : i - fs.length < as.toList.length
        · rw [if_pos c2] at hx hv
          exact (opds_told hR as.toList).2 _ x v hx hv
        · rw [if_neg c2] at hx hv
          exact hv2 _ x v hx hv
  unfold calleeOf at hc
  split at hc
  · rename_i f' us ws hx
    simp at hc
    obtain ⟨rfl, rfl, rfl⟩ := hc
    rw [hx] at hcal
    refine main us.toList ws.toList (by rw [hcal.v_eq]) (by simp) (by simp) (fun i x v hx' hv => ?_) (fun i x v hx' hv => ?_)
    · rw [List.getElem?_map, hv] at hx'; simp at hx'; subst hx'; exact .t _ _ (.v _)
    · rw [List.getElem?_map, hv] at hx'; simp at hx'; subst hx'; exact .t _ _ (.v _)
  · rename_i f' us ws hx
    simp at hc
    obtain ⟨rfl, rfl, rfl⟩ := hc
    rw [hx] at hcal
    generalize hz : a.eval cal = z at hcal main
    cases hcal with
    | fn _ _ _ vs us hl hv hm hu => exact main vs us rfl hl hm hv hu
  · rename_i f' us ws hx
    simp at hc
    obtain ⟨rfl, rfl, rfl⟩ := hc
    rw [hx] at hcal
    generalize hz : a.eval cal = z at hcal main
    cases hcal.t_ht with
    | fn _ _ _ vs us hl hv hm hu =>
      refine main vs us rfl (by simpa using hl) (by simpa using hm) (fun i x v hx' hv' => ?_) (fun i x v hx' hv' => ?_)
      · rw [List.getElem?_map] at hx'
        obtain ⟨y, hy, rfl⟩ := Option.map_eq_some_iff.1 hx'
        exact .t _ _ (hv i y v hy hv')
      · rw [List.getElem?_map] at hx'
        obtain ⟨y, hy, rfl⟩ := Option.map_eq_some_iff.1 hx'
        exact .t _ _ (hu i y v hy hv')
  · cases hc
end
/-! ### a call, with blocks that are handed on -/
def liveB : Heap → Bool
  | [] => true
  | (_, true, _) :: _ => false
  | (_, false, .dead) :: _ => false
  | (_, false, .box _ _) :: l => liveB l
  | (_, false, .row _ _ _) :: l => liveB l
  | (_, false, .arr _ _ _ _) :: l => liveB l
theorem liveB_spec : ∀ {H : Heap}, liveB H = true → ∀ b ∈ ids H, (lookH H b).1 = false ∧ (lookH H b).2.live
  | [], _, b, hb => by simp [ids] at hb
  | (x, fz, k) :: l, h, b, hb => by
    have hl : liveB l = true ∧ fz = false ∧ k.live := by
      cases fz <;> cases k <;> simp_all [liveB, Blk.live]
    unfold lookH
    rw [look_cons]
    by_cases e : x = b
    · rw [if_pos e]; exact hl.2
    · rw [if_neg e]
      exact liveB_spec hl.1 b ((List.mem_cons.1 (show b ∈ x :: ids l from hb)).resolve_left (fun h => e h.symm))
def newOf (Hc H' : Heap) : List Nat := (ids H').filter fun b => !memN b (ids Hc)
def phi (φ : List (Nat × Nat)) (Hc H' : Heap) (d : Nat) : List (Nat × Nat) := newIds d (newOf Hc H') ++ φ
def callB (φ : List (Nat × Nat)) (cargs : List AV) (Hc : Heap) (r : AV) (H' : Heap) (d : Nat) : Bool :=
  liveB Hc && nodupB (ids Hc) && nodupB ((ids Hc).map (rn φ)) && heapIn (ids Hc) Hc && inL (ids Hc) cargs && nodupB (ids H') && nodupB ((ids H').map (rn (phi φ Hc H' d))) && allIn (ids H') (ids Hc)
structure CallOk (φ : List (Nat × Nat)) (cargs : List AV) (Hc : Heap) (r : AV) (H' : Heap) (d : Nat) : Prop where
  live : ∀ b ∈ ids Hc, (lookH Hc b).1 = false ∧ (lookH Hc b).2.live
  nd : (ids Hc).Nodup
  inj : ((ids Hc).map (rn φ)).Nodup
  heap : ∀ b, (lookH Hc b).2.inI (ids Hc) = true
  args : ∀ x ∈ cargs, x.inI (ids Hc) = true
  nd' : (ids H').Nodup
  inj' : ((ids H').map (rn (phi φ Hc H' d))).Nodup
  sub : ∀ b ∈ ids Hc, b ∈ ids H'
theorem callB_spec {φ : List (Nat × Nat)} {cargs : List AV} {Hc : Heap} {r : AV} {H' : Heap} {d : Nat} (h : callB φ cargs Hc r H' d = true) : CallOk φ cargs Hc r H' d := by
  unfold callB at h
  simp only [Bool.and_eq_true] at h
  obtain ⟨⟨⟨⟨⟨⟨⟨h1, h2⟩, h3⟩, h4⟩, h5⟩, h6⟩, h7⟩, h8⟩ := h
  exact ⟨liveB_spec h1, nodupB_nodup h2, nodupB_nodup h3, heapIn_spec h4, inL_mem h5, nodupB_nodup h6, nodupB_nodup h7, allIn_iff.1 h8⟩
theorem rn_append (a b : List (Nat × Nat)) (x : Nat) : rn (a ++ b) x = if x ∈ ids a then rn a x else rn b x := by
  unfold rn
  rw [look_append]
theorem newOf_mem {Hc H' : Heap} {b : Nat} : b ∈ newOf Hc H' ↔ b ∈ ids H' ∧ b ∉ ids Hc := by
  unfold newOf
  rw [List.mem_filter]
  constructor
  · rintro ⟨h1, h2⟩
    refine ⟨h1, fun hm => ?_⟩
    rw [memN_iff.2 hm] at h2
    cases h2
  · rintro ⟨h1, h2⟩
    refine ⟨h1, ?_⟩
    rw [Bool.not_eq_true', Bool.eq_false_iff]
    exact fun e => h2 (memN_iff.1 e)
theorem phi_old {φ : List (Nat × Nat)} {Hc H' : Heap} {d b : Nat} (hb : b ∈ ids Hc) : rn (phi φ Hc H' d) b = rn φ b := by
  unfold phi
  rw [rn_append, if_neg]
  show b ∉ (newIds d (newOf Hc H')).map (·.1)
  rw [newIds_fst]
  exact fun h => (newOf_mem.1 h).2 hb
def nums (φ : List (Nat × Nat)) (Hc H' : Heap) (d : Nat) : List Nat := (newOf Hc H').map (rn (phi φ Hc H' d))
/-- By what the blocks are reached afterwards. -/
def m2Of (m m' : Nat → Option Value) (φ : List (Nat × Nat)) (Hc H' : Heap) (d : Nat) : Nat → Option Value := fun B =>
  match (newOf Hc H').find? (fun b => rn (phi φ Hc H' d) b == B) with
  | some b => m' b
  | none => m B
theorem m2_new {m m' : Nat → Option Value} {φ : List (Nat × Nat)} {Hc H' : Heap} {d b : Nat} (hinj : ((ids H').map (rn (phi φ Hc H' d))).Nodup) (hb : b ∈ newOf Hc H') : m2Of m m' φ Hc H' d (rn (phi φ Hc H' d) b) = m' b := by
  unfold m2Of
  cases h : (newOf Hc H').find? (fun b' => rn (phi φ Hc H' d) b' == rn (phi φ Hc H' d) b) with
  | none =>
    have := List.find?_eq_none.1 h b hb
    simp at this
  | some b' =>
    have h1 := List.mem_of_find?_eq_some h
    have h2 := List.find?_some h
    simp only [beq_iff_eq] at h2
    have := inj_of_nodup hinj (newOf_mem.1 h1).1 (newOf_mem.1 hb).1 h2
    simp [this]
theorem m2_old {m m' : Nat → Option Value} {φ : List (Nat × Nat)} {Hc H' : Heap} {d B : Nat} (hB : B ∉ nums φ Hc H' d) : m2Of m m' φ Hc H' d B = m B := by
  unfold m2Of
  cases h : (newOf Hc H').find? (fun b' => rn (phi φ Hc H' d) b' == B) with
  | none => rfl
  | some b' =>
    have h1 := List.mem_of_find?_eq_some h
    have h2 := List.find?_some h
    simp only [beq_iff_eq] at h2
    exact absurd (List.mem_map.2 ⟨b', h1, h2⟩) hB
theorem Rel.call {P : Program} {f : FuncId} {w0 : Bse} {X O0 D : Nat → Prop} {m : Nat → Option Value} {tf : Nat → AV} {hf : Hp} {a : Act} {w : World} (hR : Rel w0 X O0 D m tf hf a w) {φ : List (Nat × Nat)} {cargs : List AV} {Hc : Heap} {r : AV} {H' : Heap} {d : Nat} {dst : Option Tmp} (ct : Ct P f cargs Hc (Ret r H')) (ok : CallOk φ cargs Hc r H' d)
    (hs : ∀ b ∈ ids Hc, hf (rn φ b) = ((lookH Hc b).1, (lookH Hc b).2.ren φ)) {vals : List Value} (hl : vals.length = cargs.length) (hv : ∀ (i : Nat) x v, cargs[i]? = some x → vals[i]? = some v → HA m w (Own X m hf) (x.ren φ) v) (hd : ∀ x, dst = some x → x < a.tmps.size) (hN : ∀ n ∈ nums φ Hc H' d, ¬ D n) :
    Calls P f vals.toArray w fun e w' => ∃ v m2, e = .returned v ∧ Rel w0 X O0 (fun b => D b ∨ b ∈ nums φ Hc H' d) m2 (upT tf dst (r.ren (phi φ Hc H' d))) (upH hf (renH (phi φ Hc H' d) H')) (a.put dst v) w' := by
  have hM : ∀ b, b ∈ ids Hc → lookM φ (ids Hc) m b = m (rn φ b) := fun b hb => by unfold lookM; rw [if_pos hb]
  have hlive : ∀ b, (lookH Hc b).2.live → b ∈ ids Hc := fun b hl => by
    apply Classical.byContradiction
    intro hb
    rw [show lookH Hc b = (false, .dead) from look_none _ _ _ hb] at hl
    exact hl
  have hbk : ∀ b, b ∈ ids Hc → bk (lookM φ (ids Hc) m) b = bk m (rn φ b) := fun b hb => by unfold bk; rw [hM b hb]
  have hOw : ∀ c, Owm (lookM φ (ids Hc) m) (lookH Hc) c → Owm m hf c := by
    rintro c ⟨b, h1, h2, h3⟩
    have hb := hlive b h2
    rw [hbk b hb] at h3
    exact ⟨rn φ b, by rw [hs b hb]; exact h1, by rw [hs b hb]; exact (live_ren _ _).2 h2, h3⟩
  let Xc : Nat → Prop := fun c => Own X m hf c ∧ ¬ Owm (lookM φ (ids Hc) m) (lookH Hc) c
  have hOc : ∀ c, Own Xc (lookM φ (ids Hc) m) (lookH Hc) c → Own X m hf c := by
    rintro c (h | h)
    · exact h.1
    · exact .inr (hOw c h)
  have hsz : ∀ c, Own X m hf c → c < w.heap.size := by
    rintro c (h | ⟨b, _, h2, h3⟩)
    · have := (hR.xold c h).1; have := hR.fr.size; omega
    · exact (hR.blk b).lt h2 h3
  have hHA : ∀ x v, x.inI (ids Hc) = true → HA m w (Own X m hf) (x.ren φ) v → HA (lookM φ (ids Hc) m) w (Own Xc (lookM φ (ids Hc) m) (lookH Hc)) x v := fun x v hx hh => HA.back (I := ids Hc) (fun b hb v hv => by rw [hM b hb]; exact hv) hOc hx hh
  have hmem : Mem ⟨w, lookM φ (ids Hc) m⟩ Xc (Owm (lookM φ (ids Hc) m) (lookH Hc)) (fun b => b ∈ ids Hc) (lookM φ (ids Hc) m) (lookH Hc) w := by
    refine ⟨a, fun t => .un _, fun b => ?_, fun b hb => by unfold lookM; rw [if_neg hb], ?_, ?_, fun c hc => ⟨hsz c hc.1, hc.2⟩, ?_, But.refl _ _, fun _ _ h => h⟩
    · by_cases hb : b ∈ ids Hc
      · have h1 := hR.blk (rn φ b)
        rw [hs b hb] at h1
        exact HB.back (I := ids Hc) (fun b hb v hv => by rw [hM b hb]; exact hv) hOc hb (ok.heap b) h1
      · rw [show lookH Hc b = (false, .dead) from look_none _ _ _ hb]; trivial
    · intro b b' hne hfz hl hl' c hc hc'
      have hb := hlive b hl
      have hb' := hlive b' hl'
      rw [hbk b hb] at hc
      rw [hbk b' hb'] at hc'
      exact hR.sep (rn φ b) (rn φ b') (fun e => hne (inj_of_nodup ok.inj hb hb' e)) (by rw [hs b hb]; exact hfz) (by rw [hs b hb]; exact (live_ren _ _).2 hl) (by rw [hs b' hb']; exact (live_ren _ _).2 hl') c hc hc'
    · intro b c hl hc hx
      exact hx.2 ⟨b, (ok.live b (hlive b hl)).1, hl, hc⟩
    · intro b c hl hc
      exact .inl ⟨b, (ok.live b (hlive b hl)).1, hl, hc⟩
  refine (ct.2 w Xc _ vals hmem hl (fun i x v hx hv' => hHA x v (ok.args x (List.mem_of_getElem? hx)) (hv i x v hx hv'))).mono ?_
  rintro e w' ⟨v, r', H2, m', rfl, ⟨rfl, rfl⟩, hr, hM'⟩
  obtain ⟨a1, hR'⟩ := hM'
  -- numbers and blocks behind the call
  have hbase : ∀ b ∈ ids Hc, ∃ v0, m (rn φ b) = some v0 ∧ m' b = some v0 := by
    intro b hb
    obtain ⟨h1, h2⟩ := ok.live b hb
    obtain ⟨a0, hR0⟩ := hmem
    have h3 := hR0.blk b
    have : ∃ v0, lookM φ (ids Hc) m b = some v0 := by
      cases hk : (lookH Hc b).2 with
      | dead => rw [hk] at h2; exact h2.elim
      | box ty c => rw [hk] at h3; obtain ⟨g, vs, h, _⟩ := h3; exact ⟨_, h⟩
      | row ty sz l => rw [hk] at h3; obtain ⟨v, xs, h, _⟩ := h3; exact ⟨_, h⟩
      | arr ty sz l N => rw [hk] at h3; obtain ⟨g, cur, h, _⟩ := h3; exact ⟨_, h⟩
    obtain ⟨v0, hv0⟩ := this
    exact ⟨v0, by rw [← hM b hb]; exact hv0, hR'.base b v0 hv0⟩
  have hdis : ∀ b ∈ ids Hc, rn φ b ∉ nums φ Hc H2 d := by
    intro b hb hx
    obtain ⟨b2, hb2, e⟩ := List.mem_map.1 hx
    rw [← phi_old (H' := H2) (d := d) hb] at e
    have := inj_of_nodup ok.inj' (newOf_mem.1 hb2).1 (ok.sub b hb) e
    subst this
    exact (newOf_mem.1 hb2).2 hb
  have hm2 : ∀ b ∈ ids H2, m2Of m m' φ Hc H2 d (rn (phi φ Hc H2 d) b) = m' b := by
    intro b hb
    by_cases hc : b ∈ ids Hc
    · obtain ⟨v0, h1, h2⟩ := hbase b hc
      rw [phi_old hc, m2_old (hdis b hc), h1, h2]
    · exact m2_new ok.inj' (newOf_mem.2 ⟨hb, hc⟩)
  have hdom : ∀ b v, m' b = some v → b ∈ ids H2 := fun b v hb => by
    apply Classical.byContradiction
    intro hn
    rw [hR'.dom b hn] at hb
    cases hb
  have hext2 : ∀ b v, m' b = some v → m2Of m m' φ Hc H2 d (rn (phi φ Hc H2 d) b) = some v := fun b v hb => by rw [hm2 b (hdom b v hb)]; exact hb
  have hidW : ∀ B, B ∈ ids (renH (phi φ Hc H2 d) H2) ↔ ∃ b ∈ ids H2, rn (phi φ Hc H2 d) b = B := fun B => by rw [ids_renH, List.mem_map]
  have hlW : ∀ b ∈ ids H2, lookH (renH (phi φ Hc H2 d) H2) (rn (phi φ Hc H2 d) b) = ((lookH H2 b).1, (lookH H2 b).2.ren (phi φ Hc H2 d)) := fun b hb => lookH_renH _ ok.inj' hb
  have hbk2 : ∀ b ∈ ids H2, bk (m2Of m m' φ Hc H2 d) (rn (phi φ Hc H2 d) b) = bk m' b := fun b hb => by unfold bk; rw [hm2 b hb]
  have hWr : ∀ c, Owm (lookM φ (ids Hc) m) (lookH Hc) c → ∃ B ∈ ids (renH (phi φ Hc H2 d) H2), (hf B).1 = false ∧ (hf B).2.live ∧ bk m B = some c := by
    rintro c ⟨b, h1, h2, h3⟩
    have hb := hlive b h2
    rw [hbk b hb] at h3
    exact ⟨rn φ b, (hidW _).2 ⟨b, ok.sub b hb, phi_old hb⟩, by rw [hs b hb]; exact h1, by rw [hs b hb]; exact (live_ren _ _).2 h2, h3⟩
  have hO' : ∀ O' : Nat → Prop, (∀ c, O' c ↔ Own X (m2Of m m' φ Hc H2 d) (upH hf (renH (phi φ Hc H2 d) H2)) c) → ∀ c, O' c → Own Xc m' (lookH H2) c := by
    intro O' hiff c hc
    rcases (hiff c).1 hc with h | ⟨B, h1, h2, h3⟩
    · refine .inl ⟨.inl h, fun ⟨b, q1, q2, q3⟩ => ?_⟩
      have hb := hlive b q2
      rw [hbk b hb] at q3
      exact hR.xsep (rn φ b) c (by rw [hs b hb]; exact (live_ren _ _).2 q2) q3 h
    · by_cases hB : B ∈ ids (renH (phi φ Hc H2 d) H2)
      · obtain ⟨b, hb, rfl⟩ := (hidW B).1 hB
        rw [upH_in hB, hlW b hb] at h1 h2
        rw [hbk2 b hb] at h3
        exact .inr ⟨b, h1, (live_ren _ _).1 h2, h3⟩
      · rw [upH_out hB] at h1 h2
        have hBn : B ∉ nums φ Hc H2 d := fun hx => by
          obtain ⟨b, hb, rfl⟩ := List.mem_map.1 hx
          exact hB ((hidW _).2 ⟨b, (newOf_mem.1 hb).1, rfl⟩)
        have h3' : bk m B = some c := by unfold bk at h3 ⊢; rw [m2_old hBn] at h3; exact h3
        refine .inl ⟨.inr ⟨B, h1, h2, h3'⟩, fun ⟨b, q1, q2, q3⟩ => ?_⟩
        have hb := hlive b q2
        rw [hbk b hb] at q3
        exact hR.sep B (rn φ b) (fun e => hB ((hidW _).2 ⟨b, ok.sub b hb, by rw [phi_old hb, e]⟩)) h1 h2 (by rw [hs b hb]; exact (live_ren _ _).2 q2) c h3' q3
  refine ⟨v, m2Of m m' φ Hc H2 d, rfl, ?_⟩
  refine hR.write (renH (phi φ Hc H2 d) H2) (nums φ Hc H2 d) (Owm (lookM φ (ids Hc) m) (lookH Hc)) hd hR'.fr hWr (fun b hb => m2_old hb) (fun B hB => ?_) hN ?_ ?_ ?_
  · obtain ⟨b, hb, rfl⟩ := List.mem_map.1 hB
    exact (hidW _).2 ⟨b, (newOf_mem.1 hb).1, rfl⟩
  · intro B hB O' _ _ hiff
    obtain ⟨b, hb, rfl⟩ := (hidW B).1 hB
    rw [hlW b hb]
    exact (hR'.blk b).ren hext2 (hO' O' hiff)
  · intro B hB hlB c hc
    obtain ⟨b, hb, rfl⟩ := (hidW B).1 hB
    rw [hlW b hb] at hlB
    rw [hbk2 b hb] at hc
    refine ⟨(hR'.old b c ((live_ren _ _).1 hlB) hc).elim (fun h => .inr (hWr c h)) .inl, fun B' hB' hne hfz hl' hc' => ?_⟩
    obtain ⟨b', hb', rfl⟩ := (hidW B').1 hB'
    rw [hlW b hb, hlW b' hb'] at hfz
    rw [hlW b' hb'] at hl'
    rw [hbk2 b' hb'] at hc'
    have hbb : b' ≠ b := fun e => hne (by rw [e])
    rcases hfz with h | h
    · exact hR'.sep b b' (fun e => hbb e.symm) h ((live_ren _ _).1 hlB) ((live_ren _ _).1 hl') c hc hc'
    · exact hR'.sep b' b hbb h ((live_ren _ _).1 hl') ((live_ren _ _).1 hlB) c hc' hc
  · intro O' _ _ hiff
    exact hr.ren hext2 (hO' O' hiff)
end Go.YtbbcnmfmncgffaaE
