/-
  From a function's text to its contract.
  Written by hand for this claim's session.
-/
import Derived.Test.YtbbcnmfmncgffaaEvCt
namespace Go.YtbbcnmfmncgffaaE
open Go.RowKit
set_option linter.unusedVariables false
set_option linter.unusedSimpArgs false
/-! ### what a function comes back with -/
def resV (P : Program) (tm : Tmps) (H : Heap) : List ResultVar → (List AV → Prop) → Prop
  | [], k => k []
  | .tmp t :: l, k => evMove (lookT tm t) fun x _ _ _ => resV P tm H l fun xs => k (x :: xs)
  | .cell a t :: l, k => match lookT tm a with
    | .ptr b off => match lookH H b with
      | (_, .box _ cells) => selA P t cells off [] fun x _ _ _ => resV P tm H l fun xs => k (x :: xs)
      | _ => False
    | _ => False
def tup : List AV → AV
  | [x] => x
  | l => .tuple l
/-- Blocks under other numbers are those that there are. -/
def sameH (φ : List (Nat × Nat)) (H : Heap) : Heap → Prop
  | [] => True
  | (b, fz, k) :: l => lookH H (rn φ b) = (fz, k.ren φ) ∧ sameH φ H l
def nodupB : List Nat → Bool
  | [] => true
  | x :: l => !memN x l && nodupB l
theorem nodupB_nodup {l : List Nat} (h : nodupB l = true) : l.Nodup := by
  induction l with
  | nil => exact List.nodup_nil
  | cons x l ih =>
    unfold nodupB at h
    simp only [Bool.and_eq_true, Bool.not_eq_true'] at h
    rw [List.nodup_cons]
    obtain ⟨h1, h2⟩ := h
    refine ⟨fun hm => ?_, ih h2⟩
    rw [memN_iff.2 hm] at h1
    cases h1
def keepsB (φ : List (Nat × Nat)) (I : List Nat) : List Nat → Bool
  | [] => true
  | b :: l => Nat.beq (rn φ b) b && memN b I && keepsB φ I l
theorem keepsB_spec {φ : List (Nat × Nat)} {I : List Nat} : ∀ {B : List Nat}, keepsB φ I B = true → ∀ b ∈ B, rn φ b = b ∧ b ∈ I
  | [], _, b, hb => by cases hb
  | x :: l, h, b, hb => by
    unfold keepsB at h
    simp only [Bool.and_eq_true] at h
    rcases List.mem_cons.1 hb with rfl | hb
    · exact ⟨Nat.eq_of_beq_eq_true h.1.1, memN_iff.1 h.1.2⟩
    · exact keepsB_spec h.2 b hb
theorem sameH_spec {φ : List (Nat × Nat)} {H : Heap} : ∀ {H' : Heap}, (ids H').Nodup → sameH φ H H' → ∀ b ∈ ids H', lookH H (rn φ b) = ((lookH H' b).1, (lookH H' b).2.ren φ)
  | [], _, _, b, hb => by simp [ids] at hb
  | (x, fz, k) :: l, hn, h, b, hb => by
    obtain ⟨h1, h2⟩ := h
    rw [show ids ((x, fz, k) :: l) = x :: ids l from rfl, List.nodup_cons] at hn
    by_cases e : b = x
    · subst e
      have : lookH ((b, fz, k) :: l) b = (fz, k) := by unfold lookH; rw [look_cons, if_pos rfl]
      rw [this, h1]
    · have : lookH ((x, fz, k) :: l) b = lookH l b := by unfold lookH; rw [look_cons, if_neg (fun e' => e e'.symm)]
      rw [this]
      exact sameH_spec hn.2 h2 b (by simpa [ids, e] using hb)
def heapIn (I : List Nat) : Heap → Bool
  | [] => true
  | (_, _, k) :: l => k.inI I && heapIn I l
theorem heapIn_spec {I : List Nat} : ∀ {H : Heap}, heapIn I H = true → ∀ b, (lookH H b).2.inI I = true
  | [], _, b => rfl
  | (x, fz, k) :: l, h, b => by
    unfold heapIn at h
    simp only [Bool.and_eq_true] at h
    unfold lookH
    rw [look_cons]
    split
    · exact h.1
    · exact heapIn_spec h.2 b
/-- What is asked of numbers. -/
def numB (φ : List (Nat × Nat)) (H' : Heap) (B : List Nat) : Bool := nodupB (ids H') && nodupB ((ids H').map (rn φ)) && keepsB φ (ids H') B && heapIn (ids H') H'
/-- The blocks that are told, and their numbers, may be chosen. -/
def RetOb (H : Heap) (B : List Nat) (Q : AV → Heap → Prop) (r0 : AV) : Prop :=
  ∃ (φ : List (Nat × Nat)) (r : AV) (H' : Heap), Q r H' ∧ r0 = r.ren φ ∧ sameH φ H H' ∧ (numB φ H' B && r.inI (ids H')) = true
def lookM (φ : List (Nat × Nat)) (I : List Nat) (m : Nat → Option Value) : Nat → Option Value := fun b => if b ∈ I then m (rn φ b) else none
theorem inj_of_nodup {α β : Type} {f : α → β} {l : List α} (h : (l.map f).Nodup) {x y : α} (hx : x ∈ l) (hy : y ∈ l) (e : f x = f y) : x = y := by
  induction l with
  | nil => cases hx
  | cons z l ih =>
    rw [List.map_cons, List.nodup_cons] at h
    rcases List.mem_cons.1 hx with rfl | hx
    · rcases List.mem_cons.1 hy with rfl | hy
      · rfl
      · exact absurd (List.mem_map.2 ⟨y, hy, e.symm⟩) h.1
    · rcases List.mem_cons.1 hy with e2 | hy
      · rw [e2] at e; exact absurd (List.mem_map.2 ⟨x, hx, e⟩) h.1
      · exact ih h.2 hx hy
/-- The same blocks under the numbers that are told. -/
theorem Rel.renamed {w0 : Bse} {X O0 D : Nat → Prop} {m : Nat → Option Value} {tf : Nat → AV} {a : Act} {w : World} {φ : List (Nat × Nat)} {H H' : Heap} {B : List Nat} (h : Rel w0 X O0 D m tf (lookH H) a w) (hs : sameH φ H H') (hn : numB φ H' B = true) (hB : ∀ b v, w0.m b = some v → b ∈ B) {tf' : Nat → AV} (ht : ∀ t, tf' t = .un ∨ ((tf' t).inI (ids H') = true ∧ tf t = (tf' t).ren φ)) :
    Rel w0 X O0 (fun b => b ∈ ids H') (lookM φ (ids H') m) tf' (lookH H') a w ∧ ∀ x v, x.inI (ids H') = true → HA m w (Own X m (lookH H)) (x.ren φ) v → HA (lookM φ (ids H') m) w (Own X (lookM φ (ids H') m) (lookH H')) x v := by
  unfold numB at hn
  simp only [Bool.and_eq_true] at hn
  obtain ⟨⟨⟨n1, n2⟩, n3⟩, n4⟩ := hn
  have n1 := nodupB_nodup n1
  have n2 := nodupB_nodup n2
  have n3 := keepsB_spec n3
  have n4 := heapIn_spec n4
  have hsame := sameH_spec n1 hs
  have hout : ∀ b, b ∉ ids H' → lookH H' b = (false, .dead) := fun b hb => look_none _ _ _ hb
  have hM : ∀ b, b ∈ ids H' → lookM φ (ids H') m b = m (rn φ b) := fun b hb => by unfold lookM; rw [if_pos hb]
  have hlive : ∀ b, (lookH H' b).2.live → b ∈ ids H' := fun b hl => by
    apply Classical.byContradiction
    intro hb
    rw [hout b hb] at hl
    exact hl
  have hbk : ∀ b, b ∈ ids H' → bk (lookM φ (ids H') m) b = bk m (rn φ b) := fun b hb => by unfold bk; rw [hM b hb]
  have hO : ∀ c, Own X (lookM φ (ids H') m) (lookH H') c → Own X m (lookH H) c := by
    rintro c (hx | ⟨b, h1, h2, h3⟩)
    · exact .inl hx
    · have hb := hlive b h2
      rw [hbk b hb] at h3
      exact .inr ⟨rn φ b, by rw [hsame b hb]; exact h1, by rw [hsame b hb]; exact (live_ren _ _).2 h2, h3⟩
  have hHA : ∀ x v, x.inI (ids H') = true → HA m w (Own X m (lookH H)) (x.ren φ) v → HA (lookM φ (ids H') m) w (Own X (lookM φ (ids H') m) (lookH H')) x v := fun x v hx hh => HA.back (I := ids H') (fun b hb v hv => by rw [hM b hb]; exact hv) hO hx hh
  refine ⟨⟨fun t => ?_, fun b => ?_, fun b hb => ?_, ?_, ?_, h.xold, ?_, h.fr, fun b v hb => ?_⟩, hHA⟩
  · rcases ht t with e | ⟨e1, e2⟩
    · rw [e]; exact .un _
    · have h1 := h.tmp t
      rw [e2] at h1
      exact hHA _ _ e1 h1
  · by_cases hb : b ∈ ids H'
    · have h1 := h.blk (rn φ b)
      rw [hsame b hb] at h1
      exact HB.back (I := ids H') (fun b hb v hv => by rw [hM b hb]; exact hv) hO hb (n4 b) h1
    · rw [hout b hb]; trivial
  · unfold lookM; rw [if_neg hb]
  · intro b b' hne hfz hl hl' c hc hc'
    have hb := hlive b hl
    have hb' := hlive b' hl'
    rw [hbk b hb] at hc
    rw [hbk b' hb'] at hc'
    exact h.sep (rn φ b) (rn φ b') (fun e => hne (inj_of_nodup n2 hb hb' e)) (by rw [hsame b hb]; exact hfz) (by rw [hsame b hb]; exact (live_ren _ _).2 hl) (by rw [hsame b' hb']; exact (live_ren _ _).2 hl') c hc hc'
  · intro b c hl hc
    have hb := hlive b hl
    rw [hbk b hb] at hc
    exact h.xsep (rn φ b) c (by rw [hsame b hb]; exact (live_ren _ _).2 hl) hc
  · intro b c hl hc
    have hb := hlive b hl
    rw [hbk b hb] at hc
    exact h.old (rn φ b) c (by rw [hsame b hb]; exact (live_ren _ _).2 hl) hc
  · obtain ⟨e1, e2⟩ := n3 b (hB b v hb)
    rw [hM b e2, e1]
    exact h.base b v hb
def resSem (tmps : Array Value) : ResultVar → Sem Value
  | .tmp t => pure (tmps.getD t undef)
  | .cell ad t => do loadVar t (← asAddr (tmps.getD ad undef))
theorem resV_run {P : Program} {tm : Tmps} {H : Heap} {w0 : Bse} {X O0 D : Nat → Prop} {m : Nat → Option Value} {a : Act} {w : World} (hR : Rel w0 X O0 D m (lookT tm) (lookH H) a w) : ∀ (l : List ResultVar) (k : List AV → Prop), resV P tm H l k → ∃ (xs : List AV) (vs : List Value), k xs ∧ vs.length = xs.length ∧ (∀ (i : Nat) x v, xs[i]? = some x → vs[i]? = some v → HA m w (Own X m (lookH H)) x v) ∧
    (l.mapM (resSem a.tmps)).run P w = .ok vs w
  | [], k, h => ⟨[], [], h, rfl, fun i x v hx => by simp at hx, rfl⟩
  | .tmp t :: l, k, h => by
    unfold resV at h
    rw [evMove_iff] at h
    obtain ⟨xs, vs, h1, h2, h3, h4⟩ := resV_run hR l _ h
    refine ⟨lookT tm t :: xs, get a t :: vs, h1, by simp [h2], fun i x v hx hv => ?_, ?_⟩
    · cases i with
      | zero => simp at hx hv; subst hx; subst hv; exact hR.tmp t
      | succ i => exact h3 i x v (by simpa using hx) (by simpa using hv)
    · rw [List.mapM_cons]
      simp only [resSem, Sem.run_bind, Sem.run_pure, Result.andThen_ok, h4]
      rfl
  | .cell ad t :: l, k, h => by
    unfold resV at h
    split at h
    · rename_i b off hp
      split at h
      · rename_i fz ty cells hb
        obtain ⟨x0, hs, h⟩ := selA_sel h
        obtain ⟨xs, vs, h1, h2, h3, h4⟩ := resV_run hR l _ h
        have e1 := hR.tmp ad
        rw [hp] at e1
        obtain ⟨g, hy, hm⟩ := e1.ptr_eq
        have e2 := hR.blk b
        rw [hb] at e2
        obtain ⟨g', us, hm', hg, hl, _, hv⟩ := e2
        rw [hm] at hm'
        simp at hm'
        subst hm'
        obtain ⟨u, hu, hh⟩ := hs.load (P := P) (t := t) (w := w) (b := g) (base := 0) (f := fun i => us.getD i undef) (m := m) (O := Own X m (lookH H)) (fun i hi => by
          unfold World.cell?
          simp only [hg]
          simp [List.getD, show i < us.length by omega]) (fun i x hx => hv i x _ hx (by
            have : i < us.length := by have := (List.getElem?_eq_some_iff.1 hx).1; omega
            simp [List.getD, this]))
        refine ⟨x0 :: xs, u :: vs, h1, by simp [h2], fun i x v hx hv => ?_, ?_⟩
        · cases i with
          | zero => simp at hx hv; subst hx; subst hv; exact hh
          | succ i => exact h3 i x v (by simpa using hx) (by simpa using hv)
        · rw [List.mapM_cons]
          have hy' : a.tmps.getD ad undef = .pointer (some ⟨g, off, none⟩) := hy
          rw [Nat.zero_add] at hu
          simp only [resSem, Sem.run_bind, hy', asAddr, Sem.run_pure, Result.andThen_ok, hu, h4]
      · exact h.elim
    · exact h.elim
theorem resV_mono {P : Program} {tm : Tmps} {H : Heap} : ∀ {l : List ResultVar} {k k' : List AV → Prop}, resV P tm H l k → (∀ xs, k xs → k' xs) → resV P tm H l k'
  | [], k, k', h, hk => hk _ h
  | .tmp t :: l, k, k', h, hk => by
    unfold resV at h ⊢
    rw [evMove_iff] at h ⊢
    exact resV_mono h fun xs h => hk _ h
  | .cell a t :: l, k, k', h, hk => by
    unfold resV at h ⊢
    split at h
    · split at h
      · unfold selA at h ⊢
        split at h
        · split at h
          · rw [plainL_iff] at h ⊢
            unfold aggK at h ⊢
            split at h
            · exact resV_mono h fun xs h => hk _ h
            · exact resV_mono h fun xs h => hk _ h
          · exact h.elim
        · split at h
          · rw [evMove_iff] at h ⊢
            exact resV_mono h fun xs h => hk _ h
          · exact h.elim
        · exact h.elim
      · exact h.elim
    · exact h.elim
theorem tup_told {m : Nat → Option Value} {w : World} {O : Nat → Prop} {xs : List AV} {vs : List Value} (hl : vs.length = xs.length) (h : ∀ (i : Nat) x v, xs[i]? = some x → vs[i]? = some v → HA m w O x v) : HA m w O (tup xs) (if h : vs.toArray.size = 1 then vs.toArray[0] else .tuple vs.toArray) := by
  by_cases e : vs.length = 1
  · have e' : vs.toArray.size = 1 := by simpa using e
    rw [dif_pos e']
    obtain ⟨x, rfl⟩ := List.length_eq_one_iff.1 (hl ▸ e)
    obtain ⟨v, rfl⟩ := List.length_eq_one_iff.1 e
    exact h 0 x v rfl rfl
  · have e' : ¬ vs.toArray.size = 1 := by simpa using e
    rw [dif_neg e']
    have : tup xs = .tuple xs := by
      match xs, hl with
      | [], _ => rfl
      | [x], hl => exact absurd hl e
      | x :: y :: l, _ => rfl
    rw [this]
    exact .tuple _ _ hl h
def argT : List AV → Nat → Tmps
  | [], _ => []
  | x :: l, i => (i, x) :: argT l (i + 1)
theorem argT_look : ∀ (l : List AV) (i t : Nat), lookT (argT l i) t = if i ≤ t then (l[t - i]?).getD .un else .un
  | [], i, t => by simp [argT, lookT, look]
  | x :: l, i, t => by
    unfold argT lookT
    rw [look_cons]
    by_cases e : i = t
    · subst e; simp
    · rw [if_neg e]
      have := argT_look l (i + 1) t
      unfold lookT at this
      rw [this]
      by_cases h : i ≤ t
      · rw [if_pos h, if_pos (by omega), show t - i = (t - (i + 1)) + 1 by omega]
        simp
      · rw [if_neg h, if_neg (by omega)]
theorem Le.refl (B : List Nat) (tm : Tmps) (H : Heap) : Le B tm H tm H := fun w0 X O0 m a w _ hR => ⟨m, hR⟩
/-- What a function's end asks for: a result that is told, and the blocks behind it. -/
def EndOk (P : Program) (fn : Func) (H : Heap) (Q : AV → Heap → Prop) (tm' : Tmps) (H' : Heap) : Prop :=
  ∀ (w0 : Bse) (X O0 : Nat → Prop) (m : Nat → Option Value) (a : Act) (w : World), (∀ b v, w0.m b = some v → b ∈ ids H) → Rel w0 X O0 (fun b => b ∈ ids H') m (lookT tm') (lookH H') a w →
    ∃ v, (results fn a.tmps).run P w = .ok v w ∧ ∃ r H2 m2, Q r H2 ∧ HA m2 w (Own X m2 (lookH H2)) r v ∧ Mem w0 X O0 (fun b => b ∈ ids H2) m2 (lookH H2) w
theorem results_run {P : Program} {fn : Func} {a : Act} {w : World} {vs : List Value} (hrun : (fn.results.toList.mapM (resSem a.tmps)).run P w = .ok vs w) : (results fn a.tmps).run P w = .ok (if h : vs.toArray.size = 1 then vs.toArray[0] else .tuple vs.toArray) w := by
  have h1 : (fn.results.mapM (resSem a.tmps)).run P w = .ok vs.toArray w := by
    rw [Array.mapM_eq_mapM_toList]
    simp [hrun]
  have h2 : results fn a.tmps = (do let vs ← fn.results.mapM (resSem a.tmps); pure (if h : vs.size = 1 then vs[0] else .tuple vs)) := by
    unfold results
    congr 1 <;> (try (congr 1; funext x; cases x <;> rfl))
  rw [h2]
  simp only [Sem.run_bind, h1, Result.andThen_ok, Sem.run_pure]
theorem EndOk.ret {P : Program} {fn : Func} {H : Heap} {Q : AV → Heap → Prop} {tm' : Tmps} {H' : Heap} (hk : resV P tm' H' fn.results.toList fun xs => RetOb H' (ids H) Q (tup xs)) : EndOk P fn H Q tm' H' := by
  intro w0 X O0 m' a' w' hB hR'
  obtain ⟨xs, vs, ⟨φ, r, H2, hQ, hr, hs, hnum⟩, hl2, hv, hrun⟩ := resV_run hR' _ _ hk
  simp only [Bool.and_eq_true] at hnum
  obtain ⟨hR2, hback⟩ := hR'.mem.choose_spec.renamed (tf' := fun _ => .un) hs hnum.1 hB (fun t => .inl rfl)
  refine ⟨_, results_run hrun, r, H2, _, hQ, hback r _ hnum.2 ?_, ⟨_, hR2⟩⟩
  rw [← hr]
  exact tup_told hl2 hv
/-- A result as data. -/
theorem EndOk.data {P : Program} {fn : Func} {Q : AV → Heap → Prop} {tm' : Tmps} {H' : Heap} (hk : resV P tm' H' fn.results.toList fun xs => ∃ x, toT (lookH H') 30 (tup xs) = some x ∧ Q (.t x) []) : EndOk P fn [] Q tm' H' := by
  intro w0 X O0 m' a' w' hB hR'
  obtain ⟨xs, vs, ⟨x, hx, hQ⟩, hl2, hv, hrun⟩ := resV_run hR' _ _ hk
  obtain ⟨h1, h2⟩ := hR'.view (L := reach (lookH H') 30 (tup xs)) rfl
  have ht := h2 30 _ x _ hx (fun b hb => hb) (tup_told hl2 hv)
  obtain ⟨hR2, _⟩ := hR'.mem.choose_spec.renamed (φ := []) (H' := []) (B := []) (tf' := fun _ => .un) trivial rfl (fun b v hb => hB b v hb) (fun t => .inl rfl)
  refine ⟨_, results_run hrun, .t x, [], _, hQ, .t _ _ (ht.mono (Keep.refl _ _) (fun c hc => .inl ?_)), ⟨_, hR2⟩⟩
  rcases hc with hc | ⟨b, _, hb, _⟩
  · exact .inl hc
  · exact hb.elim
theorem EndOk.le {P : Program} {fn : Func} {H : Heap} {Q : AV → Heap → Prop} {tm' tm2 : Tmps} {H' H2 : Heap} (hl : Le (ids H) tm' H' tm2 H2) (h : EndOk P fn H Q tm2 H2) (hr : ∀ r ∈ fn.results.toList, ∃ t, r = .tmp t) : EndOk P fn H Q tm' H' := by
  intro w0 X O0 m a w hB hR
  obtain ⟨m2, hR2⟩ := hl w0 X O0 m a w hB hR
  exact h w0 X O0 m2 a w hB hR2
/-- A FUNCTION, BY ITS TEXT. -/
theorem Ct.ofK {P : Program} {f : FuncId} {fn : Func} {c : Code} {args : List AV} {H : Heap} {Q : AV → Heap → Prop} {n : Nat} (K : Tmps → Heap → Prop) (hf : P.funcs[f]? = some fn) (hname : (fn.name == "runtime.NumGoroutine") = false) (hb : fn.body = some c) (hn : args.length + (fn.ntmps - args.length) = n) (hfz : ∀ b ∈ ids H, (lookH H b).1 = false)
    (hK : ∀ tm H', K tm H' → EndOk P fn H Q tm H') (h : ev P n (ids H) c (argT args 0) H fun e tm H' => match e with
      | .exit _ => False
      | _ => K tm H') : Ct P f args H Q := by
  refine ⟨⟨fn, hf, hname, by rw [hb]; rfl⟩, fun w0 X m vals hM hl hargs => ?_⟩
  obtain ⟨a0, hR0⟩ := hM
  let a : Act := { tmps := vals.toArray ++ Array.replicate (fn.ntmps - vals.toArray.size) undef, defers := [] }
  have hsz : a.tmps.size = n := by show (vals.toArray ++ _).size = n; simp [hl, hn]
  have hget : ∀ t v, vals[t]? = some v → get a t = v := by
    intro t v ht
    have hlt := (List.getElem?_eq_some_iff.1 ht).1
    unfold get
    rw [Array.getD_eq_getD_getElem?]
    show ((vals.toArray ++ _)[t]?).getD undef = v
    rw [Array.getElem?_append_left (by simpa using hlt)]
    simp [ht]
  have hR : Rel ⟨w0, m⟩ X (Owm m (lookH H)) (fun b => b ∈ ids H) m (lookT (argT args 0)) (lookH H) a w0 := by
    refine { hR0 with tmp := fun t => ?_ }
    rw [argT_look]
    simp only [Nat.zero_le, if_true, Nat.sub_zero]
    cases hx : args[t]? with
    | none => exact .un _
    | some x =>
      have hlt : t < vals.length := by have := (List.getElem?_eq_some_iff.1 hx).1; omega
      have hv := List.getElem?_eq_getElem hlt
      rw [hget t _ hv]
      exact hargs t x _ hx hv
  have hB : ∀ b v, m b = some v → b ∈ ids H := by
    intro b v hb
    apply Classical.byContradiction
    intro hn
    rw [hR0.dom b hn] at hb
    cases hb
  refine calls_of_wp hf hb ?_
  refine ev_sound (w0 := ⟨w0, m⟩) (X := X) (O0 := Owm m (lookH H)) hB c (argT args 0) H _ _ m a w0 h hR hsz ?_
  have fin : ∀ tm' H' m' a' w', K tm' H' → Rel ⟨w0, m⟩ X (Owm m (lookH H)) (fun b => b ∈ ids H') m' (lookT tm') (lookH H') a' w' → a'.defers = [] →
      a'.defers = [] ∧ ∃ v, (results fn a'.tmps).run P w' = .ok v w' ∧ ∃ v2 r H2 m2, Ending.returned v = .returned v2 ∧ Q r H2 ∧ HA m2 w' (Own X m2 (lookH H2)) r v2 ∧ Mem ⟨w0, m⟩ X (Owm m (lookH H)) (fun b => b ∈ ids H2) m2 (lookH H2) w' := by
    intro tm' H' m' a' w' hk hR' hd
    obtain ⟨v, h1, r, H2, m2, h2⟩ := hK tm' H' hk ⟨w0, m⟩ X _ m' a' w' hB hR'
    exact ⟨hd, v, h1, v, r, H2, m2, rfl, h2⟩
  intro e tm' H' m' a' w' hk hR' hn' hd
  cases e with
  | normal => exact fin tm' H' m' a' w' hk hR' hd
  | exit i => exact hk.elim
  | ret => exact fin tm' H' m' a' w' hk hR' hd
theorem Ct.of {P : Program} {f : FuncId} {fn : Func} {c : Code} {args : List AV} {H : Heap} {Q : AV → Heap → Prop} {n : Nat} (hf : P.funcs[f]? = some fn) (hname : (fn.name == "runtime.NumGoroutine") = false) (hb : fn.body = some c) (hn : args.length + (fn.ntmps - args.length) = n) (hfz : ∀ b ∈ ids H, (lookH H b).1 = false)
    (h : ev P n (ids H) c (argT args 0) H fun e tm H' => match e with
      | .exit _ => False
      | _ => resV P tm H' fn.results.toList fun xs => RetOb H' (ids H) Q (tup xs)) : Ct P f args H Q :=
  Ct.ofK (fun tm H' => resV P tm H' fn.results.toList fun xs => RetOb H' (ids H) Q (tup xs)) hf hname hb hn hfz (fun _ _ => EndOk.ret) h
/-- The same, of data alone, with a result that is data. -/
theorem CtT.of {P : Program} {f : FuncId} {fn : Func} {c : Code} {ts : List T} {Q : AV → Heap → Prop} {n : Nat} (hf : P.funcs[f]? = some fn) (hname : (fn.name == "runtime.NumGoroutine") = false) (hb : fn.body = some c) (hn : (ts.map AV.t).length + (fn.ntmps - (ts.map AV.t).length) = n)
    (h : ev P n [] c (argT (ts.map .t) 0) [] fun e tm H' => match e with
      | .exit _ => False
      | _ => resV P tm H' fn.results.toList fun xs => ∃ x, toT (lookH H') 30 (tup xs) = some x ∧ Q (.t x) []) : CtT P f ts Q :=
  Ct.ofK (fun tm H' => resV P tm H' fn.results.toList fun xs => ∃ x, toT (lookH H') 30 (tup xs) = some x ∧ Q (.t x) []) hf hname hb hn (fun b hb => by simp [ids] at hb) (fun _ _ => EndOk.data) h
/-- The same; before the result is told what the places hold may be told otherwise. -/
theorem Ct.ofL {P : Program} {f : FuncId} {fn : Func} {c : Code} {args : List AV} {H : Heap} {Q : AV → Heap → Prop} {n : Nat} (hf : P.funcs[f]? = some fn) (hname : (fn.name == "runtime.NumGoroutine") = false) (hb : fn.body = some c) (hn : args.length + (fn.ntmps - args.length) = n) (hfz : ∀ b ∈ ids H, (lookH H b).1 = false)
    (hr : ∀ r ∈ fn.results.toList, ∃ t, r = .tmp t) (h : ev P n (ids H) c (argT args 0) H fun e tm H' => match e with
      | .exit _ => False
      | _ => ∃ tm2 H2, Le (ids H) tm H' tm2 H2 ∧ resV P tm2 H2 fn.results.toList fun xs => RetOb H2 (ids H) Q (tup xs)) : Ct P f args H Q :=
  Ct.ofK (fun tm H' => ∃ tm2 H2, Le (ids H) tm H' tm2 H2 ∧ resV P tm2 H2 fn.results.toList fun xs => RetOb H2 (ids H) Q (tup xs)) hf hname hb hn hfz (fun _ _ ⟨_, _, hl, h⟩ => (EndOk.ret h).le hl hr) h
end Go.YtbbcnmfmncgffaaE
