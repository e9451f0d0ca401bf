/-
  Rules for a walk: calls, loops.
  Written by hand for this claim's session.
-/
import Derived.Test.YtbbcnmfmncgffaaEvCall
namespace Go.YtbbcnmfmncgffaaE
open Go.RowKit
set_option linter.unusedVariables false
set_option linter.unusedSimpArgs false
/-! ### made plain -/
def rnK (φ0 : List (Nat × Nat)) (b : Nat) (k : Nat → Prop) : List (Nat × Nat) → Prop
  | [] => k b
  | (i, j) :: l => bif Nat.beq i b then k j else rnK φ0 b k l
theorem rnK_iff {φ0 : List (Nat × Nat)} {b : Nat} {k : Nat → Prop} {l : List (Nat × Nat)} : rnK φ0 b k l ↔ k (rn l b) := by
  induction l with
  | nil => rfl
  | cons p l ih =>
    obtain ⟨i, j⟩ := p
    unfold rnK rn look
    cases h : Nat.beq i b with
    | true => rfl
    | false => simpa [rn] using ih
mutual
def renK (φ : List (Nat × Nat)) : AV → (AV → Prop) → Prop
  | .un, k => k .un
  | .t x, k => k (.t x)
  | .own b, k => rnK φ b (fun b => k (.own b)) φ
  | .ptr b o, k => rnK φ b (fun b => k (.ptr b o)) φ
  | .rp b sz i j, k => rnK φ b (fun b => k (.rp b sz i j)) φ
  | .sub b sz i n, k => rnK φ b (fun b => k (.sub b sz i n)) φ
  | .ab p q, k => k (.ab p q)
  | .fsub b sz i n N, k => rnK φ b (fun b => k (.fsub b sz i n N)) φ
  | .agg l, k => renLK φ l fun l => k (.agg l)
  | .tuple l, k => renLK φ l fun l => k (.tuple l)
  | .iface t x, k => renK φ x fun x => k (.iface t x)
  | .fn f a c, k => renLK φ a fun a => renLK φ c fun c => k (.fn f a c)
def renLK (φ : List (Nat × Nat)) : List AV → (List AV → Prop) → Prop
  | [], k => k []
  | x :: l, k => renK φ x fun x => renLK φ l fun l => k (x :: l)
end
theorem renK_iff {φ : List (Nat × Nat)} {x : AV} {k : AV → Prop} : renK φ x k ↔ k (x.ren φ) := by
  induction x using AV.rec (motive_2 := fun l => ∀ k, renLK φ l k ↔ k (renL φ l)) generalizing k with
  | own b => unfold renK; rw [rnK_iff]; rfl
  | ptr b o => unfold renK; rw [rnK_iff]; rfl
  | rp b sz i j => unfold renK; rw [rnK_iff]; rfl
  | sub b sz i n => unfold renK; rw [rnK_iff]; rfl
  | ab p q => rfl
  | fsub b sz i n N => unfold renK; rw [rnK_iff]; rfl
  | un => rfl
  | t x => rfl
  | agg l ih => unfold renK; rw [ih]; rfl
  | tuple l ih => unfold renK; rw [ih]; rfl
  | iface t x ih => unfold renK; rw [ih]; rfl
  | fn f a c iha ihc => unfold renK; rw [iha, ihc]; rfl
  | nil => rfl
  | cons x l ihx ihl => unfold renLK; rw [ihx, ihl]; rfl
theorem renLK_iff {φ : List (Nat × Nat)} {l : List AV} {k : List AV → Prop} : renLK φ l k ↔ k (renL φ l) := by
  induction l generalizing k with
  | nil => rfl
  | cons x l ih => unfold renLK; rw [renK_iff, ih]; rfl
def renBK (φ : List (Nat × Nat)) (x : Blk) (k : Blk → Prop) : Prop :=
  match x with
  | .dead => k .dead
  | .box ty c => renLK φ c fun c => k (.box ty c)
  | .row ty sz l => k (.row ty sz l)
  | .arr ty sz l N => k (.arr ty sz l N)
theorem renBK_iff {φ : List (Nat × Nat)} {x : Blk} {k : Blk → Prop} : renBK φ x k ↔ k (x.ren φ) := by
  cases x with
  | dead => rfl
  | box ty c => show renLK φ c (fun c => k (.box ty c)) ↔ _; rw [renLK_iff]; rfl
  | row ty sz l => rfl
  | arr ty sz l N => rfl
def renHK (φ : List (Nat × Nat)) : Heap → (Heap → Prop) → Prop
  | [], k => k []
  | (b, fz, x) :: l, k => rnK φ b (fun b => renBK φ x fun x => renHK φ l fun l => k ((b, fz, x) :: l)) φ
theorem renHK_iff {φ : List (Nat × Nat)} : ∀ {H : Heap} {k : Heap → Prop}, renHK φ H k ↔ k (renH φ H)
  | [], k => Iff.rfl
  | (b, fz, x) :: l, k => by unfold renHK; rw [rnK_iff, renBK_iff, renHK_iff]; rfl
/-! ### calls -/
def dOf (o : Oper) : Nat := match o.dst with
  | some d => d
  | none => 0
section
variable {P : Program} {o : Oper} {tm : Tmps} {H : Heap} {k : Kont} {cal : Operand} {as : Array Operand} {ts : Array TypeId} {f : FuncId} {fs cs : List AV}
theorem call_temps (ho : o.op = .call { callee := .value cal, args := as, argTypes := ts }) {tf' : Nat → AV} {tf : Nat → AV} (ht : ∀ t ∈ tmpsOf o, tf' t = tf t) : opd tf' cal = opd tf cal ∧ as.toList.map (opd tf') = as.toList.map (opd tf) := by
  refine ⟨tmps_same ht (by rw [ho]; simp [Op.operands, Call.operands]), List.map_congr_left fun x hx => tmps_same ht (by rw [ho]; simp [Op.operands, Call.operands]; exact .inr (by simpa using hx))⟩
theorem enter_wp {w0 : Bse} {X O0 D : Nat → Prop} {m : Nat → Option Value} {tf : Nat → AV} {hf : Hp} {a : Act} {w : World} {Q : Exit → Act → World → Prop} {K : Act → World → Prop} {vals : Array Value} (hrun : (execOp a.eval o).run P w = .ok (.enter f vals) w) (h : Calls P f vals w fun e w' => ∃ v, e = .returned v ∧ K (a.put o.dst v) w') : o.wp P a w K Q := by
  unfold Oper.wp
  rw [hrun]
  show Calls P f vals w _
  refine h.mono fun e w' hh => ?_
  obtain ⟨v, rfl, hv⟩ := hh
  exact hv
/-- A call that is handed blocks. -/
theorem Told.callR {cargs : List AV} {Hc : Heap} {r : AV} {H' : Heap} (φ : List (Nat × Nat)) (ct : Ct P f cargs Hc (Ret r H')) (ho : o.op = .call { callee := .value cal, args := as, argTypes := ts }) (hc : calleeOf (opd (lookT tm) cal) = some (f, fs, cs)) (ha : fs ++ as.toList.map (opd (lookT tm)) ++ cs = renL φ cargs)
    (hs : sameH φ H Hc) (hn : callB φ cargs Hc r H' (dOf o) = true) (hk : renK (phi φ Hc H' (dOf o)) r fun v => renHK (phi φ Hc H' (dOf o)) H' fun W => k v W ((ids Hc).map (rn φ)) (nums φ Hc H' (dOf o))) : Told P o tm H k := by
  have ok := callB_spec hn
  rw [renK_iff, renHK_iff] at hk
  refine told_of ⟨fun B hB => ?_, fun tf' hf' ht hh w0 X O0 D m a w Q hR hd hN => ?_⟩ hk
  · rw [ids_renH] at hB
    obtain ⟨b, hb, rfl⟩ := List.mem_map.1 hB
    by_cases h : b ∈ ids Hc
    · exact .inl (List.mem_map.2 ⟨b, h, (phi_old h).symm⟩)
    · exact .inr (List.mem_map.2 ⟨b, newOf_mem.2 ⟨hb, h⟩, rfl⟩)
  · obtain ⟨t1, t2⟩ := call_temps ho ht
    obtain ⟨vals, hrun, hl, hv⟩ := call_run hR ho (by rw [t1]; exact hc) ct.1
    rw [t2, ha, renL_map] at hl hv
    have hs' : ∀ b ∈ ids Hc, hf' (rn φ b) = ((lookH Hc b).1, (lookH Hc b).2.ren φ) := fun b hb => by
      rw [hh (rn φ b) (List.mem_map.2 ⟨b, hb, rfl⟩)]
      exact sameH_spec ok.nd hs b hb
    refine enter_wp (w0 := w0) (X := X) (O0 := O0) (D := D) (m := m) (tf := tf') (hf := hf') hrun ((hR.call (dst := o.dst) ct ok hs' (by simpa using hl) (fun i x v hx hv' => hv i _ v (by rw [List.getElem?_map, hx]; rfl) hv') hd hN).mono ?_)
    rintro e w' ⟨v, m2, rfl, h⟩
    exact ⟨v, rfl, v, m2, rfl, h⟩
theorem call_trees {ts' : List T} {r : AV} {H' : Heap} {d : Nat} (hn : callB [] (ts'.map .t) [] r H' d = true) : CallOk [] (ts'.map .t) [] r H' d := callB_spec hn
/-- What is asked of a call's result, where data alone is handed on. -/
def resB (r : AV) (H' : Heap) (d : Nat) : Bool := nodupB (ids H') && nodupB ((ids H').map (rn (phi [] [] H' d)))
theorem resB_ok {ts' : List T} {r : AV} {H' : Heap} {d : Nat} (h : resB r H' d = true) : CallOk [] (ts'.map .t) [] r H' d := by
  unfold resB at h
  simp only [Bool.and_eq_true] at h
  exact ⟨fun b hb => by simp [ids] at hb, List.nodup_nil, List.nodup_nil, fun b => rfl, fun x hx => by obtain ⟨y, _, rfl⟩ := List.mem_map.1 hx; rfl, nodupB_nodup h.1, nodupB_nodup h.2, fun b hb => by simp [ids] at hb⟩
/-- A call that is handed data: what it sees of blocks of one's own is data from then on. -/
theorem Told.callT {ts' : List T} {r : AV} {H' : Heap} (ct : CtT P f ts' (Ret r H')) (ho : o.op = .call { callee := .value cal, args := as, argTypes := ts }) (hc : calleeOf (opd (lookT tm) cal) = some (f, fs, cs)) (hv : mapO (toT (lookH H) 30) (fs ++ as.toList.map (opd (lookT tm)) ++ cs) = some ts')
    (hn : resB r H' (dOf o) = true)
    (hk : renK (phi [] [] H' (dOf o)) r fun v => renHK (phi [] [] H' (dOf o)) H' fun W => k v (W ++ frz (lookH H) ((fs ++ as.toList.map (opd (lookT tm)) ++ cs).flatMap (reach (lookH H) 30)) []) ((fs ++ as.toList.map (opd (lookT tm)) ++ cs).flatMap (reach (lookH H) 30)) (nums [] [] H' (dOf o))) : Told P o tm H k := by
  have ok := resB_ok (ts' := ts') hn
  rw [renK_iff, renHK_iff] at hk
  refine told_of (loc_frz (L := (fs ++ as.toList.map (opd (lookT tm)) ++ cs).flatMap (reach (lookH H) 30)) rfl (fun b hb => hb) (fun B hB => ?_) ?_) hk
  · rw [ids_renH] at hB
    obtain ⟨b, hb, rfl⟩ := List.mem_map.1 hB
    exact .inr (List.mem_map.2 ⟨b, newOf_mem.2 ⟨hb, by simp [ids]⟩, rfl⟩)
  · intro tf' hf' ht hh w0 X O0 D m a w Q hR1 hview hR hd hN
    obtain ⟨t1, t2⟩ := call_temps ho ht
    obtain ⟨vals, hrun, hl, hvals⟩ := call_run hR ho (by rw [t1]; exact hc) ct.1
    rw [t2] at hl hvals
    obtain ⟨q1, q2⟩ := mapO_spec hv
    have hargs : ∀ (i : Nat) x v, (ts'.map AV.t)[i]? = some x → vals[i]? = some v → HA m w (Own X m (upH hf' (frz (lookH H) ((fs ++ as.toList.map (opd (lookT tm)) ++ cs).flatMap (reach (lookH H) 30)) []))) (x.ren []) v := by
      intro i x v hx hv'
      rw [List.getElem?_map] at hx
      obtain ⟨t, ht', rfl⟩ := Option.map_eq_some_iff.1 hx
      have hi : i < (fs ++ as.toList.map (opd (lookT tm)) ++ cs).length := by have := (List.getElem?_eq_some_iff.1 hv').1; omega
      have hxi := List.getElem?_eq_getElem hi
      exact .t _ _ (hview 30 _ t v (q2 i _ t hxi ht') (fun b hb => List.mem_flatMap.2 ⟨_, List.mem_of_getElem? hxi, hb⟩) (hvals i _ v hxi hv'))
    refine enter_wp (w0 := w0) (X := X) (O0 := O0) (D := D) (m := m) (tf := tf') (hf := hf') hrun ((hR1.call (dst := o.dst) ct ok (fun b hb => by simp [ids] at hb) (by rw [hl, ← q1]; simp) hargs hd hN).mono ?_)
    rintro e w' ⟨v, m2, rfl, h⟩
    exact ⟨v, rfl, v, m2, rfl, h⟩
end
/-! ### loops -/
def leT (φ : List (Nat × Nat)) (tm : Tmps) (I : List Nat) : Tmps → Prop
  | [] => True
  | (t, x) :: l => lookT tm t = x.ren φ ∧ leT φ tm I l
def tmIn (I : List Nat) : Tmps → Bool
  | [] => true
  | (_, x) :: l => x.inI I && tmIn I l
theorem leT_spec {φ : List (Nat × Nat)} {tm : Tmps} {I : List Nat} : ∀ {tm' : Tmps}, leT φ tm I tm' → tmIn I tm' = true → ∀ t, lookT tm' t = .un ∨ ((lookT tm' t).inI I = true ∧ lookT tm t = (lookT tm' t).ren φ)
  | [], _, _, t => .inl rfl
  | (t', x) :: l, h, hi, t => by
    unfold tmIn at hi
    simp only [Bool.and_eq_true] at hi
    have e : lookT ((t', x) :: l) t = if t' = t then x else lookT l t := by unfold lookT; rw [look_cons]
    rw [e]
    by_cases c : t' = t
    · subst c
      rw [if_pos rfl]
      exact .inr ⟨hi.1, h.1⟩
    · rw [if_neg c]
      exact leT_spec h.2 hi.2 t
/-- The same state under other numbers, or a part of it. -/
theorem Le.of {B : List Nat} {tm tm' : Tmps} {H H' : Heap} (φ : List (Nat × Nat)) (ht : leT φ tm (ids H') tm') (hs : sameH φ H H') (hn : (numB φ H' B && tmIn (ids H') tm') = true) : Le B tm H tm' H' := by
  intro w0 X O0 m a w hB hR
  simp only [Bool.and_eq_true] at hn
  exact ⟨_, (hR.renamed hs hn.1 hB (leT_spec ht hn.2)).1⟩
theorem Le.trans {B : List Nat} {tm tm1 tm2 : Tmps} {H H1 H2 : Heap} (h : Le B tm H tm1 H1) (h' : Le B tm1 H1 tm2 H2) : Le B tm H tm2 H2 := by
  intro w0 X O0 m a w hB hR
  obtain ⟨m1, h1⟩ := h w0 X O0 m a w hB hR
  exact h' w0 X O0 m1 a w hB h1
/-- No slice yet: a row of no elements. -/
theorem Le.nil {B : List Nat} {tm : Tmps} {H : Heap} (t b ty sz : Nat) (h : lookT tm t = .t (.v (.slice none 0 0))) (hb : memN b (ids H) = false) : Le B tm H ((t, .own b) :: tm) ((b, false, .row ty sz []) :: H) := by
  intro w0 X O0 m a w hB hR
  have hb' : b ∉ ids H := fun e => by rw [memN_iff.2 e] at hb; cases hb
  refine ⟨upM m b (.slice none 0 0), ?_⟩
  have hout : ∀ b', b' ≠ b → lookH ((b, false, .row ty sz []) :: H) b' = lookH H b' := fun b' hne => by unfold lookH; rw [look_cons, if_neg (fun e => hne e.symm)]
  have hin : lookH ((b, false, .row ty sz []) :: H) b = (false, .row ty sz []) := by unfold lookH; rw [look_cons, if_pos rfl]
  refine hR.step (fun _ => False) (But.refl _ _) (fun _ h => h.elim) (fun b' v hv => ?_) (fun b' hb2 => ?_) (fun b' => ?_) (fun t' => ?_)
  · by_cases e : b' = b
    · subst e; rw [hR.dom b' hb'] at hv; cases hv
    · rw [upM_ne e]; exact hv
  · have e : b' ≠ b := fun e => hb2 (by rw [e]; exact List.mem_cons_self ..)
    rw [upM_ne e]
    exact hR.dom b' (fun hx => hb2 (List.mem_cons_of_mem _ hx))
  · by_cases e : b' = b
    · subst e
      rw [hin]
      refine .inr ⟨fun _ => ⟨.slice none 0 0, [], upM_self, World.ownsRow_nil _ _ _ _, by simp, fun i j x y hx => by simp at hx⟩, fun _ c hc => ?_⟩
      simp [bk, upM_self, blockOf] at hc
    · exact .inl ⟨hout b' e, upM_ne e, fun _ _ _ h => h⟩
  · by_cases e : t' = t
    · subst e
      right
      intro _
      have h1 := hR.tmp t'
      rw [h] at h1
      rw [h1.v_eq]
      unfold lookT
      rw [look_cons, if_pos rfl]
      exact .own _ _ upM_self rfl
    · left
      refine ⟨?_, rfl⟩
      unfold lookT
      rw [look_cons, if_neg (fun e' => e e'.symm)]
end Go.YtbbcnmfmncgffaaE
