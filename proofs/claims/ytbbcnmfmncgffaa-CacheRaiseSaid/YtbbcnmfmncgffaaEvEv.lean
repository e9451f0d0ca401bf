/-
  Code, reckoned: what is left to be shown of a function's text; and that it is enough.
  Written by hand for this claim's session.
-/
import Derived.Test.YtbbcnmfmncgffaaEvCode
namespace Go.YtbbcnmfmncgffaaE
open Go.RowKit
set_option linter.unusedVariables false
set_option linter.unusedSimpArgs false
abbrev Log := List (List Nat × List Nat)
def appK : Heap → Heap → (Heap → Prop) → Prop
  | [], H, k => k H
  | x :: l, H, k => appK l H fun H' => k (x :: H')
theorem appK_iff : ∀ {W H : Heap} {k : Heap → Prop}, appK W H k ↔ k (W ++ H)
  | [], H, k => Iff.rfl
  | x :: l, H, k => by unfold appK; exact appK_iff
def dstOk (n : Nat) : Option Tmp → Bool
  | some d => Nat.blt d n
  | none => true
def allIn (l : List Nat) : List Nat → Bool
  | [] => true
  | x :: r => memN x l && allIn l r
theorem allIn_iff {l r : List Nat} : allIn l r = true ↔ ∀ x ∈ r, x ∈ l := by
  induction r with
  | nil => simp [allIn]
  | cons x r ih => unfold allIn; rw [Bool.and_eq_true, ih, memN_iff]; simp
def afterOp (o : Oper) (n : Nat) (tm : Tmps) (H : Heap) (log : Log) (k : Tmps → Heap → Log → Prop) : Kont := fun v W R N =>
  match noneIn (ids H) N && allIn (ids W) N && dstOk n o.dst with
  | true => appK W H fun H' => match o.dst with
    | some d => k ((d, v) :: tm) H' ((R, ids W) :: log)
    | none => k tm H' ((R, ids W) :: log)
  | false => False
/-- By what a truth is: false, true. -/
def ifB (b : Bool) (f : Bool → Prop) : Prop := @Bool.rec (fun _ => Prop) (f false) (f true) b
/-- One operation; rest says what is left after it. -/
def evStep (P : Program) (all : List Oper) (n : Nat) (o : Oper) (rest : Tmps → Heap → Log → (Tmps → Heap → Log → Prop) → Prop) (tm : Tmps) (H : Heap) (log : Log) (k : Tmps → Heap → Log → Prop) : Prop :=
  match o.guard with
    | none => evOp P o tm H (afterOp o n tm H log fun tm H log => rest tm H log k)
    | some (j, want) => match (all[j]?).bind (·.dst) with
      | some g => match lookT tm g with
        | .t (.v (.bool c)) => @Bool.rec (fun _ => Prop)
          (match want with
            | false => evOp P o ((g, .bool false) :: tm) H (afterOp o n ((g, .bool false) :: tm) H log fun tm H log => rest tm H log k)
            | true => afterOp o n ((g, .bool false) :: tm) H log (fun tm H log => rest tm H log k) (.t (.v undef)) [] [] [])
          (match want with
            | true => evOp P o ((g, .bool true) :: tm) H (afterOp o n ((g, .bool true) :: tm) H log fun tm H log => rest tm H log k)
            | false => afterOp o n ((g, .bool true) :: tm) H log (fun tm H log => rest tm H log k) (.t (.v undef)) [] [] []) c
        | .t (.v (.tuple ⟨[]⟩)) => afterOp o n tm H log (fun tm H log => rest tm H log k) (.t (.v undef)) [] [] []
        | _ => False
      | none => False
def evOps (P : Program) (all : List Oper) (n : Nat) (os : List Oper) : Tmps → Heap → Log → (Tmps → Heap → Log → Prop) → Prop :=
  @List.rec Oper (fun _ => Tmps → Heap → Log → (Tmps → Heap → Log → Prop) → Prop) (fun tm H log k => k tm H log) (fun o _ rest => evStep P all n o rest) os
def evRegion (P : Program) (n : Nat) (l : List Oper) (draw : Bool) (tm : Tmps) (H : Heap) (k : Tmps → Heap → Prop) : Prop :=
  match draw with
  | false => evOps P l n l tm H [] fun tm H _ => k tm H
  | true => match P.follows .mixedOrders with
    | true => evOps P l n l tm H [] fun tm H log => match drawOk l log.reverse with
      | true => k tm H
      | false => False
    | false => False
/-! ### that it is enough -/
theorem lookT_cons (d : Nat) (v : AV) (tm : Tmps) : lookT ((d, v) :: tm) = upT (lookT tm) (some d) v := by
  funext t
  unfold lookT upT
  rw [look_cons]
  by_cases h : d = t
  · simp [h]
  · rw [if_neg h, if_neg (fun e => h (by simpa using e))]
theorem lookH_append (W H : Heap) : lookH (W ++ H) = upH (lookH H) W := by
  funext b
  unfold lookH upH
  rw [look_append]
  rfl
/-- The same state, where a truth that is known is told. -/
theorem lookT_same {tm : Tmps} {g : Nat} {v : AV} (h : lookT tm g = v) : lookT ((g, v) :: tm) = lookT tm := by
  rw [lookT_cons]
  funext t
  unfold upT
  split
  · rename_i e; simp at e; subst e; exact h.symm
  · rfl
theorem noneIn_spec {H : Heap} {N : List Nat} (h : noneIn (ids H) N = true) : ∀ n ∈ N, ¬ n ∈ ids H := noneIn_iff.1 h
/-- What evOps leaves. -/
structure Res (P : Program) (ops : Array Oper) (os : List Oper) (n : Nat) (tm : Tmps) (H : Heap) (log : Log) (k : Tmps → Heap → Log → Prop) : Prop where
  ex : ∃ rs tm' H', Run P ops os (lookT tm) (lookH H) (fun b => b ∈ ids H) rs (lookT tm') (lookH H') (fun b => b ∈ ids H') ∧ k tm' H' ((rs.map fun r => (r.R, ids r.W)).reverse ++ log)
  dst : ∀ o ∈ os, ∀ x, o.dst = some x → x < n
theorem res_cons {P : Program} {ops : Array Oper} {o : Oper} {os : List Oper} {n : Nat} {tm : Tmps} {H : Heap} {log : Log} {k : Tmps → Heap → Log → Prop} {r : Rec} (hs : Stp P ops o (lookT tm) (lookH H) r)
    (h : afterOp o n tm H log (fun tm H log => Res P ops os n tm H log k) r.v r.W r.R r.N) : Res P ops (o :: os) n tm H log k := by
  unfold afterOp at h
  split at h
  · rename_i hc
    simp only [Bool.and_eq_true] at hc
    have hN := noneIn_spec hc.1.1
    have hW := allIn_iff.1 hc.1.2
    rw [appK_iff] at h
    have hD : ∀ b, b ∈ ids H ∨ b ∈ r.N → b ∈ ids (r.W ++ H) := fun b hb => (ids_append r.W H b).2 (hb.elim .inr fun h => .inl (hW b h))
    have hd : ∀ x, o.dst = some x → x < n := by
      intro x hx
      have := hc.2
      rw [hx] at this
      exact Nat.le_of_ble_eq_true this
    have fin : ∀ tm2, lookT tm2 = upT (lookT tm) o.dst r.v → Res P ops os n tm2 (r.W ++ H) ((r.R, ids r.W) :: log) k → Res P ops (o :: os) n tm H log k := by
      intro tm2 e h
      obtain ⟨⟨rs, tm', H', h1, h2⟩, h3⟩ := h
      rw [e, lookH_append] at h1
      refine ⟨⟨r :: rs, tm', H', .cons o os _ _ _ _ _ _ _ r rs hs hN hD h1, by simpa using h2⟩, fun o' ho' x hx => ?_⟩
      rcases List.mem_cons.1 ho' with rfl | ho'
      · exact hd x hx
      · exact h3 o' ho' x hx
    split at h
    · rename_i d hdst
      exact fin _ (by rw [lookT_cons, hdst]) h
    · rename_i hdst
      exact fin _ (by rw [hdst]; funext t; simp [upT]) h
  · exact h.elim
theorem res_told {P : Program} {ops : Array Oper} {o : Oper} {os : List Oper} {n : Nat} {tm : Tmps} {H : Heap} {log : Log} {k : Tmps → Heap → Log → Prop} (hg : Grd ops o (lookT tm) true) (h : Told P o tm H (afterOp o n tm H log (fun tm H log => Res P ops os n tm H log k))) : Res P ops (o :: os) n tm H log k := by
  obtain ⟨v, W, R, N, h1, h2⟩ := h
  exact res_cons (r := ⟨v, W, R, N⟩) (.inl ⟨hg, h1⟩) h2
theorem res_skip {P : Program} {ops : Array Oper} {o : Oper} {os : List Oper} {n : Nat} {tm : Tmps} {H : Heap} {log : Log} {k : Tmps → Heap → Log → Prop} (hg : Grd ops o (lookT tm) false) (h : afterOp o n tm H log (fun tm H log => Res P ops os n tm H log k) (.t (.v undef)) [] [] []) : Res P ops (o :: os) n tm H log k :=
  res_cons (r := ⟨.t (.v undef), [], [], []⟩) (.inr ⟨hg, rfl⟩) h
theorem Res.same {P : Program} {ops : Array Oper} {os : List Oper} {n : Nat} {tm tm2 : Tmps} {H : Heap} {log : Log} {k : Tmps → Heap → Log → Prop} (e : lookT tm2 = lookT tm) (h : Res P ops os n tm2 H log k) : Res P ops os n tm H log k := by
  obtain ⟨⟨rs, tm', H', h1, h2⟩, h3⟩ := h
  rw [e] at h1
  exact ⟨⟨rs, tm', H', h1, h2⟩, h3⟩
theorem afterOp_mono {o : Oper} {n : Nat} {tm : Tmps} {H : Heap} {log : Log} {k k' : Tmps → Heap → Log → Prop} (hk : ∀ tm H log, k tm H log → k' tm H log) {v : AV} {W : Heap} {R N : List Nat} (h : afterOp o n tm H log k v W R N) : afterOp o n tm H log k' v W R N := by
  unfold afterOp at *
  split at h
  · rw [appK_iff] at h ⊢
    split at h
    · exact hk _ _ _ h
    · exact hk _ _ _ h
  · exact h.elim
theorem Told.mono {P : Program} {o : Oper} {tm : Tmps} {H : Heap} {k k' : Kont} (hk : ∀ v W R N, k v W R N → k' v W R N) (h : Told P o tm H k) : Told P o tm H k' := by
  obtain ⟨v, W, R, N, h1, h2⟩ := h
  exact ⟨v, W, R, N, h1, hk _ _ _ _ h2⟩
theorem evOps_res {P : Program} {ops : Array Oper} {n : Nat} : ∀ (os : List Oper) (tm : Tmps) (H : Heap) (log : Log) (k : Tmps → Heap → Log → Prop), evOps P ops.toList n os tm H log k → Res P ops os n tm H log k
  | [], tm, H, log, k, h => ⟨⟨[], tm, H, .nil _ _ _, by simpa [evOps] using h⟩, by simp⟩
  | o :: os, tm, H, log, k, h => by
    have ih : ∀ tm H log, evOps P ops.toList n os tm H log k → Res P ops os n tm H log k := fun tm H log h => evOps_res os tm H log k h
    change evStep P ops.toList n o (evOps P ops.toList n os) tm H log k at h
    unfold evStep at h
    split at h
    · rename_i hg
      exact res_told (.none hg) ((evOp_told h).mono fun v W R N h => afterOp_mono ih h)
    · rename_i j want hg
      split at h
      · rename_i g hj
        have hj' : (ops[j]?).bind (·.dst) = some g := by simpa using hj
        split at h
        · rename_i c hc
          have key : ∀ b : Bool, c = b → lookT tm g = .t (.v (.bool b)) := fun b e => by rw [hc, e]
          cases c with
          | false =>
            have e := lookT_same (tm := tm) (g := g) (v := .bool false) hc
            have hG : Grd ops o (lookT ((g, .bool false) :: tm)) (false == want) := .some j g want false hg hj' (by rw [e]; exact hc)
            cases want with
            | false => exact Res.same e (res_told hG ((evOp_told h).mono fun v W R N h => afterOp_mono ih h))
            | true => exact Res.same e (res_skip hG (afterOp_mono ih h))
          | true =>
            have e := lookT_same (tm := tm) (g := g) (v := .bool true) hc
            have hG : Grd ops o (lookT ((g, .bool true) :: tm)) (true == want) := .some j g want true hg hj' (by rw [e]; exact hc)
            cases want with
            | true => exact Res.same e (res_told hG ((evOp_told h).mono fun v W R N h => afterOp_mono ih h))
            | false => exact Res.same e (res_skip hG (afterOp_mono ih h))
        · rename_i hc
          exact res_skip (.off j g want hg hj' hc) (afterOp_mono ih h)
        · exact h.elim
      · exact h.elim
/-- A region. -/
theorem evRegion_sound {P : Program} {ops : Array Oper} {n id : Nat} {draw : Bool} {tm : Tmps} {H : Heap} {k : Tmps → Heap → Prop} (h : evRegion P n ops.toList draw tm H k) {Q : Exit → Act → World → Prop} {w0 : Bse} {X O0 : Nat → Prop} {m : Nat → Option Value} {a : Act} {w : World} (hR : Rel w0 X O0 (fun b => b ∈ ids H) m (lookT tm) (lookH H) a w) (hn : a.tmps.size = n)
    (hk : ∀ tm' H' m a' w', k tm' H' → Rel w0 X O0 (fun b => b ∈ ids H') m (lookT tm') (lookH H') a' w' → a'.tmps.size = n → a'.defers = a.defers → Q .normal a' w') : (Code.region id ops draw).wp P Q a w := by
  unfold evRegion at h
  split at h
  · obtain ⟨⟨rs, tm', H', h1, h2⟩, h3⟩ := evOps_res _ _ _ _ _ h
    exact region_plain h1 hR hn h3 (fun m a' w' q1 q2 q3 => hk tm' H' m a' w' h2 q1 q2 q3)
  · split at h
    · rename_i hm
      obtain ⟨⟨rs, tm', H', h1, h2⟩, h3⟩ := evOps_res _ _ _ _ _ h
      simp only [List.append_nil, List.reverse_reverse] at h2
      split at h2
      · rename_i hck
        exact region_draw hm h1 hck hR hn h3 (fun m a' w' q1 q2 q3 => hk tm' H' m a' w' h2 q1 q2 q3)
      · exact h2.elim
    · exact h.elim
end Go.YtbbcnmfmncgffaaE
