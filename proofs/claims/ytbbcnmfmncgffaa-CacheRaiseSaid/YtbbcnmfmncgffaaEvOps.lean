/-
  Operations: what each leaves, reckoned; and that it does.
  Written by hand for this claim's session.
-/
import Derived.Test.YtbbcnmfmncgffaaEvRel
namespace Go.YtbbcnmfmncgffaaE
open Go.RowKit
set_option linter.unusedVariables false
set_option linter.unusedSimpArgs false
/-! ### lists by number -/
def look {α : Type} (d : α) : List (Nat × α) → Nat → α
  | [], _ => d
  | (i, x) :: l, j => bif Nat.beq i j then x else look d l j
abbrev Heap := List (Nat × Bool × Blk)
abbrev Tmps := List (Nat × AV)
def lookH (H : Heap) : Hp := look (false, .dead) H
def lookT (tm : Tmps) : Nat → AV := look .un tm
def ids {α : Type} (l : List (Nat × α)) : List Nat := l.map (·.1)
theorem look_cons {α : Type} (d x : α) (i j : Nat) (l : List (Nat × α)) : look d ((i, x) :: l) j = if i = j then x else look d l j := by
  show (bif Nat.beq i j then x else look d l j) = _
  by_cases h : i = j
  · subst h; simp
  · rw [if_neg h]
    have : Nat.beq i j = false := by rw [Bool.eq_false_iff]; exact fun e => h (Nat.eq_of_beq_eq_true e)
    rw [this]; rfl
theorem look_append {α : Type} (d : α) (l k : List (Nat × α)) (j : Nat) : look d (l ++ k) j = if j ∈ ids l then look d l j else look d k j := by
  induction l with
  | nil => simp [ids]
  | cons p l ih =>
    obtain ⟨i, x⟩ := p
    rw [List.cons_append, look_cons, look_cons, ih]
    by_cases h : i = j
    · simp [h, ids]
    · have : ¬ j = i := fun e => h e.symm
      have e : (j ∈ ids ((i, x) :: l)) = (j ∈ ids l) := by simp [ids, this]
      simp only [if_neg h, e]
theorem look_none {α : Type} (d : α) (l : List (Nat × α)) (j : Nat) (h : j ∉ ids l) : look d l j = d := by
  induction l with
  | nil => rfl
  | cons p l ih =>
    obtain ⟨i, x⟩ := p
    simp only [ids, List.map_cons, List.mem_cons, not_or] at h
    rw [look_cons, if_neg (fun e => h.1 e.symm)]
    exact ih h.2
def upH (hf : Hp) (W : Heap) : Hp := fun b => if b ∈ ids W then lookH W b else hf b
theorem upH_nil (hf : Hp) : upH hf [] = hf := by funext b; simp [upH, ids]
def opd (tf : Nat → AV) : Operand → AV
  | .tmp t => tf t
  | .const x => .t (.v x)
  | .func f => .t (.v (.func (.func f) #[] #[]))
  | .global g => .t (.v (.pointer (some ⟨g, 0, none⟩)))

/-! ### What it is to be an operation's effect -/
/-- In a state with tf and hf the operation leaves v, and the blocks W, of which those of N are new. -/
def OpOk (P : Program) (o : Oper) (tf : Nat → AV) (hf : Hp) (v : AV) (W : Heap) (N : List Nat) : Prop :=
  ∀ (w0 : Bse) (X O0 D : Nat → Prop) (m : Nat → Option Value) (a : Act) (w : World) (Q : Exit → Act → World → Prop), Rel w0 X O0 D m tf hf a w → (∀ x, o.dst = some x → x < a.tmps.size) → (∀ n ∈ N, ¬ D n) →
    o.wp P a w (fun a' w' => ∃ u m', a' = a.put o.dst u ∧ Rel w0 X O0 (fun b => D b ∨ b ∈ N) m' (upT tf o.dst v) (upH hf W) a' w') Q
def tmpsOf (o : Oper) : List Nat := o.op.operands.toList.filterMap fun | .tmp t => some t | _ => none
/-- The same, of each state that is alike where the operation looks. -/
def OpLoc (P : Program) (o : Oper) (R : List Nat) (tf : Nat → AV) (hf : Hp) (v : AV) (W : Heap) (N : List Nat) : Prop :=
  (∀ b ∈ ids W, b ∈ R ∨ b ∈ N) ∧ ∀ tf' hf', (∀ t ∈ tmpsOf o, tf' t = tf t) → (∀ b ∈ R, hf' b = hf b) → OpOk P o tf' hf' v W N
abbrev Kont := AV → Heap → List Nat → List Nat → Prop
/-- An operation that is not reckoned: its effect is told. -/
def Told (P : Program) (o : Oper) (tm : Tmps) (H : Heap) (k : Kont) : Prop := ∃ v W R N, OpLoc P o R (lookT tm) (lookH H) v W N ∧ k v W R N

section
variable {P : Program} {o : Oper} {tf : Nat → AV} {hf : Hp} {v : AV}
theorem OpOk.val (h : ∀ (w0 : Bse) (X O0 D : Nat → Prop) (m : Nat → Option Value) (a : Act) (w : World), Rel w0 X O0 D m tf hf a w → ∃ u, (execOp a.eval o).run P w = .ok (.value u) w ∧ HA m w (Own X m hf) v u) : OpOk P o tf hf v [] [] := by
  intro w0 X O0 D m a w Q hR hd _
  obtain ⟨u, hrun, hv⟩ := h w0 X O0 D m a w hR
  unfold Oper.wp
  rw [hrun]
  refine ⟨u, m, rfl, ?_⟩
  rw [upH_nil]
  have := hR.put o.dst v u hd (But.refl w _) hv
  simpa using this
theorem opd_told {w0 : Bse} {X O0 D : Nat → Prop} {m : Nat → Option Value} {a : Act} {w : World} (hR : Rel w0 X O0 D m tf hf a w) (x : Operand) : HA m w (Own X m hf) (opd tf x) (a.eval x) := by
  cases x with
  | tmp t => exact hR.tmp t
  | const v => exact .t _ _ (.v v)
  | global g => exact .t _ _ (.v _)
  | func f => exact .t _ _ (.v _)
theorem opd_same {tf' : Nat → AV} {x : Operand} {l : List Operand} (h : ∀ t ∈ l.filterMap (fun | .tmp t => some t | _ => none), tf' t = tf t) (hx : x ∈ l) : opd tf' x = opd tf x := by
  cases x with
  | tmp t => exact h t (List.mem_filterMap.2 ⟨.tmp t, hx, rfl⟩)
  | _ => rfl
theorem tmps_same {tf' : Nat → AV} {x : Operand} (h : ∀ t ∈ tmpsOf o, tf' t = tf t) (hx : x ∈ o.op.operands.toList) : opd tf' x = opd tf x := opd_same h hx
end
/-! ### Values told -/
section
variable {m : Nat → Option Value} {w : World} {O : Nat → Prop}
theorem HA.v_eq {x y : Value} (h : HA m w O (.t (.v x)) y) : y = x := by cases h with | t _ _ h => cases h; rfl
theorem HA.t_ht {x : T} {y : Value} (h : HA m w O (.t x) y) : HT w O x y := by cases h with | t _ _ h => exact h
theorem HA.sl_eq {sz : Nat} {l : List T} {y : Value} (h : HA m w O (.t (.sl sz l)) y) : ∃ A c, y = .slice A l.length c ∧ l.length ≤ c := by
  cases h with
  | t _ _ h => cases h with
    | nil _ A c => exact ⟨A, c, rfl, Nat.zero_le _⟩
    | sl _ _ b o c f hO hb hc => exact ⟨_, c, rfl, hc⟩
theorem HA.list_of_agg {l : List AV} {y : Value} (h : HA m w O (.agg l) y) : ∃ vs : List Value, y = .agg vs.toArray ∧ vs.length = l.length ∧ ∀ (i : Nat) x z, l[i]? = some x → vs[i]? = some z → HA m w O x z := by
  cases h with | agg _ vs hl h => exact ⟨vs, rfl, hl, h⟩
theorem HT.list_of_agg {l : List T} {y : Value} (h : HT w O (.agg l) y) : ∃ vs : List Value, y = .agg vs.toArray ∧ vs.length = l.length ∧ ∀ (i : Nat) x z, l[i]? = some x → vs[i]? = some z → HT w O x z := by
  cases h with | agg _ vs hl h => exact ⟨vs, rfl, hl, h⟩
end
/-! ### move, assign, pick -/
def evMove (x : AV) (k : Kont) : Prop :=
  match x with
  | .un => k .un [] [] []
  | .t x => k (.t x) [] [] []
  | .own b => k (.own b) [] [] []
  | .ptr b o => k (.ptr b o) [] [] []
  | .rp b sz i j => k (.rp b sz i j) [] [] []
  | .sub b sz i n => k (.sub b sz i n) [] [] []
  | .ab p q => k (.ab p q) [] [] []
  | .fsub b sz i n N => k (.fsub b sz i n N) [] [] []
  | .agg l => k (.agg l) [] [] []
  | .tuple l => k (.tuple l) [] [] []
  | .iface t x => k (.iface t x) [] [] []
  | .fn f a c => k (.fn f a c) [] [] []
theorem evMove_iff {x : AV} {k : Kont} : evMove x k ↔ k x [] [] [] := by cases x <;> rfl
section
variable {P : Program} {o : Oper} {tf : Nat → AV} {hf : Hp} {v : AV}
theorem loc_val (h : ∀ tf' hf', (∀ t ∈ tmpsOf o, tf' t = tf t) → OpOk P o tf' hf' v [] []) : OpLoc P o [] tf hf v [] [] := ⟨fun b hb => by simp [ids] at hb, fun tf' hf' ht _ => h tf' hf' ht⟩
theorem ok_move {x : Operand} (ho : o.op = .move x ∨ o.op = .assign x) : OpLoc P o [] tf hf (opd tf x) [] [] := by
  refine loc_val fun tf' hf' ht => ?_
  have hx : x ∈ o.op.operands.toList := by rcases ho with e | e <;> rw [e] <;> simp [Op.operands]
  rw [← tmps_same ht hx]
  refine .val fun w0 X O0 D m a w hR => ⟨a.eval x, ?_, opd_told hR x⟩
  unfold execOp
  rcases ho with e | e <;> rw [e] <;> rfl
theorem ok_pick {c x y : Operand} {b : Bool} (ho : o.op = .pick c x y) (hc : opd tf c = .t (.v (.bool b))) : OpLoc P o [] tf hf (if b then opd tf x else opd tf y) [] [] := by
  refine loc_val fun tf' hf' ht => ?_
  have hx : ∀ z, z = c ∨ z = x ∨ z = y → opd tf' z = opd tf z := fun z hz => tmps_same ht (by rw [ho]; simp [Op.operands]; exact hz)
  rw [← hx x (by simp), ← hx y (by simp)]
  rw [← hx c (by simp)] at hc
  refine .val fun w0 X O0 D m a w hR => ⟨if b then a.eval x else a.eval y, ?_, ?_⟩
  · have := opd_told hR c
    rw [hc] at this
    unfold execOp
    rw [ho]
    simp only [this.v_eq]
    cases b <;> rfl
  · cases b
    · exact opd_told hR y
    · exact opd_told hR x
end
/-! ### scalars -/
def evBin (u : Option TypeDesc) (op : BinOp) (cx : Bool) (x y : AV) (k : Kont) : Prop :=
  match x, y with
  | .t (.v (.int κ a)), .t (.v (.int κ' b)) =>
    (match op with
    | .shl => 0 ≤ b ∧ k (.int κ (κ.wrap (a * 2 ^ (min b.toNat κ.bits)))) [] [] []
    | .shr => 0 ≤ b ∧ k (.int κ (a.fdiv (2 ^ (min b.toNat κ.bits)))) [] [] []
    | op => match decide (κ = κ') with
      | false => False
      | true => match op with
        | .add => k (.int κ (κ.wrap (a + b))) [] [] []
        | .sub => k (.int κ (κ.wrap (a - b))) [] [] []
        | .mul => k (.int κ (κ.wrap (a * b))) [] [] []
        | .quo => ¬ b = 0 ∧ k (.int κ (κ.wrap (a.tdiv b))) [] [] []
        | .rem => ¬ b = 0 ∧ k (.int κ (a.tmod b)) [] [] []
        | .and => k (.int κ (Go.bits .and κ a b)) [] [] []
        | .or => k (.int κ (Go.bits .or κ a b)) [] [] []
        | .xor => k (.int κ (Go.bits .xor κ a b)) [] [] []
        | .eql => k (.bool (decide (a = b))) [] [] []
        | .neq => k (.bool (!decide (a = b))) [] [] []
        | .lss => k (.bool (decide (a < b))) [] [] []
        | .leq => k (.bool (decide (a ≤ b))) [] [] []
        | .gtr => k (.bool (decide (a > b))) [] [] []
        | .geq => k (.bool (decide (a ≥ b))) [] [] []
        | _ => False)
  | .t (.v (.bool a)), .t (.v (.bool b)) => (match op, u with
    | .eql, some .bool => k (.bool (a == b)) [] [] []
    | .neq, some .bool => k (.bool (!(a == b))) [] [] []
    | _, _ => False)
  | .t (.v (.string a)), .t (.v (.string b)) => (match op with
    | .eql => ∀ c, c = decide (a.toList = b.toList) → k (.bool c) [] [] []
    | .neq => ∀ c, c = (!decide (a.toList = b.toList)) → k (.bool c) [] [] []
    | _ => False)
  | .t (.v .nilIface), .t (.v .nilIface) => (match op, cx, u with
    | .eql, true, some (.interface _) => k (.bool true) [] [] []
    | .neq, true, some (.interface _) => k (.bool false) [] [] []
    | _, _, _ => False)
  | .iface _ _, .t (.v .nilIface) => (match op, u with
    | .eql, some (.interface _) => k (.bool false) [] [] []
    | .neq, some (.interface _) => k (.bool true) [] [] []
    | _, _ => False)
  | .t (.iface _ _), .t (.v .nilIface) => (match op, u with
    | .eql, some (.interface _) => k (.bool false) [] [] []
    | .neq, some (.interface _) => k (.bool true) [] [] []
    | _, _ => False)
  | .t (.v (.pointer none)), .t (.v (.pointer none)) => (match op, u with
    | .eql, some (.pointer _) => k (.bool true) [] [] []
    | .neq, some (.pointer _) => k (.bool false) [] [] []
    | _, _ => False)
  | .ptr _ _, .t (.v (.pointer none)) => (match op, u with
    | .eql, some (.pointer _) => k (.bool false) [] [] []
    | .neq, some (.pointer _) => k (.bool true) [] [] []
    | _, _ => False)
  | .t (.pt _), .t (.v (.pointer none)) => (match op, u with
    | .eql, some (.pointer _) => k (.bool false) [] [] []
    | .neq, some (.pointer _) => k (.bool true) [] [] []
    | _, _ => False)
  | _, _ => False
def isConstB : Operand → Bool
  | .const _ => true
  | _ => false
def binRun (P : Program) (op : BinOp) (t : TypeId) (x y : Operand) (vx vy : Value) (u : Value) : Prop := ∀ w : World, (do eqGuard op t x y vx vy; Go.binOp op t vx vy : Sem Value).run P w = .ok u w
theorem bin_ii {P : Program} {op : BinOp} {t : TypeId} {x y : Operand} {κ κ' : IntKind} {a b : Int} {k : Kont} {cx : Bool} {ut : Option TypeDesc} (h : evBin ut op cx (.t (.v (.int κ a))) (.t (.v (.int κ' b))) k) :
    ∃ u, binRun P op t x y (.int κ a) (.int κ' b) u ∧ k (.t (.v u)) [] [] [] := by
  unfold evBin at h
  cases op with
  | shl => exact ⟨_, fun w => by have := h.1; simp [eqGuard, Go.binOp, Op.shift, show ¬ b < 0 by omega], h.2⟩
  | shr => exact ⟨_, fun w => by have := h.1; simp [eqGuard, Go.binOp, Op.shift, show ¬ b < 0 by omega], h.2⟩
  | _ =>
    by_cases e : κ = κ'
    · subst e
      simp only [decide_true] at h <;> first
        | exact h.elim
        | (refine ⟨_, fun w => ?_, h.2⟩; simp [eqGuard, Go.binOp, Op.intDiv, h.1]; done)
        | (refine ⟨_, fun w => ?_, h⟩; simp [eqGuard, Go.binOp, Op.intArith]; done)
        | (refine ⟨_, fun w => ?_, h⟩; simp [eqGuard, Go.binOp, intBits_and, intBits_or, intBits_xor]; done)
        | (refine ⟨_, fun w => ?_, h⟩; simp [eqGuard, Go.binOp, Op.intCmp]; done)
        | (refine ⟨_, fun w => ?_, h⟩; simp [eqGuard, Go.binOp, Op.intCmp]; first | done | rfl)
        | (refine ⟨_, fun w => ?_, h⟩; simp [eqGuard, Go.binOp, Op.intCmp]; rw [Bool.eq_iff_iff]; simp; done)
    · simp only [decide_eq_false e] at h
theorem run_eqs {P : Program} {t : TypeId} {x y : Operand} {vx vy : Value} {b : Bool} {w : World} (hg : ∀ op, (eqGuard op t x y vx vy).run P w = .ok () w) (h1 : Go.binOp .eql t vx vy = (do pure (.bool (← Op.equal t vx vy)))) (h2 : Go.binOp .neq t vx vy = (do pure (.bool (!(← Op.equal t vx vy))))) (he : (Op.equal t vx vy).run P w = .ok b w) :
    (do eqGuard .eql t x y vx vy; Go.binOp .eql t vx vy : Sem Value).run P w = .ok (.bool b) w ∧ (do eqGuard .neq t x y vx vy; Go.binOp .neq t vx vy : Sem Value).run P w = .ok (.bool (!b)) w := by
  constructor
  · simp only [Sem.run_bind, hg, Result.andThen_ok, h1, he, Sem.run_pure]
  · simp only [Sem.run_bind, hg, Result.andThen_ok, h2, he, Sem.run_pure]
theorem equal_step {P : Program} {t : TypeId} {vx vy : Value} {w : World} {b : Bool} (h : (Op.equalIn (9999 + 1) t vx vy).run P w = .ok b w) : (Op.equal t vx vy).run P w = .ok b w := h
theorem ok_bin {P : Program} {o : Oper} {tf : Nat → AV} {hf : Hp} {op : BinOp} {t t' : TypeId} {x y : Operand} {k : Kont} (ho : o.op = .binOp op t x y t') (h : evBin (P.underlying t) op (isConstB x || isConstB y) (opd tf x) (opd tf y) k) :
    ∃ v, OpLoc P o [] tf hf v [] [] ∧ k v [] [] [] := by
  have main : ∀ (u : Value), (∀ (w : World) (m : Nat → Option Value) (O : Nat → Prop) (vx vy : Value), HA m w O (opd tf x) vx → HA m w O (opd tf y) vy → (do eqGuard op t x y vx vy; Go.binOp op t vx vy : Sem Value).run P w = .ok u w) → OpLoc P o [] tf hf (.t (.v u)) [] [] := by
    intro u hu
    refine loc_val fun tf' hf' ht => ?_
    have hx : ∀ z, z = x ∨ z = y → opd tf' z = opd tf z := fun z hz => tmps_same ht (by rw [ho]; simp [Op.operands]; exact hz)
    refine .val fun w0 X O0 D m a w hR => ⟨u, ?_, .t _ _ (.v u)⟩
    have h1 := opd_told hR x
    have h2 := opd_told hR y
    rw [hx x (by simp)] at h1
    rw [hx y (by simp)] at h2
    have h3 := hu w m _ _ _ h1 h2
    unfold execOp
    rw [ho]
    show Sem.run P (do let z ← (do eqGuard op t x y (a.eval x) (a.eval y); Go.binOp op t (a.eval x) (a.eval y) : Sem Value); pure (Next.value z)) w = _
    generalize (do eqGuard op t x y (a.eval x) (a.eval y); Go.binOp op t (a.eval x) (a.eval y) : Sem Value) = s at h3 ⊢
    simp [h3]
  generalize hcx : (isConstB x || isConstB y) = cx at h
  generalize hX : opd tf x = ax at h main
  generalize hY : opd tf y = ay at h main
  have guard : cx = true → ∀ (w : World) (op : BinOp), (eqGuard op t x y .nilIface .nilIface).run P w = .ok () w := by
    intro e w op
    subst e
    cases op <;> cases x <;> cases y <;> first | rfl | simp [isConstB] at hcx
  unfold evBin at h
  split at h
  · obtain ⟨u, h1, h2⟩ := bin_ii (P := P) (t := t) (x := x) (y := y) (op := op) (cx := cx) (k := k) (ut := none) (by unfold evBin; exact h)
    exact ⟨_, main u (fun w m O vx vy hx hy => by rw [hx.v_eq, hy.v_eq]; exact h1 w), h2⟩
  · split at h
    · refine ⟨_, main (.bool _) (fun w m O vx vy hx hy => ?_), h⟩
      rw [hx.v_eq, hy.v_eq]
      exact (run_eqs (fun op => by cases op <;> rfl) rfl rfl (equal_step (by unfold Op.equalIn; simp [run_underlying (by assumption)]))).1
    · refine ⟨_, main (.bool _) (fun w m O vx vy hx hy => ?_), h⟩
      rw [hx.v_eq, hy.v_eq]
      exact (run_eqs (fun op => by cases op <;> rfl) rfl rfl (equal_step (by unfold Op.equalIn; simp [run_underlying (by assumption)]))).2
    · exact h.elim
  · split at h
    · exact ⟨_, main (.bool _) (fun w m O vx vy hx hy => by rw [hx.v_eq, hy.v_eq]; simp [eqGuard, Go.binOp, Op.stringOp]; rw [Bool.eq_iff_iff]; simp), h _ rfl⟩
    · exact ⟨_, main (.bool _) (fun w m O vx vy hx hy => by rw [hx.v_eq, hy.v_eq]; simp [eqGuard, Go.binOp, Op.stringOp]; rw [Bool.eq_iff_iff]; simp), h _ rfl⟩
    · exact h.elim
  · split at h
    · refine ⟨_, main (.bool true) (fun w m O vx vy hx hy => ?_), h⟩
      rw [hx.v_eq, hy.v_eq]
      exact (run_eqs (fun op => guard rfl w op) rfl rfl (equal_step (by unfold Op.equalIn; simp [run_underlying (by assumption)]))).1
    · refine ⟨_, main (.bool (!true)) (fun w m O vx vy hx hy => ?_), h⟩
      rw [hx.v_eq, hy.v_eq]
      exact (run_eqs (fun op => guard rfl w op) rfl rfl (equal_step (by unfold Op.equalIn; simp [run_underlying (by assumption)]))).2
    · exact h.elim
  · split at h
    · refine ⟨_, main (.bool false) (fun w m O vx vy hx hy => ?_), h⟩
      rw [hy.v_eq]; cases hx
      exact (run_eqs (fun op => by cases op <;> rfl) rfl rfl (equal_step (by unfold Op.equalIn; simp [run_underlying (by assumption)]))).1
    · refine ⟨_, main (.bool (!false)) (fun w m O vx vy hx hy => ?_), h⟩
      rw [hy.v_eq]; cases hx
      exact (run_eqs (fun op => by cases op <;> rfl) rfl rfl (equal_step (by unfold Op.equalIn; simp [run_underlying (by assumption)]))).2
    · exact h.elim
  · split at h
    · refine ⟨_, main (.bool false) (fun w m O vx vy hx hy => ?_), h⟩
      rw [hy.v_eq]; cases hx.t_ht
      exact (run_eqs (fun op => by cases op <;> rfl) rfl rfl (equal_step (by unfold Op.equalIn; simp [run_underlying (by assumption)]))).1
    · refine ⟨_, main (.bool (!false)) (fun w m O vx vy hx hy => ?_), h⟩
      rw [hy.v_eq]; cases hx.t_ht
      exact (run_eqs (fun op => by cases op <;> rfl) rfl rfl (equal_step (by unfold Op.equalIn; simp [run_underlying (by assumption)]))).2
    · exact h.elim
  · split at h
    · refine ⟨_, main (.bool true) (fun w m O vx vy hx hy => ?_), h⟩
      rw [hx.v_eq, hy.v_eq]
      exact (run_eqs (fun op => by cases op <;> rfl) rfl rfl (equal_step (by unfold Op.equalIn; simp [run_underlying (by assumption)]))).1
    · refine ⟨_, main (.bool (!true)) (fun w m O vx vy hx hy => ?_), h⟩
      rw [hx.v_eq, hy.v_eq]
      exact (run_eqs (fun op => by cases op <;> rfl) rfl rfl (equal_step (by unfold Op.equalIn; simp [run_underlying (by assumption)]))).2
    · exact h.elim
  · split at h
    · refine ⟨_, main (.bool false) (fun w m O vx vy hx hy => ?_), h⟩
      rw [hy.v_eq]; cases hx
      exact (run_eqs (fun op => by cases op <;> rfl) rfl rfl (equal_step (by unfold Op.equalIn; simp [run_underlying (by assumption)]))).1
    · refine ⟨_, main (.bool (!false)) (fun w m O vx vy hx hy => ?_), h⟩
      rw [hy.v_eq]; cases hx
      exact (run_eqs (fun op => by cases op <;> rfl) rfl rfl (equal_step (by unfold Op.equalIn; simp [run_underlying (by assumption)]))).2
    · exact h.elim
  · split at h
    · refine ⟨_, main (.bool false) (fun w m O vx vy hx hy => ?_), h⟩
      rw [hy.v_eq]; cases hx.t_ht
      exact (run_eqs (fun op => by cases op <;> rfl) rfl rfl (equal_step (by unfold Op.equalIn; simp [run_underlying (by assumption)]))).1
    · refine ⟨_, main (.bool (!false)) (fun w m O vx vy hx hy => ?_), h⟩
      rw [hy.v_eq]; cases hx.t_ht
      exact (run_eqs (fun op => by cases op <;> rfl) rfl rfl (equal_step (by unfold Op.equalIn; simp [run_underlying (by assumption)]))).2
    · exact h.elim
  · exact h.elim
end Go.YtbbcnmfmncgffaaE
