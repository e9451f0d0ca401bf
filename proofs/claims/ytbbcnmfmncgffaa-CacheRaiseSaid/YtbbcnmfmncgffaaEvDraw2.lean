/-
  Regions whose order is open: all orders are one.
  Written by hand for this claim's session.
-/
import Derived.Test.YtbbcnmfmncgffaaEvDraw
namespace Go.YtbbcnmfmncgffaaE
open Go.RowKit
set_option linter.unusedVariables false
set_option linter.unusedSimpArgs false
def dAt (os : List Oper) (i : Nat) : Option Nat := (os[i]?).bind (·.dst)
def vAt (rs : List Rec) (i : Nat) : AV := ((rs[i]?).map (·.v)).getD .un
def WAt (rs : List Rec) (i : Nat) : Heap := ((rs[i]?).map (·.W)).getD []
def NAt (rs : List Rec) (i : Nat) : List Nat := ((rs[i]?).map (·.N)).getD []
def stT (tf : Nat → AV) (os : List Oper) (rs : List Rec) (L : Nat → Bool) (t : Nat) : Nat → AV
  | 0 => tf t
  | n + 1 => if L n = true ∧ dAt os n = some t then vAt rs n else stT tf os rs L t n
def stH (hf : Hp) (rs : List Rec) (L : Nat → Bool) (b : Nat) : Nat → Bool × Blk
  | 0 => hf b
  | n + 1 => if L n = true ∧ b ∈ ids (WAt rs n) then lookH (WAt rs n) b else stH hf rs L b n
def stD (D : Nat → Prop) (rs : List Rec) (L : Nat → Bool) (b : Nat) : Nat → Prop
  | 0 => D b
  | n + 1 => stD D rs L b n ∨ (L n = true ∧ b ∈ NAt rs n)
theorem stT_shift (tf : Nat → AV) (o : Oper) (os : List Oper) (r : Rec) (rs : List Rec) (t : Nat) : ∀ n, stT tf (o :: os) (r :: rs) (fun _ => true) t (n + 1) = stT (upT tf o.dst r.v) os rs (fun _ => true) t n
  | 0 => by simp [stT, dAt, vAt, upT]
  | n + 1 => by
    have ih := stT_shift tf o os r rs t n
    show (if true = true ∧ dAt (o :: os) (n + 1) = some t then vAt (r :: rs) (n + 1) else stT tf (o :: os) (r :: rs) (fun _ => true) t (n + 1)) = (if true = true ∧ dAt os n = some t then vAt rs n else stT (upT tf o.dst r.v) os rs (fun _ => true) t n)
    rw [ih]
    rfl
theorem stH_shift (hf : Hp) (r : Rec) (rs : List Rec) (b : Nat) : ∀ n, stH hf (r :: rs) (fun _ => true) b (n + 1) = stH (upH hf r.W) rs (fun _ => true) b n
  | 0 => by simp [stH, WAt, upH]
  | n + 1 => by
    have ih := stH_shift hf r rs b n
    show (if true = true ∧ b ∈ ids (WAt (r :: rs) (n + 1)) then lookH (WAt (r :: rs) (n + 1)) b else stH hf (r :: rs) (fun _ => true) b (n + 1)) = (if true = true ∧ b ∈ ids (WAt rs n) then lookH (WAt rs n) b else stH (upH hf r.W) rs (fun _ => true) b n)
    rw [ih]
    rfl
theorem stD_shift (D : Nat → Prop) (r : Rec) (rs : List Rec) (b : Nat) : ∀ n, stD D (r :: rs) (fun _ => true) b (n + 1) ↔ stD (fun b => D b ∨ b ∈ r.N) rs (fun _ => true) b n
  | 0 => by simp [stD, NAt]
  | n + 1 => by
    have ih := stD_shift D r rs b n
    show (stD D (r :: rs) (fun _ => true) b (n + 1) ∨ (true = true ∧ b ∈ NAt (r :: rs) (n + 1))) ↔ (stD (fun b => D b ∨ b ∈ r.N) rs (fun _ => true) b n ∨ (true = true ∧ b ∈ NAt rs n))
    rw [ih]
    rfl
theorem stD_mono {D D2 : Nat → Prop} {rs : List Rec} {L : Nat → Bool} {b : Nat} (h : ∀ b, D b → D2 b) : ∀ n, stD D rs L b n → stD D2 rs L b n
  | 0, hx => h b hx
  | n + 1, hx => hx.imp (stD_mono h n) (fun x => x)
theorem run_facts {P : Program} {ops : Array Oper} {os : List Oper} {tf tf' : Nat → AV} {hf hf' : Hp} {D D' : Nat → Prop} {rs : List Rec} (h : Run P ops os tf hf D rs tf' hf' D') :
    rs.length = os.length ∧ (∀ (i : Nat) o r, os[i]? = some o → rs[i]? = some r → Stp P ops o (fun t => stT tf os rs (fun _ => true) t i) (fun b => stH hf rs (fun _ => true) b i) r ∧ ∀ n ∈ r.N, ¬ stD D rs (fun _ => true) n i) ∧
    (∀ t, tf' t = stT tf os rs (fun _ => true) t os.length) ∧ (∀ b, hf' b = stH hf rs (fun _ => true) b os.length) ∧ ∀ b, stD D rs (fun _ => true) b os.length → D' b := by
  induction h with
  | nil tf hf D => exact ⟨rfl, fun i o r h => by simp at h, fun _ => rfl, fun _ => rfl, fun _ h => h⟩
  | cons o os tf tf' hf hf' D D2 D' r rs h hN hD hr ih =>
    obtain ⟨h1, h2, h3, h4, h5⟩ := ih
    refine ⟨by simp [h1], fun i o' r' ho hr' => ?_, fun t => ?_, fun b => ?_, fun b hb => ?_⟩
    · cases i with
      | zero =>
        simp at ho hr'
        subst ho; subst hr'
        exact ⟨h, hN⟩
      | succ i =>
        obtain ⟨q1, q2⟩ := h2 i o' r' (by simpa using ho) (by simpa using hr')
        refine ⟨?_, fun n hn hx => q2 n hn (stD_mono hD _ ((stD_shift _ _ _ _ _).1 hx))⟩
        have e1 : (fun t => stT tf (o :: os) (r :: rs) (fun _ => true) t (i + 1)) = fun t => stT (upT tf o.dst r.v) os rs (fun _ => true) t i := funext fun t => stT_shift tf o os r rs t i
        have e2 : (fun b => stH hf (r :: rs) (fun _ => true) b (i + 1)) = fun b => stH (upH hf r.W) rs (fun _ => true) b i := funext fun b => stH_shift hf r rs b i
        rw [e1, e2]
        exact q1
    · rw [h3 t, List.length_cons, stT_shift]
    · rw [h4 b, List.length_cons, stH_shift]
    · rw [List.length_cons, stD_shift] at hb
      exact h5 b (stD_mono hD _ hb)
/-- Where no more is written, nothing turns. -/
theorem stT_skip {tf : Nat → AV} {os : List Oper} {rs : List Rec} {L : Nat → Bool} {t i : Nat} : ∀ n, i ≤ n → (∀ j, i ≤ j → j < n → L j = true → dAt os j ≠ some t) → stT tf os rs L t n = stT tf os rs L t i
  | 0, hi, _ => by have : i = 0 := by omega
                   rw [this]
  | n + 1, hi, h => by
    by_cases e : i = n + 1
    · rw [e]
    · have h0 := h n (by omega) (by omega)
      show (if L n = true ∧ dAt os n = some t then vAt rs n else stT tf os rs L t n) = _
      rw [if_neg (fun hh => h0 hh.1 hh.2)]
      exact stT_skip n (by omega) (fun j h1 h2 => h j h1 (by omega))
theorem stH_skip {hf : Hp} {rs : List Rec} {L : Nat → Bool} {b i : Nat} : ∀ n, i ≤ n → (∀ j, i ≤ j → j < n → L j = true → b ∉ ids (WAt rs j)) → stH hf rs L b n = stH hf rs L b i
  | 0, hi, _ => by have : i = 0 := by omega
                   rw [this]
  | n + 1, hi, h => by
    by_cases e : i = n + 1
    · rw [e]
    · have h0 := h n (by omega) (by omega)
      show (if L n = true ∧ b ∈ ids (WAt rs n) then lookH (WAt rs n) b else stH hf rs L b n) = _
      rw [if_neg (fun hh => h0 hh.1 hh.2)]
      exact stH_skip n (by omega) (fun j h1 h2 => h j h1 (by omega))
theorem stT_agree {tf : Nat → AV} {os : List Oper} {rs : List Rec} {L M : Nat → Bool} {t : Nat} : ∀ n, (∀ j, j < n → dAt os j = some t → L j = M j) → stT tf os rs L t n = stT tf os rs M t n
  | 0, _ => rfl
  | n + 1, h => by
    have h0 := h n (by omega)
    show (if L n = true ∧ dAt os n = some t then vAt rs n else stT tf os rs L t n) = (if M n = true ∧ dAt os n = some t then vAt rs n else stT tf os rs M t n)
    rw [stT_agree n (fun j h1 => h j (by omega))]
    by_cases e : dAt os n = some t
    · rw [h0 e]
    · simp [e]
theorem stH_agree {hf : Hp} {rs : List Rec} {L M : Nat → Bool} {b : Nat} : ∀ n, (∀ j, j < n → b ∈ ids (WAt rs j) → L j = M j) → stH hf rs L b n = stH hf rs M b n
  | 0, _ => rfl
  | n + 1, h => by
    have h0 := h n (by omega)
    show (if L n = true ∧ b ∈ ids (WAt rs n) then lookH (WAt rs n) b else stH hf rs L b n) = (if M n = true ∧ b ∈ ids (WAt rs n) then lookH (WAt rs n) b else stH hf rs M b n)
    rw [stH_agree n (fun j h1 => h j (by omega))]
    by_cases e : b ∈ ids (WAt rs n)
    · rw [h0 e]
    · simp [e]
/-- One more is listed. -/
theorem stT_set {tf : Nat → AV} {os : List Oper} {rs : List Rec} {L L' : Nat → Bool} {t i : Nat} (hi : L i = false) (hi' : L' i = true) (hne : ∀ j, j ≠ i → L' j = L j) : ∀ n, i < n → (∀ j, i < j → L j = true → dAt os i = some t → dAt os j ≠ some t) → stT tf os rs L' t n = if dAt os i = some t then vAt rs i else stT tf os rs L t n
  | 0, h, _ => by omega
  | n + 1, h, hx => by
    show (if L' n = true ∧ dAt os n = some t then vAt rs n else stT tf os rs L' t n) = (if dAt os i = some t then vAt rs i else (if L n = true ∧ dAt os n = some t then vAt rs n else stT tf os rs L t n))
    by_cases e : n = i
    · subst e
      rw [hi', hi]
      by_cases e2 : dAt os n = some t
      · rw [if_pos ⟨rfl, e2⟩, if_pos e2]
      · rw [if_neg (fun hh => e2 hh.2), if_neg e2, if_neg (fun hh => e2 hh.2)]
        exact stT_agree n (fun j h1 _ => hne j (by omega))
    · rw [hne n e, stT_set hi hi' hne n (by omega) (fun j h1 => hx j h1)]
      by_cases e2 : dAt os i = some t
      · rw [if_pos e2, if_pos e2]
        rw [if_neg (fun hh => hx n (by omega) hh.1 e2 hh.2)]
      · rw [if_neg e2, if_neg e2]
theorem stH_set {hf : Hp} {rs : List Rec} {L L' : Nat → Bool} {b i : Nat} (hi : L i = false) (hi' : L' i = true) (hne : ∀ j, j ≠ i → L' j = L j) : ∀ n, i < n → (∀ j, i < j → L j = true → b ∈ ids (WAt rs i) → b ∉ ids (WAt rs j)) → stH hf rs L' b n = if b ∈ ids (WAt rs i) then lookH (WAt rs i) b else stH hf rs L b n
  | 0, h, _ => by omega
  | n + 1, h, hx => by
    show (if L' n = true ∧ b ∈ ids (WAt rs n) then lookH (WAt rs n) b else stH hf rs L' b n) = (if b ∈ ids (WAt rs i) then lookH (WAt rs i) b else (if L n = true ∧ b ∈ ids (WAt rs n) then lookH (WAt rs n) b else stH hf rs L b n))
    by_cases e : n = i
    · subst e
      rw [hi', hi]
      by_cases e2 : b ∈ ids (WAt rs n)
      · rw [if_pos ⟨rfl, e2⟩, if_pos e2]
      · rw [if_neg (fun hh => e2 hh.2), if_neg e2, if_neg (fun hh => e2 hh.2)]
        exact stH_agree n (fun j h1 _ => hne j (by omega))
    · rw [hne n e, stH_set hi hi' hne n (by omega) (fun j h1 => hx j h1)]
      by_cases e2 : b ∈ ids (WAt rs i)
      · rw [if_pos e2, if_pos e2]
        rw [if_neg (fun hh => hx n (by omega) hh.1 e2 hh.2)]
      · rw [if_neg e2, if_neg e2]
theorem stD_set {D : Nat → Prop} {rs : List Rec} {L L' : Nat → Bool} {b i : Nat} (hi : L i = false) (hi' : L' i = true) (hne : ∀ j, j ≠ i → L' j = L j) : ∀ n, (n ≤ i → (stD D rs L' b n ↔ stD D rs L b n)) ∧ (i < n → (stD D rs L' b n ↔ stD D rs L b n ∨ b ∈ NAt rs i))
  | 0 => ⟨fun _ => Iff.rfl, fun h => by omega⟩
  | n + 1 => by
    obtain ⟨h1, h2⟩ := stD_set (D := D) (rs := rs) (b := b) hi hi' hne n
    refine ⟨fun h => ?_, fun h => ?_⟩
    · show (stD D rs L' b n ∨ _) ↔ (stD D rs L b n ∨ _)
      rw [h1 (by omega), hne n (by omega)]
    · show (stD D rs L' b n ∨ (L' n = true ∧ b ∈ NAt rs n)) ↔ ((stD D rs L b n ∨ (L n = true ∧ b ∈ NAt rs n)) ∨ b ∈ NAt rs i)
      by_cases e : n = i
      · subst e
        rw [h1 (Nat.le_refl _), hi', hi]
        simp
      · rw [h2 (by omega), hne n e]
        constructor
        · rintro ((h | h) | h)
          · exact .inl (.inl h)
          · exact .inr h
          · exact .inl (.inr h)
        · rintro ((h | h) | h)
          · exact .inl (.inl h)
          · exact .inr h
          · exact .inl (.inr h)
theorem stD_mem {D : Nat → Prop} {rs : List Rec} {L : Nat → Bool} {b : Nat} : ∀ n, stD D rs L b n ↔ D b ∨ ∃ j, j < n ∧ L j = true ∧ b ∈ NAt rs j
  | 0 => ⟨.inl, fun h => h.elim id (fun ⟨j, hj, _⟩ => by omega)⟩
  | n + 1 => by
    show (stD D rs L b n ∨ _) ↔ _
    rw [stD_mem n]
    constructor
    · rintro ((h | ⟨j, h1, h2⟩) | h)
      · exact .inl h
      · exact .inr ⟨j, by omega, h2⟩
      · exact .inr ⟨n, by omega, h⟩
    · rintro (h | ⟨j, h1, h2⟩)
      · exact .inl (.inl h)
      · by_cases e : j = n
        · subst e; exact .inr h2
        · exact .inl (.inr ⟨j, by omega, h2⟩)
theorem OpLoc.same {P : Program} {o : Oper} {R : List Nat} {tf tf' : Nat → AV} {hf hf' : Hp} {v : AV} {W : Heap} {N : List Nat} (h : OpLoc P o R tf hf v W N) (ht : ∀ t ∈ tmpsOf o, tf' t = tf t) (hh : ∀ b ∈ R, hf' b = hf b) : OpLoc P o R tf' hf' v W N :=
  ⟨h.1, fun tf2 hf2 h1 h2 => h.2 tf2 hf2 (fun t hx => (h1 t hx).trans (ht t hx)) (fun b hx => (h2 b hx).trans (hh b hx))⟩
theorem tchs_get (ops : List Oper) : ∀ (os : List Oper) (log : List (List Nat × List Nat)) (i : Nat) o l, os[i]? = some o → log[i]? = some l → (tchs ops os log)[i]? = some ⟨o.dst, readsOf ops o, l.1, l.2⟩
  | [], _, i, o, l, h, _ => by simp at h
  | _ :: _, [], i, o, l, _, h => by simp at h
  | x :: os, (R, W) :: log, i, o, l, h, h' => by
    unfold tchs
    cases i with
    | zero => simp at h h'; subst h; subst h'; rfl
    | succ i => simpa using tchs_get ops os log i o l (by simpa using h) (by simpa using h')
end Go.YtbbcnmfmncgffaaE
