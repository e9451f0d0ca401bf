/-
  A row whose room is known, and back.
  Written by hand for this claim's session.
-/
import Derived.Test.YtbbcnmfmncgffaaEvMore
namespace Go.YtbbcnmfmncgffaaE
open Go.RowKit
set_option linter.unusedVariables false
set_option linter.unusedSimpArgs false
theorem rn_nil (b : Nat) : rn [] b = b := rfl
theorem ren_nil (x : AV) : x.ren [] = x := by
  induction x using AV.rec (motive_2 := fun l => renL [] l = l) with
  | un => rfl
  | t x => rfl
  | own b => rfl
  | ptr b o => rfl
  | rp b sz i j => rfl
  | sub b sz i n => rfl
  | ab p q => rfl
  | fsub b sz i n N => rfl
  | agg l ih => unfold AV.ren; rw [ih]
  | tuple l ih => unfold AV.ren; rw [ih]
  | iface t x ih => unfold AV.ren; rw [ih]
  | fn f a c iha ihc => unfold AV.ren; rw [iha, ihc]
  | nil => rfl
  | cons x l ihx ihl => unfold renL; rw [ihx, ihl]
theorem renL_nil (l : List AV) : renL [] l = l := by
  induction l with
  | nil => rfl
  | cons x l ih => unfold renL; rw [ren_nil, ih]
theorem renB_nil (k : Blk) : k.ren [] = k := by
  cases k with
  | box ty c => show Blk.box ty (renL [] c) = _; rw [renL_nil]
  | _ => rfl
theorem HA.agree {m m1 : Nat → Option Value} {w : World} {O : Nat → Prop} {I : List Nat} (hm : ∀ b ∈ I, m1 b = m b) {x : AV} {v : Value} (hi : x.inI I = true) (h : HA m w O x v) : HA m1 w O x v :=
  HA.back (φ := []) (I := I) (fun b hb v hv => by rw [hm b hb]; exact hv) (fun _ hc => hc) hi (by rw [ren_nil]; exact h)
theorem HB.agree {m m1 : Nat → Option Value} {w : World} {O : Nat → Prop} {I : List Nat} (hm : ∀ b ∈ I, m1 b = m b) {b : Nat} {k : Blk} (hb : b ∈ I) (hi : k.inI I = true) (h : HB m w O b k) : HB m1 w O b k :=
  HB.back (φ := []) (I := I) (fun b hb v hv => by rw [hm b hb]; exact hv) (fun _ hc => hc) hb hi (by rw [renB_nil]; exact h)
/-- The beginning of a row whose room is known, as a row of its own. -/
theorem Le.cutA {B : List Nat} {tm : Tmps} {H : Heap} (t b d ty sz N : Nat) (l : List T) (h : lookT tm t = .fsub b sz 0 l.length N) (hb : lookH H b = (false, .arr ty sz l N)) (hd : memN d (ids H) = false) :
    Le B tm H ((t, .own d) :: tm) ((d, false, .row ty sz l) :: (b, false, .dead) :: H) := by
  intro w0 X O0 m a w hB hR
  have hd' : d ∉ ids H := fun e => by rw [memN_iff.2 e] at hd; cases hd
  have hbin : b ∈ ids H := by
    refine Classical.byContradiction fun hx => ?_
    rw [show lookH H b = (false, .dead) from look_none _ _ _ hx] at hb
    cases hb
  have hbd : b ≠ d := fun e => hd' (e ▸ hbin)
  have hz := hR.tmp t
  rw [h] at hz
  generalize hzz : get a t = z at hz
  have hblk := hR.blk b
  rw [hb] at hblk
  cases hz with
  | fsub _ _ _ _ _ _ hz =>
  obtain ⟨g, o, rfl, hm, hin, hN, ho⟩ := hz
  have ho := ho hN
  rw [Nat.zero_mul] at ho
  subst ho
  obtain ⟨g', cur, hm', hg, hcs, hlN, hNm, hfit, hcl⟩ := hblk
  rw [hm] at hm'
  simp at hm'
  subst hm'
  have hcll : cur.toList.length = N * sz := by simpa using hcs
  have hle : l.length * sz ≤ N * sz := Nat.mul_le_mul_right _ hlN
  have key : w.ownsRow 0 ty sz (.slice (some ⟨g, 0, none⟩) l.length (N - 0)) l.length (cur.toList.take (l.length * sz)) :=
    ⟨by rw [List.length_take, hcll, Nat.min_eq_left hle], .inr ⟨g, N - 0, cur, rfl, Nat.zero_le _, hg, by omega, by omega, hcs, rfl⟩⟩
  refine ⟨upM m d (.slice (some ⟨g, 0, none⟩) l.length (N - 0)), ?_⟩
  have hout : ∀ b', b' ≠ d → b' ≠ b → lookH ((d, false, .row ty sz l) :: (b, false, .dead) :: H) b' = lookH H b' := fun b' h1 h2 => by unfold lookH; rw [look_cons, if_neg (fun e => h1 e.symm), look_cons, if_neg (fun e => h2 e.symm)]
  have hin : lookH ((d, false, .row ty sz l) :: (b, false, .dead) :: H) d = (false, .row ty sz l) := by unfold lookH; rw [look_cons, if_pos rfl]
  have hinb : lookH ((d, false, .row ty sz l) :: (b, false, .dead) :: H) b = (false, .dead) := by unfold lookH; rw [look_cons, if_neg (fun e => hbd e.symm), look_cons, if_pos rfl]
  refine hR.step (fun _ => False) (But.refl _ _) (fun _ h => h.elim) (fun b' v hv => ?_) (fun b' hb2 => ?_) (fun b' => ?_) (fun t' => ?_)
  · by_cases e : b' = d
    · subst e; rw [hR.dom b' hd'] at hv; cases hv
    · rw [upM_ne e]; exact hv
  · have e : b' ≠ d := fun e => hb2 (by rw [e]; exact List.mem_cons_self ..)
    rw [upM_ne e]
    exact hR.dom b' (fun hx => hb2 (List.mem_cons_of_mem _ (List.mem_cons_of_mem _ hx)))
  · by_cases e : b' = d
    · subst e
      right
      rw [hin]
      refine ⟨fun hO => ⟨_, _, upM_self, key, hfit, fun i j x y hx hy => ?_⟩, fun _ c hc => ?_⟩
      · obtain ⟨u, hu, ht⟩ := hcl i j x y hx hy
        have hj : j < sz := by have := (List.getElem?_eq_some_iff.1 hy).1; have := (hfit x (List.mem_of_getElem? hx)).1; omega
        have hi := (List.getElem?_eq_some_iff.1 hx).1
        exact ⟨u, by rw [List.getElem?_take, if_pos (idx_lt hi hj)]; exact hu, ht.mono (Keep.refl _ _) hO⟩
      · have hc' : bk m b = some c := by
          have : g = c := by simpa [bk, upM_self, blockOf] using hc
          subst this
          simp [bk, hm, blockOf]
        refine ⟨.inr ⟨b, by rw [hb], by rw [hb]; trivial, hc'⟩, fun b2 hne _ hl2 hc2 => ?_⟩
        by_cases e2 : b2 = b
        · subst e2; rw [hinb] at hl2; exact hl2
        · rw [hout b2 hne e2] at hl2
          have hbk2 : bk m b2 = some c := by unfold bk at hc2 ⊢; rw [upM_ne hne] at hc2; exact hc2
          exact hR.sep b b2 (fun e => e2 e.symm) (by rw [hb]) (by rw [hb]; trivial) hl2 c hc' hbk2
    · by_cases e2 : b' = b
      · subst e2
        rw [hinb]
        exact .inr ⟨fun _ => trivial, fun hl => hl.elim⟩
      · exact .inl ⟨hout b' e e2, upM_ne e, fun _ _ _ h => h⟩
  · by_cases e : t' = t
    · subst e
      right
      intro _
      have e1 : lookT ((t', .own d) :: tm) t' = .own d := by unfold lookT; rw [look_cons, if_pos rfl]
      rw [e1, hzz]
      exact .own _ _ upM_self rfl
    · left
      refine ⟨?_, rfl⟩
      unfold lookT
      rw [look_cons, if_neg (fun e' => e e'.symm)]
/-- A block that is told no more. -/
theorem Le.kill {B : List Nat} {tm : Tmps} {H : Heap} (b : Nat) (hb : memN b (ids H) = true) : Le B tm H tm ((b, false, .dead) :: H) := by
  intro w0 X O0 m a w hB hR
  have hbin := memN_iff.1 hb
  refine ⟨m, hR.step (fun _ => False) (But.refl _ _) (fun _ h => h.elim) (fun _ _ h => h) (fun b' hb2 => hR.dom b' (fun hx => hb2 (List.mem_cons_of_mem _ hx))) (fun b' => ?_) (fun t' => .inl ⟨rfl, rfl⟩)⟩
  by_cases e : b' = b
  · subst e
    have : lookH ((b', false, .dead) :: H) b' = (false, .dead) := by unfold lookH; rw [look_cons, if_pos rfl]
    rw [this]
    exact .inr ⟨fun _ => trivial, fun hl => hl.elim⟩
  · exact .inl ⟨by unfold lookH; rw [look_cons, if_neg (fun e' => e e'.symm)], rfl, fun _ _ _ h => h⟩
def without (b : Nat) (l : List Nat) : List Nat := l.filter fun x => !Nat.beq x b
theorem mem_without {b x : Nat} {l : List Nat} : x ∈ without b l ↔ x ∈ l ∧ x ≠ b := by
  unfold without
  rw [List.mem_filter]
  refine and_congr_right fun _ => ?_
  rw [Bool.not_eq_true']
  refine ⟨fun h e => by subst e; simp at h, fun h => ?_⟩
  rw [Bool.eq_false_iff]
  exact fun e => h (Nat.eq_of_beq_eq_true e)
/-- A contract of a row that is handed in, where its room is known. -/
theorem Ct.room {P : Program} {f : FuncId} {b ty sz : Nat} {l : List T} {rest : List AV} {H1 : Heap} {r : AV} {H' : Heap} (hl : l ≠ []) (hlm : l.length ≤ maxLen) (hchk : (!(memN b (ids H1)) && inL (ids H1) rest && heapIn (ids H1) H1 && r.inI (without b (ids H')) && heapIn (without b (ids H')) H' && memN b (ids H')) = true) (hdead : lookH H' b = (false, .dead))
    (h : ∀ N, l.length ≤ N → N ≤ maxLen → Ct P f (.fsub b sz 0 l.length N :: rest) ((b, false, .arr ty sz l N) :: H1) (Ret r H')) : Ct P f (.own b :: rest) ((b, false, .row ty sz l) :: H1) (Ret r H') := by
  simp only [Bool.and_eq_true, Bool.not_eq_true'] at hchk
  obtain ⟨⟨⟨⟨⟨k1, k2⟩, k3⟩, k4⟩, k5⟩, k6⟩ := hchk
  have k1 : b ∉ ids H1 := fun e => by rw [memN_iff.2 e] at k1; cases k1
  have k2 := inL_mem k2
  have k3 := heapIn_spec k3
  have k5 := heapIn_spec k5
  have k6 := memN_iff.1 k6
  refine ⟨(h l.length (Nat.le_refl _) hlm).1, fun w0 X m vals hM hlen hargs => ?_⟩
  obtain ⟨a0, hR⟩ := hM
  have hfb : lookH ((b, false, .row ty sz l) :: H1) b = (false, .row ty sz l) := by unfold lookH; rw [look_cons, if_pos rfl]
  have hblk := hR.blk b
  rw [hfb] at hblk
  obtain ⟨v, xs, hm, how, hfit, hcl⟩ := hblk
  rcases how.2 with ⟨_, hno⟩ | ⟨g, cap, cur, hv, _, hg, hcap, hcm, hcs, htake⟩
  · exact absurd (List.eq_nil_of_length_eq_zero hno) hl
  subst hv
  have hfb1 : lookH ((b, false, .arr ty sz l cap) :: H1) b = (false, .arr ty sz l cap) := by unfold lookH; rw [look_cons, if_pos rfl]
  have hfo : ∀ b', b' ≠ b → lookH ((b, false, .arr ty sz l cap) :: H1) b' = lookH ((b, false, .row ty sz l) :: H1) b' := fun b' hne => by
    unfold lookH; rw [look_cons, if_neg (fun e => hne e.symm), look_cons, if_neg (fun e => hne e.symm)]
  have hfH : ∀ b', b' ≠ b → lookH ((b, false, .row ty sz l) :: H1) b' = lookH H1 b' := fun b' hne => by
    unfold lookH; rw [look_cons, if_neg (fun e => hne e.symm)]
  have hbkm : ∀ b', bk (upM m b (.pointer (some ⟨g, 0, none⟩))) b' = bk m b' := fun b' => by
    by_cases e : b' = b
    · subst e; simp [bk, upM_self, hm, blockOf]
    · unfold bk; rw [upM_ne e]
  have hfst : ∀ b', (lookH ((b, false, .arr ty sz l cap) :: H1) b').1 = (lookH ((b, false, .row ty sz l) :: H1) b').1 ∧ ((lookH ((b, false, .arr ty sz l cap) :: H1) b').2.live ↔ (lookH ((b, false, .row ty sz l) :: H1) b').2.live) := fun b' => by
    by_cases e : b' = b
    · subst e; rw [hfb, hfb1]; exact ⟨rfl, Iff.rfl⟩
    · rw [hfo b' e]; exact ⟨rfl, Iff.rfl⟩
  have hOw : Owm (upM m b (.pointer (some ⟨g, 0, none⟩))) (lookH ((b, false, .arr ty sz l cap) :: H1)) = Owm m (lookH ((b, false, .row ty sz l) :: H1)) := by
    funext c
    apply propext
    refine ⟨fun ⟨b', h1, h2, h3⟩ => ⟨b', ?_, ?_, ?_⟩, fun ⟨b', h1, h2, h3⟩ => ⟨b', ?_, ?_, ?_⟩⟩
    · rw [← (hfst b').1]; exact h1
    · exact (hfst b').2.1 h2
    · rw [← hbkm b']; exact h3
    · rw [(hfst b').1]; exact h1
    · exact (hfst b').2.2 h2
    · rw [hbkm b']; exact h3
  have hOwn : Own X (upM m b (.pointer (some ⟨g, 0, none⟩))) (lookH ((b, false, .arr ty sz l cap) :: H1)) = Own X m (lookH ((b, false, .row ty sz l) :: H1)) := by funext c; unfold Own; rw [hOw]
  have hagree : ∀ b' ∈ ids H1, upM m b (.pointer (some ⟨g, 0, none⟩)) b' = m b' := fun b' hb' => upM_ne (fun e => k1 (e ▸ hb'))
  have hR1 : Rel ⟨w0, upM m b (.pointer (some ⟨g, 0, none⟩))⟩ X (Owm (upM m b (.pointer (some ⟨g, 0, none⟩))) (lookH ((b, false, .arr ty sz l cap) :: H1))) (fun b' => b' ∈ ids ((b, false, .arr ty sz l cap) :: H1)) (upM m b (.pointer (some ⟨g, 0, none⟩))) (fun _ => .un) (lookH ((b, false, .arr ty sz l cap) :: H1)) a0 w0 := by
    rw [hOw]
    refine ⟨fun t => .un _, fun b' => ?_, fun b' hb' => ?_, ?_, ?_, hR.xold, ?_, hR.fr, fun _ _ h => h⟩
    · rw [hOwn]
      by_cases e : b' = b
      · subst e
        rw [hfb1]
        refine ⟨g, cur, upM_self, hg, hcs, hcap, hcm, hfit, fun i j x y hx hy => ?_⟩
        obtain ⟨u, hu, ht⟩ := hcl i j x y hx hy
        refine ⟨u, ?_, ht⟩
        rw [← htake, List.getElem?_take] at hu
        split at hu
        · exact hu
        · cases hu
      · have h1 := hR.blk b'
        rw [hfo b' e]
        by_cases hb' : b' ∈ ids H1
        · refine HB.agree hagree hb' ?_ h1
          rw [hfH b' e]; exact k3 b'
        · rw [hfH b' e, show lookH H1 b' = (false, .dead) from look_none _ _ _ hb']; trivial
    · have e : b' ≠ b := fun e => hb' (by rw [e]; exact List.mem_cons_self ..)
      rw [upM_ne e]
      exact hR.dom b' hb'
    · intro b1 b2 hne hfz hl1 hl2 c hc hc2
      rw [hbkm] at hc hc2
      exact hR.sep b1 b2 hne (by rw [← (hfst b1).1]; exact hfz) ((hfst b1).2.1 hl1) ((hfst b2).2.1 hl2) c hc hc2
    · intro b1 c hl1 hc
      rw [hbkm] at hc
      exact hR.xsep b1 c ((hfst b1).2.1 hl1) hc
    · intro b1 c hl1 hc
      rw [hbkm] at hc
      exact hR.old b1 c ((hfst b1).2.1 hl1) hc
  refine ((h cap hcap hcm).2 w0 X _ vals ⟨a0, hR1⟩ (by rw [hlen]; rfl) (fun i x z hx hz => ?_)).mono ?_
  · rw [hOwn]
    cases i with
    | zero =>
      simp at hx
      subst hx
      have h1 := (hargs 0 _ z rfl hz).own_eq
      rw [hm] at h1
      simp only [Option.some.injEq] at h1
      subst h1
      refine .fsub _ _ _ _ _ _ ⟨g, 0, by rw [Nat.sub_zero], upM_self, by omega, ?_, fun _ => by rw [Nat.zero_mul]⟩
      have : 0 < l.length := List.length_pos_iff.2 hl
      omega
    | succ i =>
      have hx' : rest[i]? = some x := by simpa using hx
      exact HA.agree hagree (k2 x (List.mem_of_getElem? hx')) (hargs (i + 1) x z (by simpa using hx') hz)
  · rintro e w' ⟨v', r', H2, m', rfl, ⟨rfl, rfl⟩, hr, a', hR'⟩
    have hag : ∀ b' ∈ without b (ids H2), upM m' b (.slice (some ⟨g, 0, none⟩) l.length cap) b' = m' b' := fun b' hb' => upM_ne (mem_without.1 hb').2
    have hbk2 : ∀ b', (lookH H2 b').2.live → bk (upM m' b (.slice (some ⟨g, 0, none⟩) l.length cap)) b' = bk m' b' := fun b' hl' => by
      have e : b' ≠ b := fun e => by rw [e, hdead] at hl'; exact hl'
      unfold bk; rw [upM_ne e]
    have hOw2 : Owm (upM m' b (.slice (some ⟨g, 0, none⟩) l.length cap)) (lookH H2) = Owm m' (lookH H2) := by
      funext c
      apply propext
      refine ⟨fun ⟨b', h1, h2, h3⟩ => ⟨b', h1, h2, ?_⟩, fun ⟨b', h1, h2, h3⟩ => ⟨b', h1, h2, ?_⟩⟩
      · rw [← hbk2 b' h2]; exact h3
      · rw [hbk2 b' h2]; exact h3
    have hOwn2 : Own X (upM m' b (.slice (some ⟨g, 0, none⟩) l.length cap)) (lookH H2) = Own X m' (lookH H2) := by funext c; unfold Own; rw [hOw2]
    rw [hOw] at hR'
    refine ⟨v', r', H2, upM m' b (.slice (some ⟨g, 0, none⟩) l.length cap), rfl, ⟨rfl, rfl⟩, by rw [hOwn2]; exact HA.agree hag k4 hr, a', ?_⟩
    refine ⟨fun t => .un _, fun b' => ?_, fun b' hb' => ?_, ?_, ?_, hR'.xold, ?_, hR'.fr, fun b' v2 hb' => ?_⟩
    · rw [hOwn2]
      by_cases e : b' = b
      · subst e; rw [hdead]; trivial
      · by_cases hin : b' ∈ ids H2
        · exact HB.agree hag (mem_without.2 ⟨hin, e⟩) (k5 b') (hR'.blk b')
        · rw [show lookH H2 b' = (false, .dead) from look_none _ _ _ hin]; trivial
    · have e : b' ≠ b := fun e => hb' (by rw [e]; exact k6)
      rw [upM_ne e]
      exact hR'.dom b' hb'
    · intro b1 b2 hne hfz hl1 hl2 c hc hc2
      rw [hbk2 b1 hl1] at hc
      rw [hbk2 b2 hl2] at hc2
      exact hR'.sep b1 b2 hne hfz hl1 hl2 c hc hc2
    · intro b1 c hl1 hc
      rw [hbk2 b1 hl1] at hc
      exact hR'.xsep b1 c hl1 hc
    · intro b1 c hl1 hc
      rw [hbk2 b1 hl1] at hc
      exact hR'.old b1 c hl1 hc
    · by_cases e : b' = b
      · subst e
        have hb'' : m b' = some v2 := hb'
        rw [hm] at hb''
        rw [upM_self]; exact hb''
      · rw [upM_ne e]
        refine hR'.base b' v2 ?_
        show upM m b _ b' = some v2
        rw [upM_ne e]; exact hb'
end Go.YtbbcnmfmncgffaaE
