-- Written by hand for this claim's session.
import Derived.Test.YtonihdgidhflnaaDoorRows
import Derived.HandedShaped
import Derived.JoinedOf
import Derived.RowKit
import Derived.LaidLaws
import Derived.LaidHandle
import Derived.Stop.Joined
import Derived.Test.YtonihdgidhflnaaDoorTxA
namespace Go.Proofs.YtonihdgidhflnaaDoorX
section
open Go Go.YtonihdgidhflnaaDoorE Go.Proofs
set_option maxRecDepth 100000
set_option autoImplicit false
structure W8 where
  a : Int
  b : Int
  c : Int
  d : Int
  e : Int
  f : Int
  g : Int
  h : Int
@[reducible] def W8.T (s : W8) : T := .agg [.int .u32 s.a, .int .u32 s.b, .int .u32 s.c, .int .u32 s.d, .int .u32 s.e, .int .u32 s.f, .int .u32 s.g, .int .u32 s.h]
abbrev W8.box (s : W8) : Blk := .box 177 [.int .u32 s.a, .int .u32 s.b, .int .u32 s.c, .int .u32 s.d, .int .u32 s.e, .int .u32 s.f, .int .u32 s.g, .int .u32 s.h]
def and32 (x y : Int) : Int := Go.bits .and .u32 x y
theorem tabK [Tabs] {i : Nat} (hi : i < 64) : (((List.range 64).map fun i => (T.int .u32 (Tabs.k i))).drop (i * 1)).take 1 = [T.int .u32 (Tabs.k i)] := by
  rw [Nat.mul_one, List.drop_eq_getElem_cons (by simpa using hi)]
  simp
def not32 (x : Int) : Int := Go.bits .xor .u32 (if IntKind.u32.signed = true then -1 else IntKind.u32.max) x
def rnd (s : W8) (k w : Int) : W8 :=
  let x := add32 (add32 (add32 (add32 s.h (turnI s.e 6 11 25)) (xor32 (and32 s.e s.f) (and32 (not32 s.e) s.g))) k) w
  let y := add32 (turnI s.a 2 13 22) (xor32 (xor32 (and32 s.a s.b) (and32 s.a s.c)) (and32 s.b s.c))
  ⟨add32 x y, s.a, s.b, s.c, add32 s.d x, s.e, s.f, s.g⟩
def rounds [Tabs] (w : List Int) (s : W8) : Nat → W8
  | 0 => s
  | i + 1 => rnd (rounds w s i) (Tabs.k i) (w.getD i 0)
def sumW (s t : W8) : W8 := ⟨add32 s.a t.a, add32 s.b t.b, add32 s.c t.c, add32 s.d t.d, add32 s.e t.e, add32 s.f t.f, add32 s.g t.g, add32 s.h t.h⟩
def blockF [Tabs] (s : W8) (b : List Int) : W8 := sumW (rounds (schedF b) s 64) s
def partW (s t : W8) (i : Nat) : W8 :=
  ⟨if 0 < i then add32 s.a t.a else s.a, if 1 < i then add32 s.b t.b else s.b, if 2 < i then add32 s.c t.c else s.c, if 3 < i then add32 s.d t.d else s.d, if 4 < i then add32 s.e t.e else s.e, if 5 < i then add32 s.f t.f else s.f, if 6 < i then add32 s.g t.g else s.g, if 7 < i then add32 s.h t.h else s.h⟩
theorem SBlock_ct [Tabs] (s : W8) (b : List Int) (hb : Byt b) (hn : b.length = 64) : CtT Tryd.prog 104 [s.T, .sl 1 (bys b)] (Ret (.t (.tuple [(blockF s b).T, .int .i64 0])) []) := by
  refine CtT.ofN Tryd.func104 rfl rfl (n := 101) rfl ?_
  refine brF ?_ ?_
  · rw [bys_len, hn]; rfl
  refine Told.callT (sched_ct b hb hn) rfl rfl rfl rfl ?_
  have sl := schedF_len b
  obtain ⟨w, hw⟩ : ∃ w, w = schedF b := ⟨_, rfl⟩
  rw [← hw] at sl ⊢
  refine ⟨Nat × W8, fun q => [(2, .ptr 2 0), (4, .ptr 4 0), (6, .ptr 6 0), (22, .t (.sl 1 (ws w))), (23, .int .i64 64), (24, .int .i64 q.1)], fun q => [(2, false, s.box), (4, false, .box 177 [.int .u32 0, .int .u32 0, .int .u32 0, .int .u32 0, .int .u32 0, .int .u32 0, .int .u32 0, .int .u32 0]), (6, false, q.2.box)], fun q => q.1 ≤ 64 ∧ q.2 = rounds w s q.1, fun q => 64 - q.1, (0, s), ⟨Nat.zero_le _, rfl⟩,
    Le.of [] ⟨rfl, rfl, rfl, rfl, congrArg (AV.int .i64) (by rw [ws_len, sl]; rfl), rfl, trivial⟩ ⟨rfl, rfl, rfl, trivial⟩ rfl, ?_⟩
  rintro ⟨i, q⟩ ⟨hi, hq⟩
  simp only at hi hq ⊢
  refine brB (fun hc => ?_) (fun hc => ?_)
  · have hc : i < 64 := by have h := of_decide_eq_true hc; omega
    have hx := getD_get (l := w) (i := i) (by omega)
    have hr : rounds w s (i + 1) = rnd q (Tabs.k i) (w.getD i 0) := by rw [hq]; rfl
    generalize w.getD i 0 = x at hx hr
    refine ⟨by omega, _, ws_get rfl hx, ?_⟩
    repeat refine ⟨by decide, ?_⟩
    refine Told.callT (turn_ct _ _ _ _) rfl rfl rfl rfl ?_
    refine ⟨by omega, by omega, by show i * 1 + 1 ≤ 64; omega, _, tabK hc, ?_⟩
    refine Told.callT (turn_ct _ _ _ _) rfl rfl rfl rfl ?_
    repeat refine ⟨by decide, ?_⟩
    refine ⟨1, 7, rfl, rfl, by decide, by decide, by decide, ?_⟩
    refine ⟨0, 7, rfl, rfl, by decide, by decide, by decide, ?_⟩
    refine ⟨by simp [T.one]; exact ⟨rfl, rfl, rfl, rfl, rfl, rfl, rfl⟩, 7, rfl, trivial, ?_⟩
    repeat refine ⟨by decide, ?_⟩
    refine ⟨(i + 1, ⟨_, _, _, _, _, _, _, _⟩), ⟨hc, ?_⟩, Le.of [] ⟨rfl, rfl, rfl, rfl, rfl, congrArg (AV.int .i64) (wi (by omega) (by omega)), trivial⟩ ⟨rfl, rfl, rfl, trivial⟩ rfl, by show 64 - (i + 1) < 64 - i; omega⟩
    rw [hr]
    rfl
  · have hc : i = 64 := by have h := of_decide_eq_false hc; omega
    subst hc
    refine ⟨Nat, fun i => [(2, .ptr 2 0), (4, .ptr 4 0), (6, .ptr 6 0), (88, .int .i64 i)], fun i => [(2, false, s.box), (4, false, .box 177 [.int .u32 0, .int .u32 0, .int .u32 0, .int .u32 0, .int .u32 0, .int .u32 0, .int .u32 0, .int .u32 0]), (6, false, (partW q s i).box)], fun i => i ≤ 8, fun i => 8 - i, 0, Nat.zero_le _,
      Le.of [] ⟨rfl, rfl, rfl, rfl, trivial⟩ ⟨rfl, rfl, rfl, trivial⟩ rfl, ?_⟩
    intro i hi
    refine brB (fun hc => ?_) (fun hc => ?_)
    · have hc : i < 8 := by have h := of_decide_eq_true hc; omega
      obtain rfl | rfl | rfl | rfl | rfl | rfl | rfl | rfl : i = 0 ∨ i = 1 ∨ i = 2 ∨ i = 3 ∨ i = 4 ∨ i = 5 ∨ i = 6 ∨ i = 7 := by omega
      all_goals
        repeat refine ⟨by decide, ?_⟩
        exact ⟨_, by decide, Le.of [] ⟨rfl, rfl, rfl, rfl, trivial⟩ ⟨rfl, rfl, rfl, trivial⟩ rfl, by decide⟩
    · have hc : i = 8 := by have h := of_decide_eq_false hc; omega
      subst hc
      refine ⟨_, rfl, ?_⟩
      have e : blockF s b = partW q s 8 := by unfold blockF; rw [← hw, ← hq]; rfl
      rw [e]
      exact .refl _
end
end Go.Proofs.YtonihdgidhflnaaDoorX
namespace Go.Proofs.YtonihdgidhflnaaDoorX
section
open Go Go.YtonihdgidhflnaaDoorE Go.Proofs
set_option maxRecDepth 100000
set_option autoImplicit false
structure Hs where
  s : W8
  rest : List Int
  many : Int
@[reducible] def Hs.T (h : Hs) : T := .agg [.int .u32 h.s.a, .int .u32 h.s.b, .int .u32 h.s.c, .int .u32 h.s.d, .int .u32 h.s.e, .int .u32 h.s.f, .int .u32 h.s.g, .int .u32 h.s.h, .sl 1 (bys h.rest), .int .u64 h.many]
abbrev Hs.box (h : Hs) : Blk := .box 179 [.int .u32 h.s.a, .int .u32 h.s.b, .int .u32 h.s.c, .int .u32 h.s.d, .int .u32 h.s.e, .int .u32 h.s.f, .int .u32 h.s.g, .int .u32 h.s.h, .t (.sl 1 (bys h.rest)), .int .u64 h.many]
abbrev zeroH : Blk := .box 179 [.int .u32 0, .int .u32 0, .int .u32 0, .int .u32 0, .int .u32 0, .int .u32 0, .int .u32 0, .int .u32 0, .t (.v (.slice none 0 0)), .int .u64 0]
def startW [Tabs] : W8 := ⟨Tabs.f 0, Tabs.f 1, Tabs.f 2, Tabs.f 3, Tabs.f 4, Tabs.f 5, Tabs.f 6, Tabs.f 7⟩
theorem Start_ct [Tabs] : CtT Tryd.prog 101 [] (Ret (.t (⟨startW, [], 0⟩ : Hs).T) []) := by
  refine CtT.ofN Tryd.func101 rfl rfl (n := 3) rfl ?_
  exact ⟨_, rfl, by repeat constructor⟩
def blocksF [Tabs] (s : W8) (l : List Int) : Nat → W8
  | 0 => s
  | i + 1 => blockF (blocksF s l i) ((l.drop (64 * i)).take 64)
def moreF [Tabs] (h : Hs) (b : List Int) : Hs := ⟨blocksF h.s (h.rest ++ b) ((h.rest ++ b).length / 64), (h.rest ++ b).drop (64 * ((h.rest ++ b).length / 64)), IntKind.u64.wrap (h.many + IntKind.u64.wrap (b.length : Int))⟩
theorem More_ct [Tabs] (h : Hs) (b : List Int) (hr : h.rest.length < 64) (hb : Byt b) (hrb : Byt h.rest) (hl : b.length < 1000000) : CtT Tryd.prog 100 [h.T, .sl 1 (bys b)] (Ret (.t (.tuple [(moreF h b).T, .int .i64 0])) []) := by
  refine CtT.ofN Tryd.func100 rfl rfl (n := 42) rfl ?_
  refine brF (decide_eq_false (by rw [bys_len]; omega)) ?_
  obtain ⟨l, hle⟩ : ∃ l, l = h.rest ++ b := ⟨_, rfl⟩
  have hll : l.length = h.rest.length + b.length := by rw [hle, List.length_append]
  have hlb : Byt l := by rw [hle]; exact hrb.append hb
  have kc := ConcatB_ct [h.rest, b] (by simp) (by simp; omega)
  rw [show [h.rest, b].flatten = l by rw [hle]; simp] at kc
  refine Told.callT kc rfl rfl rfl rfl ?_
  obtain ⟨mm, hmm⟩ : ∃ mm, mm = IntKind.u64.wrap (h.many + IntKind.u64.wrap (b.length : Int)) := ⟨_, rfl⟩
  refine ⟨Nat × W8, fun q => [(2, .ptr 2 0), (4, .ptr 4 0), (6, .t (.sl 1 (bys (l.drop (64 * q.1)))))], fun q => [(2, false, (⟨q.2, h.rest, mm⟩ : Hs).box), (4, false, zeroH)], fun q => 64 * q.1 ≤ l.length ∧ q.2 = blocksF h.s l q.1, fun q => l.length - q.1, (0, h.s), ⟨Nat.zero_le _, rfl⟩,
    Le.of [] ⟨rfl, rfl, rfl, trivial⟩ ⟨by rw [hmm, ← bys_len b]; rfl, rfl, trivial⟩ rfl, ?_⟩
  rintro ⟨i, s⟩ ⟨hi, hs⟩
  simp only at hi hs ⊢
  refine brB (fun hc => ?_) (fun hc => ?_)
  · have hc : 64 ≤ l.length - 64 * i := by have h := of_decide_eq_true hc; rw [bys_len, List.length_drop] at h; omega
    have kb := SBlock_ct s ((l.drop (64 * i)).take 64) ((hlb.drop _).take _) (by simp; omega)
    rw [bys_take] at kb
    refine ⟨by decide, by decide, by rw [bys_len, List.length_drop]; omega, ?_⟩
    refine Told.callT kb rfl rfl rfl rfl ?_
    refine ⟨by decide, by rw [bys_len, List.length_drop]; omega, Int.le_refl _, (i + 1, blockF s ((l.drop (64 * i)).take 64)), ⟨by omega, by rw [hs]; rfl⟩, Le.of [] ⟨rfl, rfl, ?_, trivial⟩ ⟨rfl, rfl, trivial⟩ rfl, by show l.length - (i + 1) < l.length - i; omega⟩
    refine congrArg (fun x => AV.t (.sl 1 x)) ?_
    simp [bys, Nat.mul_add, List.map_drop]
  · have hc : l.length - 64 * i < 64 := by have h := of_decide_eq_false hc; rw [bys_len, List.length_drop] at h; omega
    have hi2 : i = l.length / 64 := by omega
    refine Told.callT (CloneB_ct (l.drop (64 * i)) (by simp; omega)) rfl rfl rfl rfl ?_
    refine ⟨_, rfl, ?_⟩
    have e : moreF h b = ⟨s, l.drop (64 * i), mm⟩ := by unfold moreF; rw [← hle, ← hi2, ← hs, ← hmm]
    rw [e]
    exact .refl _
end
end Go.Proofs.YtonihdgidhflnaaDoorX
namespace Go.Proofs.YtonihdgidhflnaaDoorX
section
open Go Go.YtonihdgidhflnaaDoorE Go.Proofs
set_option maxRecDepth 100000
set_option autoImplicit false
def padF (l : List Int) : List Int := (l ++ [128] ++ List.replicate (63 - l.length) 0)
def tailF (l : List Int) (m : Int) : List Int := l.take 56 ++ oct m
def W8.l (s : W8) : List Int := [s.a, s.b, s.c, s.d, s.e, s.f, s.g, s.h]
def endW [Tabs] (h : Hs) : W8 :=
  if h.rest.length < 56 then blockF h.s (tailF (padF h.rest) (IntKind.u64.wrap (h.many * 8)))
  else blockF (blockF h.s (padF h.rest)) (tailF (List.replicate 64 0) (IntKind.u64.wrap (h.many * 8)))
def endF [Tabs] (h : Hs) : List Int := (endW h).l.flatMap quad
theorem padF_len {l : List Int} (h : l.length < 64) : (padF l).length = 64 := by simp [padF]; omega
theorem padF_byt [Tabs] {l : List Int} (h : Byt l) : Byt (padF l) := by
  have h1 : Byt [(128 : Int)] := fun y hy => by rw [List.mem_singleton.1 hy]; omega
  have h2 : ∀ n, Byt (List.replicate n (0 : Int)) := fun n y hy => by rw [(List.mem_replicate.1 hy).2]; omega
  exact (h.append h1).append (h2 _)
theorem zero_byt (n : Nat) : Byt (List.replicate n (0 : Int)) := fun y hy => by rw [(List.mem_replicate.1 hy).2]; omega
theorem End_ct [Tabs] (h : Hs) (hr : h.rest.length < 64) (hb : Byt h.rest) : CtT Tryd.prog 102 [h.T] (Ret (.t (.tuple [.sl 1 (bys (endF h)), .int .i64 0])) []) := by
  refine CtT.ofN Tryd.func102 rfl rfl (n := 46) rfl ?_
  refine brF (decide_eq_false (by rw [bys_len]; omega)) ?_
  have hlr : (bys h.rest).length = h.rest.length := bys_len _
  refine ⟨by decide, by decide, by decide, by decide, h.rest.length, by rw [hlr, List.length_replicate]; exact (Nat.min_eq_left (by omega)).symm, trivial, ?_⟩
  refine ⟨by omega, by simp; omega, ?_⟩
  have e1 : (((bys h.rest).take h.rest.length ++ (List.replicate (Int.toNat 64) (T.int .u8 0)).drop h.rest.length).set ((h.rest.length : Int)).toNat (T.int .u8 128)) = bys (padF h.rest) := by
    have e2 : (bys h.rest).take h.rest.length = bys h.rest := List.take_of_length_le (by omega)
    rw [Int.toNat_natCast, e2, List.drop_replicate, show Int.toNat 64 - h.rest.length = (63 - h.rest.length) + 1 by omega, List.replicate_succ]
    have e3 : ∀ (x y : List T) (u v : T) (n : Nat), x.length = n → (x ++ u :: y).set n v = x ++ v :: y := by
      intro x y u v n hn
      subst hn
      induction x with
      | nil => rfl
      | cons z x ih => simp [ih]
    rw [e3 _ _ _ _ _ hlr]
    simp [padF, bys]
  have e0 : ((bys h.rest).take h.rest.length ++ (List.replicate (Int.toNat 64) (T.int .u8 0)).drop h.rest.length)[((h.rest.length : Int)).toNat]? = some (T.int .u8 0) := by
    have e2 : (bys h.rest).take h.rest.length = bys h.rest := List.take_of_length_le (by omega)
    rw [Int.toNat_natCast, e2, List.getElem?_append_right (by omega), hlr, Nat.sub_self, List.drop_replicate, show Int.toNat 64 - h.rest.length = (63 - h.rest.length) + 1 by omega, List.replicate_succ]
    rfl
  refine ⟨_, e0, ?_⟩
  obtain ⟨m, hm⟩ : ∃ m, m = IntKind.u64.wrap (h.many * 8) := ⟨_, rfl⟩
  have hm0 : 0 ≤ m := by rw [hm]; exact u64_nn _
  have hm1 : m < 2 ^ 64 := by rw [hm, wu64e]; exact Int.emod_lt_of_pos _ (by omega)
  have e4 : ∀ (L : List T) (p : List Int), L = bys p → p.length = 64 → L.take 56 ++ (bys (oct m)).take 8 ++ L.drop (56 + 8) = bys (tailF p m) := by
    intro L p hL hp
    subst hL
    have a1 : (bys p).take 56 = bys (p.take 56) := (bys_take p 56).symm
    have a2 : (bys (oct m)).take 8 = bys (oct m) := List.take_of_length_le (by rw [bys_len, oct_len]; exact Nat.le_refl _)
    have a3 : (bys p).drop (56 + 8) = [] := List.drop_of_length_le (by rw [bys_len]; omega)
    rw [a1, a2, a3, List.append_nil, ← bys_append]
    rfl
  have tl : ∀ p : List Int, p.length = 64 → (tailF p m).length = 64 := by intro p hp; simp [tailF, oct_len]; omega
  have tb : ∀ p : List Int, Byt p → Byt (tailF p m) := fun p hp => (hp.take _).append (oct_byt _)
  have hp := padF_len hr
  have kp := Put_word hm0 hm1
  rw [hm] at kp
  by_cases hlt : h.rest.length < 56
  · refine brF (decide_eq_false (p := ((bys h.rest).length : Int) ≥ 56) (by rw [hlr]; omega)) ?_
    have hL := congrArg List.length e1
    rw [bys_len, hp] at hL
    refine ⟨56, 8, rfl, (show ((8 : Nat) : Int) = ((64 : Nat) : Int) - 56 by decide).trans (congrArg (fun n : Nat => (n : Int) - 56) hL).symm, by decide, Int.le_trans (show (56 : Int) ≤ ((64 : Nat) : Int) by decide) (Int.le_of_eq (congrArg (fun n : Nat => (n : Int)) hL).symm), Int.le_refl _, ?_⟩
    refine Told.callT kp rfl rfl rfl rfl ?_
    rw [← hm]
    refine ⟨8, by rw [bys_len]; rfl, trivial, ?_⟩
    have kb := SBlock_ct h.s (tailF (padF h.rest) m) (tb _ (padF_byt hb)) (tl _ hp)
    refine Told.callT kb rfl rfl (congrArg (fun x => some [h.s.T, T.sl 1 x]) (e4 _ _ e1 hp)) rfl ?_
    refine ⟨0, 8, rfl, rfl, by decide, by decide, by decide, ?_⟩
    have kw := Bytes_ct (blockF h.s (tailF (padF h.rest) m)).l (by simp [W8.l])
    refine Told.callT kw rfl rfl rfl rfl ?_
    refine ⟨_, rfl, ?_⟩
    have e : endF h = (blockF h.s (tailF (padF h.rest) m)).l.flatMap quad := by unfold endF endW; rw [if_pos hlt, hm]
    rw [e]
    exact .refl _
  · refine brT (decide_eq_true (p := ((bys h.rest).length : Int) ≥ 56) (by rw [hlr]; omega)) ?_
    have kb := SBlock_ct h.s (padF h.rest) (padF_byt hb) hp
    refine Told.callT kb rfl rfl (congrArg (fun x => some [h.s.T, T.sl 1 x]) e1) rfl ?_
    refine ⟨by decide, by decide, by decide, by decide, ?_⟩
    refine ⟨56, 8, rfl, by rw [List.length_replicate]; decide, by decide, by rw [List.length_replicate]; decide, Int.le_refl _, ?_⟩
    refine Told.callT kp rfl rfl rfl rfl ?_
    rw [← hm]
    refine ⟨8, by rw [bys_len]; rfl, trivial, ?_⟩
    have kb := SBlock_ct (blockF h.s (padF h.rest)) (tailF (List.replicate 64 0) m) (tb _ (zero_byt 64)) (tl _ (by simp))
    refine Told.callT kb rfl rfl (congrArg (fun x => some [(blockF h.s (padF h.rest)).T, T.sl 1 x]) (e4 _ _ (show List.replicate (Int.toNat 64) (T.int .u8 0) = bys (List.replicate 64 0) by simp [bys]) (by simp))) rfl ?_
    refine ⟨0, 8, rfl, rfl, by decide, by decide, by decide, ?_⟩
    have kw := Bytes_ct (blockF (blockF h.s (padF h.rest)) (tailF (List.replicate 64 0) m)).l (by simp [W8.l])
    refine Told.callT kw rfl rfl rfl rfl ?_
    refine ⟨_, rfl, ?_⟩
    have e : endF h = (blockF (blockF h.s (padF h.rest)) (tailF (List.replicate 64 0) m)).l.flatMap quad := by unfold endF endW; rw [if_neg hlt, hm]
    rw [e]
    exact .refl _
end
end Go.Proofs.YtonihdgidhflnaaDoorX
namespace Go.Proofs.YtonihdgidhflnaaDoorX
section
open Go Go.YtonihdgidhflnaaDoorE Go.Proofs
set_option maxRecDepth 100000
set_option autoImplicit false
def sumF [Tabs] (b : List Int) : List Int := endF (moreF ⟨startW, [], 0⟩ b)
theorem sumF_len [Tabs] (b : List Int) : (sumF b).length = 32 := by unfold sumF endF; rw [quads_len]; rfl
theorem sumF_byt [Tabs] (b : List Int) : Byt (sumF b) := by
  intro y hy
  obtain ⟨x, _, hx⟩ := List.mem_flatMap.1 hy
  exact quad_byt x y hx
theorem Sum_ct [Tabs] (b : List Int) (hb : Byt b) (hl : b.length < 1000000) : CtT Tryd.prog 98 [.sl 1 (bys b)] (Ret (.t (.sl 1 (bys (sumF b)))) []) := by
  refine CtT.ofN Tryd.func98 rfl rfl (n := 19) rfl ?_
  refine Told.callT Start_ct rfl rfl rfl rfl ?_
  have km := More_ct ⟨startW, [], 0⟩ b (by simp) hb (by intro y hy; cases hy) hl
  have hr : (moreF ⟨startW, [], 0⟩ b).rest.length < 64 := by unfold moreF; simp; omega
  have hrb : Byt (moreF ⟨startW, [], 0⟩ b).rest := by unfold moreF; simp only [List.nil_append]; exact hb.drop _
  have hs : sumF b = endF (moreF ⟨startW, [], 0⟩ b) := rfl
  obtain ⟨h, hh⟩ : ∃ h, h = moreF ⟨startW, [], 0⟩ b := ⟨_, rfl⟩
  rw [← hh] at km hr hrb hs
  refine Told.callT km rfl rfl rfl rfl ?_
  refine Told.callT (End_ct h hr hrb) rfl rfl rfl rfl ?_
  refine ⟨_, rfl, ?_⟩
  rw [hs]
  exact .refl _
def hblockF [Tabs] (k : List Int) : List Int := (if 64 < k.length then sumF k else k) ++ List.replicate (64 - (if 64 < k.length then sumF k else k).length) 0
theorem hblockF_len [Tabs] (k : List Int) : (hblockF k).length = 64 := by
  unfold hblockF
  split
  · simp [sumF_len]
  · simp; omega
theorem hblockF_byt [Tabs] {k : List Int} (h : Byt k) : Byt (hblockF k) := by
  unfold hblockF
  split
  · exact (sumF_byt k).append (zero_byt _)
  · exact h.append (zero_byt _)
theorem HBlock_ct [Tabs] (k : List Int) (hb : Byt k) (hl : k.length < 1000000) : CtT Tryd.prog 103 [.sl 1 (bys k)] (Ret (.own 0) [(0, false, .row 5 1 (bys (hblockF k)))]) := by
  refine Ct.of Tryd.func103 rfl rfl (n := 14) rfl (by simp [ids]) ?_
  have fin : ∀ l : List Int, l.length ≤ 64 → (bys l).take l.length ++ (List.replicate (Int.toNat 64) (T.int .u8 0)).drop l.length = bys (l ++ List.replicate (64 - l.length) 0) := fun l hl => by
    have e2 : (bys l).take l.length = bys l := List.take_of_length_le (by rw [bys_len]; exact Nat.le_refl _)
    rw [e2, List.drop_replicate]
    simp [bys]
  by_cases h : 64 < k.length
  · refine brT (decide_eq_true (p := ((bys k).length : Int) > 64) (by rw [bys_len]; omega)) ?_
    refine Told.callT (Sum_ct k hb hl) rfl rfl rfl rfl ?_
    have hs := sumF_len k
    have e : hblockF k = sumF k ++ List.replicate (64 - (sumF k).length) 0 := by unfold hblockF; rw [if_pos h]
    rw [e]
    generalize sumF k = l at hs
    refine ⟨by decide, by decide, by decide, by decide, l.length, by rw [bys_len, List.length_replicate]; exact (Nat.min_eq_left (by show l.length ≤ 64; omega)).symm, trivial, ?_⟩
    exact ⟨[(0, 9)], _, _, ⟨rfl, rfl⟩, rfl, ⟨congrArg (fun x => (false, Blk.row 5 1 x)) (fin l (by omega)), trivial⟩, rfl⟩
  · refine brF (decide_eq_false (p := ((bys k).length : Int) > 64) (by rw [bys_len]; omega)) ?_
    have e : hblockF k = k ++ List.replicate (64 - k.length) 0 := by unfold hblockF; rw [if_neg h]
    rw [e]
    refine ⟨by decide, by decide, by decide, by decide, k.length, by rw [bys_len, List.length_replicate]; exact (Nat.min_eq_left (by show k.length ≤ 64; omega)).symm, trivial, ?_⟩
    exact ⟨[(0, 9)], _, _, ⟨rfl, rfl⟩, rfl, ⟨congrArg (fun x => (false, Blk.row 5 1 x)) (fin k (by omega)), trivial⟩, rfl⟩
def hturnF (l : List Int) (y : Int) : Nat → List Int
  | 0 => l
  | i + 1 => (hturnF l y i).set i (Go.bits .xor .u8 ((hturnF l y i).getD i 0) y)
theorem hturnF_len (l : List Int) (y : Int) (n : Nat) : (hturnF l y n).length = l.length := by
  induction n with
  | zero => rfl
  | succ n ih => simp only [hturnF, List.length_set, ih]
theorem bits8 [Tabs] (x y : Int) : 0 ≤ Go.bits .xor .u8 x y ∧ Go.bits .xor .u8 x y ≤ 255 := by
  have : Go.bits .xor .u8 x y = IntKind.u8.wrap (((BitVec.ofInt 8 x ^^^ BitVec.ofInt 8 y).toNat : Nat) : Int) := rfl
  rw [this, wu8]; omega
theorem hturnF_byt [Tabs] {l : List Int} (h : Byt l) (y : Int) (n : Nat) : Byt (hturnF l y n) := by
  induction n with
  | zero => exact h
  | succ n ih =>
    intro x hx
    rcases List.mem_or_eq_of_mem_set hx with hx | rfl
    · exact ih x hx
    · exact bits8 _ _
theorem HTurn_ct [Tabs] (k : List Int) (y : Int) (hb : Byt k) (hl : k.length < 1000000) : CtT Tryd.prog 99 [.sl 1 (bys k), .int .u8 y] (Ret (.t (.sl 1 (bys (hturnF (hblockF k) y 64)))) []) := by
  refine CtT.ofN Tryd.func99 rfl rfl (n := 23) rfl ?_
  refine Told.callT (HBlock_ct k hb hl) rfl rfl rfl rfl ?_
  have hbl := hblockF_len k
  refine ⟨Nat × List Int, fun q => [(1, .t (.int .u8 y)), (5, .own 5), (10, .int .i64 64), (11, .int .i64 q.1)], fun q => [(5, false, .row 5 1 (bys q.2))], fun q => q.1 ≤ 64 ∧ q.2 = hturnF (hblockF k) y q.1, fun q => 64 - q.1, (0, hblockF k), ⟨Nat.zero_le _, rfl⟩,
    Le.of [(5, 8)] ⟨rfl, rfl, congrArg (AV.int .i64) (by rw [bys_len, hbl]; rfl), rfl, trivial⟩ ⟨rfl, trivial⟩ rfl, ?_⟩
  rintro ⟨i, l⟩ ⟨hi, hq⟩
  simp only at hi hq ⊢
  have hll : l.length = 64 := by rw [hq, hturnF_len, hbl]
  refine brB (fun hc => ?_) (fun hc => ?_)
  · have hc : i < 64 := by have h := of_decide_eq_true hc; omega
    have hx := getD_get (l := l) (i := i) (by omega)
    have hr : hturnF (hblockF k) y (i + 1) = l.set i (Go.bits .xor .u8 (l.getD i 0) y) := by
      show (hturnF (hblockF k) y i).set i _ = _
      rw [← hq]
    generalize l.getD i 0 = x at hx hr
    refine ⟨by omega, by rw [bys_len]; omega, _, bys_get rfl hx, by omega, by rw [bys_len]; omega, _, bys_get rfl hx, ?_⟩
    refine ⟨(i + 1, l.set i (Go.bits .xor .u8 x y)), ⟨hc, hr.symm⟩, Le.of [] ⟨rfl, rfl, rfl, congrArg (AV.int .i64) (wi (by omega) (by omega)), trivial⟩ ⟨congrArg (fun x => (false, Blk.row 5 1 x)) ?_, trivial⟩ rfl, by show 64 - (i + 1) < 64 - i; omega⟩
    simp [bys, List.map_set]
    rfl
  · have hc : i = 64 := by have h := of_decide_eq_false hc; omega
    subst hc
    refine ⟨_, rfl, ?_⟩
    rw [← hq]
    exact .refl _
def macF [Tabs] (k m : List Int) : List Int := sumF (hturnF (hblockF k) 92 64 ++ sumF (hturnF (hblockF k) 54 64 ++ m))
theorem Mac_ct [Tabs] (k m : List Int) (hk : Byt k) (hm : Byt m) (lk : k.length < 100000) (lm : m.length < 100000) : CtT Tryd.prog 97 [.sl 1 (bys k), .sl 1 (bys m)] (Ret (.t (.sl 1 (bys (macF k m)))) []) := by
  refine CtT.ofN Tryd.func97 rfl rfl (n := 18) rfl ?_
  have k1 := HTurn_ct k 54 hk (by omega)
  have k2 := HTurn_ct k 92 hk (by omega)
  have l1 : (hturnF (hblockF k) 54 64).length = 64 := by rw [hturnF_len, hblockF_len]
  have l2 : (hturnF (hblockF k) 92 64).length = 64 := by rw [hturnF_len, hblockF_len]
  have b1 := hturnF_byt (hblockF_byt hk) 54 64
  have b2 := hturnF_byt (hblockF_byt hk) 92 64
  have hf : macF k m = sumF (hturnF (hblockF k) 92 64 ++ sumF (hturnF (hblockF k) 54 64 ++ m)) := rfl
  obtain ⟨t1, ht1⟩ : ∃ t, t = hturnF (hblockF k) 54 64 := ⟨_, rfl⟩
  obtain ⟨t2, ht2⟩ : ∃ t, t = hturnF (hblockF k) 92 64 := ⟨_, rfl⟩
  rw [← ht1] at k1 l1 b1 hf
  rw [← ht2] at k2 l2 b2 hf
  have kc1 := ConcatB_ct [t1, m] (by simp) (by simp; omega)
  rw [show [t1, m].flatten = t1 ++ m by simp] at kc1
  have ks1 := Sum_ct (t1 ++ m) (b1.append hm) (by rw [List.length_append]; omega)
  have sl := sumF_len (t1 ++ m)
  have sb := sumF_byt (t1 ++ m)
  obtain ⟨s1, hs1⟩ : ∃ s, s = sumF (t1 ++ m) := ⟨_, rfl⟩
  rw [← hs1] at ks1 sl sb hf
  have kc2 := ConcatB_ct [t2, s1] (by simp) (by simp; omega)
  rw [show [t2, s1].flatten = t2 ++ s1 by simp] at kc2
  have ks2 := Sum_ct (t2 ++ s1) (b2.append sb) (by rw [List.length_append]; omega)
  rw [← hf] at ks2
  refine Told.callT k1 rfl rfl rfl rfl ?_
  refine Told.callT kc1 rfl rfl rfl rfl ?_
  refine Told.callT ks1 rfl rfl rfl rfl ?_
  refine Told.callT k2 rfl rfl rfl rfl ?_
  refine Told.callT kc2 rfl rfl rfl rfl ?_
  refine Told.callT ks2 rfl rfl rfl rfl ?_
  exact ⟨_, rfl, .refl _⟩
theorem macF_len [Tabs] (k m : List Int) : (macF k m).length = 32 := sumF_len _
theorem macF_byt [Tabs] (k m : List Int) : Byt (macF k m) := sumF_byt _
end
end Go.Proofs.YtonihdgidhflnaaDoorX
namespace Go.Proofs.YtonihdgidhflnaaDoorX
section
open Go Go.YtonihdgidhflnaaDoorE Go.Proofs
set_option maxRecDepth 100000
set_option autoImplicit false
theorem makerC_ct [Tabs] : CtT Tryd.prog 37 [(⟨1, []⟩ : Engine).T] (Ret (.t (.iface 128 (⟨1, []⟩ : Engine).T)) []) := by
  refine CtT.ofN Tryd.func37 rfl rfl (n := 28) rfl ?_
  exact ⟨_, rfl, .refl _⟩
def tag8 [Tabs] (k m : List Int) : List Int := (macF k m).take 8
theorem tag8_len [Tabs] (k m : List Int) : (tag8 k m).length = 8 := by unfold tag8; rw [List.length_take, macF_len]; rfl
theorem tag8_byt [Tabs] (k m : List Int) : Byt (tag8 k m) := (macF_byt k m).take 8
theorem tagC_ct [Tabs] (k m : List Int) (hk : Byt k) (hm : Byt m) (lk : k.length < 100000) (lm : m.length < 100000) :
    CtT Tryd.prog 96 [(⟨1, []⟩ : Engine).T, .sl 1 (bys k), .sl 1 (bys m)] (Ret (.t (.tuple [(⟨1, []⟩ : Engine).T, .sl 1 (bys (tag8 k m))])) []) := by
  refine CtT.ofN Tryd.func96 rfl rfl (n := 14) rfl ?_
  have km := Mac_ct k m hk hm lk lm
  have hl := macF_len k m
  have ht : tag8 k m = (macF k m).take 8 := rfl
  obtain ⟨x, hx⟩ : ∃ x, x = macF k m := ⟨_, rfl⟩
  rw [← hx] at km hl ht
  refine Told.callT km rfl rfl rfl rfl ?_
  refine ⟨by decide, by decide, by rw [bys_len, hl]; decide, ?_⟩
  refine ⟨_, rfl, ?_⟩
  rw [ht, bys_take]
  exact .refl _
theorem knownC_ct [Tabs] (k m : List Int) : CtT Tryd.prog 95 [(⟨1, []⟩ : Engine).T, .sl 1 (bys k), .sl 1 (bys m)] (Ret (.bool true) []) := by
  refine Ct.of Tryd.func95 rfl rfl (n := 7) rfl (by simp [ids]) ?_
  exact ⟨[], _, _, ⟨rfl, rfl⟩, rfl, trivial, rfl⟩
theorem meth_tagC (w : World) (O : Nat → Prop) (v : Value) (x : T) (_ : HT w O x v) : (method (Tryd.prog.types.size + Made.depth) 128 v "wristband/mac.tag").run Tryd.prog w = .ok (96, v) w := by kernel_rfl
theorem meth_knownC (w : World) (O : Nat → Prop) (v : Value) (x : T) (_ : HT w O x v) : (method (Tryd.prog.types.size + Made.depth) 128 v "wristband/mac.known").run Tryd.prog w = .ok (95, v) w := by kernel_rfl
def tagG [Tabs] (g : Engine) (k m : List Int) : Engine × List Int := if g.kind = 2 then tagE g k m else (g, tag8 k m)
def fitG [Tabs] (g : Engine) (k m t : List Int) : Prop := if g.kind = 2 then ((⟨k, m⟩ : Term) ∈ g.terms ∧ (putT g.terms k m).2 = t) else tag8 k m = t
instance fitDec [Tabs] (g : Engine) (k m t : List Int) : Decidable (fitG g k m t) := by unfold fitG; infer_instance
theorem TagG_ct [Tabs] (g : Engine) (hw : g.Wf) (hs : g.Sm) (h : g.ok) (k m : List Int) (hk : Byt k) (hm : Byt m) (lk : k.length < 100000) (lm : m.length < 100000) (hsm : Term.Sm ⟨k, m⟩) :
    CtT Tryd.prog 29 [g.T, .sl 1 (bys k), .sl 1 (bys m)] (Ret (.t (resTag (tagG g k m) 0)) []) := by
  unfold tagG
  split
  case isTrue h2 => exact TagS_ct g hw hs ⟨h2, by rcases h with h | h; exact absurd (h.1.symm.trans h2) (by decide); exact h.2⟩ k m hk hm hsm
  case isFalse h2 =>
    obtain ⟨h1, hn⟩ := h.resolve_right (fun h => h2 h.1)
    obtain ⟨gk, gt⟩ := g
    simp only at h1 hn
    subst h1 hn
    refine CtT.ofN Tryd.func29 rfl rfl (n := 26) rfl ?_
    refine Told.callT makerC_ct rfl rfl rfl rfl ?_
    refine Told.invoke (fun w O v hv => meth_tagC w O v _ hv) (tagC_ct k m hk hm lk lm) rfl rfl rfl ?_
    exact ⟨_, rfl, .refl _⟩
theorem FitsG_ct [Tabs] (g : Engine) (hw : g.Wf) (hs : g.Sm) (h : g.ok) (k m t : List Int) (hk : Byt k) (hm : Byt m) (ht : Byt t) (hl : t.length < 1000000) (lk : k.length < 100000) (lm : m.length < 100000) (hsm : Term.Sm ⟨k, m⟩) :
    CtT Tryd.prog 32 [g.T, .sl 1 (bys k), .sl 1 (bys m), .sl 1 (bys t)] (Ret (.bool (decide (fitG g k m t))) []) := by
  by_cases h2 : g.kind = 2
  case pos =>
    have := FitsS_ct g hw hs ⟨h2, by rcases h with h | h; exact absurd (h.1.symm.trans h2) (by decide); exact h.2⟩ k m t hk hm ht hl hsm
    have e : decide (fitG g k m t) = decide ((⟨k, m⟩ : Term) ∈ g.terms ∧ (putT g.terms k m).2 = t) := decide_eq_decide.2 (by unfold fitG; rw [if_pos h2])
    rw [e]
    exact this
  case neg =>
    obtain ⟨h1, hn⟩ := h.resolve_right (fun h => h2 h.1)
    have e : decide (fitG g k m t) = decide (tag8 k m = t) := decide_eq_decide.2 (by unfold fitG; rw [if_neg h2])
    rw [e]
    obtain ⟨gk, gt⟩ := g
    simp only at h1 hn
    subst h1 hn
    refine Ct.of Tryd.func32 rfl rfl (n := 33) rfl (by simp [ids]) ?_
    refine Told.callT makerC_ct rfl rfl rfl rfl ?_
    refine Told.invoke (fun w O v hv => meth_knownC w O v _ hv) (knownC_ct k m) rfl rfl rfl ?_
    refine Told.invoke (fun w O v hv => meth_tagC w O v _ hv) (tagC_ct k m hk hm lk lm) rfl rfl rfl ?_
    refine Told.callT (TSame_ct (tag8 k m) t (tag8_byt k m) ht (by rw [tag8_len]; omega) hl) rfl rfl rfl rfl ?_
    exact ⟨[], _, _, ⟨rfl, rfl⟩, rfl, trivial, rfl⟩
theorem MRight_ct [Tabs] (g : Engine) (hw : g.Wf) (hs : g.Sm) : CtT Tryd.prog 15 [g.T] (Ret (.bool (decide g.ok)) []) := by
  by_cases h : g.ok
  · rw [decide_eq_true h]
    by_cases h2 : g.kind = 2
    · refine Ct.of Tryd.func15 rfl rfl (n := 6) rfl (by simp [ids]) ?_
      refine Told.callT (makerS_ct g hw hs ⟨h2, by rcases h with h | h; exact absurd (h.1.symm.trans h2) (by decide); exact h.2⟩) rfl rfl rfl rfl ?_
      exact ⟨[], _, _, ⟨rfl, rfl⟩, rfl, trivial, rfl⟩
    · obtain ⟨h1, hn⟩ := h.resolve_right (fun h => h2 h.1)
      obtain ⟨gk, gt⟩ := g
      simp only at h1 hn
      subst h1 hn
      refine Ct.of Tryd.func15 rfl rfl (n := 6) rfl (by simp [ids]) ?_
      refine Told.callT makerC_ct rfl rfl rfl rfl ?_
      exact ⟨[], _, _, ⟨rfl, rfl⟩, rfl, trivial, rfl⟩
  · rw [decide_eq_false h]
    refine Ct.of Tryd.func15 rfl rfl (n := 6) rfl (by simp [ids]) ?_
    refine Told.callT (makerN_ct g hw hs h) rfl rfl rfl rfl ?_
    exact ⟨[], _, _, ⟨rfl, rfl⟩, rfl, trivial, rfl⟩
theorem tagG_len [Tabs] (g : Engine) (k m : List Int) : (tagG g k m).2.length = 8 := by
  unfold tagG; split
  · exact putT_len _ _ _
  · exact tag8_len _ _
theorem tagG_byt [Tabs] (g : Engine) (k m : List Int) : Byt (tagG g k m).2 := by
  unfold tagG; split
  · exact putT_byt _ _ _
  · exact tag8_byt _ _
theorem tagG_ok [Tabs] {g : Engine} (h : g.ok) (k m : List Int) : (tagG g k m).1.ok := by
  unfold tagG; split
  · rename_i h2
    rcases h with h | h
    · exact absurd (h.1.symm.trans h2) (by decide)
    · exact .inr ⟨h.1, putT_nodup h.2 _ _⟩
  · exact h
theorem tagG_wf [Tabs] {g : Engine} (h : g.Wf) {k m : List Int} (hk : Byt k) (hm : Byt m) : (tagG g k m).1.Wf := by
  unfold tagG; split
  · exact ⟨h.kind, putT_all h.terms ⟨hk, hm⟩⟩
  · exact h
theorem tagG_fit [Tabs] {g : Engine} (k m : List Int) : fitG (tagG g k m).1 k m (tagG g k m).2 := by
  unfold tagG; split
  · rename_i h2
    unfold fitG
    rw [if_pos (show (tagE g k m).1.kind = 2 from h2)]
    exact putT_has g.terms k m
  · rename_i h2
    unfold fitG
    rw [if_neg h2]
theorem fitG_tag [Tabs] {g : Engine} {k m t : List Int} (h : fitG g k m t) : (tagG g k m).2 = t := by
  unfold fitG at h; unfold tagG
  split at h
  · rename_i h2; rw [if_pos h2]; exact h.2
  · rename_i h2; rw [if_neg h2]; exact h
theorem tagG_sm [Tabs] {g : Engine} (h : g.Sm) (hn : g.terms.length < 99999) {k m : List Int} (hm : Term.Sm ⟨k, m⟩) : (tagG g k m).1.Sm := by
  unfold tagG; split
  · exact ⟨by have := putT_len1 g.terms k m; show (putT g.terms k m).1.length < _; omega, putT_all h.t hm⟩
  · exact h
end
end Go.Proofs.YtonihdgidhflnaaDoorX
namespace Go.Proofs.YtonihdgidhflnaaDoorX
section
open Go Go.YtonihdgidhflnaaDoorE Go.Proofs
set_option maxRecDepth 100000
set_option autoImplicit false
theorem ASealG_ct [Tabs] (g : Engine) (hw : g.Wf) (hs : g.Sm) (hg : g.ok) (k : List Int) (hk : Byt k) (hkl : k.length < 100000) (a : Activation) (ha : a.Wf) (ho : a.ok) :
    CtT Tryd.prog 9 [g.T, .sl 1 (bys k), a.T] (Ret (.t (resSeal (tagG g k (abytes a)).1 (abytes a ++ (tagG g k (abytes a)).2) (.v .nilIface))) []) := by
  refine CtT.ofN Tryd.func9 rfl rfl (n := 41) rfl ?_
  have h2 := ho.2
  have hl := abytes_len a
  refine Told.callT (ABytes_ct a ha ho) rfl rfl rfl rfl ?_
  have kt := TagG_ct g hw hs hg k (abytes a) hk (abytes_byt ha ho) hkl (by omega) ⟨by simp only; omega, by simp only; omega⟩
  have hpl := tagG_len g k (abytes a)
  generalize tagG g k (abytes a) = p at kt hpl
  refine Told.callT kt rfl rfl rfl rfl ?_
  refine Told.callT (ConcatB_ct [abytes a, p.2] (by simp) (by simp [hpl]; omega)) rfl rfl rfl rfl ?_
  refine ⟨_, rfl, ?_⟩
  rw [show [abytes a, p.2].flatten = abytes a ++ p.2 by simp]
  exact .refl _
theorem sized_cut [Tabs] {x : List Int} (h : sizedI x = 0) {n : Nat} (hn : n < x.length) : sizedI (x.take n) = 2 := by
  obtain ⟨m, h1, h2, h3, h4, h5⟩ := sized_facts h
  have hl : (x.take n).length = n := by rw [List.length_take]; omega
  unfold sizedI
  rw [hl]
  split
  · rfl
  rw [if_neg (by rw [List.getElem?_take_of_lt (by omega), h4]; simp)]
  split
  · rfl
  have hd : (x.take n).getD 25 0 = m := by rw [List.getD_eq_getElem?_getD, List.getElem?_take_of_lt (by omega), h5]; rfl
  rw [hd, if_neg (by omega), if_pos (by omega)]
theorem sized_long [Tabs] {x : List Int} (h : sizedI x = 0) (c : Int) : sizedI (x ++ [c]) = 4 := by
  obtain ⟨m, h1, h2, h3, h4, h5⟩ := sized_facts h
  have hl : (x ++ [c]).length = x.length + 1 := by simp
  unfold sizedI
  rw [hl, if_neg (by omega), if_neg (by rw [List.getElem?_append_left (by omega), h4]; simp), if_neg (by omega)]
  have hd : (x ++ [c]).getD 25 0 = m := by rw [List.getD_eq_getElem?_getD, List.getElem?_append_left (by omega), h5]; rfl
  rw [hd, if_neg (by omega), if_neg (by omega), if_pos (by omega)]
theorem RecordBack_g [Tabs] (g : Engine) (hw : g.Wf) (key : List Int) (hk : Byt key) (a : Activation) (ha : a.Wf) (b : List Int) (hb : Byt b) (cut : Int) (hcut : 0 ≤ cut ∧ cut < 256) :
    CtT Tryd.prog 4 [g.T, .sl 1 (bys key), a.T, .sl 1 (bys b), .int .u8 cut] (Ret (.bool true) []) := by
  refine Ct.of Tryd.func4 rfl rfl (n := 164) rfl (by simp [ids]) ?_
  refine Told.callT awake14_ct rfl rfl rfl rfl ?_
  obtain ⟨z, hz, ks⟩ := small14_ct g key b
  refine Told.callT ks rfl rfl rfl rfl ?_
  cases z with
  | false => exact ⟨[], _, _, ⟨rfl, rfl⟩, rfl, trivial, rfl⟩
  | true =>
  obtain ⟨h1, h2, h3⟩ := hz rfl
  refine brB (fun h4 => ?_) (fun h4 => ?_)
  · exact ⟨[], _, _, ⟨rfl, rfl⟩, rfl, trivial, rfl⟩
  have h4 := of_decide_eq_false h4
  rw [bys_len] at h4
  have sm : g.Sm := ⟨by have := h1.1; omega, fun t ht => by have := h1.2 t ht; exact ⟨by omega, by omega⟩⟩
  -- the other bytes
  have tail : ∃ (c : Activation) (f : T), CtT Tryd.prog 10 [g.T, .sl 1 (bys key), .sl 1 (bys b)] (Ret (.t (resOpen c f)) []) ∧
      ((c = zeroA ∧ ∃ n, f = FaultI 4 n) ∨ (f = .v .nilIface ∧ c.ok ∧ c.Wf ∧ g.ok ∧ abytes c ++ (tagG g key (abytes c)).2 = b)) := by
    by_cases hs : sizedI b = 0
    · obtain ⟨hp1, hp2, hp3⟩ := abytes_parse hb hs
      obtain ⟨m, hm1, _, hm3, _⟩ := sized_facts hs
      by_cases ok : g.ok
      · have kf := FitsG_ct g hw sm ok key (b.take (b.length - 8)) (b.drop (b.length - 8)) hk (hb.take _) (hb.drop _) (by simp; omega) (by omega) (by rw [List.length_take]; omega) ⟨by simp only; omega, by simp only [List.length_take]; omega⟩
        have ko := AOpen_ct g key b hb (by omega) hs _ kf
        by_cases hf : fitG g key (b.take (b.length - 8)) (b.drop (b.length - 8))
        · rw [decide_eq_true hf] at ko
          refine ⟨_, _, ko, .inr ⟨rfl, hp2, hp3, ok, ?_⟩⟩
          rw [hp1, fitG_tag hf, List.take_append_drop]
        · rw [decide_eq_false hf] at ko
          exact ⟨_, _, ko, .inl ⟨rfl, _, rfl⟩⟩
      · have ko := AOpen_ct g key b hb (by omega) hs _ (FitsN_ct g hw sm ok key (b.take (b.length - 8)) (b.drop (b.length - 8)))
        exact ⟨_, _, ko, .inl ⟨rfl, _, rfl⟩⟩
    · exact ⟨_, _, AOpenE_ct g key b hb (by omega) hs, .inl ⟨rfl, _, rfl⟩⟩
  obtain ⟨c, f, kt, ht⟩ := tail
  have kzz := ASame_ct zeroA zeroA ⟨by constructor <;> decide, by constructor <;> decide, by constructor <;> decide, by intro y hy; cases hy⟩ ⟨by constructor <;> decide, by constructor <;> decide, by constructor <;> decide, by intro y hy; cases hy⟩
  rw [decide_eq_true rfl] at kzz
  by_cases ok : a.ok ∧ g.ok
  case' pos =>
    obtain ⟨ok, gok⟩ := ok
    have hal := abytes_len a
    have hsl := ok.2
    have ksl := ASealG_ct g hw sm gok key hk (by omega) a ha ok
    have hgl := tagG_len g key (abytes a)
    have hgb := tagG_byt g key (abytes a)
    have hgo := tagG_ok gok key (abytes a)
    have hgw := tagG_wf hw hk (abytes_byt ha ok)
    have hgs := tagG_sm sm (by have := h1.1; omega) (k := key) (m := abytes a) ⟨by simp only; omega, by simp only; omega⟩
    have hgf := tagG_fit (g := g) key (abytes a)
    obtain ⟨p, hp⟩ : ∃ p, p = tagG g key (abytes a) := ⟨_, rfl⟩
    rw [← hp] at ksl hgl hgb hgo hgw hgs hgf
    have hs0 := sized_seal ok hgl
    have hps := parse_seal ha ok hgl hgb
    obtain ⟨x, hx⟩ : ∃ x, x = abytes a ++ p.2 := ⟨_, rfl⟩
    have hxl : x.length = 34 + a.seed.length := by rw [hx, List.length_append, hal, hgl]; omega
    have hxb : Byt x := by rw [hx]; exact (abytes_byt ha ok).append hgb
    have e1 : x.take (x.length - 8) = abytes a := by rw [hxl, hx, List.take_left' (by omega)]
    have e2 : x.drop (x.length - 8) = p.2 := by rw [hxl, hx, List.drop_left' (by omega)]
    rw [← hx] at ksl hs0 hps
    have kf := FitsG_ct p.1 hgw hgs hgo key (x.take (x.length - 8)) (x.drop (x.length - 8)) hk (hxb.take _) (hxb.drop _) (by simp; omega) (by omega) (by rw [List.length_take]; omega) ⟨by simp only; omega, by simp only [List.length_take]; omega⟩
    rw [decide_eq_true (by rw [e1, e2]; exact hgf)] at kf
    have ko := AOpen_ct p.1 key x hxb (by omega) hs0 _ kf
    rw [hps] at ko
    refine Told.callT ksl rfl rfl rfl rfl ?_
    refine Told.callT ko rfl rfl rfl rfl ?_
    have ke := ASame_ct a a ha ha
    rw [decide_eq_true rfl] at ke
    refine Told.callT ke rfl rfl rfl rfl ?_
    refine brF (by rw [bys_len, bys_len, wi (by omega) (by omega), hxl, decide_eq_true (by omega)]; rfl) ?_
    have hcw : (IntKind.i64.wrap cut).tmod ((bys x).length : Int) = ((cut.toNat % x.length : Nat) : Int) := by
      rw [wi (by omega) (by omega), bys_len, Int.tmod_eq_emod_of_nonneg hcut.1, Int.natCast_emod, Int.toNat_of_nonneg hcut.1]
    have hcl : cut.toNat % x.length < x.length := Nat.mod_lt _ (by omega)
    obtain ⟨n, hn⟩ : ∃ n, n = cut.toNat % x.length := ⟨_, rfl⟩
    rw [← hn] at hcw hcl
    have kc := AOpenE_ct p.1 key (x.take n) (hxb.take _) (by rw [List.length_take]; omega) (by rw [sized_cut hs0 hcl]; decide)
    rw [sized_cut hs0 hcl, bys_take] at kc
    have kl := AOpenE_ct p.1 key (x ++ [cut]) (hxb.append (fun y hy => by rw [List.mem_singleton.1 hy]; omega)) (by simp; omega) (by rw [sized_long hs0]; decide)
    rw [sized_long hs0, bys_append] at kl
    refine ⟨by rw [bys_len]; omega, ?_⟩
    refine ⟨by decide, by rw [hcw]; omega, by rw [hcw, bys_len]; omega, ?_⟩
    refine Told.callT kc rfl rfl (congrArg (fun y => some [p.1.T, T.sl 1 (bys key), T.sl 1 y]) (by rw [hcw]; rfl)) rfl ?_
    refine ⟨by show _ * 1 ≤ _; simp; omega, by show _ * 1 ≤ _; simp; omega, ?_⟩
    refine Told.callT kl rfl rfl rfl rfl ?_
    refine Told.callT (Told_ct 4 2) rfl rfl rfl rfl ?_
    refine Told.callT (Told_ct 4 4) rfl rfl rfl rfl ?_
  case' neg =>
    have ke : CtT Tryd.prog 9 [g.T, .sl 1 (bys key), a.T] (Ret (.t (resSeal g [] (FaultI 4 1))) []) := by
      by_cases h : a.ok
      · exact ASealN_ct g hw sm (fun hg => ok ⟨h, hg⟩) key a ha h
      · exact ASealA_ct g key a h
    refine Told.callT ke rfl rfl rfl rfl ?_
    have kr := ARight_ct a
    by_cases h : a.ok
    case' pos =>
      rw [decide_eq_true h] at kr
      have km := MRight_ct g hw sm
      rw [decide_eq_false (fun hg => ok ⟨h, hg⟩)] at km
      refine Told.callT kr rfl rfl rfl rfl ?_
      refine Told.callT km rfl rfl rfl rfl ?_
    case' neg =>
      rw [decide_eq_false h] at kr
      refine Told.callT kr rfl rfl rfl rfl ?_
  all_goals
    refine Told.callT kt rfl rfl rfl rfl ?_
    rcases ht with ⟨rfl, n, rfl⟩ | ⟨rfl, cok, cwf, gok, hcb⟩
    · refine Told.callT (kzz.tas (by repeat constructor)) rfl rfl rfl rfl ?_
      exact ⟨[], _, _, ⟨rfl, rfl⟩, rfl, trivial, rfl⟩
    · have kss := ASealG_ct g hw sm gok key hk (by omega) c cwf cok
      rw [hcb] at kss
      have kr := ARight_ct c
      rw [decide_eq_true cok] at kr
      refine Told.callT kss rfl rfl rfl rfl ?_
      refine Told.callT kr rfl rfl rfl rfl ?_
      refine ⟨_, rfl, _, rfl, fun q hq => ?_⟩
      have hq : q = true := by rw [hq]; simp
      subst hq
      exact ⟨[], _, _, ⟨rfl, rfl⟩, rfl, trivial, rfl⟩
end
end Go.Proofs.YtonihdgidhflnaaDoorX
namespace Go.Proofs.YtonihdgidhflnaaDoorX
section
open Go Go.YtonihdgidhflnaaDoorE Go.Proofs
set_option maxRecDepth 100000
set_option autoImplicit false
theorem drop_step {b u r : List Int} {p n : Nat} (h : b.drop p = u ++ r) (hu : u.length = n) : b.drop (p + n) = r := by
  rw [← List.drop_drop, h, ← hu, List.drop_left']
  rfl
theorem len_step {b u r : List Int} {p n : Nat} (h : b.drop p = u ++ r) (hu : u.length = n) (hp : p ≤ b.length) : p + n ≤ b.length := by
  have := congrArg List.length h
  rw [List.length_drop, List.length_append] at this
  omega
theorem takeR_app [Tabs] {b u r : List Int} {p n : Nat} (h : b.drop p = u ++ r) (hu : u.length = n) (hp : p ≤ b.length) : takeR b p 0 n = (u, p + n, 0) := by
  have := len_step h hu hp
  unfold takeR
  rw [if_pos rfl, if_neg (by omega), h, ← hu, List.take_left']
  rfl
theorem numR_app [Tabs] {b r : List Int} {p : Nat} {v : Int} (h : b.drop p = oct v ++ r) (hv : U64 v) (hp : p ≤ b.length) : numR b p 0 = (v, p + 8, 0) := by
  unfold numR
  rw [takeR_app h (oct_len v) hp]
  simp only
  rw [if_pos (oct_len v), val_oct hv]
theorem cntR_app [Tabs] {b r : List Int} {p : Nat} {x : Int} {q : Int → Bool} (h : b.drop p = [x] ++ r) (hq : q x = true) (hp : p ≤ b.length) : cntR b p 0 q = (x, p + 1, 0) := by
  unfold cntR
  rw [takeR_app (n := 1) h rfl hp]
  simp [hq]
theorem entR_app [Tabs] {b r : List Int} {p : Nat} {e : Entry} (h : b.drop p = ebytes e ++ r) (hw : e.Wf) (ho : e.ok) (hp : p ≤ b.length) : entR b p 0 = (e, p + (ebytes e).length, 0) := by
  unfold ebytes at h
  rw [List.append_assoc, List.append_assoc, List.append_assoc] at h
  have n1 := numR_app h hw.t hp
  have h2 := drop_step h (oct_len _)
  have p2 := len_step h (oct_len _) hp
  have n2 := numR_app h2 hw.e p2
  have h3 := drop_step h2 (oct_len _)
  have p3 := len_step h2 (oct_len _) p2
  have n3 := cntR_app (q := sdQ) h3 (decide_eq_true ho) p3
  have h4 := drop_step h3 (n := 1) rfl
  have p4 := len_step h3 (n := 1) rfl p3
  have n4 := takeR_app h4 (n := e.seed.length) rfl p4
  unfold entR
  simp only [n1, n2, n3]
  rw [Int.toNat_natCast, n4]
  have hl : (ebytes e).length = 17 + e.seed.length := by simp [ebytes, oct_len]; omega
  rw [hl]
  simp only [Prod.mk.injEq, and_true, true_and]
  omega
theorem entsR_app [Tabs] {r : List Int} : ∀ (l : List Entry) {b : List Int} {p : Nat}, b.drop p = ebody l ++ r → (∀ e ∈ l, e.Wf) → (∀ e ∈ l, e.ok) → p ≤ b.length → entsR b l.length p 0 = (l, p + (ebody l).length, 0)
  | [], b, p, _, _, _, _ => by simp [entsR, ebody]
  | e :: l, b, p, h, hw, ho, hp => by
    have hb : ebody (e :: l) = ebytes e ++ ebody l := rfl
    rw [hb, List.append_assoc] at h
    have n1 := entR_app h (hw e (by simp)) (ho e (by simp)) hp
    have h2 := drop_step h rfl
    have p2 := len_step h rfl hp
    have n2 := entsR_app l h2 (fun e he => hw e (by simp [he])) (fun e he => ho e (by simp [he])) p2
    rw [List.length_cons]
    unfold entsR
    rw [if_pos rfl, n1]
    simp only
    rw [n2, hb, List.length_append]
    simp only [Prod.mk.injEq, and_true, true_and]
    omega
theorem readB_app [Tabs] {x : Bundle} (hw : x.Wf) (ho : x.ok) (r : List Int) : readB (bbytes x ++ r) = (x, ((bbytes x).length : Int), 0) := by
  have h : (bbytes x ++ r).drop 0 = [66] ++ (oct x.v ++ ([(x.entries.length : Int)] ++ (ebody x.entries ++ ((Gon.gbytes x.gone).1 ++ r)))) := by
    rw [show Gon.gbytes x.gone = ((x.gone.length : Int) :: Gon.gbody x.gone, 0) from if_pos ho.gone]
    simp [bbytes, bhead]
  obtain ⟨b, hb⟩ : ∃ b, b = bbytes x ++ r := ⟨_, rfl⟩
  have hlb : b.length = (bbytes x).length + r.length := by rw [hb, List.length_append]
  rw [← hb] at h ⊢
  have n1 := cntR_app (q := kindQ) h rfl (Nat.zero_le _)
  have h2 := drop_step h (n := 1) rfl
  have p2 := len_step h (n := 1) rfl (Nat.zero_le _)
  have n2 := numR_app h2 hw.v p2
  have h3 := drop_step h2 (oct_len _)
  have p3 := len_step h2 (oct_len _) p2
  have n3 := cntR_app (q := manyQ) h3 (decide_eq_true (by have := ho.len; omega)) p3
  have h4 := drop_step h3 (n := 1) rfl
  have p4 := len_step h3 (n := 1) rfl p3
  have n4 := entsR_app x.entries h4 hw.entries ho.seeds p4
  have h5 := drop_step h4 rfl
  have p5 := len_step h4 rfl p4
  have n5 := Gon.read_bytes ho.gone hw.gone r
  have hd : headR b = ⟨x.v, x.entries, 0 + 1 + 8 + 1 + (ebody x.entries).length, 0⟩ := by
    unfold headR
    simp only [n1, n2, n3]
    rw [Int.toNat_natCast, n4]
  unfold readB endR
  rw [hd]
  simp only [ne_eq, not_true_eq_false, if_false]
  rw [h5, n5]
  simp only [not_true_eq_false, if_false]
  rw [if_pos ho]
  have hg : (Gon.gbytes x.gone).1.length = 1 + (Gon.gbody x.gone).length := by
    rw [show Gon.gbytes x.gone = ((x.gone.length : Int) :: Gon.gbody x.gone, 0) from if_pos ho.gone, List.length_cons]; omega
  have hx : (bbytes x).length = 10 + (ebody x.entries).length + (1 + (Gon.gbody x.gone).length) := by
    have h10 := bhead_len x
    unfold bbytes
    simp only [List.length_append, List.length_cons]
    omega
  rw [hg, hx]
  simp only [Prod.mk.injEq, and_true, true_and]
  omega
end
end Go.Proofs.YtonihdgidhflnaaDoorX
namespace Go.Proofs.YtonihdgidhflnaaDoorX
section
open Go Go.YtonihdgidhflnaaDoorE Go.Proofs
set_option maxRecDepth 100000
set_option autoImplicit false
structure Seg (b : List Int) (p : Nat) (u : List Int) (p' : Nat) : Prop where
  len : p' = p + u.length
  eq : b.drop p = u ++ b.drop p'
theorem Seg.trans {b u v : List Int} {p q r : Nat} (h : Seg b p u q) (h' : Seg b q v r) : Seg b p (u ++ v) r :=
  ⟨by rw [h'.len, h.len, List.length_append]; omega, by rw [h.eq, h'.eq, List.append_assoc]⟩
theorem Seg.take {b u : List Int} {p : Nat} (h : Seg b 0 u p) : u = b.take p := by
  have h1 := h.eq
  have h2 := h.len
  rw [Nat.zero_add] at h2
  rw [List.drop_zero] at h1
  rw [h2]
  conv => rhs; rw [h1]
  rw [List.take_left']
  rfl
theorem takeR_inv {b : List Int} {p n : Nat} {e : Int} (h : (takeR b p e n).2.2 = 0) : e = 0 ∧ Seg b p (takeR b p e n).1 (takeR b p e n).2.1 ∧ (takeR b p e n).1.length = n := by
  unfold takeR at h ⊢
  split at h
  · rename_i he
    split at h
    · cases h
    · rename_i h2
      rw [if_pos he, if_neg h2]
      have hl : ((b.drop p).take n).length = n := by simp; omega
      exact ⟨he, ⟨by rw [hl], by simp only; rw [← List.drop_drop, List.take_append_drop]⟩, hl⟩
  · rename_i he; exact absurd h he
theorem numR_inv [Tabs] {b : List Int} (hb : Byt b) {p : Nat} {e : Int} (h : (numR b p e).2.2 = 0) : e = 0 ∧ Seg b p (oct (numR b p e).1) (numR b p e).2.1 := by
  have h1 : (takeR b p e 8).2.2 = 0 := h
  obtain ⟨h2, h3, h4⟩ := takeR_inv h1
  refine ⟨h2, ?_⟩
  have hv : oct (numR b p e).1 = (takeR b p e 8).1 := by
    unfold numR
    simp only
    rw [if_pos h4]
    exact oct_val h4 (takeR_byt hb p 8 e)
  rw [hv]
  exact h3
theorem cntR_inv [Tabs] {b : List Int} {p : Nat} {e : Int} {q : Int → Bool} (h : (cntR b p e q).2.2 = 0) : e = 0 ∧ Seg b p [(cntR b p e q).1] (cntR b p e q).2.1 ∧ q (cntR b p e q).1 = true := by
  unfold cntR at h ⊢
  split at h
  · rename_i h1
    rw [if_pos h1]
    obtain ⟨x, hx⟩ := takeR_one h1
    obtain ⟨h2, h3, _⟩ := takeR_inv h1
    rw [hx] at h h3 ⊢
    cases hq : q x with
    | true =>
      simp only [List.headD_cons, hq, cond_true]
      exact ⟨h2, h3, trivial⟩
    | false =>
      simp only [List.headD_cons, hq, cond_false] at h
      cases h
  · rename_i h1; exact absurd h h1
theorem entR_inv [Tabs] {b : List Int} (hb : Byt b) {p : Nat} {e : Int} (h : (entR b p e).2.2 = 0) : e = 0 ∧ Seg b p (ebytes (entR b p e).1) (entR b p e).2.1 ∧ (entR b p e).1.Wf ∧ (entR b p e).1.ok := by
  unfold entR at h ⊢
  simp only at h ⊢
  obtain ⟨h4, s4, l4⟩ := takeR_inv h
  obtain ⟨h3, s3, q3⟩ := cntR_inv h4
  obtain ⟨h2, s2⟩ := numR_inv hb h3
  obtain ⟨h1, s1⟩ := numR_inv hb h2
  have b4 := takeR_byt hb (cntR b (numR b (numR b p e).2.1 (numR b p e).2.2).2.1 (numR b (numR b p e).2.1 (numR b p e).2.2).2.2 sdQ).2.1 (cntR b (numR b (numR b p e).2.1 (numR b p e).2.2).2.1 (numR b (numR b p e).2.1 (numR b p e).2.2).2.2 sdQ).1.toNat (cntR b (numR b (numR b p e).2.1 (numR b p e).2.2).2.1 (numR b (numR b p e).2.1 (numR b p e).2.2).2.2 sdQ).2.2
  have u1 := numR_u64 hb p e
  have u2 := numR_u64 hb (numR b p e).2.1 (numR b p e).2.2
  have hq := of_decide_eq_true q3
  generalize cntR b (numR b (numR b p e).2.1 (numR b p e).2.2).2.1 (numR b (numR b p e).2.1 (numR b p e).2.2).2.2 sdQ = r3 at *
  generalize numR b (numR b p e).2.1 (numR b p e).2.2 = r2 at *
  generalize numR b p e = r1 at *
  generalize takeR b r3.2.1 r3.2.2 r3.1.toNat = r4 at *
  have hl : (r4.1.length : Int) = r3.1 := by omega
  refine ⟨h1, ?_, ⟨u1, u2, b4⟩, by unfold Entry.ok; simp only; omega⟩
  unfold ebytes
  simp only
  rw [hl]
  exact ((s1.trans s2).trans s3).trans s4
theorem entsR_inv [Tabs] {b : List Int} (hb : Byt b) : ∀ (n p : Nat) (e : Int), (entsR b n p e).2.2 = 0 → e = 0 ∧ Seg b p (ebody (entsR b n p e).1) (entsR b n p e).2.1 ∧ (entsR b n p e).1.length = n ∧ ∀ x ∈ (entsR b n p e).1, x.Wf
  | 0, p, e, h => ⟨h, ⟨rfl, rfl⟩, rfl, by intro x hx; cases hx⟩
  | n + 1, p, e, h => by
    by_cases he : e = 0
    · unfold entsR at h ⊢
      rw [if_pos he] at h ⊢
      simp only at h ⊢
      obtain ⟨h1, s1, l1, w1⟩ := entsR_inv hb n _ _ h
      obtain ⟨_, s0, w0, _⟩ := entR_inv hb h1
      refine ⟨he, s0.trans s1, by rw [List.length_cons, l1], fun x hx => ?_⟩
      rcases List.mem_cons.1 hx with rfl | hx
      · exact w0
      · exact w1 x hx
    · rw [entsR_err b _ p he] at h
      exact absurd h he
theorem readB_inv [Tabs] {b : List Int} (hb : Byt b) (h : (readB b).2.2 = 0) : (readB b).1.Wf ∧ (readB b).1.ok ∧ ∃ n : Nat, (readB b).2.1 = n ∧ n ≤ b.length ∧ bbytes (readB b).1 = b.take n := by
  have hc := (readB_cases hb).resolve_left (fun hc => hc.1 h)
  obtain ⟨n, hn⟩ : ∃ n : Nat, (readB b).2.1 = n := ⟨(readB b).2.1.toNat, by omega⟩
  obtain ⟨r1, h1⟩ : ∃ r, r = cntR b 0 0 kindQ := ⟨_, rfl⟩
  obtain ⟨r2, h2⟩ : ∃ r, r = numR b r1.2.1 r1.2.2 := ⟨_, rfl⟩
  obtain ⟨r3, h3⟩ : ∃ r, r = cntR b r2.2.1 r2.2.2 manyQ := ⟨_, rfl⟩
  obtain ⟨r4, h4⟩ : ∃ r, r = entsR b r3.1.toNat r3.2.1 r3.2.2 := ⟨_, rfl⟩
  have hd : headR b = ⟨r2.1, r4.1, r4.2.1, r4.2.2⟩ := by
    unfold headR
    simp only
    rw [← h1, ← h2, ← h3, ← h4]
  have hr : readB b = endR b ⟨r2.1, r4.1, r4.2.1, r4.2.2⟩ := by unfold readB; rw [hd]
  have hle : r4.2.1 ≤ b.length := by
    rw [h4]; exact (entsR_le _ _ _ (by rw [h3]; exact cntR_le _ _ _ (by rw [h2]; exact numR_le _ _ (by rw [h1]; exact cntR_le _ _ _ (Nat.zero_le _))))).1
  have u2 : U64 r2.1 := by rw [h2]; exact numR_u64 hb _ _
  obtain ⟨gl, gn, ge, hg⟩ : ∃ gl gn ge, Gon.readG (b.drop r4.2.1) = (gl, gn, ge) := ⟨_, _, _, rfl⟩
  have hbk := Gon.read_back (hb.drop r4.2.1) hg
  rw [hr] at h hn hc ⊢
  unfold endR at h hn hc ⊢
  simp only [hg] at h hn hc ⊢
  by_cases e4 : r4.2.2 = 0
  case neg => rw [if_pos e4] at h; exact absurd h e4
  rw [if_neg (by simpa using e4)] at h hn hc ⊢
  by_cases e5 : ge = 0
  case neg => rw [if_pos e5] at h; exact absurd h e5
  rw [if_neg (by simpa using e5)] at h hn hc ⊢
  by_cases e6 : (⟨r2.1, r4.1, gl⟩ : Bundle).ok
  case neg => rw [if_neg e6] at h; cases h
  rw [if_pos e6] at h hn hc ⊢
  simp only at hn hc ⊢
  obtain ⟨_, g2, g3, g4, g5, g6⟩ := hbk.resolve_right (fun h => h.1 e5)
  have i4 := entsR_inv hb r3.1.toNat r3.2.1 r3.2.2 (by rw [← h4]; exact e4)
  rw [← h4] at i4
  obtain ⟨e3, s4, l4, w4⟩ := i4
  have i3 := cntR_inv (b := b) (p := r2.2.1) (e := r2.2.2) (q := manyQ) (by rw [← h3]; exact e3)
  have d3 := cntR_bd hb r2.2.1 r2.2.2 manyQ
  rw [← h3] at i3 d3
  obtain ⟨e2, s3, _⟩ := i3
  have i2 := numR_inv hb (p := r1.2.1) (e := r1.2.2) (by rw [← h2]; exact e2)
  rw [← h2] at i2
  obtain ⟨e1, s2⟩ := i2
  have i1 := cntR_inv (b := b) (p := 0) (e := 0) (q := kindQ) (by rw [← h1]; exact e1)
  rw [← h1] at i1
  obtain ⟨_, s1, q1⟩ := i1
  have q1 : r1.1 = 66 := of_decide_eq_true q1
  have hl3 : (r4.1.length : Int) = r3.1 := by omega
  refine ⟨⟨u2, w4, g6⟩, e6, n, hn, by omega, ?_⟩
  have hb1 := (((s1.trans s2).trans s3).trans s4).take
  have hgb : (Gon.gbytes gl).1 = ((gl.length : Int) :: Gon.gbody gl) := by rw [show Gon.gbytes gl = ((gl.length : Int) :: Gon.gbody gl, 0) from if_pos g2]
  have hg5 : ((gl.length : Int) :: Gon.gbody gl) = (b.drop r4.2.1).take gn.toNat := by rw [← hgb, g5]
  unfold bbytes bhead
  simp only
  rw [hg5, hl3, show ([66] ++ oct r2.1 ++ [r3.1] ++ ebody r4.1) = b.take r4.2.1 by rw [← hb1, q1]]
  rw [show n = r4.2.1 + gn.toNat by omega, List.take_add]
end
end Go.Proofs.YtonihdgidhflnaaDoorX
namespace Go.Proofs.YtonihdgidhflnaaDoorX
section
open Go Go.YtonihdgidhflnaaDoorE Go.Proofs
set_option maxRecDepth 100000
set_option autoImplicit false
theorem BSealG_ct [Tabs] (g : Engine) (hw : g.Wf) (hs : g.Sm) (hg : g.ok) (k : List Int) (hk : Byt k) (hkl : k.length < 100000) (x : Bundle) (hx : x.Wf) (ho : x.ok) :
    CtT Tryd.prog 25 [g.T, .sl 1 (bys k), x.T] (Ret (.t (resSeal (tagG g k (bbytes x)).1 (bbytes x ++ (tagG g k (bbytes x)).2) (.v .nilIface))) []) := by
  refine CtT.ofN Tryd.func25 rfl rfl (n := 41) rfl ?_
  have hl := bbytes_len ho
  refine Told.callT (BBytes_ct x hx ho) rfl rfl rfl rfl ?_
  have kt := TagG_ct g hw hs hg k (bbytes x) hk (bbytes_byt hx ho) hkl (by omega) ⟨by simp only; omega, by simp only; omega⟩
  have hpl := tagG_len g k (bbytes x)
  generalize tagG g k (bbytes x) = p at kt hpl
  refine Told.callT kt rfl rfl rfl rfl ?_
  refine Told.callT (ConcatB_ct [bbytes x, p.2] (by simp) (by simp [hpl]; omega)) rfl rfl rfl rfl ?_
  refine ⟨_, rfl, ?_⟩
  rw [show [bbytes x, p.2].flatten = bbytes x ++ p.2 by simp]
  exact .refl _
theorem readB_seal [Tabs] {x : Bundle} (hw : x.Wf) (ho : x.ok) {t : List Int} (ht : t.length = 8) : readB (bbytes x ++ t) = (x, ((bbytes x).length : Int), 0) ∧ openI (bbytes x ++ t) = 0 := by
  have h := readB_app hw ho t
  refine ⟨h, ?_⟩
  unfold openI
  rw [h]
  have : ((bbytes x ++ t).length : Int) - ((bbytes x).length : Int) = 8 := by rw [List.length_append, ht]; omega
  simp only [this]
  decide
theorem BundleBack_g [Tabs] (g : Engine) (hw : g.Wf) (key : List Int) (hk : Byt key) (x : Bundle) (hx : x.Wf) (b : List Int) (hb : Byt b) :
    CtT Tryd.prog 6 [g.T, .sl 1 (bys key), x.T, .sl 1 (bys b)] (Ret (.bool true) []) := by
  refine Ct.of Tryd.func6 rfl rfl (n := 187) rfl (by simp [ids]) ?_
  refine Told.callT awake16_ct rfl rfl rfl rfl ?_
  obtain ⟨z, hz, ks⟩ := small16_ct g key b
  refine Told.callT ks rfl rfl rfl rfl ?_
  cases z with
  | false => exact ⟨[], _, _, ⟨rfl, rfl⟩, rfl, trivial, rfl⟩
  | true =>
  obtain ⟨h1, h2, h3⟩ := hz rfl
  have sm : g.Sm := ⟨by have := h1.1; omega, fun t ht => by have := h1.2 t ht; exact ⟨by omega, by omega⟩⟩
  obtain ⟨z, hz, ks⟩ := BShort_ct x
  refine Told.callT ks rfl rfl rfl rfl ?_
  cases z with
  | false => exact ⟨[], _, _, ⟨rfl, rfl⟩, rfl, trivial, rfl⟩
  | true =>
  obtain ⟨s1, s2, s3⟩ := hz rfl
  have seedB : ∀ {y : Bundle}, y.Wf → ∀ e ∈ y.entries, Byt e.seed := fun hy e he => (hy.entries e he).seed
  have zw : zeroB.Wf := ⟨by constructor <;> decide, (by intro e he; cases he), (by intro e he; cases he)⟩
  have kzz := BSame_ct zeroB zeroB (seedB zw) (seedB zw) (by decide) (by decide) (by decide) (by decide)
  rw [decide_eq_true rfl] at kzz
  -- the other bytes, opened
  have tail : ∃ (c : Bundle) (f : T), CtT Tryd.prog 26 [g.T, .sl 1 (bys key), .sl 1 (bys b)] (Ret (.t (resBOpen c f)) []) ∧
      ((c = zeroB ∧ ∃ n, f = FaultI 4 n) ∨ (f = .v .nilIface ∧ c.ok ∧ c.Wf ∧ g.ok ∧ bbytes c ++ (tagG g key (bbytes c)).2 = b)) := by
    by_cases hs : openI b = 0
    · obtain ⟨n, hn1, hn2, hn3, hn4⟩ := openI_facts hb hs
      obtain ⟨w1, w2, m, w3, w4, w5⟩ := readB_inv hb hn1
      have hm : m = b.length - 8 := by rw [hn3] at w3; omega
      rw [hm] at w5
      by_cases ok : g.ok
      · have kf := FitsG_ct g hw sm ok key (b.take (b.length - 8)) (b.drop (b.length - 8)) hk (hb.take _) (hb.drop _) (by simp; omega) (by omega) (by rw [List.length_take]; omega) ⟨by simp only; omega, by simp only [List.length_take]; omega⟩
        have ko := BOpen_ct g key b hb (by omega) hs _ kf
        by_cases hf : fitG g key (b.take (b.length - 8)) (b.drop (b.length - 8))
        · rw [decide_eq_true hf] at ko
          refine ⟨_, _, ko, .inr ⟨rfl, w2, w1, ok, ?_⟩⟩
          rw [w5, fitG_tag hf, List.take_append_drop]
        · rw [decide_eq_false hf] at ko
          exact ⟨_, _, ko, .inl ⟨rfl, _, rfl⟩⟩
      · have ko := BOpen_ct g key b hb (by omega) hs _ (FitsN_ct g hw sm ok key (b.take (b.length - 8)) (b.drop (b.length - 8)))
        exact ⟨_, _, ko, .inl ⟨rfl, _, rfl⟩⟩
    · exact ⟨_, _, BOpenE_ct g key b hb (by omega) hs, .inl ⟨rfl, _, rfl⟩⟩
  -- the other bytes, read
  have kread := BRead_ct b hb (by omega)
  have hread := readB_cases hb
  have hinv := readB_inv hb
  obtain ⟨rz, rn, ri, hr⟩ : ∃ z n i, readB b = (z, n, i) := ⟨_, _, _, rfl⟩
  rw [hr] at kread hread hinv
  simp only at hread hinv
  have readA : x.ok → CtT Tryd.prog 23 [.sl 1 (bys (bbytes x) ++ bys b)] (Ret (.t (resRead (x, ((bbytes x).length : Int), 0))) []) := fun ok => by
    have := BRead_ct (bbytes x ++ b) ((bbytes_byt hx ok).append hb) (by have := bbytes_len ok; rw [List.length_append]; omega)
    rwa [readB_app hx ok, bys_append] at this
  have kxx := BSame_ct x x (seedB hx) (seedB hx) (by omega) (by omega) (by omega) (by omega)
  rw [decide_eq_true rfl] at kxx
  have krx := BRight_ct x (by omega) (by omega)
  rcases (show (x.ok ∧ g.ok) ∨ (x.ok ∧ ¬ g.ok) ∨ ¬ x.ok from by by_cases h : x.ok <;> by_cases h' : g.ok <;> simp [h, h']) with ⟨ok, gok⟩ | ⟨ok, gok⟩ | ok
  case' inl =>
    have hbl := bbytes_len ok
    have ksl := BSealG_ct g hw sm gok key hk (by omega) x hx ok
    have hgl := tagG_len g key (bbytes x)
    have hgb := tagG_byt g key (bbytes x)
    have hgo := tagG_ok gok key (bbytes x)
    have hgw := tagG_wf hw hk (bbytes_byt hx ok)
    have hgs := tagG_sm sm (by have := h1.1; omega) (k := key) (m := bbytes x) ⟨by simp only; omega, by simp only; omega⟩
    have hgf := tagG_fit (g := g) key (bbytes x)
    obtain ⟨p, hp⟩ : ∃ p, p = tagG g key (bbytes x) := ⟨_, rfl⟩
    rw [← hp] at ksl hgl hgb hgo hgw hgs hgf
    obtain ⟨hr1, hr2⟩ := readB_seal hx ok hgl
    obtain ⟨s, hs⟩ : ∃ s, s = bbytes x ++ p.2 := ⟨_, rfl⟩
    have hsl : s.length = (bbytes x).length + 8 := by rw [hs, List.length_append, hgl]
    have hsb : Byt s := by rw [hs]; exact (bbytes_byt hx ok).append hgb
    have e1 : s.take (s.length - 8) = bbytes x := by rw [hsl, hs, List.take_left' (by omega)]
    have e2 : s.drop (s.length - 8) = p.2 := by rw [hsl, hs, List.drop_left' (by omega)]
    rw [← hs] at ksl hr1 hr2
    have kf := FitsG_ct p.1 hgw hgs hgo key (s.take (s.length - 8)) (s.drop (s.length - 8)) hk (hsb.take _) (hsb.drop _) (by simp; omega) (by omega) (by rw [List.length_take]; omega) ⟨by simp only; omega, by simp only [List.length_take]; omega⟩
    rw [decide_eq_true (by rw [e1, e2]; exact hgf)] at kf
    have ko := BOpen_ct p.1 key s hsb (by omega) hr2 _ kf
    rw [hr1] at ko
    refine Told.callT (BBytes_ct x hx ok) rfl rfl rfl rfl ?_
    refine ⟨by show _ * 1 ≤ _; simp; omega, by show _ * 1 ≤ _; simp; omega, ?_⟩
    refine Told.callT (readA ok) rfl rfl rfl rfl ?_
    conv => whnf
    refine brF (by rw [bys_len]; simp) ?_
    refine Told.callT kxx rfl rfl rfl rfl ?_
    refine Told.callT ksl rfl rfl rfl rfl ?_
    refine Told.callT ko rfl rfl rfl rfl ?_
    refine Told.callT kxx rfl rfl rfl rfl ?_
    conv => whnf
    refine brF (by rw [bys_len, bys_len, wi (by omega) (by omega), hsl, decide_eq_true (by omega)]; rfl) ?_
  case' inr.inl =>
    have hbl := bbytes_len ok
    rw [decide_eq_true ok] at krx
    have km := MRight_ct g hw sm
    rw [decide_eq_false gok] at km
    refine Told.callT (BBytes_ct x hx ok) rfl rfl rfl rfl ?_
    refine ⟨by show _ * 1 ≤ _; simp; omega, by show _ * 1 ≤ _; simp; omega, ?_⟩
    refine Told.callT (readA ok) rfl rfl rfl rfl ?_
    conv => whnf
    refine brF (by rw [bys_len]; simp) ?_
    refine Told.callT kxx rfl rfl rfl rfl ?_
    refine Told.callT (BSealN_ct g hw sm gok key x hx ok) rfl rfl rfl rfl ?_
    refine Told.callT krx rfl rfl rfl rfl ?_
    refine Told.callT km rfl rfl rfl rfl ?_
  case' inr.inr =>
    rw [decide_eq_false ok] at krx
    refine Told.callT (BBytesN_ct x (by omega) (by omega) ok) rfl rfl rfl rfl ?_
    refine Told.callT (BSealA_ct g key x (by omega) (by omega) ok) rfl rfl rfl rfl ?_
    refine Told.callT krx rfl rfl rfl rfl ?_
  all_goals
    obtain ⟨c, f, kt, ht⟩ := tail
    refine Told.callT kread rfl rfl rfl rfl ?_
    rcases hread with ⟨hi, rfl, rfl⟩ | ⟨rfl, _, _, _⟩
    · conv => whnf
      refine brF (decide_eq_false hi) ?_
      refine Told.callT (kzz.tas (by repeat constructor)) rfl rfl rfl rfl ?_
      refine Told.callT kt rfl rfl rfl rfl ?_
      rcases ht with ⟨rfl, n, rfl⟩ | ⟨rfl, cok, cwf, gok, hcb⟩
      · refine Told.callT (kzz.tas (by repeat constructor)) rfl rfl rfl rfl ?_
        exact ⟨[], _, _, ⟨rfl, rfl⟩, rfl, trivial, rfl⟩
      · have kss := BSealG_ct g hw sm gok key hk (by omega) c cwf cok
        rw [hcb] at kss
        refine Told.callT kss rfl rfl rfl rfl ?_
        refine ⟨_, rfl, _, rfl, fun q hq => ?_⟩
        have hq : q = true := by rw [hq]; simp
        subst hq
        exact ⟨[], _, _, ⟨rfl, rfl⟩, rfl, trivial, rfl⟩
    · obtain ⟨w1, w2, n, w3, w4, w5⟩ := hinv rfl
      have kr := BRight_ct rz (by have := w2.len; omega) (by have := w2.gone.len; omega)
      rw [decide_eq_true w2] at kr
      refine Told.callT (BBytes_ct rz w1 w2) rfl rfl rfl rfl ?_
      refine Told.callT kr rfl rfl rfl rfl ?_
      subst w3
      conv => whnf
      refine brF (by rw [bys_len]; exact decide_eq_false (by simp only; omega)) ?_
      refine ⟨_, rfl, by decide, by omega, by rw [bys_len]; omega, b.take n, (bys_take _ _).symm, fun q hq => ?_⟩
      have hq : q = false := by rw [hq]; simp [w5]
      subst hq
      refine Told.callT kt rfl rfl rfl rfl ?_
      rcases ht with ⟨rfl, n, rfl⟩ | ⟨rfl, cok, cwf, gok, hcb⟩
      · refine Told.callT (kzz.tas (by repeat constructor)) rfl rfl rfl rfl ?_
        exact ⟨[], _, _, ⟨rfl, rfl⟩, rfl, trivial, rfl⟩
      · have kss := BSealG_ct g hw sm gok key hk (by omega) c cwf cok
        rw [hcb] at kss
        refine Told.callT kss rfl rfl rfl rfl ?_
        refine ⟨_, rfl, _, rfl, fun q hq => ?_⟩
        have hq : q = true := by rw [hq]; simp
        subst hq
        exact ⟨[], _, _, ⟨rfl, rfl⟩, rfl, trivial, rfl⟩
end
end Go.Proofs.YtonihdgidhflnaaDoorX
namespace Go.Proofs.YtonihdgidhflnaaDoorX
section
open Go Go.YtonihdgidhflnaaDoorE Go.Proofs
set_option maxRecDepth 100000
set_option autoImplicit false
theorem Gon.exc_U [Tabs] {n : Nat} {ts : List T} (h : WfC Tryd.prog n 89 ts) : ∃ x : Gon.U, ts = [.int .u64 x.t, .int .u64 x.e] ∧ x.Wf := by
  obtain ⟨hl, m, hf⟩ := h.struct Tryd.underlying89
  obtain ⟨c0, c1, rfl⟩ : ∃ c0 c1, ts = [c0, c1] := by
    match ts, hl.trans rfl with
    | [c0, c1], _ => exact ⟨c0, c1, rfl⟩
  obtain ⟨x0, e0, w0⟩ := (hf _ (List.mem_cons_self ..)).int Tryd.underlying24
  replace e0 : [c0] = _ := e0
  simp only [List.cons.injEq, and_true] at e0
  subst e0
  obtain ⟨x1, e1, w1⟩ := (hf _ (List.mem_cons_of_mem _ (List.mem_cons_self ..))).int Tryd.underlying24
  replace e1 : [c1] = _ := e1
  simp only [List.cons.injEq, and_true] at e1
  subst e1
  exact ⟨⟨x0, x1⟩, rfl, ⟨wf_u64 w0, wf_u64 w1⟩⟩
theorem Gon.ex_U' [Tabs] {n : Nat} {ts : List T} (h : WfC Tryd.prog n 89 ts) : ∃ x : Gon.U, mkE Tryd.prog 89 ts = x.T ∧ x.Wf := by
  obtain ⟨x, rfl, w⟩ := Gon.exc_U h
  exact ⟨x, rfl, w⟩
theorem Gon.exs_U' [Tabs] {n : Nat} {ts : List T} (h : WfC Tryd.prog n 50 ts) : ∃ l : List Gon.U, mkE Tryd.prog 50 ts = .sl 2 (l.map Gon.U.T) ∧ ∀ x ∈ l, x.Wf := by
  obtain ⟨l, m', rfl, _, hl'⟩ := h.slice Tryd.underlying50
  obtain ⟨r, rfl, hr⟩ := row_of (f := Gon.U.T) (p := Gon.U.Wf) hl' (fun cs hcs => Gon.ex_U' hcs)
  exact ⟨r, rfl, hr⟩
theorem exc_Entry [Tabs] {n : Nat} {ts : List T} (h : WfC Tryd.prog n 55 ts) : ∃ x : Entry, ts = [.int .u64 x.t, .int .u64 x.e, .sl 1 (bys x.seed)] ∧ x.Wf := by
  obtain ⟨hl, m, hf⟩ := h.struct Tryd.underlying55
  obtain ⟨c0, c1, c2, rfl⟩ : ∃ c0 c1 c2, ts = [c0, c1, c2] := by
    match ts, hl.trans rfl with
    | [c0, c1, c2], _ => exact ⟨c0, c1, c2, rfl⟩
  obtain ⟨x0, e0, w0⟩ := (hf _ (List.mem_cons_self ..)).int Tryd.underlying24
  replace e0 : [c0] = _ := e0
  simp only [List.cons.injEq, and_true] at e0
  subst e0
  obtain ⟨x1, e1, w1⟩ := (hf _ (List.mem_cons_of_mem _ (List.mem_cons_self ..))).int Tryd.underlying24
  replace e1 : [c1] = _ := e1
  simp only [List.cons.injEq, and_true] at e1
  subst e1
  obtain ⟨x2, e2, w2⟩ := ex_bys' (hf _ (List.mem_cons_of_mem _ (List.mem_cons_of_mem _ (List.mem_cons_self ..))))
  replace e2 : c2 = _ := e2
  subst e2
  exact ⟨⟨x0, x1, x2⟩, rfl, ⟨wf_u64 w0, wf_u64 w1, w2⟩⟩
theorem ex_Entry' [Tabs] {n : Nat} {ts : List T} (h : WfC Tryd.prog n 55 ts) : ∃ x : Entry, mkE Tryd.prog 55 ts = x.T ∧ x.Wf := by
  obtain ⟨x, rfl, w⟩ := exc_Entry h
  exact ⟨x, rfl, w⟩
theorem exs_Entry' [Tabs] {n : Nat} {ts : List T} (h : WfC Tryd.prog n 49 ts) : ∃ l : List Entry, mkE Tryd.prog 49 ts = .sl 3 (l.map Entry.T) ∧ ∀ x ∈ l, x.Wf := by
  obtain ⟨l, m', rfl, _, hl'⟩ := h.slice Tryd.underlying49
  obtain ⟨r, rfl, hr⟩ := row_of (f := Entry.T) (p := Entry.Wf) hl' (fun cs hcs => ex_Entry' hcs)
  exact ⟨r, rfl, hr⟩
theorem exc_Bundle [Tabs] {n : Nat} {ts : List T} (h : WfC Tryd.prog n 52 ts) : ∃ x : Bundle, ts = [.int .u64 x.v, .sl 3 (x.entries.map Entry.T), .sl 2 (x.gone.map Gon.U.T)] ∧ x.Wf := by
  obtain ⟨hl, m, hf⟩ := h.struct Tryd.underlying52
  obtain ⟨c0, c1, c2, rfl⟩ : ∃ c0 c1 c2, ts = [c0, c1, c2] := by
    match ts, hl.trans rfl with
    | [c0, c1, c2], _ => exact ⟨c0, c1, c2, rfl⟩
  obtain ⟨x0, e0, w0⟩ := (hf _ (List.mem_cons_self ..)).int Tryd.underlying24
  replace e0 : [c0] = _ := e0
  simp only [List.cons.injEq, and_true] at e0
  subst e0
  obtain ⟨x1, e1, w1⟩ := exs_Entry' (hf _ (List.mem_cons_of_mem _ (List.mem_cons_self ..)))
  replace e1 : c1 = _ := e1
  subst e1
  obtain ⟨x2, e2, w2⟩ := Gon.exs_U' (hf _ (List.mem_cons_of_mem _ (List.mem_cons_of_mem _ (List.mem_cons_self ..))))
  replace e2 : c2 = _ := e2
  subst e2
  exact ⟨⟨x0, x1, x2⟩, rfl, ⟨wf_u64 w0, w1, w2⟩⟩
theorem ex_Bundle' [Tabs] {n : Nat} {ts : List T} (h : WfC Tryd.prog n 52 ts) : ∃ x : Bundle, mkE Tryd.prog 52 ts = x.T ∧ x.Wf := by
  obtain ⟨x, rfl, w⟩ := exc_Bundle h
  exact ⟨x, rfl, w⟩
end
end Go.Proofs.YtonihdgidhflnaaDoorX
namespace Go.Proofs.YtonihdgidhflnaaDoorX
section
open Go Go.YtonihdgidhflnaaDoorE Go.Proofs Go.RowKit
set_option maxRecDepth 100000
set_option autoImplicit false
theorem ownNone : ownKnob Tryd.prog.godebug = none := by kernel_rfl
theorem laidAt : Tryd.prog.globalNamed "errors.errorType" = some 0 := by kernel_rfl
theorem laidRt : (Tryd.prog.cutTypes.find? (·.1 == "internal/reflectlite.rtype")).map (·.2) = some 138 := by kernel_rfl
theorem oneRow : ((List.range Tryd.prog.types.size).filter fun t => Tryd.prog.rowNamed t [101, 114, 114, 111, 114]) = [32] := by kernel_rfl
abbrev LaidL : List (String × DataW Unit) := [("errors.errorType", .iface "internal/reflectlite.rtype" (.agg [.ptr (.lit (.string [101, 114, 114, 111, 114]))]))]
theorem handle_of_laid {W : World} (h : laidMetH Tryd.prog LaidL W) : W.cell? ⟨0, 0, none⟩ = some (.iface 138 (.agg #[.pointer (some ⟨3, 32, none⟩)])) := by
  have h' : laidMet Tryd.prog [] W ∧ handlesMet Tryd.prog LaidL W := h
  obtain ⟨name, u, ty, e1, e2, e3, e4, e5⟩ := h'.2 _ (List.mem_singleton.2 rfl)
  have en : name = [101, 114, 114, 111, 114] := (Option.some.inj e1).symm
  subst en
  obtain rfl := Option.some.inj (laidRt.symm.trans e2)
  have hm : ty ∈ (List.range Tryd.prog.types.size).filter fun t => Tryd.prog.rowNamed t [101, 114, 114, 111, 114] := List.mem_filter.2 ⟨List.mem_range.2 e3, e4⟩
  rw [oneRow] at hm
  obtain rfl := List.mem_singleton.1 hm
  have hh : typeHandle Tryd.prog 32 = .pointer (some ⟨3, 32, none⟩) := by kernel_rfl
  rw [hh] at e5
  simpa using World.var?_cell laidAt e5 0
noncomputable def laidWorld (os : Os) : World :=
  let w0 := World.holding Tryd.prog os ⟨#[], #[], []⟩
  { w0 with heap := w0.heap.modify 0 fun
      | .cells _ t frozen => .cells #[.iface 138 (.agg #[.pointer (some ⟨3, 32, none⟩)])] t frozen
      | o => o }
theorem laidWorld_met (os : Os) (args : Array Value) : laidMetH Tryd.prog LaidL ((laidWorld os).forCall (fun _ _ => 0) ⟨#[], args, []⟩).memory :=
  laidMetH_of_parts (laidMet_nil _ _) (by kernel_rfl)
theorem ints_of_shaped {P : Program} {w : World} {g : Nat} {t u : TypeId} {k : IntKind} (n : Nat) (h : w.ShapedOpen P) (hg : g < P.globals.size)
    (h0 : (((begin P (fun _ _ => 0) default).world.heap[g]?).bind Obj.row?).any (fun z => z.1.size == n && z.2 == t) = true)
    (hb : P.buildable t = true) (hc : P.cellTypes P.depth t = some (List.replicate n u)) (hu : P.underlying u = some (.int k)) :
    g < w.heap.size ∧ ∃ f : Nat → Int, ∀ i, i < n → w.cell? ⟨g, i, none⟩ = some (.int k (f i)) := by
  obtain ⟨⟨zero, t'⟩, e0, e1⟩ := (Option.any_eq_true _ _).1 h0
  simp only [Bool.and_eq_true, beq_iff_eq] at e1
  obtain ⟨e1, rfl⟩ := e1
  obtain ⟨cs, hh, hs, hr⟩ := h.1 g zero t' hg e0
  obtain ⟨ts, hts, _, hall⟩ := hr hb
  rw [hc] at hts
  cases hts
  have key : ∀ i, ∃ m, i < n → w.cell? ⟨g, i, none⟩ = some (.int k m) := fun i => by
    by_cases hi : i < n
    · have h1 : i < cs.size := by omega
      obtain ⟨u', hu', hok⟩ := hall i cs[i] (by simp [h1])
      have : u' = u := by
        have h2 : (List.replicate n u)[i % (List.replicate n u).length]? = some u := by rw [List.length_replicate, Nat.mod_eq_of_lt hi, List.getElem?_replicate]; simp [hi]
        exact Option.some.inj (hu'.symm.trans h2)
      subst this
      have hcell : w.cell? ⟨g, i, none⟩ = some cs[i] := by simp [World.cell?, hh, h1]
      rw [hcell]
      unfold Cell.ok at hok
      rw [hu] at hok
      cases hv : cs[i] <;> rw [hv] at hok <;> simp at hok
      case int k' m => exact ⟨m, fun _ => by rw [hok.1]⟩
    · exact ⟨0, fun h => absurd h hi⟩
  refine ⟨(Array.getElem?_eq_some_iff.1 hh).1, fun i => Classical.choose (key i), fun i hi => Classical.choose_spec (key i) hi⟩
theorem HT.tab {w : World} {g n : Nat} {k : IntKind} {f : Nat → Int} (hb : g < w.heap.size) (h : ∀ i, i < n → w.cell? ⟨g, i, none⟩ = some (.int k (f i))) (l : List T) (hl : l = (List.range n).map fun i => .v (.int k (f i))) :
    HT w (fun _ => False) (.pt l) (.pointer (some ⟨g, 0, none⟩)) := by
  subst hl
  refine .pt _ g 0 (fun i => .int k (f i)) (fun h => h) hb ?_ ?_ ?_
  · intro y hy
    obtain ⟨i, _, rfl⟩ := List.mem_map.1 hy
    rfl
  · intro i hi
    rw [List.length_map, List.length_range] at hi
    rw [Nat.zero_add]
    exact h i hi
  · intro i x hx
    rw [List.getElem?_map] at hx
    obtain ⟨j, hj, rfl⟩ := Option.map_eq_some_iff.1 hx
    obtain ⟨hi, hj⟩ := List.getElem?_eq_some_iff.1 hj
    rw [List.getElem_range] at hj
    subst hj
    exact .v _
theorem globs_of {W : World} (hL : laidMetH Tryd.prog LaidL W) (hS : W.ShapedOpen Tryd.prog) : ∃ i : Tabs, @Globs i W := by
  have h0 := handle_of_laid hL
  obtain ⟨b1, f1, h1⟩ := ints_of_shaped (g := 1) (t := 177) (u := 112) (k := .u32) 8 hS (of_decide_eq_true (by kernel_rfl)) (by kernel_rfl) (by kernel_rfl) (by kernel_rfl) (by kernel_rfl)
  obtain ⟨b2, f2, h2⟩ := ints_of_shaped (g := 2) (t := 188) (u := 112) (k := .u32) 64 hS (of_decide_eq_true (by kernel_rfl)) (by kernel_rfl) (by kernel_rfl) (by kernel_rfl) (by kernel_rfl)
  refine ⟨⟨f2, f1⟩, List.forall_mem_cons.2 ⟨?_, List.forall_mem_cons.2 ⟨HT.tab b2 h2 _ rfl, List.forall_mem_cons.2 ⟨HT.tab b1 h1 _ rfl, fun _ h => by cases h⟩⟩⟩⟩
  have hb : 0 < W.heap.size := by omega
  refine .pt _ 0 0 (fun _ => .iface 138 (.agg #[.pointer (some ⟨3, 32, none⟩)])) (fun h => h) hb (fun y hy => by rcases List.mem_singleton.1 hy with rfl; rfl) ?_ ?_
  · intro i hi
    have : i = 0 := by simp at hi; exact hi
    subst this
    exact h0
  · intro i x hx
    match i, hx with
    | 0, hx =>
      cases hx
      refine .iface _ _ _ (.agg [.v (.pointer (some ⟨3, 32, none⟩))] [.pointer (some ⟨3, 32, none⟩)] rfl (fun i x y hx hy => ?_))
      match i, hx, hy with
      | 0, hx, hy => cases hx; cases hy; exact .v _
theorem lift_shaped {H : Type} {enc : TypeId × Value → H} {a : Assume} {C : Checked} {os : Os} {f : FuncId} {fn : Func} {s : ChangeSpec} {conds : List PathCond} {apart fresh handsOn again : Bool} {X : World → Prop}
    (hX : ∀ (w w' : World), w.heap = w'.heap → X w → X w')
    (own : ownKnob C.prog.godebug = none) (started : os.Started) (noInit : C.prog.inits.idxOf? f = none) (hfn : C.prog.funcs[f]? = some fn)
    (witness : ∃ (w : World) (tape : Tape) (i : Input), w.os = os ∧ (w.forCall tape i).Shaped C.prog ∧ i.vars = [] ∧ Input.okWide C.prog (w.forCall tape i) .any w.heap.size f i ∧
      ((s.pre enc C.prog fn conds apart (w.forCall tape i).memory i.args ∧ X (w.forCall tape i).memory) ∧ sizedMet enc C.prog fn (OpenSpec.ofChange s) apart (w.forCall tape i).memory i.args) ∧ a.holds C.prog (lone (Frame.enter C.prog f i.args .normal) [] (w.forCall tape i)))
    (told : ∀ (W : World) (base : Nat) (args : Array Value) (ds gs : List (DataW H)) (before : List MemPlace),
      (∀ (j : Nat) t v, fn.params[j]? = some t → args[j]? = some v → Value.okWide C.prog W .any base t v) →
      DataW.Whole enc C.prog fn.params.toList s.vars apart W args.toList ds gs before → X W → W.ShapedOpen C.prog →
      Calls C.prog f args W fun e W' => ∃ v, e = .returned v ∧ s.post enc C.prog fn apart fresh handsOn again W args v W') :
    ReturnsInHanded a C os f .any (fun w args => (s.pre enc C.prog fn conds apart w args ∧ X w) ∧ sizedMet enc C.prog fn (OpenSpec.ofChange s) apart w args) (s.post enc C.prog fn apart fresh handsOn again) := by
  refine returnsInHanded_of_calls own started noInit witness ?_
  intro w tape i _ hsh _ hok hpre _
  obtain ⟨_, _, _, fn', hfn', _, _, _, _, hval⟩ := hok
  obtain rfl : fn' = fn := Option.some.inj (hfn'.symm.trans hfn)
  obtain ⟨⟨⟨ds, gs, before, hw, _⟩, hx⟩, _⟩ := hpre
  refine (told (w.forCall tape i) w.heap.size i.args ds gs before hval (DataW.Whole.of_heap (w' := w.forCall tape i) (by rfl) hw) (hX _ _ (by rfl) hx) hsh).mono fun e W' ⟨v, he, hp⟩ => ?_
  subst he
  exact ChangeSpec.post_blind hp
end
end Go.Proofs.YtonihdgidhflnaaDoorX
