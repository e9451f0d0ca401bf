-- Written by hand for this claim's session.
import Derived.Test.YtppifophcphdkaaRows
import Derived.HandedShaped
import Derived.JoinedOf
import Derived.RowKit
import Derived.Test.YtppifophcphdkaaTxA
namespace Go.Proofs.YtppifophcphdkaaX
section
open Go Go.YtppifophcphdkaaE Go.Proofs
set_option maxRecDepth 100000
set_option autoImplicit false
theorem cnt_all {a b : List GF} (hl : b.length = a.length) (h : cnt a b a.length = 0) : a = b := by
  have key : ∀ i, cnt a b i = 0 → ∀ j, j < i → a.getD j 0 = b.getD j 0 := fun i => by
    induction i with
    | zero => intro _ j hj; omega
    | succ i ih =>
      intro h j hj
      unfold cnt at h
      by_cases e : a.getD i 0 = b.getD i 0
      · rw [if_pos e] at h
        by_cases hji : j = i
        · subst hji; exact e
        · exact ih (by omega) j (by omega)
      · rw [if_neg e] at h; omega
  apply List.ext_getElem hl.symm
  intro i h1 h2
  have := key _ h i h1
  rwa [List.getD_eq_getElem?_getD, List.getD_eq_getElem?_getD, List.getElem?_eq_getElem h1, List.getElem?_eq_getElem h2] at this
theorem mendR_cases [Tabs] (b : List GF) (n : Nat) (loc : List GF) (size : Nat) :
    (Pl.plain (signsL b n) = [] ∧ mendR b n loc size = ⟨b, 0, 0⟩) ∨ (Pl.plain (signsL b n) ≠ [] ∧ mendR b n loc size = ⟨[], 0, 6⟩) ∨
    (Pl.plain (signsL b n) ≠ [] ∧ ∃ x : List GF, x.length = b.length ∧ Pl.plain (signsL x n) = [] ∧ cnt b x b.length ≤ n / 2 ∧ mendR b n loc size = ⟨x, cnt b x b.length, 0⟩) := by
  unfold mendR
  split
  · rename_i h; exact .inl ⟨h, rfl⟩
  · rename_i h
    split
    · exact .inr (.inl ⟨h, rfl⟩)
    · split
      · exact .inr (.inl ⟨h, rfl⟩)
      · rename_i h2
        refine .inr (.inr ⟨h, mendedL b n loc, addAt_len _ _ _ _, ?_, by omega, rfl⟩)
        exact Classical.byContradiction fun hn => h2 (.inl hn)
theorem MendFine_g [Tabs] (l : List Int) (hb : Byt l) (n : Int) (hn : I64 n) : CtT Try.prog 5 [.sl 1 (bys l), .int .i64 n] (Ret (.bool true) []) := by
  obtain ⟨b, rfl⟩ := gfs_of hb
  have hbl : ∀ l : List GF, (bys (gfs l)).length = l.length := fun l => by rw [bys_len, gfs_len]
  refine Ct.of Try.func5 rfl rfl (n := 106) rfl (by simp [ids]) ?_
  refine Told.callT awake10_ct rfl rfl rfl rfl ?_
  conv => whnf
  refine brB (fun _ => ?_) (fun hl => ?_)
  · exact ⟨[], _, _, ⟨rfl, rfl⟩, rfl, trivial, rfl⟩
  have hl : b.length ≤ 255 := by have := of_decide_eq_false hl; rw [hbl] at this; omega
  by_cases hd : 1 ≤ n ∧ n ≤ 64 ∧ n ≤ b.length ∧ b.length ≤ 255
  case neg =>
    obtain ⟨c, hc, k⟩ := MendN_ct b n hn (by omega) hd
    refine Told.callT k rfl rfl rfl rfl ?_
    conv => whnf
    refine brT (by simpa using hc) ?_
    refine Told.callT (FineN_ct b n hn (by omega) hd) rfl rfl rfl rfl ?_
    exact ⟨[], _, _, ⟨rfl, rfl⟩, rfl, trivial, rfl⟩
  obtain ⟨d1, d2, d3, d4⟩ := hd
  obtain ⟨m, rfl⟩ : ∃ m : Nat, n = m := ⟨n.toNat, by omega⟩
  obtain ⟨x, hx, km⟩ := Mend_ct b m (by omega) (by omega) (by omega) hl
  have kf := Fine_ct b m (by omega) (by omega) (by omega) hl
  -- from a result that is fine on
  have fin : ∀ y : List GF, y.length = b.length → Pl.plain (signsL y m) = [] → mendR b m x.1 x.2.2.1 = ⟨y, cnt b y b.length, 0⟩ → cnt b y b.length ≤ m / 2 → (Pl.plain (signsL b m) = [] ↔ cnt b y b.length = 0) →
      CtT Try.prog 8 [.sl 1 (bys (gfs b)), .int .i64 (m : Int)] (Ret (.t (MendR.T ⟨y, cnt b y b.length, 0⟩)) []) ∧ CtT Try.prog 8 [.sl 1 (bys (gfs y)), .int .i64 (m : Int)] (Ret (.t (MendR.T ⟨y, 0, 0⟩)) []) ∧ CtT Try.prog 11 [.sl 1 (bys (gfs y)), .int .i64 (m : Int)] (Ret (.bool true) []) := by
    intro y hy hp hr hc hiff
    obtain ⟨x', hx', km'⟩ := Mend_ct y m (by omega) (by omega) (by omega) (by omega)
    have kf' := Fine_ct y m (by omega) (by omega) (by omega) (by omega)
    rw [decide_eq_true hp] at kf'
    rw [hr] at km
    rw [mendR, if_pos hp] at km'
    exact ⟨km, km', kf'⟩
  have h0 : ∀ i, cnt b b i = 0 := fun i => by
    induction i with
    | zero => rfl
    | succ i ih => unfold cnt; rw [ih, if_pos rfl]
  rcases mendR_cases b m x.1 x.2.2.1 with ⟨h1, h2⟩ | ⟨h1, h2⟩ | ⟨h1, y, h3, h4, h5, h2⟩
  case inr.inl =>
    rw [h2] at km
    rw [decide_eq_false h1] at kf
    refine Told.callT km rfl rfl rfl rfl ?_
    refine Told.callT kf rfl rfl rfl rfl ?_
    exact ⟨[], _, _, ⟨rfl, rfl⟩, rfl, trivial, rfl⟩
  case' inl =>
    obtain ⟨y, hyb⟩ : ∃ y, y = b := ⟨b, rfl⟩
    have hy : y.length = b.length := by rw [hyb]
    have hp : Pl.plain (signsL y m) = [] := by rw [hyb]; exact h1
    have hc : cnt b y b.length ≤ m / 2 := by rw [hyb, h0]; omega
    have hr : mendR b m x.1 x.2.2.1 = ⟨y, cnt b y b.length, 0⟩ := by rw [h2, hyb, h0]
    have hiff : Pl.plain (signsL b m) = [] ↔ cnt b y b.length = 0 := by rw [hyb, h0]; exact ⟨fun _ => rfl, fun _ => h1⟩
    clear hyb h1 h2
  case' inr.inr =>
    have hy : y.length = b.length := h3
    have hp : Pl.plain (signsL y m) = [] := h4
    have hc : cnt b y b.length ≤ m / 2 := h5
    have hr : mendR b m x.1 x.2.2.1 = ⟨y, cnt b y b.length, 0⟩ := h2
    have hiff : Pl.plain (signsL b m) = [] ↔ cnt b y b.length = 0 := ⟨fun h => absurd h h1, fun h => absurd (by rw [cnt_all hy h]; exact hp) h1⟩
    clear h1 h2 h3 h4 h5
  all_goals
    obtain ⟨k1, k2, k3⟩ := fin y hy hp hr hc hiff
    have hcl := cnt_le b y b.length
    refine Told.callT k1 rfl rfl rfl rfl ?_
    conv => whnf
    refine brF (by rw [hbl, hbl, hy]; simp) ?_
    refine ⟨Nat, fun i => [(0, .t (.sl 1 (bys (gfs b)))), (1, .int .i64 m), (5, .t (.sl 1 (bys (gfs y)))), (6, .int .i64 (cnt b y b.length)), (8, .int .i64 (cnt b y i)), (9, .int .i64 i)], fun i => [], fun i => i ≤ b.length, fun i => b.length - i, 0, Nat.zero_le _, Le.of [] ⟨rfl, rfl, rfl, rfl, rfl, rfl, trivial⟩ trivial rfl, ?_⟩
    intro i hi
    have hci := cnt_le b y i
    refine brB (fun hcc => ?_) (fun hcc => ?_)
    · have hcc : i < b.length := by have := of_decide_eq_true hcc; rw [hbl] at this; omega
      have hxx : b[i]? = some (b.getD i 0) := by rw [List.getD_eq_getElem?_getD, List.getElem?_eq_getElem hcc]; rfl
      have hyy : y[i]? = some (y.getD i 0) := by rw [List.getD_eq_getElem?_getD, List.getElem?_eq_getElem (by omega)]; rfl
      have hcn : cnt b y (i + 1) = cnt b y i + (if b.getD i 0 = y.getD i 0 then 0 else 1) := rfl
      generalize b.getD i 0 = u at hxx hcn
      generalize y.getD i 0 = v at hyy hcn
      refine ⟨by omega, _, gfs_get rfl hxx, by omega, _, gfs_get rfl hyy, ?_⟩
      refine brB (fun h => ?_) (fun h => ?_)
      · have h : u ≠ v := fun e => by rw [e] at h; simp at h
        rw [if_neg h] at hcn
        exact ⟨i + 1, hcc, Le.of [] ⟨rfl, rfl, rfl, rfl, congrArg (AV.int .i64) (by rw [hcn, wi (by omega) (by omega)]; omega), congrArg (AV.int .i64) (wi (by omega) (by omega)), trivial⟩ trivial rfl, by show b.length - (i + 1) < b.length - i; omega⟩
      · have h : u = v := GF.I_eq.1 (by simpa using h)
        rw [if_pos h] at hcn
        exact ⟨i + 1, hcc, Le.of [] ⟨rfl, rfl, rfl, rfl, congrArg (fun n : Nat => AV.int .i64 (n : Int)) hcn.symm, congrArg (AV.int .i64) (wi (by omega) (by omega)), trivial⟩ trivial rfl, by show b.length - (i + 1) < b.length - i; omega⟩
    · have hcc : i = b.length := by have := of_decide_eq_false hcc; rw [hbl] at this; omega
      subst hcc
      have wd : IntKind.i64.wrap ((m : Int).tdiv 2) = ((m / 2 : Nat) : Int) := by rw [Int.tdiv_eq_ediv_of_nonneg (by omega), wi (by omega) (by omega)]; rfl
      refine Told.callT k2 rfl rfl rfl rfl ?_
      conv => whnf
      refine brT (decide_eq_true rfl) ?_
      refine ⟨by decide, ?_⟩
      conv => whnf
      refine brT (decide_eq_true (by rw [wd]; show ((cnt b y b.length : Nat) : Int) ≤ _; omega)) ?_
      refine Told.callT k3 rfl rfl rfl rfl ?_
      refine ⟨_, rfl, _, rfl, fun q hq => ?_⟩
      have hq : q = true := by rw [hq]; simp
      subst hq
      refine Told.callT kf rfl rfl rfl rfl ?_
      refine ⟨[], _, _, ⟨rfl, rfl⟩, congrArg AV.bool ?_, trivial, rfl⟩
      by_cases hz : cnt b y b.length = 0
      · rw [decide_eq_true (hiff.2 hz), hz]; rfl
      · rw [decide_eq_false (fun h => hz (hiff.1 h)), decide_eq_false (by show ¬ ((cnt b y b.length : Nat) : Int) = 0; omega)]; rfl
end
end Go.Proofs.YtppifophcphdkaaX
namespace Go.Proofs.YtppifophcphdkaaX
section
open Go Go.YtppifophcphdkaaE Go.Proofs
set_option maxRecDepth 100000
set_option autoImplicit false
theorem MendBack_g [Tabs] (l : List Int) (hb : Byt l) (n : Int) (hn : 0 ≤ n ∧ n < 256) (at_ : List Int) (hat : Byt at_) (hal : at_.length ≤ 9223372036854775807) (by_ : List Int) (hby : Byt by_) : CtT Try.prog 4 [.sl 1 (bys l), .int .u8 n, .sl 1 (bys at_), .sl 1 (bys by_)] (Ret (.bool true) []) := by
  obtain ⟨p, rfl⟩ := gfs_of hb
  obtain ⟨q, rfl⟩ := gfs_of hby
  have hbl : ∀ l : List GF, (bys (gfs l)).length = l.length := fun l => by rw [bys_len, gfs_len]
  refine Ct.of Try.func4 rfl rfl (n := 150) rfl (by simp [ids]) ?_
  refine Told.callT awake10_ct rfl rfl rfl rfl ?_
  obtain ⟨k, hk⟩ : ∃ k : Nat, k = (n % 64).toNat + 1 := ⟨_, rfl⟩
  have hk1 : 1 ≤ k ∧ k ≤ 64 := by omega
  have wk : IntKind.i64.wrap ((IntKind.i64.wrap n).tmod 64 + 1) = (k : Int) := by
    rw [wi (n := n) (by omega) (by omega), Int.tmod_eq_emod_of_nonneg hn.1, wi (by omega) (by omega)]; omega
  refine ⟨by decide, ?_⟩
  conv => whnf
  refine brB (fun _ => ?_) (fun hl => ?_)
  · exact ⟨[], _, _, ⟨rfl, rfl⟩, rfl, trivial, rfl⟩
  have hl : p.length + k ≤ 255 := by
    have := of_decide_eq_false hl
    rw [hbl, wk, wi (by omega) (by omega)] at this; omega
  obtain ⟨w, kp, w1, w2, w3⟩ := Put_ct p k hk1.1 hk1.2 hl
  refine Told.callT kp rfl rfl (congrArg (fun x => some [T.sl 1 (bys (gfs p)), T.int .i64 x]) wk) rfl ?_
  conv => whnf
  refine brF (decide_eq_false (by rw [hbl]; omega)) ?_
  refine ⟨by show _ * 1 ≤ _; simp; omega, ?_⟩
  refine ⟨Nat × List GF, fun y => [(2, .t (.sl 1 (bys at_))), (3, .t (.sl 1 (bys (gfs q)))), (9, .int .i64 k), (10, .t (.sl 1 (bys (gfs w)))), (12, .own 45), (13, .int .i64 y.1)], fun y => [(45, false, .row 5 1 (bys (gfs y.2)))], fun y => y.1 ≤ at_.length ∧ y.2.length = w.length, fun y => at_.length - y.1, (0, w), ⟨Nat.zero_le _, rfl⟩,
    Le.of [] ⟨rfl, rfl, congrArg (AV.int .i64) wk, rfl, rfl, rfl, trivial⟩ ⟨rfl, trivial⟩ rfl, ?_⟩
  rintro ⟨i, y⟩ ⟨hi, hy⟩
  simp only at hi hy ⊢
  refine brB (fun hc => brB (fun hc2 => ?step) (fun hc2 => ?_)) (fun hc => ?_)
  case step =>
    have hc : i < at_.length := by have := of_decide_eq_true hc; rw [bys_len] at this; omega
    have hc2 : i < q.length := by have := of_decide_eq_true hc2; rw [hbl] at this; omega
    have hx : at_[i]? = some at_[i] := List.getElem?_eq_getElem hc
    have hxb := hat _ (List.getElem_mem hc)
    generalize at_[i] = a at hx hxb
    have hz : q[i]? = some q[i] := List.getElem?_eq_getElem hc2
    generalize q[i] = v at hz
    have wj : (IntKind.i64.wrap a).tmod ((bys (gfs y)).length : Int) = ((a.toNat % w.length : Nat) : Int) := by
      rw [hbl, hy, wi (by omega) (by omega), Int.tmod_eq_emod_of_nonneg hxb.1, Int.natCast_emod, Int.toNat_of_nonneg hxb.1]
    have hjl : a.toNat % w.length < w.length := Nat.mod_lt _ (by omega)
    generalize a.toNat % w.length = j at wj hjl
    have hg : y[j]? = some (y.getD j 0) := by rw [List.getD_eq_getElem?_getD, List.getElem?_eq_getElem (by omega)]; rfl
    refine ⟨by omega, _, bys_get rfl hx, by rw [hbl]; omega, by rw [wj]; omega, by rw [wj, hbl]; omega, _, gfs_get wj hg, by omega, _, gfs_get rfl hz, by rw [wj]; omega, by rw [wj, hbl]; omega, _, gfs_get wj hg, ?_⟩
    refine ⟨(i + 1, y.set j (y.getD j 0 + v)), ⟨hc, by simp only [List.length_set]; exact hy⟩, Le.of [] ⟨rfl, rfl, rfl, rfl, rfl, congrArg (AV.int .i64) (wi (by omega) (by omega)), trivial⟩ ⟨congrArg (fun x => (false, Blk.row 5 1 x)) ?_, trivial⟩ rfl, by show at_.length - (i + 1) < at_.length - i; omega⟩
    show (bys (gfs y)).set ((IntKind.i64.wrap a).tmod ((bys (gfs y)).length : Int)).toNat (T.int .u8 (Go.bits .xor .u8 (y.getD j 0).I v.I)) = _
    rw [wj, Int.toNat_natCast, GF.xor, bys_set, gfs_set]
  all_goals
    clear hi
    refine ⟨Nat, fun i => [(9, .int .i64 k), (10, .t (.sl 1 (bys (gfs w)))), (12, .own 45), (14, .int .i64 (cnt w y i)), (15, .int .i64 i)], fun i => [(45, false, .row 5 1 (bys (gfs y)))], fun i => i ≤ w.length, fun i => w.length - i, 0, Nat.zero_le _, Le.of [] ⟨rfl, rfl, rfl, rfl, rfl, trivial⟩ ⟨rfl, trivial⟩ rfl, ?_⟩
    intro i hi
    have hci := cnt_le w y i
    refine brB (fun hcc => ?_) (fun hcc => ?_)
    · have hcc : i < w.length := by have := of_decide_eq_true hcc; rw [hbl] at this; omega
      have hxx : w[i]? = some (w.getD i 0) := by rw [List.getD_eq_getElem?_getD, List.getElem?_eq_getElem hcc]; rfl
      have hyy : y[i]? = some (y.getD i 0) := by rw [List.getD_eq_getElem?_getD, List.getElem?_eq_getElem (by omega)]; rfl
      have hcn : cnt w y (i + 1) = cnt w y i + (if w.getD i 0 = y.getD i 0 then 0 else 1) := rfl
      generalize w.getD i 0 = u at hxx hcn
      generalize y.getD i 0 = v at hyy hcn
      refine ⟨by omega, _, gfs_get rfl hxx, by omega, by rw [hbl]; omega, _, gfs_get rfl hyy, ?_⟩
      refine brB (fun h => ?_) (fun h => ?_)
      · have h : u ≠ v := fun e => by rw [e] at h; simp at h
        rw [if_neg h] at hcn
        exact ⟨i + 1, hcc, Le.of [] ⟨rfl, rfl, rfl, congrArg (AV.int .i64) (by rw [hcn, wi (by omega) (by omega)]; omega), congrArg (AV.int .i64) (wi (by omega) (by omega)), trivial⟩ ⟨rfl, trivial⟩ rfl, by show w.length - (i + 1) < w.length - i; omega⟩
      · have h : u = v := GF.I_eq.1 (by simpa using h)
        rw [if_pos h] at hcn
        exact ⟨i + 1, hcc, Le.of [] ⟨rfl, rfl, rfl, congrArg (fun n : Nat => AV.int .i64 (n : Int)) hcn.symm, congrArg (AV.int .i64) (wi (by omega) (by omega)), trivial⟩ ⟨rfl, trivial⟩ rfl, by show w.length - (i + 1) < w.length - i; omega⟩
    · have hcc : i = w.length := by have := of_decide_eq_false hcc; rw [hbl] at this; omega
      subst hcc
      obtain ⟨x, R, km⟩ := Mend_ct y k hk1.1 hk1.2 (by omega) (by omega)
      have wd : IntKind.i64.wrap ((k : Int).tdiv 2) = ((k / 2 : Nat) : Int) := by rw [Int.tdiv_eq_ediv_of_nonneg (by omega), wi (by omega) (by omega)]; rfl
      by_cases hfew : cnt w y w.length ≤ k / 2
      · rw [mend_back hk1.1 (by omega) (by omega) hy w3 hfew R] at km
        refine Told.callT km rfl rfl rfl rfl ?_
        refine ⟨by decide, ?_⟩
        conv => whnf
        refine brT (decide_eq_true (by rw [wd]; omega)) ?_
        conv => whnf
        refine brT (decide_eq_true rfl) ?_
        refine ⟨_, rfl, _, rfl, fun r hr => ?_⟩
        have hr : r = true := by rw [hr]; simp
        subst hr
        exact ⟨[], _, _, ⟨rfl, rfl⟩, rfl, trivial, rfl⟩
      · have win : ∀ (z : List GF) (m : Nat), z.length = w.length → z ≠ w → Pl.plain (signsL z k) = [] → m ≤ k / 2 → mendR y k x.1 x.2.2.1 = ⟨z, m, 0⟩ → CtT Try.prog 8 [.sl 1 (bys (gfs y)), .int .i64 (k : Int)] (Ret (.t (MendR.T ⟨z, m, 0⟩)) []) ∧ CtT Try.prog 11 [.sl 1 (bys (gfs z)), .int .i64 (k : Int)] (Ret (.bool true) []) := fun z m g1 g2 g3 g4 g5 => by
          have kf := Fine_ct z k hk1.1 hk1.2 (by omega) (by omega)
          rw [decide_eq_true g3] at kf
          rw [g5] at km
          exact ⟨km, kf⟩
        have hcw : ∀ i, cnt w w i = 0 := fun i => by
          induction i with
          | zero => rfl
          | succ i ih => unfold cnt; rw [ih, if_pos rfl]
        have last : (∃ (z : List GF) (m : Nat), z ≠ w ∧ m ≤ k / 2 ∧ CtT Try.prog 8 [.sl 1 (bys (gfs y)), .int .i64 (k : Int)] (Ret (.t (MendR.T ⟨z, m, 0⟩)) []) ∧ CtT Try.prog 11 [.sl 1 (bys (gfs z)), .int .i64 (k : Int)] (Ret (.bool true) [])) ∨ CtT Try.prog 8 [.sl 1 (bys (gfs y)), .int .i64 (k : Int)] (Ret (.t (MendR.T ⟨[], 0, 6⟩)) []) := by
          rcases mendR_cases y k x.1 x.2.2.1 with ⟨g1, g2⟩ | ⟨g1, g2⟩ | ⟨g1, z, g3, g4, g5, g2⟩
          · have hne : y ≠ w := fun e => hfew (by rw [e, hcw]; omega)
            obtain ⟨a1, a2⟩ := win y 0 hy hne g1 (by omega) g2
            exact .inl ⟨y, 0, hne, by omega, a1, a2⟩
          · rw [g2] at km; exact .inr km
          · have hne : z ≠ w := fun e => hfew (by rw [e, cnt_comm, hy] at g5; exact g5)
            obtain ⟨a1, a2⟩ := win z _ (by omega) hne g4 g5 g2
            exact .inl ⟨z, _, hne, g5, a1, a2⟩
        rcases last with ⟨z, m, g1, g2, k1, k2⟩ | k1
        · refine Told.callT k1 rfl rfl rfl rfl ?_
          refine ⟨by decide, ?_⟩
          conv => whnf
          refine brF (decide_eq_false (by rw [wd]; omega)) ?_
          refine ⟨by decide, ?_⟩
          conv => whnf
          refine brT (decide_eq_true (by rw [wd]; show ((m : Nat) : Int) ≤ _; omega)) ?_
          refine ⟨_, rfl, _, rfl, fun r hr => ?_⟩
          have hr : r = true := by
            rw [hr, decide_eq_false]; rfl
            rw [strOf_eq (fun z hz => by have := gfs_byt _ z hz; omega) (fun z hz => by have := gfs_byt _ z hz; omega)]
            intro e
            refine g1 ?_
            have := congrArg (List.map GF.ofI) e
            simpa [gfs, List.map_map, Function.comp_def, GF.ofI_I] using this
          subst hr
          refine Told.callT k2 rfl rfl rfl rfl ?_
          exact ⟨[], _, _, ⟨rfl, rfl⟩, rfl, trivial, rfl⟩
        · refine Told.callT k1 rfl rfl rfl rfl ?_
          refine ⟨by decide, ?_⟩
          conv => whnf
          refine brF (decide_eq_false (by rw [wd]; omega)) ?_
          exact ⟨[], _, _, ⟨rfl, rfl⟩, rfl, trivial, rfl⟩
end
end Go.Proofs.YtppifophcphdkaaX
namespace Go.Proofs.YtppifophcphdkaaX
section
open Go Go.YtppifophcphdkaaE Go.Proofs Go.RowKit
set_option maxRecDepth 100000
set_option autoImplicit false
theorem ex_bysL [Tabs] {n : Nat} {ts : List T} (h : WfC Try.prog n 22 ts) : ∃ l : List Int, mkE Try.prog 22 ts = .sl 1 (bys l) ∧ (Byt l ∧ l.length ≤ 9223372036854775807) := by
  obtain ⟨l, m', rfl, hml, hl'⟩ := h.slice Try.underlying22
  obtain ⟨r, rfl, hr⟩ := row_of (f := T.int .u8) (p := fun x => 0 ≤ x ∧ x ≤ 255) hl' (fun cs hcs => by
    obtain ⟨x, rfl, wx⟩ := hcs.int Try.underlying5
    exact ⟨x, rfl, by have := wf_u8 wx; omega⟩)
  refine ⟨r, rfl, hr, ?_⟩
  rw [List.length_map] at hml
  exact hml
theorem i64_of [Tabs] {x : Int} (h : (Lit.int .i64 x).wf = true) : I64 x := by have := wf_i64 h; unfold I64; omega
theorem globs_of {W : World} (_ : W.ShapedOpen Try.prog) : ∃ i : Tabs, @Globs i W := ⟨⟨fun _ => 0, fun _ => 0⟩, fun _ h => by cases h⟩
end
end Go.Proofs.YtppifophcphdkaaX
