-- Written by hand for this claim's session.
import Derived.Test.YtgkmpgfmhjbcjaaGreatProg
import Derived.DeepKeys4
import Derived.WalkKit
import Derived.LaidEql
import Derived.Stop.Asserts
import Derived.RowKitTokens
import Derived.RangeFuncBound
import Derived.RangeFuncCalls
import Derived.RangeFuncBox
import Derived.OwnWalkIn
import Derived.TacticsInMore
import Derived.LoopNIn
import Derived.LoopIn
import Derived.StillTactics
import Derived.Test.YtgkmpgfmhjbcjaaGreatEvC
namespace Go.Proofs.YtgkmpgfmhjbcjaaGreatX
section
open Go Go.YtgkmpgfmhjbcjaaGreatE Go.Proofs
set_option maxRecDepth 100000
set_option autoImplicit false
@[reducible] def bys (xs : List Int) : List T := xs.map (T.int .u8)
theorem bys_len (l : List Int) : (bys l).length = l.length := by simp [bys]
theorem bys_get {l : List Int} {n : Int} {i : Nat} {x : Int} (hn : n = i) (h : l[i]? = some x) : (bys l)[n.toNat]? = some (T.int .u8 x) := by
  subst hn; simp [bys, h]
def Byt (l : List Int) : Prop := ∀ x ∈ l, 0 ≤ x ∧ x ≤ 255
def val (l : List Int) : Int := l.foldl (fun v x => 256 * v + x) 0
theorem val_snoc (l : List Int) (x : Int) : val (l ++ [x]) = 256 * val l + x := by simp [val]
theorem val_bound [Tabs] : ∀ (n : Nat) (l : List Int), l.length = n → Byt l → 0 ≤ val l ∧ val l < 256 ^ n := by
  intro n
  induction n with
  | zero => intro l h _; have := List.length_eq_zero_iff.1 h; subst this; simp [val]
  | succ n ih =>
    intro l h hb
    obtain ⟨l', x, rfl⟩ : ∃ l' x, l = l' ++ [x] := by
      have hne : l ≠ [] := fun e => by subst e; simp at h
      exact ⟨l.dropLast, l.getLast hne, (List.dropLast_concat_getLast hne).symm⟩
    obtain ⟨h1, h2⟩ := ih l' (by simpa using h) (fun y hy => hb y (by simp [hy]))
    have := hb x (by simp)
    rw [val_snoc, Int.pow_succ]
    omega
theorem val_lt [Tabs] {l : List Int} (h : l.length ≤ 8) (hb : Byt l) : 0 ≤ val l ∧ val l < 2 ^ 64 := by
  obtain ⟨h1, h2⟩ := val_bound _ l rfl hb
  refine ⟨h1, Int.lt_of_lt_of_le h2 ?_⟩
  have : (256 : Int) ^ l.length ≤ 256 ^ 8 := by
    have := Nat.pow_le_pow_right (n := 256) (by omega) h
    exact_mod_cast this
  have e : (256 : Int) ^ 8 = 2 ^ 64 := by decide
  omega
theorem wu64 {x : Int} (h0 : 0 ≤ x) (h1 : x < 2 ^ 64) : IntKind.u64.wrap x = x := by
  simp [IntKind.wrap, IntKind.signed, IntKind.bits]; omega
theorem or_byte [Tabs] {v x : Int} (h0 : 0 ≤ v) (x0 : 0 ≤ x) (x1 : x ≤ 255) (h : 256 * v + x < 2 ^ 64) : Go.bits .or .u64 (IntKind.u64.wrap (v * 2 ^ min (Int.toNat 8) IntKind.u64.bits)) (IntKind.u64.wrap x) = 256 * v + x := by
  have e : (2 : Int) ^ min (Int.toNat 8) IntKind.u64.bits = 256 := by decide
  have w1 : IntKind.u64.wrap (v * 256) = v * 256 := wu64 (by omega) (by omega)
  have w2 : IntKind.u64.wrap x = x := wu64 (by omega) (by omega)
  rw [e, w1, w2]
  obtain ⟨a, rfl⟩ := Int.eq_ofNat_of_zero_le h0
  obtain ⟨b, rfl⟩ := Int.eq_ofNat_of_zero_le x0
  have hb : b < 2 ^ 8 := by omega
  have hor := Nat.two_pow_add_eq_or_of_lt hb a
  have e1 : ((a : Int) * 256 % 2 ^ 64).toNat = 2 ^ 8 * a := by rw [Int.emod_eq_of_lt (by omega) (by omega)]; omega
  have e2 : ((b : Int) % 2 ^ 64).toNat = b := by rw [Int.emod_eq_of_lt (by omega) (by omega)]; omega
  show IntKind.u64.wrap (((BitVec.ofInt 64 ((a : Int) * 256) ||| BitVec.ofInt 64 (b : Int)).toNat : Nat) : Int) = _
  rw [BitVec.toNat_or, BitVec.toNat_ofInt, BitVec.toNat_ofInt]
  have e1' : ((a : Int) * 256 % ((2 ^ 64 : Nat) : Int)).toNat = 2 ^ 8 * a := e1
  have e2' : ((b : Int) % ((2 ^ 64 : Nat) : Int)).toNat = b := e2
  rw [e1', e2', ← hor, wu64 (by omega) (by omega)]
  omega
theorem value_ct [Tabs] (l : List Int) (hl : l.length ≤ 8) (hb : Byt l) : CtT Tryz.prog 102 [.sl 1 (bys l)] (Ret (.int .u64 (val l)) []) := by
  refine Ct.of Tryz.func102 rfl rfl (n := 19) rfl (by simp [ids]) ?_
  refine ⟨Nat, fun i => [(3, .int .u64 (val (l.take i))), (6, .t (.sl 1 (bys l))), (7, .int .i64 l.length), (8, .int .i64 i)], fun _ => [], fun i => i ≤ l.length, fun i => l.length - i, 0, by simp, Le.of [] ⟨rfl, rfl, by rw [← bys_len l]; rfl, rfl, trivial⟩ trivial rfl, ?_⟩
  rintro i h1
  refine brB (fun hc => ?_) (fun hc => ?_)
  · have hc : i < l.length := by have := of_decide_eq_true hc; omega
    have hx : l[i]? = some l[i] := List.getElem?_eq_getElem hc
    have htk : l.take (i + 1) = l.take i ++ [l[i]] := by rw [List.take_add_one, hx]; rfl
    have hxb := hb l[i] (List.getElem_mem hc)
    generalize l[i] = x at hx htk hxb
    refine ⟨by omega, _, bys_get rfl hx, ?_⟩
    have hv := val_lt (l := l.take i) (by simp; omega) (fun y hy => hb y (List.mem_of_mem_take hy))
    have hv' := val_lt (l := l.take (i + 1)) (by simp; omega) (fun y hy => hb y (List.mem_of_mem_take hy))
    rw [htk, val_snoc] at hv'
    refine ⟨by decide, i + 1, hc, Le.of [] ⟨congrArg (AV.int .u64) ?_, rfl, rfl, congrArg (AV.int .i64) (wi (by omega) (by omega)), trivial⟩ trivial rfl, by show l.length - (i + 1) < l.length - i; omega⟩
    rw [htk, val_snoc]
    exact or_byte hv.1 hxb.1 hxb.2 hv'.2
  · have hc : i = l.length := by have := of_decide_eq_false hc; omega
    subst hc
    refine ⟨[], _, _, ⟨rfl, rfl⟩, congrArg (AV.int .u64) (by simp), trivial, rfl⟩
theorem Get_ct [Tabs] (l : List Int) (hl : l.length = 8) (hb : Byt l) : CtT Tryz.prog 75 [.sl 1 (bys l)] (Ret (.tuple [.int .u64 (val l), .int .i64 0]) []) := by
  refine Ct.of Tryz.func75 rfl rfl (n := 9) rfl (by simp [ids]) ?_
  refine brB (fun hc => ?_) (fun hc => ?_)
  · have hc : ¬ (((bys l).length : Int) = 8) := by simpa using hc
    rw [bys_len, hl] at hc
    exact absurd rfl hc
  · refine Told.callT (value_ct l (by omega) hb) rfl rfl rfl rfl ?_
    exact ⟨[], _, _, ⟨rfl, rfl⟩, rfl, trivial, rfl⟩
def quad (x : Int) : List Int := [x / 2 ^ 24 % 256, x / 2 ^ 16 % 256, x / 2 ^ 8 % 256, x % 256]
theorem quad_len (x : Int) : (quad x).length = 4 := rfl
theorem quads_len (l : List Int) : (l.flatMap quad).length = 4 * l.length := by
  induction l with
  | nil => rfl
  | cons x l ih => simp [ih, quad_len]; omega
theorem wu8 (x : Int) : IntKind.u8.wrap x = x % 256 := by
  simp [IntKind.wrap, IntKind.signed, IntKind.bits]
theorem shr32 {x : Int} (k : Int) (j : Nat) (hk : min k.toNat 32 = j) : x.fdiv (2 ^ (min k.toNat IntKind.u32.bits)) = x / 2 ^ j := by
  rw [show min k.toNat IntKind.u32.bits = j from hk, Int.fdiv_eq_ediv_of_nonneg _ (by exact Int.le_of_lt (Int.pow_pos (by decide)))]
theorem Bytes_ct [Tabs] (l : List Int) (hl : l.length < 1000) : CtT Tryz.prog 108 [.sl 1 (l.map (T.int .u32))] (Ret (.t (.sl 1 (bys (l.flatMap quad)))) []) := by
  refine CtT.ofN Tryz.func108 rfl rfl (n := 28) rfl ?_
  have hlen : (l.map (T.int .u32)).length = l.length := by simp
  refine ⟨Nat, fun i => [(3, .own 9), (6, .t (.sl 1 (l.map (T.int .u32)))), (7, .int .i64 l.length), (8, .int .i64 i)], fun i => [(9, false, .row 5 1 (bys ((l.take i).flatMap quad)))], fun i => i ≤ l.length, fun i => l.length - i, 0, Nat.zero_le _, Le.trans (Le.nil 3 9 5 1 rfl rfl) (Le.of [] ⟨rfl, rfl, by rw [← hlen]; rfl, rfl, trivial⟩ ⟨rfl, trivial⟩ rfl), ?_⟩
  intro i hi
  refine brB (fun hc => ?_) (fun hc => ?_)
  · have hc : i < l.length := by have := of_decide_eq_true hc; omega
    have hx : l[i]? = some l[i] := List.getElem?_eq_getElem hc
    have htk : l.take (i + 1) = l.take i ++ [l[i]] := by rw [List.take_add_one, hx]; rfl
    generalize l[i] = x at hx htk
    refine ⟨by omega, _, (show (l.map (T.int .u32))[((i : Int)).toNat]? = some (T.int .u32 x) by simp [hx]), ?_⟩
    refine ⟨by decide, by decide, by decide, by show _ * 1 ≤ _; have := quads_len (l.take i); simp [bys] at *; omega, ?_⟩
    refine ⟨i + 1, hc, Le.of [(9, 25)] ⟨rfl, rfl, rfl, congrArg (AV.int .i64) (wi (by omega) (by omega)), trivial⟩ ⟨congrArg (fun x => (false, Blk.row 5 1 x)) ?_, trivial⟩ rfl, by show l.length - (i + 1) < l.length - i; omega⟩
    rw [htk, List.flatMap_append]
    have e : quad x = [IntKind.u8.wrap (x.fdiv (2 ^ min (Int.toNat 24) IntKind.u32.bits)), IntKind.u8.wrap (x.fdiv (2 ^ min (Int.toNat 16) IntKind.u32.bits)), IntKind.u8.wrap (x.fdiv (2 ^ min (Int.toNat 8) IntKind.u32.bits)), IntKind.u8.wrap x] := by
      rw [shr32 24 24 (by decide), shr32 16 16 (by decide), shr32 8 8 (by decide), wu8, wu8, wu8, wu8]; rfl
    simp [bys, e]
  · have hc : i = l.length := by have := of_decide_eq_false hc; omega
    subst hc
    refine ⟨_, rfl, ?_⟩
    rw [List.take_length]
    exact .refl _
def oct (v : Int) : List Int := quad (v / 2 ^ 32) ++ quad (v % 2 ^ 32)
theorem oct_len (v : Int) : (oct v).length = 8 := rfl
theorem wu32 (x : Int) : IntKind.u32.wrap x = x % 2 ^ 32 := by
  simp [IntKind.wrap, IntKind.signed, IntKind.bits]
theorem Put_word [Tabs] {v : Int} (h0 : 0 ≤ v) (h1 : v < 2 ^ 64) : CtT Tryz.prog 90 [.int .u64 v] (Ret (.t (.sl 1 (bys (oct v)))) []) := by
  refine CtT.ofN Tryz.func90 rfl rfl (n := 10) rfl ?_
  refine ⟨by decide, ?_⟩
  refine Told.callT (Bytes_ct [IntKind.u32.wrap (v.fdiv (2 ^ min (Int.toNat 32) IntKind.u64.bits)), IntKind.u32.wrap v] (by simp)) rfl rfl rfl rfl ?_
  refine ⟨_, rfl, ?_⟩
  have e1 : IntKind.u32.wrap (v.fdiv (2 ^ min (Int.toNat 32) IntKind.u64.bits)) = v / 2 ^ 32 := by
    rw [show min (Int.toNat 32) IntKind.u64.bits = 32 by decide, Int.fdiv_eq_ediv_of_nonneg _ (by decide), wu32]
    omega
  rw [e1, wu32]
  have e2 : [v / 2 ^ 32, v % 2 ^ 32].flatMap quad = oct v := by simp [oct]
  rw [e2]
  exact .refl _
def U64 (x : Int) : Prop := 0 ≤ x ∧ x < 2 ^ 64
theorem bys_take (l : List Int) (n : Nat) : bys (l.take n) = (bys l).take n := by simp [bys]
theorem bys_drop (l : List Int) (n : Nat) : bys (l.drop n) = (bys l).drop n := by simp [bys]
theorem bys_append (l m : List Int) : bys (l ++ m) = bys l ++ bys m := by simp [bys]
theorem Byt.take {l : List Int} (h : Byt l) (n : Nat) : Byt (l.take n) := fun x hx => h x (List.mem_of_mem_take hx)
theorem Byt.drop {l : List Int} (h : Byt l) (n : Nat) : Byt (l.drop n) := fun x hx => h x (List.mem_of_mem_drop hx)
theorem Byt.append {l m : List Int} (h : Byt l) (h' : Byt m) : Byt (l ++ m) := fun x hx => (List.mem_append.1 hx).elim (h x) (h' x)
theorem val_oct {v : Int} (h : U64 v) : val (oct v) = v := by
  obtain ⟨h0, h1⟩ := h
  simp only [val, oct, quad, List.cons_append, List.nil_append, List.foldl_cons, List.foldl_nil]
  omega
theorem oct_val {l : List Int} (hl : l.length = 8) (hb : Byt l) : oct (val l) = l := by
  match l, hl with
  | [a, b, c, d, e, f, g, h], _ =>
    have ha := hb a (by simp); have hb' := hb b (by simp); have hc := hb c (by simp); have hd := hb d (by simp)
    have he := hb e (by simp); have hf := hb f (by simp); have hg := hb g (by simp); have hh := hb h (by simp)
    clear hb
    have e1 : val [a, b, c, d, e, f, g, h] = (((a * 256 + b) * 256 + c) * 256 + d) * 2 ^ 32 + (((e * 256 + f) * 256 + g) * 256 + h) := by
      simp only [val, List.foldl_cons, List.foldl_nil]; omega
    have e2 : ((((a * 256 + b) * 256 + c) * 256 + d) * 2 ^ 32 + (((e * 256 + f) * 256 + g) * 256 + h)) / 2 ^ 32 = ((a * 256 + b) * 256 + c) * 256 + d := by omega
    have e3 : ((((a * 256 + b) * 256 + c) * 256 + d) * 2 ^ 32 + (((e * 256 + f) * 256 + g) * 256 + h)) % 2 ^ 32 = ((e * 256 + f) * 256 + g) * 256 + h := by omega
    rw [e1, oct, e2, e3]
    simp only [quad, List.cons_append, List.nil_append, List.cons.injEq, and_true]
    omega
theorem quad_byt (x : Int) : Byt (quad x) := by
  intro y hy
  simp [quad] at hy
  omega
theorem oct_byt [Tabs] (v : Int) : Byt (oct v) := by
  intro y hy
  rw [oct, List.mem_append] at hy
  exact hy.elim (quad_byt _ y) (quad_byt _ y)
theorem val_u64 [Tabs] {l : List Int} (hl : l.length ≤ 8) (hb : Byt l) : U64 (val l) := val_lt hl hb
end
end Go.Proofs.YtgkmpgfmhjbcjaaGreatX
namespace Go.Proofs.YtgkmpgfmhjbcjaaGreatX
section
open Go Go.YtgkmpgfmhjbcjaaGreatE Go.Proofs
set_option maxRecDepth 100000
set_option autoImplicit false
def I64 (x : Int) : Prop := -9223372036854775808 ≤ x ∧ x < 9223372036854775808
@[reducible] def byss (L : List (List Int)) : List T := L.map fun l => .sl 1 (bys l)
theorem byss_len (L : List (List Int)) : (byss L).length = L.length := by simp [byss]
theorem byss_get {L : List (List Int)} {n : Int} {i : Nat} {x : List Int} (hn : n = i) (h : L[i]? = some x) : (byss L)[n.toNat]? = some (.sl 1 (bys x)) := by
  subst hn; simp [byss, h]
theorem CloneB_ct [Tabs] (l : List Int) (hl : l.length < 100000000) : CtT Tryz.prog 30 [.sl 1 (bys l)] (Ret (.t (.sl 1 (bys l))) []) := by
  refine CtT.ofN Tryz.func30 rfl rfl (n := 8) rfl ?_
  refine ⟨fun hn => ?_, fun _ => ?_⟩
  · have e : bys l = [] := hn
    refine ⟨_, rfl, ?_⟩
    rw [e]; repeat constructor
  · exact ⟨by show (_ + _) * 1 ≤ _; simp; omega, _, rfl, .refl _⟩
theorem GrowB_ct [Tabs] (n : Nat) (hn : n < 1000000000) : CtT Tryz.prog 92 [.v (.slice none 0 0), .int .i64 n] (Ret (.own 0) [(0, false, .row 5 1 [])]) := by
  refine Ct.ofL Tryz.func92 rfl rfl (n := 27) rfl (by simp [ids]) (by simp) ?_
  have w0 : IntKind.i64.wrap ((n : Int) - IntKind.i64.wrap (((0 : Nat) : Int) - ((0 : Nat) : Int))) = n := by rw [wi (n := ((0 : Nat) : Int) - ((0 : Nat) : Int)) (by omega) (by omega)]; exact (wi (by omega) (by omega)).trans (by omega)
  refine brB (fun h => ?_) (fun h => ?_)
  · have h : 0 < n := by have := of_decide_eq_true h; rw [w0] at this; omega
    refine ⟨rfl, rfl, n, w0.symm, trivial, by simp; omega, by show _ * 1 ≤ _; simp; omega, ?_⟩
    refine ⟨0, 0, rfl, rfl, by decide, by decide, by simp, ?_⟩
    exact ⟨_, _, Le.cut 4 22 50 5 1 0 _ rfl rfl (Nat.zero_le _) rfl, [(0, 50)], _, _, ⟨rfl, rfl⟩, rfl, ⟨rfl, trivial⟩, rfl⟩
  · have h : n = 0 := by have := of_decide_eq_false h; rw [w0] at this; omega
    exact ⟨_, _, Le.nil 4 50 5 1 rfl rfl, [(0, 50)], _, _, ⟨rfl, rfl⟩, rfl, ⟨rfl, trivial⟩, rfl⟩
theorem ConcatB_ct [Tabs] (L : List (List Int)) (hL : L.length < 1000) (hl : L.flatten.length < 1000000000) : CtT Tryz.prog 64 [.sl 1 (byss L)] (Ret (.t (.sl 1 (bys L.flatten))) []) := by
  refine CtT.ofN Tryz.func64 rfl rfl (n := 36) rfl ?_
  have hsub : ∀ i, ((L.take i).flatten).length ≤ L.flatten.length := fun i => by
    conv => rhs; rw [← List.take_append_drop i L, List.flatten_append, List.length_append]
    omega
  refine ⟨Nat, fun i => [(0, .t (.sl 1 (byss L))), (3, .int .i64 ((L.take i).flatten.length : Nat)), (9, .t (.sl 1 (byss L))), (10, .int .i64 L.length), (11, .int .i64 i)], fun _ => [], fun i => i ≤ L.length, fun i => L.length - i, 0, Nat.zero_le _,
    Le.of [] ⟨rfl, rfl, rfl, by rw [← byss_len L]; rfl, rfl, trivial⟩ trivial rfl, ?_⟩
  intro i hi
  refine brB (fun hc => ?_) (fun hc => ?_)
  · have hc : i < L.length := by have := of_decide_eq_true hc; omega
    have hx : L[i]? = some L[i] := List.getElem?_eq_getElem hc
    have hs : (L.take (i + 1)).flatten = (L.take i).flatten ++ L[i] := by rw [List.take_add_one, hx, List.flatten_append]; simp
    have hb := hsub (i + 1)
    rw [hs, List.length_append] at hb
    generalize L[i] = x at hx hs hb
    refine ⟨by omega, _, byss_get rfl hx, ?_⟩
    have w1 : IntKind.i64.wrap (((L.take i).flatten.length : Nat) + ((bys x).length : Int)) = (((L.take (i + 1)).flatten.length : Nat) : Int) := by
      rw [bys_len, wi (by omega) (by omega), hs, List.length_append]; omega
    refine brF (decide_eq_false (by rw [w1]; omega)) ?_
    exact ⟨i + 1, hc, Le.of [] ⟨rfl, congrArg (AV.int .i64) w1, rfl, rfl, congrArg (AV.int .i64) (wi (by omega) (by omega)), trivial⟩ trivial rfl, by show L.length - (i + 1) < L.length - i; omega⟩
  · have hc : i = L.length := by have := of_decide_eq_false hc; omega
    subst hc
    have kg := GrowB_ct (L.take L.length).flatten.length (by have := hsub L.length; omega)
    refine Told.callT kg rfl rfl rfl rfl ?_
    refine ⟨Nat, fun i => [(6, .own 6), (25, .t (.sl 1 (byss L))), (26, .int .i64 L.length), (27, .int .i64 i)], fun i => [(6, false, .row 5 1 (bys (L.take i).flatten))], fun i => i ≤ L.length, fun i => L.length - i, 0, Nat.zero_le _,
      Le.of [(6, 24)] ⟨rfl, rfl, by rw [← byss_len L]; rfl, rfl, trivial⟩ ⟨rfl, trivial⟩ rfl, ?_⟩
    intro i hi
    refine brB (fun hc => ?_) (fun hc => ?_)
    · have hc : i < L.length := by have := of_decide_eq_true hc; omega
      have hx : L[i]? = some L[i] := List.getElem?_eq_getElem hc
      have hs : (L.take (i + 1)).flatten = (L.take i).flatten ++ L[i] := by rw [List.take_add_one, hx, List.flatten_append]; simp
      have hb := hsub (i + 1)
      rw [hs, List.length_append] at hb
      generalize L[i] = x at hx hs hb
      refine ⟨by omega, _, byss_get rfl hx, ?_⟩
      refine ⟨by show _ * 1 ≤ _; rw [bys_len, bys_len]; omega, i + 1, hc, Le.of [(6, 33)] ⟨rfl, rfl, rfl, congrArg (AV.int .i64) (wi (by omega) (by omega)), trivial⟩ ⟨congrArg (fun x => (false, Blk.row 5 1 x)) ?_, trivial⟩ rfl, by show L.length - (i + 1) < L.length - i; omega⟩
      rw [hs, bys_append]
    · have hc : i = L.length := by have := of_decide_eq_false hc; omega
      subst hc
      refine ⟨_, rfl, ?_⟩
      rw [List.take_length]
      exact .refl _
end
end Go.Proofs.YtgkmpgfmhjbcjaaGreatX
namespace Go.Proofs.YtgkmpgfmhjbcjaaGreatX
section
open Go Go.YtgkmpgfmhjbcjaaGreatE Go.Proofs
set_option maxRecDepth 100000
set_option autoImplicit false
structure Term where
  key : List Int
  msg : List Int
  deriving DecidableEq
@[reducible] def Term.T (x : Term) : T := .agg [.sl 1 (bys x.key), .sl 1 (bys x.msg)]
structure Term.Wf (x : Term) : Prop where
  key : Byt x.key
  msg : Byt x.msg
abbrev Term.box (x : Term) : Blk := .box 74 [.t (.sl 1 (bys x.key)), .t (.sl 1 (bys x.msg))]
theorem Term.row_len (l : List Term) : (l.map Term.T).length = l.length := by simp
theorem Term.row_get {l : List Term} {n : Int} {i : Nat} {x : Term} (hn : n = i) (h : l[i]? = some x) : (l.map Term.T)[n.toNat]? = some x.T := by subst hn; simp [h]
structure Engine where
  kind : Int
  terms : List Term
  deriving DecidableEq
@[reducible] def Engine.T (x : Engine) : T := .agg [.int .i64 x.kind, .sl 2 (x.terms.map Term.T)]
structure Engine.Wf (x : Engine) : Prop where
  kind : I64 x.kind
  terms : ∀ y ∈ x.terms, y.Wf
abbrev Engine.box (x : Engine) : Blk := .box 24 [.int .i64 x.kind, .t (.sl 2 (x.terms.map Term.T))]
theorem Engine.row_len (l : List Engine) : (l.map Engine.T).length = l.length := by simp
theorem Engine.row_get {l : List Engine} {n : Int} {i : Nat} {x : Engine} (hn : n = i) (h : l[i]? = some x) : (l.map Engine.T)[n.toNat]? = some x.T := by subst hn; simp [h]
theorem laid_prog : laidOutB Tryz.prog = true := by kernel_rfl
theorem pair_law [Tabs] : WideMaps.KeyLaw Tryz.prog 171 := deep_law_laid laid_prog (m := 2) (by omega) (of_decide_eq_true (by kernel_rfl)) (by kernel_rfl) (by rw [Tryz.underlying171])
theorem pair_key (a b : ByteArray) (ha : a.size ≤ maxLen) (hb : b.size ≤ maxLen) : ∃ l, keyOf Tryz.prog 171 (.agg #[.string a, .string b]) = some l := by
  have h1 : Tryz.prog.keyType 171 = true := by kernel_rfl
  have h2 : (Value.agg #[.string a, .string b]).formed Tryz.prog 171 = true := by kernel_rfl
  have h3 : Tryz.prog.cellsOf 171 = 2 := by kernel_rfl
  have h4 : Tryz.prog.cellsOf 9 = 1 := by kernel_rfl
  obtain ⟨d, hd⟩ : ∃ d, Tryz.prog.types.size + 1 = d + 1 + 1 := ⟨Tryz.prog.types.size - 1, by have : 0 < Tryz.prog.types.size := of_decide_eq_true (by kernel_rfl); omega⟩
  have h5 : ∀ s : ByteArray, s.size ≤ maxLen → Tryz.prog.keyLits (d + 1) 9 [.string s] = some [.string s.data.toList] := fun s hs => by
    unfold Program.keyLits
    rw [Tryz.underlying9]
    simp only [if_pos hs]
  have h6 : Tryz.prog.keyLits (d + 1 + 1) 171 [.string a, .string b] = some [.string a.data.toList, .string b.data.toList] := by
    unfold Program.keyLits
    rw [Tryz.underlying171]
    simp [h3, h4, List.range_succ, h5 a ha, h5 b hb]
  unfold keyOf
  rw [Tryz.underlying171]
  simp only [h1, h2, Bool.and_self, if_true]
  rw [hd, show (Value.agg #[Value.string a, Value.string b]).cells.toList = [.string a, .string b] from rfl, h6]
  exact ⟨_, rfl⟩
def Term.pair (t : Term) : Value := .agg #[.string (strOf t.key), .string (strOf t.msg)]
structure Term.Sm (t : Term) : Prop where
  k : t.key.length < 1000000
  m : t.msg.length < 1000000
theorem strOf_inj [Tabs] {xs ys : List Int} (hx : Byt xs) (hy : Byt ys) (h : strOf xs = strOf ys) : xs = ys :=
  (strOf_eq (fun x h => by have := hx x h; omega) (fun y h => by have := hy y h; omega)).1 (by rw [h])
theorem strOf_size [Tabs] (xs : List Int) : (strOf xs).size = xs.length := by
  show (strOf xs).data.size = _
  rw [← Array.length_toList, strOf_data, List.length_map]
theorem Term.pair_inj [Tabs] {t u : Term} (ht : t.Wf) (hu : u.Wf) (h : t.pair = u.pair) : t = u := by
  unfold Term.pair at h
  simp only [Value.agg.injEq, Array.mk.injEq, List.cons.injEq, Value.string.injEq, and_true] at h
  obtain ⟨a, b⟩ := t; obtain ⟨c, d⟩ := u
  have h1 : a = c := strOf_inj ht.key hu.key h.1
  have h2 : b = d := strOf_inj ht.msg hu.msg h.2
  rw [h1, h2]
theorem TRight_ct [Tabs] (l : List Term) (hl : l.length < 1000000) (hw : ∀ t ∈ l, t.Wf) (hs : ∀ t ∈ l, t.Sm) : CtT Tryz.prog 89 [.sl 2 (l.map Term.T)] (Ret (.bool (decide l.Nodup)) []) := by
  refine Ct.of Tryz.func89 rfl rfl (n := 27) rfl (by simp [ids]) ?_
  refine Told.makeMap rfl rfl ?_
  refine ⟨Nat, fun i => [(3, .own 7), (8, .t (.sl 2 (l.map Term.T))), (9, .int .i64 l.length), (10, .int .i64 i)], fun i => [(7, false, .set ((l.take i).map Term.pair))], fun i => i ≤ l.length ∧ (l.take i).Nodup, fun i => l.length - i, 0, ⟨Nat.zero_le _, by simp⟩,
    Le.of [] ⟨rfl, rfl, by rw [← Term.row_len l]; rfl, rfl, trivial⟩ ⟨rfl, trivial⟩ rfl, ?_⟩
  rintro i ⟨hi, hn⟩
  refine brB (fun hc => ?_) (fun hc => ?_)
  · have hc : i < l.length := by have := of_decide_eq_true hc; omega
    have hx : l[i]? = some l[i] := List.getElem?_eq_getElem hc
    have htk : l.take (i + 1) = l.take i ++ [l[i]] := by rw [List.take_add_one, hx]; rfl
    have hm := List.getElem_mem hc
    generalize l[i] = t at hx htk hm
    have kt : ∃ q, keyOf Tryz.prog 171 (.agg #[.string (strOf t.key), .string (strOf t.msg)]) = some q := by
      have := hs t hm
      have hmx : maxLen = 9223372036854775807 := rfl
      exact pair_key _ _ (by rw [strOf_size]; have := this.k; omega) (by rw [strOf_size]; have := this.m; omega)
    have ks : ∀ y ∈ (l.take i).map Term.pair, ∃ q, keyOf Tryz.prog 171 y = some q := by
      intro y hy
      obtain ⟨u, hu, rfl⟩ := List.mem_map.1 hy
      have hu := List.mem_of_mem_take hu
      have := hs u hu
      have hmx : maxLen = 9223372036854775807 := rfl
      exact pair_key _ _ (by rw [strOf_size]; have := this.k; omega) (by rw [strOf_size]; have := this.m; omega)
    have hin : t.pair ∈ (l.take i).map Term.pair ↔ t ∈ l.take i := by
      refine ⟨fun h => ?_, fun h => List.mem_map.2 ⟨t, h, rfl⟩⟩
      obtain ⟨u, hu, e⟩ := List.mem_map.1 h
      rwa [← Term.pair_inj (hw u (List.mem_of_mem_take hu)) (hw t hm) e]
    refine ⟨by omega, _, Term.row_get rfl hx, ?_⟩
    refine ⟨_, rfl, _, rfl, ?_⟩
    refine Told.lookup rfl rfl rfl rfl Tryz.underlying170 pair_law (fun w => by kernel_rfl) kt ks fun c hc2 => ?_
    refine brB (fun h => ?_) (fun h => ?_)
    · refine ⟨[], _, _, ⟨rfl, rfl⟩, congrArg AV.bool (decide_eq_false fun hnd => ?_).symm, trivial, rfl⟩
      have h1 := hin.1 (hc2.1 h)
      have h2 : (l.take (i + 1)).Nodup := hnd.sublist (List.take_sublist _ _)
      rw [htk, List.nodup_append] at h2
      exact h2.2.2 t h1 t (by simp) rfl
    · have hni : t ∉ l.take i := fun h1 => by rw [hc2.2 (hin.2 h1)] at h; cases h
      refine Told.mapUpdate rfl rfl rfl rfl rfl Tryz.underlying170 pair_law kt ks (fun h1 => hni (hin.1 h1)) ?_
      refine ⟨i + 1, ⟨hc, ?_⟩, Le.of [] ⟨rfl, rfl, rfl, congrArg (AV.int .i64) (wi (by omega) (by omega)), trivial⟩ ⟨congrArg (fun x => (false, Blk.set x)) ?_, trivial⟩ rfl, by show l.length - (i + 1) < l.length - i; omega⟩
      · rw [htk, List.nodup_append]
        exact ⟨hn, by simp, fun a ha b hb => by rw [List.mem_singleton.1 hb]; rintro rfl; exact hni ha⟩
      · rw [htk]; simp [Term.pair]
  · have hc : i = l.length := by have := of_decide_eq_false hc; omega
    subst hc
    rw [List.take_length] at hn
    exact ⟨[], _, _, ⟨rfl, rfl⟩, congrArg AV.bool (decide_eq_true hn).symm, trivial, rfl⟩
end
end Go.Proofs.YtgkmpgfmhjbcjaaGreatX
namespace Go.Proofs.YtgkmpgfmhjbcjaaGreatX
section
open Go Go.YtgkmpgfmhjbcjaaGreatE Go.Proofs
set_option maxRecDepth 100000
set_option autoImplicit false
theorem BEqual_ct [Tabs] (a b : List Int) (ha : Byt a) (hb : Byt b) : CtT Tryz.prog 162 [.sl 1 (bys a), .sl 1 (bys b)] (Ret (.bool (decide (a = b))) []) := by
  refine Ct.of Tryz.func162 rfl rfl (n := 10) rfl (by simp [ids]) ?_
  refine ⟨_, rfl, _, rfl, fun c hc => ?_⟩
  refine ⟨[], _, _, ⟨rfl, rfl⟩, congrArg AV.bool ?_, trivial, rfl⟩
  rw [hc, decide_eq_decide]
  exact strOf_eq (fun x h => by have := ha x h; omega) (fun y h => by have := hb y h; omega)
theorem term_eq {t : Term} {k m : List Int} : t = ⟨k, m⟩ ↔ t.key = k ∧ t.msg = m := by
  obtain ⟨a, b⟩ := t; simp
theorem PlaceF_ct [Tabs] (t : Term) (k m : List Int) (ht : t.Wf) (hk : Byt k) (hm : Byt m) : CtT Tryz.prog 161 [t.T, .pt [.sl 1 (bys k)], .pt [.sl 1 (bys m)]] (Ret (.bool (decide (t = ⟨k, m⟩))) []) := by
  refine Ct.of Tryz.func161 rfl rfl (n := 15) rfl (by simp [ids]) ?_
  refine Told.callT (BEqual_ct t.key k ht.key hk) rfl rfl rfl rfl ?_
  refine brB (fun h => ?_) (fun h => ?_)
  · refine Told.callT (BEqual_ct t.msg m ht.msg hm) rfl rfl rfl rfl ?_
    refine ⟨[], _, _, ⟨rfl, rfl⟩, congrArg AV.bool ?_, trivial, rfl⟩
    rw [decide_eq_decide, term_eq]
    exact ⟨fun h2 => ⟨of_decide_eq_true h, h2⟩, fun h2 => h2.2⟩
  · exact ⟨[], _, _, ⟨rfl, rfl⟩, congrArg AV.bool (decide_eq_false fun h2 => of_decide_eq_false h (term_eq.1 h2).1).symm, trivial, rfl⟩
theorem Term_IndexFunc [Tabs] (l : List Term) (f : FuncId) (c1 c2 : T) (p : Term → Bool) (hl : l.length < 1000000) (hp : ∀ x ∈ l, CtT Tryz.prog f [x.T, c1, c2] (Ret (.bool (p x)) [])) (n : Int) (hn : n = (l.findIdx? p).elim (-1 : Int) fun i => (i : Int)) :
    CtT Tryz.prog 160 [.sl 2 (l.map Term.T), .fn (.func f) [] [c1, c2]] (Ret (.int .i64 n) []) := by
  refine Ct.of Tryz.func160 rfl rfl (n := 19) rfl (by simp [ids]) ?_
  refine ⟨Nat, fun i => [(0, .t (.sl 2 (l.map Term.T))), (1, .t (.fn (.func f) [] [c1, c2])), (7, .int .i64 l.length), (8, .int .i64 i)], fun _ => [], fun i => i ≤ l.length ∧ ∀ j, j < i → ∀ x, l[j]? = some x → p x = false, fun i => l.length - i, 0, ⟨Nat.zero_le _, fun j h => absurd h (by omega)⟩,
    Le.of [] ⟨rfl, rfl, by rw [← Term.row_len l]; rfl, rfl, trivial⟩ trivial rfl, ?_⟩
  rintro i ⟨hi, hbef⟩
  refine brB (fun hc => ?_) (fun hc => ?_)
  · have hc : i < l.length := by have := of_decide_eq_true hc; omega
    have hx : l[i]? = some l[i] := List.getElem?_eq_getElem hc
    have hpx := hp l[i] (List.getElem_mem hc)
    generalize hy : l[i] = x at hx hpx
    refine ⟨by omega, _, Term.row_get rfl hx, ?_⟩
    refine Told.callT hpx rfl rfl rfl rfl ?_
    cases hb : p x with
    | true =>
      refine ⟨[], _, _, ⟨rfl, rfl⟩, congrArg (AV.int .i64) ?_, trivial, rfl⟩
      have : l.findIdx? p = some i := by
        rw [List.findIdx?_eq_some_iff_getElem]
        exact ⟨hc, by rw [hy]; exact hb, fun j hj => by rw [Bool.not_eq_true]; exact hbef j hj _ (List.getElem?_eq_getElem (by omega))⟩
      rw [hn, this]; rfl
    | false =>
      refine ⟨i + 1, ⟨hc, fun j hj y hy2 => ?_⟩, Le.of [] ⟨rfl, rfl, rfl, congrArg (AV.int .i64) (wi (by omega) (by omega)), trivial⟩ trivial rfl, by show l.length - (i + 1) < l.length - i; omega⟩
      by_cases e : j = i
      · subst e; rw [hx] at hy2; cases hy2; exact hb
      · exact hbef j (by omega) y hy2
  · have hc : i = l.length := by have := of_decide_eq_false hc; omega
    subst hc
    refine ⟨[], _, _, ⟨rfl, rfl⟩, congrArg (AV.int .i64) ?_, trivial, rfl⟩
    have : l.findIdx? p = none := by
      rw [List.findIdx?_eq_none_iff]
      intro x hx
      obtain ⟨j, hj, rfl⟩ := List.mem_iff_getElem.1 hx
      exact hbef j hj _ (List.getElem?_eq_getElem hj)
    rw [hn, this]; rfl
theorem Term_Clone [Tabs] (l : List Term) (hl : l.length < 1000000) : CtT Tryz.prog 163 [.sl 2 (l.map Term.T)] (Ret (.own 0) [(0, false, .row 74 2 (l.map Term.T))]) := by
  refine Ct.ofL Tryz.func163 rfl rfl (n := 8) rfl (by simp [ids]) (by simp) ?_
  refine ⟨fun hn => ?_, fun _ => ?_⟩
  · refine ⟨_, _, Le.nil 2 50 74 2 rfl rfl, ?_⟩
    refine ⟨[(0, 50)], _, _, ⟨rfl, rfl⟩, rfl, ⟨?_, trivial⟩, rfl⟩
    rw [hn]; rfl
  · refine ⟨by show (_ + _) * 48 ≤ _; simp; omega, _, _, Le.refl _ _ _, ?_⟩
    exact ⟨[(0, 7)], _, _, ⟨rfl, rfl⟩, rfl, ⟨rfl, trivial⟩, rfl⟩
theorem Term_CloneT [Tabs] (l : List Term) (hl : l.length < 1000000) : CtT Tryz.prog 163 [.sl 2 (l.map Term.T)] (Ret (.t (.sl 2 (l.map Term.T))) []) := by
  refine CtT.ofN Tryz.func163 rfl rfl (n := 8) rfl ?_
  refine ⟨fun hn => ?_, fun _ => ?_⟩
  · have e : l.map Term.T = [] := hn
    refine ⟨_, rfl, ?_⟩
    rw [e]; repeat constructor
  · exact ⟨by show (_ + _) * 48 ≤ _; simp; omega, _, rfl, .refl _⟩
end
end Go.Proofs.YtgkmpgfmhjbcjaaGreatX
namespace Go.Proofs.YtgkmpgfmhjbcjaaGreatX
section
open Go Go.YtgkmpgfmhjbcjaaGreatE Go.Proofs
set_option maxRecDepth 100000
set_option autoImplicit false
def atT (l : List Term) (k m : List Int) : Option Nat := l.findIdx? fun t => decide (t = ⟨k, m⟩)
theorem atT_some {l : List Term} {k m : List Int} {i : Nat} (h : atT l k m = some i) : i < l.length ∧ l[i]? = some ⟨k, m⟩ ∧ ∀ j, j < i → l[j]? ≠ some ⟨k, m⟩ := by
  unfold atT at h
  rw [List.findIdx?_eq_some_iff_getElem] at h
  obtain ⟨h1, h2, h3⟩ := h
  refine ⟨h1, by rw [List.getElem?_eq_getElem h1, of_decide_eq_true h2], fun j hj e => ?_⟩
  rw [List.getElem?_eq_getElem (by omega)] at e
  have := h3 j hj
  simp [Option.some.inj e] at this
theorem atT_none {l : List Term} {k m : List Int} : atT l k m = none ↔ (⟨k, m⟩ : Term) ∉ l := by
  unfold atT
  rw [List.findIdx?_eq_none_iff]
  refine ⟨fun h hm => by simpa using h _ hm, fun h x hx => by
    rw [decide_eq_false_iff_not]; rintro rfl; exact h hx⟩
def placeT (l : List Term) (k m : List Int) : Int := (atT l k m).elim (-1) fun i => (i : Int)
theorem Place_ct [Tabs] (l : List Term) (k m : List Int) (hl : l.length < 1000000) (hw : ∀ t ∈ l, t.Wf) (hk : Byt k) (hm : Byt m) : CtT Tryz.prog 158 [.sl 2 (l.map Term.T), .sl 1 (bys k), .sl 1 (bys m)] (Ret (.int .i64 (placeT l k m)) []) := by
  refine Ct.of Tryz.func158 rfl rfl (n := 10) rfl (by simp [ids]) ?_
  refine Told.callT (Term_IndexFunc l 161 (.pt [.sl 1 (bys k)]) (.pt [.sl 1 (bys m)]) (fun t => decide (t = ⟨k, m⟩)) hl (fun t ht => PlaceF_ct t k m (hw t ht) hk hm) _ rfl) rfl rfl rfl rfl ?_
  exact ⟨[], _, _, ⟨rfl, rfl⟩, rfl, trivial, rfl⟩
theorem own_ct [Tabs] (t : Term) (h : t.Sm) : CtT Tryz.prog 164 [t.T] (Ret (.t t.T) []) := by
  refine CtT.ofN Tryz.func164 rfl rfl (n := 10) rfl ?_
  refine Told.callT (CloneB_ct t.key (by have := h.k; omega)) rfl rfl rfl rfl ?_
  refine Told.callT (CloneB_ct t.msg (by have := h.m; omega)) rfl rfl rfl rfl ?_
  exact ⟨_, rfl, .refl _⟩
def putT (l : List Term) (k m : List Int) : List Term × List Int := (atT l k m).elim (l ++ [⟨k, m⟩], oct ((l.length : Int) + 1)) fun i => (l, oct ((i : Int) + 1))
theorem TPut_ct [Tabs] (l : List Term) (k m : List Int) (hl : l.length < 100000) (hw : ∀ t ∈ l, t.Wf) (hk : Byt k) (hm : Byt m) (hs : Term.Sm ⟨k, m⟩) :
    CtT Tryz.prog 159 [.sl 2 (l.map Term.T), .sl 1 (bys k), .sl 1 (bys m)] (Ret (.t (.tuple [.sl 2 ((putT l k m).1.map Term.T), .sl 1 (bys (putT l k m).2)])) []) := by
  refine CtT.ofN Tryz.func159 rfl rfl (n := 30) rfl ?_
  refine Told.callT (Place_ct l k m (by omega) hw hk hm) rfl rfl rfl rfl ?_
  cases hp : atT l k m with
  | none =>
    have e1 : placeT l k m = -1 := by unfold placeT; rw [hp]; rfl
    have e2 : putT l k m = (l ++ [⟨k, m⟩], oct ((l.length : Int) + 1)) := by unfold putT; rw [hp]; rfl
    rw [e1]
    refine Told.callT (Term_Clone l (by omega)) rfl rfl rfl rfl ?_
    refine Told.callT (own_ct ⟨k, m⟩ hs) rfl rfl rfl rfl ?_
    refine ⟨by show _ * 48 ≤ _; simp; omega, ?_⟩
    have w1 : IntKind.u64.wrap (IntKind.u64.wrap ((l.map Term.T).length : Int) + 1) = (l.length : Int) + 1 := by
      rw [Term.row_len, wu64 (x := (l.length : Int)) (by omega) (by omega), wu64 (by omega) (by omega)]
    have kp := Put_word (v := IntKind.u64.wrap (IntKind.u64.wrap ((l.map Term.T).length : Int) + 1)) (by rw [w1]; omega) (by rw [w1]; omega)
    refine Told.callT kp rfl rfl rfl rfl ?_
    refine ⟨_, rfl, ?_⟩
    rw [w1, e2, List.map_append]
    exact .refl _
  | some i =>
    have hi := (atT_some hp).1
    have e1 : placeT l k m = (i : Int) := by unfold placeT; rw [hp]; rfl
    have e2 : putT l k m = (l, oct ((i : Int) + 1)) := by unfold putT; rw [hp]; rfl
    rw [e1]
    have w1 : IntKind.u64.wrap (IntKind.u64.wrap (i : Int) + 1) = (i : Int) + 1 := by
      rw [wu64 (x := (i : Int)) (by omega) (by omega), wu64 (by omega) (by omega)]
    have kp := Put_word (v := IntKind.u64.wrap (IntKind.u64.wrap (i : Int) + 1)) (by rw [w1]; omega) (by rw [w1]; omega)
    refine Told.callT kp rfl rfl rfl rfl ?_
    refine ⟨_, rfl, ?_⟩
    rw [w1, e2]
    exact .refl _
def unl (a b : List Int) : Nat → Nat
  | 0 => 0
  | i + 1 => unl a b i + if a[i]? = b[i]? then 0 else 1
theorem unl_zero {a b : List Int} : ∀ {i : Nat}, unl a b i = 0 ↔ ∀ j, j < i → a[j]? = b[j]?
  | 0 => by simp [unl]
  | i + 1 => by
    unfold unl
    constructor
    · intro h j hj
      have h1 : unl a b i = 0 := by omega
      by_cases e : j = i
      · subst e
        apply Classical.byContradiction
        intro hne
        rw [if_neg hne] at h
        omega
      · exact unl_zero.1 h1 j (by omega)
    · intro h
      rw [unl_zero.2 fun j hj => h j (by omega), if_pos (h i (by omega))]
theorem unl_le (a b : List Int) : ∀ i, unl a b i ≤ i
  | 0 => Nat.le_refl _
  | i + 1 => by unfold unl; have := unl_le a b i; split <;> omega
def unlike (a b : List Int) : Nat := (max a.length b.length - min a.length b.length) + unl a b (min a.length b.length)
theorem unlike_zero [Tabs] {a b : List Int} : unlike a b = 0 ↔ a = b := by
  unfold unlike
  constructor
  · intro h
    have h1 : a.length = b.length := by omega
    have h2 := unl_zero.1 (show unl a b (min a.length b.length) = 0 by omega)
    apply List.ext_getElem?
    intro j
    by_cases hj : j < min a.length b.length
    · exact h2 j hj
    · rw [List.getElem?_eq_none (by omega), List.getElem?_eq_none (by omega)]
  · rintro rfl
    simp [unl_zero.2 fun j _ => (rfl : a[j]? = a[j]?)]
theorem xor_u8 [Tabs] {x y : Int} (hx : 0 ≤ x ∧ x ≤ 255) (hy : 0 ≤ y ∧ y ≤ 255) : ∃ n : Nat, Go.bits .xor .u8 x y = n ∧ n < 256 ∧ (n = 0 ↔ x = y) := by
  obtain ⟨a, rfl⟩ := Int.eq_ofNat_of_zero_le hx.1
  obtain ⟨b, rfl⟩ := Int.eq_ofNat_of_zero_le hy.1
  refine ⟨(BitVec.ofNat 8 a ^^^ BitVec.ofNat 8 b).toNat, ?_, by omega, ?_⟩
  · show IntKind.u8.wrap (((BitVec.ofInt 8 (a : Int) ^^^ BitVec.ofInt 8 (b : Int)).toNat : Nat) : Int) = _
    rw [wb' (by omega) (by have := (BitVec.ofInt 8 (a : Int) ^^^ BitVec.ofInt 8 (b : Int)).isLt; omega)]
    rfl
  · rw [show ((BitVec.ofNat 8 a ^^^ BitVec.ofNat 8 b).toNat = 0 ↔ BitVec.ofNat 8 a ^^^ BitVec.ofNat 8 b = 0#8) from ⟨fun h => BitVec.eq_of_toNat_eq (by simpa using h), fun h => by rw [h]; rfl⟩, BitVec.xor_eq_zero_iff]
    refine ⟨fun h => ?_, fun h => by have : a = b := by omega
                                     rw [this]⟩
    have := congrArg BitVec.toNat h
    simp at this
    omega
theorem Unlike_ct [Tabs] (a b : List Int) (ha : Byt a) (hb : Byt b) (la : a.length < 1000000) (lb : b.length < 1000000) : CtT Tryz.prog 101 [.sl 1 (bys a), .sl 1 (bys b)] (Ret (.int .i64 (unlike a b)) []) := by
  refine Ct.of Tryz.func101 rfl rfl (n := 45) rfl (by simp [ids]) ?_
  have m1 : ∀ x y : Nat, max (x : Int) y = ((max x y : Nat) : Int) := fun x y => by omega
  have m2 : ∀ x y : Nat, min (x : Int) y = ((min x y : Nat) : Int) := fun x y => by omega
  refine ⟨Nat, fun i => [(0, .t (.sl 1 (bys a))), (1, .t (.sl 1 (bys b))), (5, .int .i64 (((max a.length b.length - min a.length b.length) + unl a b i : Nat) : Int)), (23, .int .i64 ((min a.length b.length : Nat) : Int)), (24, .int .i64 i)], fun _ => [], fun i => i ≤ min a.length b.length, fun i => min a.length b.length - i, 0, Nat.zero_le _,
    Le.of [] ⟨rfl, rfl, congrArg (AV.int .i64) ?_, congrArg (AV.int .i64) ?_, rfl, trivial⟩ trivial rfl, ?_⟩
  · rw [bys_len, bys_len, wi (by split <;> split <;> omega) (by split <;> split <;> omega)]
    simp only [unl]
    split <;> split <;> omega
  · rw [bys_len, bys_len]
    split <;> omega
  intro i hi
  refine brB (fun hc => ?_) (fun hc => ?_)
  · have hc : i < min a.length b.length := by have := of_decide_eq_true hc; omega
    have hx : a[i]? = some a[i] := List.getElem?_eq_getElem (by omega)
    have hy : b[i]? = some b[i] := List.getElem?_eq_getElem (by omega)
    have hxb := ha a[i] (List.getElem_mem _)
    have hyb := hb b[i] (List.getElem_mem _)
    generalize a[i] = x at hx hxb
    generalize b[i] = y at hy hyb
    refine ⟨by omega, _, bys_get rfl hx, by omega, _, bys_get rfl hy, ?_⟩
    obtain ⟨n, hn, hn1, hn2⟩ := xor_u8 hxb hyb
    have hu := unl_le a b i
    have hu1 : unl a b (i + 1) = unl a b i + if n = 0 then 0 else 1 := by
      show unl a b i + (if a[i]? = b[i]? then 0 else 1) = _
      rw [hx, hy]
      congr 1
      by_cases e : x = y
      · rw [if_pos (by rw [e]), if_pos (hn2.2 e)]
      · rw [if_neg (fun h => e (Option.some.inj h)), if_neg (fun h => e (hn2.1 h))]
    refine ⟨by decide, i + 1, hc, Le.of [] ⟨rfl, rfl, congrArg (AV.int .i64) ?_, rfl, congrArg (AV.int .i64) (wi (by omega) (by omega)), trivial⟩ trivial rfl, by show min a.length b.length - (i + 1) < min a.length b.length - i; omega⟩
    rw [hn, hu1]
    have e1 : IntKind.u32.wrap (n : Int) = n := by rw [wu32]; omega
    have e2 : IntKind.u32.wrap ((n : Int) + 255) = (n : Int) + 255 := by rw [wu32]; omega
    rw [e1, e2, shr32 8 8 (by decide)]
    have e3 : ((n : Int) + 255) / 2 ^ 8 = if n = 0 then 0 else 1 := by split <;> omega
    rw [e3]
    have e4 : IntKind.i64.wrap (if n = 0 then 0 else 1) = if n = 0 then 0 else 1 := wi (by split <;> omega) (by split <;> omega)
    rw [e4, wi (by split <;> omega) (by split <;> omega)]
    split <;> omega
  · have hc : i = min a.length b.length := by have := of_decide_eq_false hc; omega
    subst hc
    exact ⟨[], _, _, ⟨rfl, rfl⟩, rfl, trivial, rfl⟩
theorem TSame_ct [Tabs] (a b : List Int) (ha : Byt a) (hb : Byt b) (la : a.length < 1000000) (lb : b.length < 1000000) : CtT Tryz.prog 74 [.sl 1 (bys a), .sl 1 (bys b)] (Ret (.bool (decide (a = b))) []) := by
  refine Ct.of Tryz.func74 rfl rfl (n := 9) rfl (by simp [ids]) ?_
  refine Told.callT (Unlike_ct a b ha hb la lb) rfl rfl rfl rfl ?_
  refine ⟨[], _, _, ⟨rfl, rfl⟩, congrArg AV.bool ?_, trivial, rfl⟩
  rw [decide_eq_decide, ← unlike_zero]
  omega
end
end Go.Proofs.YtgkmpgfmhjbcjaaGreatX
namespace Go.Proofs.YtgkmpgfmhjbcjaaGreatX
section
open Go Go.YtgkmpgfmhjbcjaaGreatE Go.Proofs
set_option maxRecDepth 100000
set_option autoImplicit false
structure Engine.Sm (g : Engine) : Prop where
  n : g.terms.length < 100000
  t : ∀ t ∈ g.terms, t.Sm
structure Engine.Sym (g : Engine) : Prop where
  kind : g.kind = 2
  nd : g.terms.Nodup
theorem makerS_ct [Tabs] (g : Engine) (hw : g.Wf) (hs : g.Sm) (h : g.Sym) : CtT Tryz.prog 61 [g.T] (Ret (.t (.iface 151 g.T)) []) := by
  obtain ⟨k, l⟩ := g
  obtain ⟨rfl, hn⟩ := h
  refine CtT.ofN Tryz.func61 rfl rfl (n := 28) rfl ?_
  have kr := TRight_ct l (by have := hs.n; simp only at this; omega) hw.terms hs.t
  rw [decide_eq_true hn] at kr
  refine Told.callT kr rfl rfl rfl rfl ?_
  exact ⟨_, rfl, .refl _⟩
def Engine.ok (g : Engine) : Prop := (g.kind = 1 ∧ g.terms = []) ∨ (g.kind = 2 ∧ g.terms.Nodup)
instance (g : Engine) : Decidable g.ok := by unfold Engine.ok; infer_instance
theorem Engine.Sym.ok {g : Engine} (h : g.Sym) : g.ok := .inr ⟨h.kind, h.nd⟩
theorem makerN_ct [Tabs] (g : Engine) (hw : g.Wf) (hs : g.Sm) (h : ¬ g.ok) : CtT Tryz.prog 61 [g.T] (Ret (.t (.v .nilIface)) []) := by
  obtain ⟨k, l⟩ := g
  refine CtT.ofN Tryz.func61 rfl rfl (n := 28) rfl ?_
  have kr := TRight_ct l (by have := hs.n; simp only at this; omega) hw.terms hs.t
  refine brB (fun h1 => brB (fun h2 => ?_) (fun h2 => brB (fun h3 => ?_) (fun h3 => ?_))) (fun h1 => brB (fun h3 => ?_) (fun h3 => ?_))
  · exact absurd (.inl ⟨of_decide_eq_true h1, by have := of_decide_eq_true h2; exact List.eq_nil_of_length_eq_zero (by simpa using this)⟩) h
  · have := of_decide_eq_true h1; have := of_decide_eq_true h3; omega
  · exact ⟨_, rfl, .refl _⟩
  · refine Told.callT kr rfl rfl rfl rfl ?_
    have hn : ¬ l.Nodup := fun hn => h (.inr ⟨of_decide_eq_true h3, hn⟩)
    rw [decide_eq_false hn]
    exact ⟨_, rfl, .refl _⟩
  · exact ⟨_, rfl, .refl _⟩
theorem tagS_ct [Tabs] (g : Engine) (hw : g.Wf) (hs : g.Sm) (k m : List Int) (hk : Byt k) (hm : Byt m) (hsm : Term.Sm ⟨k, m⟩) :
    CtT Tryz.prog 157 [g.T, .sl 1 (bys k), .sl 1 (bys m)] (Ret (.t (.tuple [(Engine.mk g.kind (putT g.terms k m).1).T, .sl 1 (bys (putT g.terms k m).2)])) []) := by
  refine CtT.ofN Tryz.func157 rfl rfl (n := 23) rfl ?_
  refine Told.callT (TPut_ct g.terms k m hs.n hw.terms hk hm hsm) rfl rfl rfl rfl ?_
  exact ⟨_, rfl, .refl _⟩
theorem knownS_ct [Tabs] (g : Engine) (hw : g.Wf) (hs : g.Sm) (k m : List Int) (hk : Byt k) (hm : Byt m) :
    CtT Tryz.prog 156 [g.T, .sl 1 (bys k), .sl 1 (bys m)] (Ret (.bool (decide ((⟨k, m⟩ : Term) ∈ g.terms))) []) := by
  refine Ct.of Tryz.func156 rfl rfl (n := 14) rfl (by simp [ids]) ?_
  refine Told.callT (Place_ct g.terms k m (by have := hs.n; omega) hw.terms hk hm) rfl rfl rfl rfl ?_
  refine ⟨[], _, _, ⟨rfl, rfl⟩, congrArg AV.bool ?_, trivial, rfl⟩
  rw [decide_eq_decide]
  unfold placeT
  cases h : atT g.terms k m with
  | none =>
    have := atT_none.1 h
    simp [this]
  | some i =>
    have := List.mem_of_getElem? (atT_some h).2.1
    simp [this]
theorem meth_tag (w : World) (O : Nat → Prop) (v : Value) (x : T) (_ : HT w O x v) : (method (Tryz.prog.types.size + Made.depth) 151 v "wristband/mac.tag").run Tryz.prog w = .ok (157, v) w := by kernel_rfl
theorem meth_known (w : World) (O : Nat → Prop) (v : Value) (x : T) (_ : HT w O x v) : (method (Tryz.prog.types.size + Made.depth) 151 v "wristband/mac.known").run Tryz.prog w = .ok (156, v) w := by kernel_rfl
def tagE (g : Engine) (k m : List Int) : Engine × List Int := (⟨g.kind, (putT g.terms k m).1⟩, (putT g.terms k m).2)
@[reducible] def resTag (p : Engine × List Int) (e : Int) : T := .tuple [p.1.T, .sl 1 (bys p.2), .int .i64 e]
theorem TagS_ct [Tabs] (g : Engine) (hw : g.Wf) (hs : g.Sm) (h : g.Sym) (k m : List Int) (hk : Byt k) (hm : Byt m) (hsm : Term.Sm ⟨k, m⟩) :
    CtT Tryz.prog 63 [g.T, .sl 1 (bys k), .sl 1 (bys m)] (Ret (.t (resTag (tagE g k m) 0)) []) := by
  refine CtT.ofN Tryz.func63 rfl rfl (n := 26) rfl ?_
  refine Told.callT (makerS_ct g hw hs h) rfl rfl rfl rfl ?_
  refine Told.invoke (fun w O v hv => meth_tag w O v _ hv) (tagS_ct g hw hs k m hk hm hsm) rfl rfl rfl ?_
  exact ⟨_, rfl, .refl _⟩
theorem TagN_ct [Tabs] (g : Engine) (hw : g.Wf) (hs : g.Sm) (h : ¬ g.ok) (k m : List Int) : CtT Tryz.prog 63 [g.T, .sl 1 (bys k), .sl 1 (bys m)] (Ret (.t (resTag (g, []) 1)) []) := by
  refine CtT.ofN Tryz.func63 rfl rfl (n := 26) rfl ?_
  refine Told.callT (makerN_ct g hw hs h) rfl rfl rfl rfl ?_
  exact ⟨_, rfl, by repeat constructor⟩
theorem FitsS_ct [Tabs] (g : Engine) (hw : g.Wf) (hs : g.Sm) (h : g.Sym) (k m t : List Int) (hk : Byt k) (hm : Byt m) (ht : Byt t) (hl : t.length < 1000000) (hsm : Term.Sm ⟨k, m⟩) :
    CtT Tryz.prog 49 [g.T, .sl 1 (bys k), .sl 1 (bys m), .sl 1 (bys t)] (Ret (.bool (decide ((⟨k, m⟩ : Term) ∈ g.terms ∧ (putT g.terms k m).2 = t))) []) := by
  refine Ct.of Tryz.func49 rfl rfl (n := 33) rfl (by simp [ids]) ?_
  refine Told.callT (makerS_ct g hw hs h) rfl rfl rfl rfl ?_
  refine Told.invoke (fun w O v hv => meth_known w O v _ hv) (knownS_ct g hw hs k m hk hm) rfl rfl rfl ?_
  by_cases hin : (⟨k, m⟩ : Term) ∈ g.terms
  case neg =>
    rw [decide_eq_false hin]
    exact ⟨[], _, _, ⟨rfl, rfl⟩, congrArg AV.bool (decide_eq_false fun h => hin h.1).symm, trivial, rfl⟩
  rw [decide_eq_true hin]
  refine Told.invoke (fun w O v hv => meth_tag w O v _ hv) (tagS_ct g hw hs k m hk hm hsm) rfl rfl rfl ?_
  refine Told.callT (TSame_ct (putT g.terms k m).2 t ?_ ht ?_ hl) rfl rfl rfl rfl ?_
  · unfold putT; cases atT g.terms k m <;> exact oct_byt _
  · unfold putT; cases atT g.terms k m <;> (show (oct _).length < _; rw [oct_len]; omega)
  · refine ⟨[], _, _, ⟨rfl, rfl⟩, congrArg AV.bool ?_, trivial, rfl⟩
    rw [decide_eq_decide]
    exact ⟨fun h => ⟨hin, h⟩, fun h => h.2⟩
theorem FitsN_ct [Tabs] (g : Engine) (hw : g.Wf) (hs : g.Sm) (h : ¬ g.ok) (k m t : List Int) : CtT Tryz.prog 49 [g.T, .sl 1 (bys k), .sl 1 (bys m), .sl 1 (bys t)] (Ret (.bool false) []) := by
  refine Ct.of Tryz.func49 rfl rfl (n := 33) rfl (by simp [ids]) ?_
  refine Told.callT (makerN_ct g hw hs h) rfl rfl rfl rfl ?_
  exact ⟨[], _, _, ⟨rfl, rfl⟩, rfl, trivial, rfl⟩
end
end Go.Proofs.YtgkmpgfmhjbcjaaGreatX
namespace Go.Proofs.YtgkmpgfmhjbcjaaGreatX
section
open Go Go.YtgkmpgfmhjbcjaaGreatE Go.Proofs Go.RowKit Go.Extern.Stop Go.Stop Go.Extern
set_option maxRecDepth 100000
set_option autoImplicit false
theorem tas_kind25 (w : World) : ((ReflectliteType.abiMethod fun t => (fun a : Nat => Value.int IntKind.u8 (a : Int)) <$> Rtype.kind t) #[.pointer (some ⟨2, 124, none⟩)]).run Tryz.prog w = .ok (.int .u8 22) w := by kernel_rfl

theorem rlm (z : Sem Value) (f : TypeId → Addr → Nat → Nat → Sem Value) (v : Value) :
    ReflectliteValue.method z f #[v] = (do match ← ReflectliteValue.parts v with | none => z | some (t, a, fl) => f t a fl (fl % 32)) := rfl
theorem tas_valueOf25 (e : Addr) (w : World) : (ReflectliteValue.unpack (.iface 124 (.pointer (some e)))).run Tryz.prog w
    = .ok (.agg #[.pointer (some ⟨2, 124, none⟩), .pointer (some ⟨w.heap.size, 0, none⟩), .int .u64 150]) (w.alloc (.cells #[.pointer (some e)] 124)) := by kernel_rfl

theorem tas_mk25 (p : Addr) (w : World) : (ReflectliteValue.mk 124 p ReflectliteValue.flagAddr).run Tryz.prog w = .ok (.agg #[.pointer (some ⟨2, 124, none⟩), .pointer (some p), .int .u64 406]) w := by kernel_rfl
theorem rls (v x : Value) : ReflectliteValue.set #[v, x] = (do
    let (some (dst, a, fl), some (src, b, _)) := (← ReflectliteValue.parts v, ← ReflectliteValue.parts x)
      | unsupported (.noEntry "extern/(internal/reflectlite.Value).Set.zeroValue")
    if fl / ReflectliteValue.flagAddr % 2 == 0 then unsupported (.noEntry "extern/(internal/reflectlite.Value).Set.unaddressable")
    let val ← loadVar src b
    if ← Rtype.directlyAssignable dst src then storeVar dst a val
    else if ← Rtype.implements dst src then
      if (← Rtype.kind src) == 20 then
        match val with
        | .nilIface => unsupported (.noEntry "extern/reflectlite: a nil value of one interface type handed on as a value of another")
        | _ => storeVar dst a val
      else storeVar dst a (.iface src val)
    else panicString ("reflectlite.Set: value of type " ++ (← Rtype.spelt src) ++ " is not assignable to type " ++ (← Rtype.spelt dst))
    pure (.tuple #[])) := rfl
theorem tas_parts25a (a : Addr) (w : World) : (ReflectliteValue.parts (.agg #[.pointer (some ⟨2, 124, none⟩), .pointer (some a), .int .u64 406])).run Tryz.prog w = .ok (some (124, a, 406)) w := by kernel_rfl
theorem tas_parts25 (a : Addr) (w : World) : (ReflectliteValue.parts (.agg #[.pointer (some ⟨2, 124, none⟩), .pointer (some a), .int .u64 150])).run Tryz.prog w = .ok (some (124, a, 150)) w := by kernel_rfl
theorem tas_direct25 (w : World) : (Rtype.directlyAssignable 124 124).run Tryz.prog w = .ok true w := by kernel_rfl
theorem tas_size25 (w : World) : (Go.sizeOf 124).run Tryz.prog w = .ok 1 w := by kernel_rfl
theorem tas_set25 (ta b e : Addr) (old : Value) (W : World) (hb : W.cell? b = some (.pointer (some e))) (ht : W.cell? ta = some old) (hf : W.frozen? ta = false) :
    (ReflectliteValue.set #[.agg #[.pointer (some ⟨2, 124, none⟩), .pointer (some ta), .int .u64 406], .agg #[.pointer (some ⟨2, 124, none⟩), .pointer (some b), .int .u64 150]]).run Tryz.prog W
      = .ok (.tuple #[]) (W.setCell ta (.pointer (some e))) := by
  rw [rls]
  simp only [Sem.run_bind, tas_parts25a, tas_parts25, Result.andThen]
  simp [ReflectliteValue.flagAddr, loadVar, isAgg, underlying, Tryz.underlying124, hb, Result.andThen, tas_direct25, storeVar, Value.cells, storeCells, Addr.add]
  rw [run_store Tryz.prog W ta _ _ (by rfl)]
  simp [ht, hf]
end
end Go.Proofs.YtgkmpgfmhjbcjaaGreatX
namespace Go.Proofs.YtgkmpgfmhjbcjaaGreatX
section
open Go Go.YtgkmpgfmhjbcjaaGreatE Go.Proofs Go.RowKit Go.Extern.Stop Go.Stop Go.Extern
set_option maxRecDepth 100000
set_option autoImplicit false
theorem tax_kind25 (w : World) : ((ReflectliteType.abiMethod fun t => (fun a : Nat => Value.int IntKind.u8 (a : Int)) <$> Rtype.kind t) #[.pointer (some ⟨2, 36, none⟩)]).run Tryz.prog w = .ok (.int .u8 2) w := by kernel_rfl

theorem tax_valueOf25 (n : Int) (w : World) : (ReflectliteValue.unpack (.iface 36 (.int .i64 n))).run Tryz.prog w
    = .ok (.agg #[.pointer (some ⟨2, 36, none⟩), .pointer (some ⟨w.heap.size, 0, none⟩), .int .u64 130]) (w.alloc (.cells #[.int .i64 n] 36)) := by kernel_rfl

theorem tax_mk25 (p : Addr) (w : World) : (ReflectliteValue.mk 36 p ReflectliteValue.flagAddr).run Tryz.prog w = .ok (.agg #[.pointer (some ⟨2, 36, none⟩), .pointer (some p), .int .u64 386]) w := by kernel_rfl
theorem tax_parts25a (a : Addr) (w : World) : (ReflectliteValue.parts (.agg #[.pointer (some ⟨2, 36, none⟩), .pointer (some a), .int .u64 386])).run Tryz.prog w = .ok (some (36, a, 386)) w := by kernel_rfl
theorem tax_parts25 (a : Addr) (w : World) : (ReflectliteValue.parts (.agg #[.pointer (some ⟨2, 36, none⟩), .pointer (some a), .int .u64 130])).run Tryz.prog w = .ok (some (36, a, 130)) w := by kernel_rfl
theorem tax_direct25 (w : World) : (Rtype.directlyAssignable 36 36).run Tryz.prog w = .ok true w := by kernel_rfl
theorem tax_size25 (w : World) : (Go.sizeOf 36).run Tryz.prog w = .ok 1 w := by kernel_rfl
theorem tax_set25 (ta b : Addr) (n : Int) (old : Value) (W : World) (hb : W.cell? b = some (.int .i64 n)) (ht : W.cell? ta = some old) (hf : W.frozen? ta = false) :
    (ReflectliteValue.set #[.agg #[.pointer (some ⟨2, 36, none⟩), .pointer (some ta), .int .u64 386], .agg #[.pointer (some ⟨2, 36, none⟩), .pointer (some b), .int .u64 130]]).run Tryz.prog W
      = .ok (.tuple #[]) (W.setCell ta (.int .i64 n)) := by
  rw [rls]
  simp only [Sem.run_bind, tax_parts25a, tax_parts25, Result.andThen]
  simp [ReflectliteValue.flagAddr, loadVar, isAgg, underlying, Tryz.underlying36, hb, Result.andThen, tax_direct25, storeVar, Value.cells, storeCells, Addr.add]
  rw [run_store Tryz.prog W ta _ _ (by rfl)]
  simp [ht, hf]
end
end Go.Proofs.YtgkmpgfmhjbcjaaGreatX
namespace Go.Proofs.YtgkmpgfmhjbcjaaGreatX
section
open Go Go.YtgkmpgfmhjbcjaaGreatE Go.Proofs Go.RowKit
set_option maxRecDepth 100000
set_option autoImplicit false
@[reducible] def FaultP (s n : Int) : T := .pt [.int .i64 s, .iface 36 (.int .i64 n)]
@[reducible] def FaultI (s n : Int) : T := .iface 124 (FaultP s n)
theorem fault_parts {w : World} {O : Nat → Prop} {s n : Int} {v : Value} (h : HT w O (FaultI s n) v) : ∃ b o, v = .iface 124 (.pointer (some ⟨b, o, none⟩)) ∧ b < w.heap.size ∧ w.cell? ⟨b, o + 1, none⟩ = some (.iface 36 (.int .i64 n)) ∧ HT w O (FaultP s n) (.pointer (some ⟨b, o, none⟩)) := by
  cases h with
  | iface _ _ y hy =>
    have hy0 := hy
    cases hy with
    | pt _ b o f hO hb h1 hm ht =>
      have e1 := hm 1 (by simp)
      have t1 := ht 1 _ rfl
      have : f 1 = .iface 36 (.int .i64 n) := by
        generalize f 1 = z at t1
        cases t1 with
        | iface _ _ z hz => cases hz; rfl
      rw [this] at e1
      exact ⟨b, o, rfl, hb, e1, hy0⟩
theorem cell_of {w : World} {g : Nat} {c0 : Value} {tb : TypeId} (h : w.heap[g]? = some (.cells #[c0] tb (0, 0))) : w.cell? ⟨g, 0, none⟩ = some c0 ∧ w.frozen? ⟨g, 0, none⟩ = false := by
  constructor
  · unfold World.cell?; simp [h]
  · unfold World.frozen?; simp [h]
theorem fill_end [Tabs] {w : World} {g : Nat} {c0 u : Value} {tb : TypeId} {o1 o2 o3 o4 : Obj} (h : w.heap[g]? = some (.cells #[c0] tb (0, 0))) :
    But w (fun c => c = g) (((((w.alloc o1).alloc o2).alloc o3).alloc o4).setCell ⟨g, 0, none⟩ u) ∧ (((((w.alloc o1).alloc o2).alloc o3).alloc o4).setCell ⟨g, 0, none⟩ u).heap[g]? = some (.cells #[u] tb (0, 0)) := by
  have hb : But w (fun c => c = g) ((((w.alloc o1).alloc o2).alloc o3).alloc o4) := (((But.alloc w o1 _).trans (But.alloc _ o2 _)).trans (But.alloc _ o3 _)).trans (But.alloc _ o4 _)
  have hlt : g < w.heap.size := (Array.getElem?_eq_some_iff.1 h).1
  have hg : ((((w.alloc o1).alloc o2).alloc o3).alloc o4).heap[g]? = some (.cells #[c0] tb (0, 0)) := by
    rw [Below.heap_alloc _ _ _ (by simp; omega), Below.heap_alloc _ _ _ (by simp; omega), Below.heap_alloc _ _ _ (by simp; omega), Below.heap_alloc _ _ _ hlt, h]
  exact ⟨hb.trans (But.setCell _ _ _ _), by
    have := heap_setCell_same _ g 0 #[c0] tb u hg
    simpa using this⟩
end
end Go.Proofs.YtgkmpgfmhjbcjaaGreatX
namespace Go.Proofs.YtgkmpgfmhjbcjaaGreatX
section
open Go Go.YtgkmpgfmhjbcjaaGreatE Go.Proofs Go.Shelf
set_option maxRecDepth 100000
set_option autoImplicit false
attribute [local go_sem] Oper.semAt_some
theorem fin_succ (N k : Nat) (h : k < N) : (List.finRange N).take (k+1) = (List.finRange N).take k ++ [⟨k, h⟩] := by
  rw [List.take_add_one, List.getElem?_eq_getElem (by simpa using h)]
  simp
theorem fin_map (N k : Nat) (h : k ≤ N) : ((List.finRange N).take k).map (·.1) = List.range k := by
  apply List.ext_getElem
  · simp; omega
  · intro i h1 h2
    simp
theorem mea {M a sz : Nat} (h1 : 1 ≤ sz) (h2 : a + sz ≤ M) : M - ((a : Int) + (sz : Int)).toNat < M - ((a : Int)).toNat := by omega
theorem wrap64_i (n : Int) : IntKind.i64.wrap n = RowKit.wrap64 n := by unfold RowKit.wrap64; exact IntKind.wrap_i64 n
theorem w64_ok [Tabs] {a sz cap : Nat} (h : a + sz ≤ cap) (hm : cap ≤ maxLen) : RowKit.wrap64 ((a : Int) + (sz : Int)) = (a : Int) + (sz : Int) := by
  have hm' : cap ≤ 9223372036854775807 := hm
  exact (wrap64_i _).symm.trans (IntWalk.i64_in _ ⟨by omega, by omega⟩)
theorem cnums {a sz M cap : Nat} (hsz : 1 ≤ sz) (hcap : M ≤ cap) (h : a + sz ≤ M) : (a : Int) < (M : Int) ∧ ¬ ((M - a : Nat) : Int) < (sz : Int) ∧ a ≤ M ∧ ¬ cap = a ∧ ((a : Int) + (sz : Int)).toNat = a + sz ∧ a + sz - a = sz ∧ a + sz ≤ cap ∧ 0 ≤ (a : Int) + (sz : Int) ∧ ¬ (a : Int) + (sz : Int) < 0 ∧ a ≤ a + sz ∧ ¬ a + sz = a ∧ ¬ sz = 0 ∧ ¬ a + sz < a ∧ (a : Int) + (sz : Int) ≤ (cap : Int) := by omega
structure Aside0 (p : Prop) : Prop where
  out : p
theorem run_not {P : Program} (b : Bool) (w : World) : (Op.unary .not (.bool b)).run P w = .ok (.bool (!b)) w := rfl
attribute [local go_sem] run_not
def iOf : Value → Int
  | .int _ x => x
  | _ => 0
set_option maxHeartbeats 2000000 in
theorem chunk1_in [Tabs] (n : Nat) (hn : 2 ≤ n) (l : Nat) (N sz M g1 o1 g2 o2 : Nat) (A : Option Addr) (cap : Nat) (vals : Fin N → Array Value) (hsz : 1 ≤ sz) (hM : M = N * sz) (hcap : M ≤ cap) (hmax : M ≤ maxLen) (w0 : World) (O : Nat → Prop) (hO1 : ¬ O g1) (hO2 : ¬ O g2) (hg1 : g1 < w0.heap.size) (hg2 : g2 < w0.heap.size)
    (hc1 : w0.cell? ⟨g1, o1, none⟩ = some (.slice A M cap)) (hc2 : w0.cell? ⟨g2, o2, none⟩ = some (.int .i64 (sz : Int)))
    (hv : ∀ k (h : k < N), ∃ ad, A = some ad ∧ vals ⟨k, h⟩ = #[.slice (some (ad.add (k * sz))) sz sz])
    (J Jx : List (Fin N) → World → Prop) (W : World) (hW : Kpw w0 O w0 W) (hJ : AbidesFrom W.heap.size J) (hJx : AbidesFrom W.heap.size Jx)
    (hY : ∀ pre x W1, J pre W1 → pre.length < N → YieldAt Fence.wide (n - 1) Tryz.prog l (vals x) W1 fun e W' =>
      (e = .returned (.bool true) ∧ J (pre ++ [x]) W' ∧ Kpw w0 O W1 W') ∨ (e = .returned (.bool false) ∧ Jx (pre ++ [x]) W')) (h0 : J [] W) :
    CallsIn Fence.wide n Tryz.prog 112 (#[.func (.yield l) #[] #[]] ++ #[.pointer (some ⟨g1, o1, none⟩), .pointer (some ⟨g2, o2, none⟩)]) W fun e W' => (∃ v, e = .returned v) ∧ ((∃ xs, xs.map (·.1) = List.range N ∧ J xs W') ∨ (∃ pre, (∃ k, k ≤ N ∧ pre.map (·.1) = List.range k) ∧ Jx pre W')) := by
  refine callsIn_of_wp Tryz.func112 rfl trivial ?_ rfl
  simp only [show (Tryz.f112).ntmps = 31 from rfl, List.size_toArray, List.length_cons, List.length_nil, Nat.reduceAdd, Nat.reduceSub, Array.replicate_succ, Array.replicate_zero, List.push_toArray, List.append_toArray, List.nil_append, List.cons_append]
  have hro : Fence.wide.round = none := rfl
  gi_wp2
  gi_loopw [4] (fun i wr => ∃ k a : Nat, k ≤ N ∧ a = k * sz ∧ i = .int .i64 (a : Int) ∧ J ((List.finRange N).take k) wr ∧ Kpw w0 O W wr)
    (fun i _ => M - (iOf i).toNat)
  case atStart => exact ⟨0, 0, Nat.zero_le _, by simp, rfl, h0, ⟨Nat.le_refl _, fun _ _ _ => rfl⟩⟩
  case round =>
    obtain ⟨k, a, hk', hka, rfl, hJs, hnx⟩ := hrel
    have hb1 := ((World.cell?_of_block (hnx.2 g1 hg1 hO1)).trans (World.cell?_of_block (hW.2 g1 hg1 hO1))).trans hc1
    have hb2 := ((World.cell?_of_block (hnx.2 g2 hg2 hO2)).trans (World.cell?_of_block (hW.2 g2 hg2 hO2))).trans hc2
    by_cases hlt : k < N
    · obtain ⟨ad, rfl, hvk⟩ := hv k hlt
      have hJd : J ((List.finRange N).take k) wr.drew := hJ _ wr wr.drew none hJs ⟨rfl, rfl, rfl, Nat.le_refl _, fun _ _ _ => rfl⟩ (fun r e => by cases e)
      obtain ⟨fn, tmps, assign, body, hy, hR⟩ := hY _ ⟨k, hlt⟩ wr.drew hJd (by simp; omega)
      rw [hvk, ← hka] at hy
      have hstep : a + sz ≤ M := by
        rw [hM, hka, ← Nat.succ_mul]
        exact Nat.mul_le_mul_right _ hlt
      obtain ⟨hz1, hz2, hz3, hz4, hs3, hs7, hs8, hs9, hs10, hs11, hs12, hs13, hs14, hs15⟩ := cnums hsz hcap hstep
      have hs1 : RowKit.wrap64 ((a : Int) + (sz : Int)) = (a : Int) + (sz : Int) := w64_ok hstep hmax
      have hms := Aside0.mk (mea hsz hstep)
      have hka' := Aside0.mk hka
      have hnx' := Aside0.mk hnx
      have hb2' := Aside0.mk hb2
      have hR' := Aside0.mk hR
      clear hv hvk hJ hJx hY h0 hc1 hc2 hW hnx hJs hJd hR hstep hcap hsz
      have hY' := Aside0.mk hy
      clear hka hM hmax hy
      clear hk'
      gi_wp2
      refine wpIn_wide.2 ?_
      refine wp_region_still_lit (by kernel_rfl) (by kernel_rfl) ?_
      repeat still_step
      refine wpStill_nil ?_
      gi_wp2
      rw [hY'.out]
      refine ⟨fun _ => by omega, hR'.out.mono ?_⟩
      rename_i K hK
      rintro e W3 (⟨rfl, hJ3, hk3⟩ | ⟨rfl, hJx3⟩)
      · have hb3 := (World.cell?_of_block (hk3.2 g2 hg2 hO2)).trans hb2'.out
        replace hb3 : W3.cell? ⟨g2, o2, none⟩ = some (.int .i64 (sz : Int)) := hb3
        refine hK _ _ ?_
        gi_wp2
        rw [hs1]
        have hsum : ((a : Int) + (sz : Int)) = ((a + sz : Nat) : Int) := (Int.natCast_add a sz).symm
        have hms2 := hms.out
        rw [hsum] at hms2 ⊢
        have hk1 : a + sz = (k + 1) * sz := by rw [hka'.out, Nat.succ_mul]
        have hJ4 : J ((List.finRange N).take (k + 1)) W3 := by rw [fin_succ N k hlt]; exact hJ3
        exact ⟨⟨k + 1, a + sz, hlt, hk1, rfl, hJ4, Nat.le_trans hnx'.out.1 hk3.1, fun c hc hn => (hk3.2 c hc hn).trans (hnx'.out.2 c hc hn)⟩, hms2⟩
      · refine hK _ _ ?_
        gi_wp2
        refine bodyPost_ret (results_none rfl _ _ _) rfl ?_
        exact ⟨⟨_, rfl⟩, .inr ⟨_, ⟨k + 1, hlt, by rw [← fin_succ N k hlt]; exact fin_map N (k + 1) hlt⟩, hJx3⟩⟩
    · obtain rfl : k = N := by omega
      have hz1 : ¬ (a : Int) < (M : Int) := by omega
      gi_wp2
      go_end0
      exact ⟨⟨_, rfl⟩, .inl ⟨_, fin_map k k (Nat.le_refl _), hJs⟩⟩
end
end Go.Proofs.YtgkmpgfmhjbcjaaGreatX
namespace Go.Proofs.YtgkmpgfmhjbcjaaGreatX
section
open Go Go.YtgkmpgfmhjbcjaaGreatE Go.Proofs Go.Shelf
set_option maxRecDepth 100000
set_option autoImplicit false
namespace Gon
structure U where
  t : Int
  e : Int
  deriving DecidableEq
@[reducible] def U.T (u : U) : T := .agg [.int .u64 u.t, .int .u64 u.e]
def cmpI (a b : Int) : Int := bif decide (a < b) then -1 else bif decide (b < a) then 1 else 0
def orI : List Int → Int
  | [] => 0
  | x :: l => bif decide (x = 0) then orI l else x
def ord (u v : U) : Int := orI [cmpI u.t v.t, cmpI u.e v.e]
theorem isNaN_ct [Tabs] (a : Int) : CtT Tryz.prog 84 [.int .u64 a] (Ret (.bool false) []) := by
  refine Ct.of Tryz.func84 rfl rfl (n := 6) rfl (by simp [ids]) ?_
  refine ⟨[], _, _, ⟨rfl, rfl⟩, ?_, trivial, rfl⟩
  exact congrArg AV.bool (by simp)
theorem Compare_ct [Tabs] (a b : Int) : CtT Tryz.prog 55 [.int .u64 a, .int .u64 b] (Ret (.int .i64 (cmpI a b)) []) := by
  refine Ct.of Tryz.func55 rfl rfl (n := 20) rfl (by simp [ids]) ?_
  refine Told.callT (isNaN_ct a) rfl rfl rfl rfl ?_
  refine Told.callT (isNaN_ct b) rfl rfl rfl rfl ?_
  refine brB (fun h => ?_) (fun h => brB (fun h2 => ?_) (fun h2 => ?_))
  · exact ⟨[], _, _, ⟨rfl, rfl⟩, congrArg (AV.int .i64) (by unfold cmpI; rw [h]; rfl), trivial, rfl⟩
  · exact ⟨[], _, _, ⟨rfl, rfl⟩, congrArg (AV.int .i64) (by unfold cmpI; rw [h, show decide (b < a) = true from h2]; rfl), trivial, rfl⟩
  · exact ⟨[], _, _, ⟨rfl, rfl⟩, congrArg (AV.int .i64) (by unfold cmpI; rw [h, show decide (b < a) = false from h2]; rfl), trivial, rfl⟩
def ints (l : List Int) : List T := l.map (T.int .i64)
theorem orI_drop : ∀ (l : List Int) (i : Nat) (x : Int), l[i]? = some x → orI (l.drop i) = bif decide (x = 0) then orI (l.drop (i + 1)) else x
  | [], i, x, h => by simp at h
  | y :: l, 0, x, h => by simp at h; subst h; rfl
  | y :: l, i + 1, x, h => by simpa using orI_drop l i x (by simpa using h)
theorem ints_get {l : List Int} {i : Nat} {x : Int} (h : l[i]? = some x) : (ints l)[((i : Int)).toNat]? = some (T.int .i64 x) := by
  simp [ints, h]
theorem Or_ct [Tabs] (l : List Int) (hl : l.length < 1000000) : CtT Tryz.prog 98 [.sl 1 (ints l)] (Ret (.int .i64 (orI l)) []) := by
  refine Ct.of Tryz.func98 rfl rfl (n := 18) rfl (by simp [ids]) ?_
  refine ⟨Nat, fun i => [(2, .int .i64 0), (3, .int .i64 0), (6, .t (.sl 1 (ints l))), (7, .int .i64 l.length), (8, .int .i64 i)], fun _ => [], fun i => i ≤ l.length ∧ orI (l.drop i) = orI l, fun i => l.length - i, 0, ⟨by simp, rfl⟩, Le.of [] ⟨rfl, rfl, rfl, by simp [ints]; rfl, rfl, trivial⟩ trivial rfl, ?_⟩
  rintro i ⟨h1, h2⟩
  refine brB (fun h => ?_) (fun h => ?_)
  · have h : i < l.length := by have := of_decide_eq_true h; omega
    have hx := List.getElem?_eq_getElem h
    refine ⟨by omega, _, ints_get hx, ?_⟩
    rw [orI_drop l i _ hx] at h2
    refine brB (fun h' => ?_) (fun h' => ?_)
    · have h' : decide (l[i] = 0) = false := by simpa using h'
      exact ⟨[], _, _, ⟨rfl, rfl⟩, congrArg (AV.int .i64) (by rw [← h2, h']; rfl), trivial, rfl⟩
    · have h' : decide (l[i] = 0) = true := by simpa using h'
      rw [h'] at h2
      refine ⟨i + 1, ⟨h, h2⟩, Le.of [] ⟨rfl, rfl, rfl, rfl, congrArg (AV.int .i64) (wi (by omega) (by omega)), trivial⟩ trivial rfl, by show l.length - (i + 1) < l.length - i; omega⟩
  · have h : ¬ i < l.length := by have := of_decide_eq_false h; omega
    rw [List.drop_of_length_le (by omega)] at h2
    exact ⟨[], _, _, ⟨rfl, rfl⟩, congrArg (AV.int .i64) (by rw [← h2]; rfl), trivial, rfl⟩
theorem order_ct [Tabs] (u v : U) : CtT Tryz.prog 69 [u.T, v.T] (Ret (.int .i64 (ord u v)) []) := by
  refine Ct.of Tryz.func69 rfl rfl (n := 17) rfl (by simp [ids]) ?_
  refine Told.callT (Compare_ct _ _) rfl rfl rfl rfl ?_
  refine Told.callT (Compare_ct _ _) rfl rfl rfl rfl ?_
  refine Told.callT (Or_ct [cmpI u.t v.t, cmpI u.e v.e] (by simp)) rfl rfl rfl rfl ?_
  exact ⟨[], _, _, ⟨rfl, rfl⟩, rfl, trivial, rfl⟩

@[reducible] def uses (l : List U) : List T := l.map U.T
theorem uses_get {l : List U} {n : Int} {i : Nat} {x : U} (hn : n = i) (h : l[i]? = some x) : (uses l)[n.toNat]? = some x.T := by
  subst hn; simp [uses, h]
theorem uses_len (l : List U) : (uses l).length = l.length := by simp [uses]
abbrev UseBox (u : U) : Blk := .box 63 [.int .u64 u.t, .int .u64 u.e]
def ltU (u v : U) : Prop := u.t < v.t ∨ u.t = v.t ∧ u.e < v.e
theorem cmpI_lt {a b : Int} : cmpI a b < 0 ↔ a < b := by
  unfold cmpI
  by_cases h : a < b
  · simp [h]
  · by_cases h2 : b < a <;> simp [h, h2]
theorem cmpI_zero {a b : Int} : cmpI a b = 0 ↔ a = b := by
  unfold cmpI
  by_cases h : a < b
  · simp [h]; omega
  · by_cases h2 : b < a
    · simp [h, h2]; omega
    · simp [h, h2]; omega
theorem ord_cases (u v : U) : ord u v = bif decide (cmpI u.t v.t = 0) then cmpI u.e v.e else cmpI u.t v.t := by
  unfold ord orI orI orI
  cases h1 : decide (cmpI u.t v.t = 0)
  · rfl
  · cases h3 : decide (cmpI u.e v.e = 0)
    · rfl
    · exact (of_decide_eq_true h3).symm
theorem ord_eq [Tabs] {u v : U} : ord u v = 0 ↔ u = v := by
  rw [ord_cases]
  obtain ⟨a, b⟩ := u; obtain ⟨a', b'⟩ := v
  simp only [U.mk.injEq]
  by_cases h1 : cmpI a a' = 0
  · rw [decide_eq_true h1, cond_true, cmpI_zero]
    rw [cmpI_zero] at h1
    omega
  · rw [decide_eq_false h1, cond_false]
    exact ⟨fun h => absurd h h1, fun h => absurd (cmpI_zero.2 h.1) h1⟩
theorem ord_lt [Tabs] {u v : U} : ord u v < 0 ↔ ltU u v := by
  rw [ord_cases]
  obtain ⟨a, b⟩ := u; obtain ⟨a', b'⟩ := v
  simp only [ltU]
  by_cases h1 : cmpI a a' = 0
  · rw [decide_eq_true h1, cond_true, cmpI_lt]
    rw [cmpI_zero] at h1
    omega
  · rw [decide_eq_false h1, cond_false, cmpI_lt]
    rw [cmpI_zero] at h1
    omega
theorem ltU_trans {u v w : U} (h : ltU u v) (h' : ltU v w) : ltU u w := by unfold ltU at *; omega
theorem ltU_irrefl {u : U} : ¬ ltU u u := by unfold ltU; omega
theorem ltU_tri (u v : U) : ltU u v ∨ u = v ∨ ltU v u := by
  obtain ⟨a, b⟩ := u; obtain ⟨a', b'⟩ := v
  simp only [ltU, U.mk.injEq]; omega
structure OkL (l : List U) : Prop where
  len : l.length ≤ 64
  srt : l.Pairwise ltU
instance (u v : U) : Decidable (ltU u v) := by unfold ltU; infer_instance
instance (l : List U) : Decidable (OkL l) := decidable_of_iff (l.length ≤ 64 ∧ l.Pairwise ltU) ⟨fun h => ⟨h.1, h.2⟩, fun h => ⟨h.1, h.2⟩⟩
theorem srt_of_adj [Tabs] {l : List U} (h : ∀ i u v, l[i]? = some u → l[i + 1]? = some v → ltU u v) : l.Pairwise ltU := by
  rw [List.pairwise_iff_getElem]
  intro i j hi hj hij
  induction j with
  | zero => omega
  | succ j ih =>
    have h1 := h j l[j] l[j + 1] (List.getElem?_eq_getElem _) (List.getElem?_eq_getElem _)
    by_cases e : i = j
    · subst e; exact h1
    · exact ltU_trans (ih (by omega) (by omega)) h1
theorem adj_of_srt {l : List U} (h : l.Pairwise ltU) {i : Nat} {u v : U} (hu : l[i]? = some u) (hv : l[i + 1]? = some v) : ltU u v := by
  rw [List.pairwise_iff_getElem] at h
  obtain ⟨h1, rfl⟩ := List.getElem?_eq_some_iff.1 hu
  obtain ⟨h2, rfl⟩ := List.getElem?_eq_some_iff.1 hv
  exact h i (i + 1) h1 h2 (by omega)
theorem ex_bool (p : Prop) : ∃ b : Bool, b = true ↔ p := by
  by_cases h : p
  · exact ⟨true, by simp [h]⟩
  · exact ⟨false, by simp [h]⟩
theorem Right_ct [Tabs] (s : List U) (hl : s.length < 100000) (b : Bool) (hb : b = true ↔ OkL s) : CtT Tryz.prog 43 [.sl 2 (uses s)] (Ret (.bool b) []) := by
  refine Ct.of Tryz.func43 rfl rfl (n := 28) rfl (by simp [ids]) ?_
  have fb : ¬ OkL s → false = b := fun h => by cases b; rfl; exact absurd (hb.1 rfl) h
  refine ⟨Nat, fun i => [(0, .t (.sl 2 (uses s))), (5, .t (.sl 2 (uses s))), (6, .int .i64 s.length), (7, .int .i64 i)], fun _ => [],
      fun i => i ≤ s.length ∧ ∀ j u v, j + 1 < i → s[j]? = some u → s[j + 1]? = some v → ltU u v, fun i => s.length - i, 0, ⟨by simp, by simp⟩, Le.of [] ⟨rfl, rfl, by rw [← uses_len s]; rfl, rfl, trivial⟩ trivial rfl, ?_⟩
  rintro i ⟨q1, q3⟩
  refine brB (fun hc => ?_) (fun hc => ?_)
  · have hc : i < s.length := by have := of_decide_eq_true hc; omega
    have hx : s[i]? = some s[i] := List.getElem?_eq_getElem hc
    generalize s[i] = u at hx
    refine ⟨by omega, _, uses_get rfl hx, ?_⟩
    refine brB (fun h5 => ?_) (fun h5 => ?_)
    · have h5 : 0 < i := by have := of_decide_eq_true h5; omega
      have hp : s[i - 1]? = some s[i - 1] := List.getElem?_eq_getElem (by omega)
      generalize s[i - 1] = v at hp
      have w1 : IntKind.i64.wrap ((i : Int) - 1) = ((i - 1 : Nat) : Int) := by rw [wi (by omega) (by omega)]; omega
      refine ⟨by rw [w1]; omega, _, uses_get w1 hp, ?_⟩
      refine Told.callT (order_ct v u) rfl rfl rfl rfl ?_
      refine brB (fun h6 => ?_) (fun h6 => ?_)
      · refine ⟨[], _, _, ⟨rfl, rfl⟩, congrArg AV.bool (fb fun h => ?_), trivial, rfl⟩
        have h7 := adj_of_srt h.srt hp (by rw [show i - 1 + 1 = i by omega]; exact hx)
        have := ord_lt.2 h7
        have := of_decide_eq_true h6
        omega
      · have h6 : ord v u < 0 := by have := of_decide_eq_false h6; omega
        refine ⟨i + 1, ⟨hc, fun j w z hj hw hz => ?_⟩, Le.of [] ⟨rfl, rfl, rfl, congrArg (AV.int .i64) (wi (by omega) (by omega)), trivial⟩ trivial rfl, by show s.length - (i + 1) < s.length - i; omega⟩
        by_cases e : j + 1 = i
        · subst e
          rw [hx] at hz; cases hz
          rw [Nat.add_sub_cancel, hw] at hp; cases hp
          exact ord_lt.1 h6
        · exact q3 j w z (by omega) hw hz
    · have h5 : ¬ 0 < i := by have := of_decide_eq_false h5; omega
      refine ⟨i + 1, ⟨hc, fun j w z hj hw hz => by omega⟩, Le.of [] ⟨rfl, rfl, rfl, congrArg (AV.int .i64) (wi (by omega) (by omega)), trivial⟩ trivial rfl, by show s.length - (i + 1) < s.length - i; omega⟩
  · have hc : i = s.length := by have := of_decide_eq_false hc; omega
    subst hc
    refine ⟨[], _, _, ⟨rfl, rfl⟩, congrArg AV.bool ?_, trivial, rfl⟩
    have srt : s.Pairwise ltU := srt_of_adj fun j u v hu hv => q3 j u v (List.getElem?_eq_some_iff.1 hv).1 hu hv
    cases b with
    | true => have := (hb.1 rfl).len; rw [uses_len]; exact decide_eq_true (by omega)
    | false =>
      rw [uses_len]
      refine decide_eq_false fun h => ?_
      have := hb.2 ⟨by omega, srt⟩
      cases this
theorem part_told [Tabs] {w : World} {O : Nat → Prop} {l : List Int} {v : Value} (h : HT w O (.sl 1 (bys l)) v) : ∃ A cap, v = .slice A l.length cap ∧ l.length ≤ cap ∧ ∀ i n, 0 < n → i + n ≤ l.length → ∃ ad : Addr, A = some ad ∧ HT w O (.sl 1 (bys ((l.drop i).take n))) (.slice (some (ad.add i)) n n) := by
  generalize hx : bys l = xs at h
  have hlen : l.length = xs.length := by rw [← hx, bys_len]
  cases h with
  | nil _ A c => exact ⟨A, c, by rw [hlen]; rfl, by simp [hlen], fun i n h0 h => by simp [hlen] at h; omega⟩
  | sl _ _ b o c f hO hb hc hf hm ht =>
    refine ⟨_, c, by rw [hlen], by rw [hlen]; exact hc, fun i n h0 h => ⟨_, rfl, ?_⟩⟩
    have hl2 : (bys ((l.drop i).take n)).length = n := by simp [bys]; omega
    have hsub : ∀ p, p < n → (bys ((l.drop i).take n))[p]? = xs[i + p]? := fun p hp => by
      rw [← hx]; simp [bys, hp, List.getElem?_drop]
    have := HT.sl (w := w) (O := O) 1 (bys ((l.drop i).take n)) b (o + i) n (fun p => f (i + p)) hO hb (by rw [hl2]; exact Nat.le_refl _)
      (fun x hx' => hf x (by rw [← hx]; obtain ⟨y, hy, e⟩ := List.mem_map.1 hx'; exact List.mem_map.2 ⟨y, List.mem_of_mem_drop (List.mem_of_mem_take hy), e⟩))
      (fun p j hp hj => by
        have := hm (i + p) j (by omega) hj
        rw [show o + i + p * 1 + j = o + (i + p) * 1 + j by omega, this]
        rw [show i + (p * 1 + j) = (i + p) * 1 + j by omega])
      (fun p j x y hp hy => by
        have hpn : p < n := by have := (List.getElem?_eq_some_iff.1 hp).1; omega
        have := ht (i + p) j x y (by rw [← hsub p hpn]; exact hp) hy
        rw [show i + (p * 1 + j) = (i + p) * 1 + j by omega]; exact this)
    rw [hl2] at this
    have e : Addr.add ⟨b, o, none⟩ i = ⟨b, o + i, none⟩ := by
      unfold Addr.add
      by_cases h : i = 0
      · subst h; simp
      · simp [h]
    rw [e]
    exact this
def chunks (l : List Int) (sz N : Nat) : List (List T) := (List.range N).map fun i => [.sl 1 (bys ((l.drop (i * sz)).take sz))]
theorem chunk_iter [Tabs] (l : List Int) (sz N : Nat) (hsz : 1 ≤ sz) (hN : l.length = N * sz) (hmax : l.length ≤ maxLen) : Iter Tryz.prog 112 [.pt [.sl 1 (bys l)], .pt [.int .i64 (sz : Int)]] 1 (chunks l sz N) := by
  refine ⟨fun args w => enters_of Tryz.func112 (by kernel_rfl) rfl args w, fun w O lb hl hlb => ?_⟩
  obtain ⟨v1, v2, rfl⟩ : ∃ v1 v2, lb = [v1, v2] := by
    match lb, hl with
    | [v1, v2], _ => exact ⟨v1, v2, rfl⟩
  have h1 := hlb 0 _ _ rfl rfl
  have h2 := hlb 1 _ _ rfl rfl
  have hNx : (chunks l sz N).length = N := by simp [chunks]
  generalize hxs : chunks l sz N = xs at hNx
  subst hNx
  cases h1 with
  | pt _ b1 o1 f1 hO1 hb1 _ hm1 ht1 =>
    cases h2 with
    | pt _ b2 o2 f2 hO2 hb2 _ hm2 ht2 =>
      have c1 := hm1 0 (by simp)
      have c2 := hm2 0 (by simp)
      obtain ⟨A, cap, e1, hcap, hparts⟩ := part_told (ht1 0 _ rfl)
      have e2 := (ht2 0 _ rfl)
      generalize f2 0 = z at c2 e2
      cases e2
      rw [e1] at c1
      have hp : ∀ k, k < xs.length → ∃ ad : Addr, A = some ad ∧ HT w O (.sl 1 (bys ((l.drop (k * sz)).take sz))) (.slice (some (ad.add (k * sz))) sz sz) := fun k hk => hparts (k * sz) sz hsz (by
        rw [hN, ← Nat.succ_mul]; exact Nat.mul_le_mul_right _ hk)
      refine ⟨fun k => [match A with | some ad => .slice (some (ad.add (k * sz))) sz sz | none => undef], fun _ => rfl, fun i x hx j u v hu hv => ?_, fun q hq l' J Jx W hW hJ hJx hY h0 => ?_⟩
      · have hi : i < xs.length := (List.getElem?_eq_some_iff.1 hx).1
        obtain ⟨ad, rfl, ht⟩ := hp i hi
        have hx2 : (chunks l sz xs.length)[i]? = some [.sl 1 (bys ((l.drop (i * sz)).take sz))] := by simp [chunks, hi]
        rw [hxs, hx] at hx2
        cases hx2
        cases j with
        | zero => cases hu; cases hv; exact ht
        | succ j => simp at hu
      · exact chunk1_in q hq l' xs.length sz l.length b1 (o1 + 0) b2 (o2 + 0) A cap _ hsz hN hcap hmax w O hO1 hO2 hb1 hb2 c1 c2 (fun k hk => by
          obtain ⟨ad, rfl, _⟩ := hp k hk
          exact ⟨ad, rfl, rfl⟩) J Jx W ⟨hW.size, fun c hc _ => hW.block c hc⟩ hJ hJx hY h0

@[reducible] def chunkF (l : List Int) (sz : Nat) : T := .fn (.func 112) [] [.pt [.sl 1 (bys l)], .pt [.int .i64 (sz : Int)]]
theorem Chunk_ct [Tabs] (l : List Int) (sz : Nat) (hsz : 1 ≤ sz) : CtT Tryz.prog 105 [.sl 1 (bys l), .int .i64 (sz : Int)] (Ret (.t (chunkF l sz)) []) := by
  refine CtT.ofN Tryz.func105 rfl rfl (n := 9) rfl ?_
  refine brB (fun hc => ?_) (fun hc => ?_)
  · have := of_decide_eq_true hc
    omega
  · exact ⟨_, rfl, .refl _⟩

end Gon
end
end Go.Proofs.YtgkmpgfmhjbcjaaGreatX
namespace Go.Proofs.YtgkmpgfmhjbcjaaGreatX
section
open Go Go.YtgkmpgfmhjbcjaaGreatE Go.Proofs Go.Shelf
set_option maxRecDepth 100000
set_option autoImplicit false
namespace Gon
structure U.Wf (u : U) : Prop where
  t : U64 u.t
  e : U64 u.e
def gbody (l : List U) : List Int := l.flatMap fun u => oct u.t ++ oct u.e
theorem gbody_len (l : List U) : (gbody l).length = 16 * l.length := by
  induction l with
  | nil => rfl
  | cons u l ih =>
    have : gbody (u :: l) = oct u.t ++ oct u.e ++ gbody l := rfl
    rw [this]; simp [oct_len, ih]; omega
def gbytes (l : List U) : List Int × Int := if OkL l then ((l.length : Int) :: gbody l, 0) else ([], 1)
@[reducible] def resB (p : List Int × Int) : T := .tuple [.sl 1 (bys p.1), .int .i64 p.2]
theorem gbody_snoc {l : List U} {i : Nat} {u : U} (h : l[i]? = some u) : gbody (l.take (i + 1)) = gbody (l.take i) ++ oct u.t ++ oct u.e := by
  rw [List.take_add_one, h]; simp [gbody]
theorem GBytes_ct [Tabs] (l : List U) (hl : l.length < 10000) (hu : ∀ u ∈ l, u.Wf) : CtT Tryz.prog 91 [.sl 2 (uses l)] (Ret (.t (resB (gbytes l))) []) := by
  refine CtT.ofN Tryz.func91 rfl rfl (n := 31) rfl ?_
  refine Told.callT (Right_ct l (by omega) (decide (OkL l)) decide_eq_true_iff) rfl rfl rfl rfl ?_
  unfold gbytes
  split
  case isFalse h =>
    rw [decide_eq_false h]
    exact ⟨_, rfl, by repeat constructor⟩
  case isTrue h =>
  rw [decide_eq_true h]
  have hl64 := h.len
  refine ⟨Nat, fun i => [(4, .own 13), (14, .t (.sl 2 (uses l))), (15, .int .i64 l.length), (16, .int .i64 i)], fun i => [(13, false, .row 5 1 (bys ((l.length : Int) :: gbody (l.take i))))], fun i => i ≤ l.length, fun i => l.length - i, 0, Nat.zero_le _,
    Le.of [] ⟨rfl, rfl, by rw [← uses_len l]; rfl, rfl, trivial⟩ ⟨congrArg (fun x => (false, Blk.row 5 1 x)) (by rw [uses_len, wb' (by omega) (by omega)]; rfl), trivial⟩ rfl, ?_⟩
  intro i hi
  refine brB (fun hc => ?_) (fun hc => ?_)
  · have hc : i < l.length := by have := of_decide_eq_true hc; omega
    have hx : l[i]? = some l[i] := List.getElem?_eq_getElem hc
    have hm := hu l[i] (List.getElem_mem hc)
    generalize l[i] = u at hx hm
    have hb : (gbody (l.take i)).length ≤ 1024 := by rw [gbody_len, List.length_take]; omega
    have he := gbody_snoc hx
    refine ⟨by omega, _, uses_get rfl hx, ?_⟩
    refine Told.callT (Put_word hm.t.1 hm.t.2) rfl rfl rfl rfl ?_
    refine ⟨by show _ * 1 ≤ _; simp [oct_len]; omega, ?_⟩
    refine Told.callT (Put_word hm.e.1 hm.e.2) rfl rfl rfl rfl ?_
    refine ⟨by show _ * 1 ≤ _; simp [oct_len]; omega, ?_⟩
    refine ⟨i + 1, hc, Le.of [(13, 28)] ⟨rfl, rfl, rfl, congrArg (AV.int .i64) (wi (by omega) (by omega)), trivial⟩ ⟨congrArg (fun x => (false, Blk.row 5 1 x)) ?_, trivial⟩ rfl, by show l.length - (i + 1) < l.length - i; omega⟩
    rw [he]; simp [bys]
  · have hc : i = l.length := by have := of_decide_eq_false hc; omega
    subst hc
    refine ⟨_, rfl, ?_⟩
    rw [List.take_length]
    exact .refl _

def gof (b : List Int) (i : Nat) : U := ⟨val ((b.drop (1 + 16 * i)).take 8), val ((b.drop (9 + 16 * i)).take 8)⟩
def parse (b : List Int) (n : Nat) : List U := (List.range n).map (gof b)
def readG (b : List Int) : List U × Int × Int :=
  match b with
  | [] => ([], 0, 2)
  | n :: _ => if 64 < n then ([], 0, 3) else if (b.length : Int) < 1 + 16 * n then ([], 0, 2) else if OkL (parse b n.toNat) then (parse b n.toNat, 1 + 16 * n, 0) else ([], 0, 3)
@[reducible] def resR (p : List U × Int × Int) : T := .tuple [.sl 2 (uses p.1), .int .i64 p.2.1, .int .i64 p.2.2]
theorem GRead_ct [Tabs] (b : List Int) (hl : b.length < 1000000) (hb : Byt b) : CtT Tryz.prog 82 [.sl 1 (bys b)] (Ret (.t (resR (readG b))) []) := by
  refine CtT.ofRN Tryz.func82 rfl rfl (n := 59) rfl ?_
  match b, hl, hb with
  | [], _, _ => exact ⟨_, rfl, by repeat constructor⟩
  | n :: r, hl, hb =>
    have hn := hb n (by simp)
    have hlr : (bys r).length = r.length := bys_len r
    simp only [List.length_cons] at hl
    refine ⟨by omega, _, rfl, ?_⟩
    refine brB (fun h1 => ?_) (fun h1 => ?_)
    · have h1 : 64 < n := of_decide_eq_true h1
      refine ⟨_, rfl, ?_⟩
      rw [readG, if_pos h1]
      repeat constructor
    have h1 : ¬ 64 < n := of_decide_eq_false h1
    refine ⟨by omega, _, rfl, ?_⟩
    have w1 : IntKind.i64.wrap n = n := wi (by omega) (by omega)
    have w2 : IntKind.i64.wrap (16 * IntKind.i64.wrap n) = 16 * n := by rw [w1]; exact wi (by omega) (by omega)
    have w3 : IntKind.i64.wrap (1 + IntKind.i64.wrap (16 * IntKind.i64.wrap n)) = 1 + 16 * n := by rw [w2]; exact wi (by omega) (by omega)
    refine brB (fun h2 => ?_) (fun h2 => ?_)
    · have h2 : ((n :: r).length : Int) < 1 + 16 * n := by
        have := of_decide_eq_true h2
        rw [w3, bys_len] at this
        exact this
      refine ⟨_, rfl, ?_⟩
      rw [readG, if_neg h1, if_pos h2]
      repeat constructor
    have h2 : ¬ ((n :: r).length : Int) < 1 + 16 * n := by
      have := of_decide_eq_false h2
      rw [w3, bys_len] at this
      exact this
    have h2' : 16 * n ≤ r.length := by simp at h2; omega
    rw [w3]
    refine ⟨by omega, by omega, by rw [bys_len]; simp; omega, ?_⟩
    obtain ⟨m, rfl⟩ := Int.eq_ofNat_of_zero_le hn.1
    have e1 : (1 + 16 * (m : Int)).toNat = 1 + 16 * m := by omega
    rw [e1] at *
    have hr : (((m : Int) :: r).take (1 + 16 * m)).drop 1 = r.take (16 * m) := by rw [Nat.add_comm, List.take_succ_cons]; rfl
    have kc := Chunk_ct ((((m : Int) :: r).take (1 + 16 * m)).drop 1) 16 (by decide)
    have ki := chunk_iter ((((m : Int) :: r).take (1 + 16 * m)).drop 1) 16 m (by decide) (by rw [hr, List.length_take]; omega) (by rw [hr, List.length_take]; have : maxLen = 9223372036854775807 := rfl; omega)
    have hmx : ∀ x ∈ chunks ((((m : Int) :: r).take (1 + 16 * m)).drop 1) 16 m, x.length = 1 := by simp [chunks]
    unfold chunkF at kc
    rw [bys_drop, bys_take] at kc ki
    refine Told.callT kc rfl rfl rfl rfl ?_
    refine ⟨_, _, _, [6], [(0, .t (.sl 1 (bys ((m : Int) :: r)))), (5, .int .i64 (1 + 16 * m)), (6, .ptr 6 0), (34, .t (.fn (.func 112) [] [.pt [.sl 1 (List.drop 1 (List.take (1 + 16 * m) (bys ((m : Int) :: r))))], .pt [.int .i64 16]]))], List U, fun y => [(60, false, .row 63 2 (uses y)), (6, false, .box 28 [.own 60])], fun pre y => y = pre.map (gof ((m : Int) :: r)), [], rfl, ki, rfl, rfl,
      Le.trans (Le.nilBox 6 0 60 28 63 2 _ rfl rfl rfl) (Le.of [] ⟨rfl, rfl, rfl, rfl, trivial⟩ ⟨rfl, rfl, trivial⟩ rfl), fun y => rfl, fun pre i y x hG hp hx => ⟨hmx x (List.mem_of_getElem? hx), ?_⟩, fun y hG => ?_⟩
    · have hi : i < m := by
        have := (List.getElem?_eq_some_iff.1 hx).1
        simpa [chunks] using this
      have hx2 : x = [.sl 1 (bys ((((m : Int) :: r).drop (1 + 16 * i)).take 16))] := by
        simp only [chunks, List.getElem?_map, List.getElem?_range hi, Option.map_some, Option.some.injEq] at hx
        rw [← hx, hr, Nat.add_comm 1, List.drop_succ_cons, List.drop_take, List.take_take, Nat.mul_comm i, Nat.min_eq_left (by omega)]
      have c1 : ((((m : Int) :: r).drop (1 + 16 * i)).take 16).take 8 = (((m : Int) :: r).drop (1 + 16 * i)).take 8 := by rw [List.take_take]; rfl
      have c2 : ((((m : Int) :: r).drop (1 + 16 * i)).take 16).drop 8 = (((m : Int) :: r).drop (9 + 16 * i)).take 8 := by rw [List.drop_take, List.drop_drop]; congr 2; omega
      have k1 := Get_ct ((((m : Int) :: r).drop (1 + 16 * i)).take 8) (by simp; omega) ((hb.drop _).take _)
      have k2 := Get_ct ((((m : Int) :: r).drop (9 + 16 * i)).take 8) (by simp; omega) ((hb.drop _).take _)
      rw [← c1, bys_take] at k1
      rw [← c2, bys_drop] at k2
      rw [c1] at k1; rw [c2] at k2
      have hcl : (bys ((((m : Int) :: r).drop (1 + 16 * i)).take 16)).length = 16 := by rw [bys_len]; simp; omega
      generalize bys ((((m : Int) :: r).drop (1 + 16 * i)).take 16) = c at hx2 k1 k2 hcl
      subst hx2
      refine ⟨by decide, by decide, by rw [hcl]; decide, ?_⟩
      refine Told.callT k1 rfl rfl rfl rfl ?_
      refine ⟨by decide, by rw [hcl]; decide, by rw [hcl]; decide, ?_⟩
      refine Told.callT k2 rfl rfl rfl rfl ?_
      have hyl : y.length < 256 := by rw [hG, List.length_map]; simp [chunks] at hp; omega
      refine ⟨by show (_ + 1) * 16 ≤ _; rw [uses_len]; omega, y ++ [gof ((m : Int) :: r) i], by rw [hG]; simp, Le.of [(60, 53)] trivial ⟨congrArg (fun x => (false, Blk.row 63 2 x)) ?_, rfl, trivial⟩ rfl⟩
      simp [uses, gof]
    · have hy : y = parse ((m : Int) :: r) m := by rw [hG]; simp [chunks, parse]
      have hyl : y.length = m := by rw [hy]; simp [parse]
      refine ⟨rfl, ?_⟩
      refine Told.callT (Right_ct y (by omega) (decide (OkL y)) decide_eq_true_iff) rfl rfl rfl rfl ?_
      have hq : readG ((m : Int) :: r) = if OkL y then (y, 1 + 16 * (m : Int), 0) else ([], 0, 3) := by
        rw [readG, if_neg h1, if_neg h2, Int.toNat_natCast, ← hy]
      by_cases h : OkL y
      · rw [decide_eq_true h]
        refine ⟨rfl, _, rfl, ?_⟩
        rw [hq, if_pos h]
        exact .refl _
      · rw [decide_eq_false h]
        refine ⟨rfl, _, rfl, ?_⟩
        rw [hq, if_neg h]
        repeat constructor

theorem eqU {u v : U} : ([u.t, u.e] = [v.t, v.e]) ↔ u = v := by
  obtain ⟨a, b⟩ := u; obtain ⟨a', b'⟩ := v
  simp
theorem Same_ct [Tabs] (s s' : List U) (ha : s.length < 100000) (_ : s'.length < 100000) : CtT Tryz.prog 45 [.sl 2 (uses s), .sl 2 (uses s')] (Ret (.bool (decide (s = s'))) []) := by
  refine Ct.of Tryz.func45 rfl rfl (n := 26) rfl (by simp [ids]) ?_
  refine brB (fun h3 => ?_) (fun h3 => ?_)
  · exact ⟨[], _, _, ⟨rfl, rfl⟩, congrArg AV.bool (decide_eq_false fun h => by simp [h] at h3).symm, trivial, rfl⟩
  · have h3 : s.length = s'.length := by simp [uses] at h3; omega
    refine ⟨Nat, fun i => [(0, .t (.sl 2 (uses s))), (1, .t (.sl 2 (uses s'))), (5, .int .i64 i)], fun _ => [],
      fun i => i ≤ s.length ∧ ∀ j, j < i → s[j]? = s'[j]?, fun i => s.length - i, 0, ⟨by simp, by simp⟩, Le.of [] ⟨rfl, rfl, rfl, trivial⟩ trivial rfl, ?_⟩
    rintro i ⟨q1, q2⟩
    refine brB (fun hc => ?_) (fun hc => ?_)
    · have hc : i < s.length := by have := of_decide_eq_true hc; rw [uses_len] at this; omega
      have hx : s[i]? = some s[i] := List.getElem?_eq_getElem hc
      have hy : s'[i]? = some s'[i] := List.getElem?_eq_getElem (by omega)
      generalize s[i] = u at hx
      generalize s'[i] = v at hy
      refine ⟨by omega, _, uses_get rfl hx, by omega, _, uses_get rfl hy, ⟨by kernel_rfl, Tryz.eqGuardType63⟩, fun c hc2 => ?_⟩
      refine brB (fun hc3 => ?_) (fun hc3 => ?_)
      · rw [hc3] at hc2
        refine ⟨[], _, _, ⟨rfl, rfl⟩, congrArg AV.bool (decide_eq_false fun h => ?_).symm, trivial, rfl⟩
        rw [h, hy] at hx
        cases hx
        simp at hc2
      · rw [hc3] at hc2
        have e : u = v := eqU.1 (by simpa using hc2)
        refine ⟨i + 1, ⟨hc, fun j hj => ?_⟩, Le.of [] ⟨rfl, rfl, congrArg (AV.int .i64) (wi (by omega) (by omega)), trivial⟩ trivial rfl, by show s.length - (i + 1) < s.length - i; omega⟩
        by_cases e2 : j = i
        · subst e2; rw [hx, hy, e]
        · exact q2 j (by omega)
    · have hc : ¬ i < s.length := by have := of_decide_eq_false hc; rw [uses_len] at this; omega
      refine ⟨[], _, _, ⟨rfl, rfl⟩, congrArg AV.bool (decide_eq_true ?_).symm, trivial, rfl⟩
      apply List.ext_getElem?
      intro j
      by_cases hj : j < i
      · exact q2 j hj
      · rw [List.getElem?_eq_none (by omega), List.getElem?_eq_none (by omega)]

theorem parse_snoc (b : List Int) (i : Nat) : parse b (i + 1) = parse b i ++ [gof b i] := by simp [parse, List.range_succ]
theorem gof_wf [Tabs] {b : List Int} (hb : Byt b) (i : Nat) : (gof b i).Wf := ⟨val_u64 (by simp; omega) ((hb.drop _).take _), val_u64 (by simp; omega) ((hb.drop _).take _)⟩
theorem parse_wf [Tabs] {b : List Int} (hb : Byt b) (n : Nat) : ∀ u ∈ parse b n, u.Wf := by
  intro u hu
  simp only [parse, List.mem_map] at hu
  obtain ⟨i, _, rfl⟩ := hu
  exact gof_wf hb i
theorem gbody_byt [Tabs] (l : List U) : Byt (gbody l) := by
  intro y hy
  simp only [gbody, List.mem_flatMap, List.mem_append] at hy
  obtain ⟨u, _, h | h⟩ := hy
  · exact oct_byt _ y h
  · exact oct_byt _ y h
theorem gof_body [Tabs] (x : Int) {l : List U} {i : Nat} {u : U} (b : List Int) (h : l[i]? = some u) (hu : u.Wf) : gof (x :: (gbody l ++ b)) i = u := by
  have hi := (List.getElem?_eq_some_iff.1 h).1
  have e : gbody l = gbody (l.take i) ++ (oct u.t ++ (oct u.e ++ gbody (l.drop (i + 1)))) := by
    have ap : ∀ a b, gbody (a ++ b) = gbody a ++ gbody b := fun a b => by simp [gbody]
    conv => lhs; rw [← List.take_append_drop (i + 1) l, ap, gbody_snoc h]
    simp
  have hl : (gbody (l.take i)).length = 16 * i := by rw [gbody_len, List.length_take]; omega
  have h1 : ((x :: (gbody l ++ b)).drop (1 + 16 * i)).take 8 = oct u.t := by
    rw [Nat.add_comm, List.drop_succ_cons, e, List.append_assoc, List.drop_left' hl, List.append_assoc, List.take_left' (oct_len _)]
  have h2 : ((x :: (gbody l ++ b)).drop (9 + 16 * i)).take 8 = oct u.e := by
    rw [show 9 + 16 * i = (16 * i + 8) + 1 by omega, List.drop_succ_cons, e, List.append_assoc, ← List.drop_drop, List.drop_left' hl, List.append_assoc, List.drop_left' (oct_len _), List.append_assoc, List.take_left' (oct_len _)]
  unfold gof
  rw [h1, h2, val_oct hu.t, val_oct hu.e]
theorem parse_body [Tabs] (x : Int) (l : List U) (b : List Int) (hw : ∀ u ∈ l, u.Wf) : parse (x :: (gbody l ++ b)) l.length = l := by
  apply List.ext_getElem
  · simp [parse]
  · intro i h1 h2
    simp only [parse, List.getElem_map, List.getElem_range]
    exact gof_body x b (List.getElem?_eq_getElem h2) (hw _ (List.getElem_mem h2))
theorem read_bytes [Tabs] {l : List U} (h : OkL l) (hw : ∀ u ∈ l, u.Wf) (b : List Int) : readG ((gbytes l).1 ++ b) = (l, ((gbytes l).1.length : Int), 0) := by
  rw [gbytes, if_pos h]
  have := h.len
  have hg := gbody_len l
  rw [List.cons_append, readG, if_neg (by omega), if_neg (by simp; omega), Int.toNat_natCast, parse_body _ l b hw, if_pos h]
  simp; omega
theorem read_cut [Tabs] {l : List U} (h : OkL l) {k : Nat} (hk : k < (gbytes l).1.length) : readG ((gbytes l).1.take k) = ([], 0, 2) := by
  rw [gbytes, if_pos h] at hk ⊢
  have := h.len
  have hg := gbody_len l
  cases k with
  | zero => rfl
  | succ k =>
    simp at hk
    rw [List.take_succ_cons, readG, if_neg (by omega), if_pos (by simp; omega)]
theorem body_parse [Tabs] (x : Int) {r : List Int} {n : Nat} (hl : 16 * n ≤ r.length) (hb : Byt r) : gbody (parse (x :: r) n) = r.take (16 * n) := by
  induction n with
  | zero => rfl
  | succ n ih =>
    rw [parse_snoc]
    have e : gbody (parse (x :: r) n ++ [gof (x :: r) n]) = gbody (parse (x :: r) n) ++ (oct (gof (x :: r) n).t ++ oct (gof (x :: r) n).e) := by simp [gbody]
    rw [e, ih (by omega)]
    unfold gof
    rw [show 1 + 16 * n = 16 * n + 1 by omega, show 9 + 16 * n = (16 * n + 8) + 1 by omega, List.drop_succ_cons, List.drop_succ_cons, oct_val (by simp; omega) ((hb.drop _).take _), oct_val (by simp; omega) ((hb.drop _).take _)]
    rw [← List.drop_drop, show 16 * (n + 1) = 16 * n + 16 by omega, List.take_add, show (16 : Nat) = 8 + 8 by rfl, List.take_add (i := 8)]
theorem read_back [Tabs] {b : List Int} (hb : Byt b) {m : List U} {n e : Int} (h : readG b = (m, n, e)) : (e = 0 ∧ OkL m ∧ 1 ≤ n ∧ n ≤ b.length ∧ (gbytes m) = (b.take n.toNat, 0) ∧ ∀ u ∈ m, u.Wf) ∨ (e ≠ 0 ∧ m = [] ∧ n = 0) := by
  match b, hb with
  | [], _ => cases h; exact .inr ⟨by decide, rfl, rfl⟩
  | x :: r, hb =>
    have hx := hb x (by simp)
    have hr : Byt r := fun y hy => hb y (by simp [hy])
    rw [readG] at h
    split at h
    · cases h; exact .inr ⟨by decide, rfl, rfl⟩
    split at h
    · cases h; exact .inr ⟨by decide, rfl, rfl⟩
    split at h
    · rename_i h1 h2 h3
      cases h
      obtain ⟨k, rfl⟩ := Int.eq_ofNat_of_zero_le hx.1
      simp only [List.length_cons, Int.natCast_add] at h2
      refine .inl ⟨rfl, h3, by omega, by simp; omega, ?_, parse_wf hb _⟩
      have e1 : (1 + 16 * (k : Int)).toNat = 16 * k + 1 := by omega
      rw [gbytes, if_pos h3, e1, List.take_succ_cons, Int.toNat_natCast, body_parse _ (by omega) hr]
      simp [parse]
    · cases h; exact .inr ⟨by decide, rfl, rfl⟩

theorem readG_len (b : List Int) : (readG b).1.length ≤ 64 := by
  unfold readG
  repeat' split
  all_goals simp [parse] at *
  all_goals omega
end Gon
end
end Go.Proofs.YtgkmpgfmhjbcjaaGreatX
namespace Go.Proofs.YtgkmpgfmhjbcjaaGreatX
section
open Go Go.YtgkmpgfmhjbcjaaGreatE Go.Proofs
set_option maxRecDepth 100000
set_option autoImplicit false
structure Activation where
  t : Int
  e : Int
  d : Int
  seed : List Int
  deriving DecidableEq
@[reducible] def Activation.T (x : Activation) : T := .agg [.int .u64 x.t, .int .u64 x.e, .int .u64 x.d, .sl 1 (bys x.seed)]
structure Activation.Wf (x : Activation) : Prop where
  t : U64 x.t
  e : U64 x.e
  d : U64 x.d
  seed : Byt x.seed
abbrev Activation.box (x : Activation) : Blk := .box 56 [.int .u64 x.t, .int .u64 x.e, .int .u64 x.d, .t (.sl 1 (bys x.seed))]
theorem Activation.row_len (l : List Activation) : (l.map Activation.T).length = l.length := by simp
theorem Activation.row_get {l : List Activation} {n : Int} {i : Nat} {x : Activation} (hn : n = i) (h : l[i]? = some x) : (l.map Activation.T)[n.toNat]? = some x.T := by subst hn; simp [h]
def faultT (s e : Int) : T := if e = 0 then .v .nilIface else FaultI s e
theorem faultR_ct [Tabs] (e : Int) : CtT Tryz.prog 48 [.int .i64 e] (Ret (.t (faultT 4 e)) []) := by
  refine CtT.ofN Tryz.func48 rfl rfl (n := 10) rfl ?_
  unfold faultT
  refine brB (fun h => ?_) (fun h => ?_)
  · refine ⟨_, rfl, ?_⟩
    rw [if_pos (of_decide_eq_true h)]
    exact .refl _
  · refine ⟨_, rfl, ?_⟩
    rw [if_neg (of_decide_eq_false h)]
    exact .refl _
def Activation.ok (a : Activation) : Prop := 1 ≤ a.seed.length ∧ a.seed.length ≤ 32
instance (a : Activation) : Decidable a.ok := by unfold Activation.ok; infer_instance
theorem ARight_ct [Tabs] (a : Activation) : CtT Tryz.prog 107 [a.T] (Ret (.bool (decide a.ok)) []) := by
  refine Ct.of Tryz.func107 rfl rfl (n := 13) rfl (by simp [ids]) ?_
  refine brB (fun h => ?_) (fun h => ?_)
  · refine ⟨[], _, _, ⟨rfl, rfl⟩, congrArg AV.bool ?_, trivial, rfl⟩
    have h := of_decide_eq_true h
    rw [bys_len] at h ⊢
    rw [decide_eq_decide, Activation.ok]
    omega
  · refine ⟨[], _, _, ⟨rfl, rfl⟩, congrArg AV.bool ?_, trivial, rfl⟩
    have h := of_decide_eq_false h
    rw [bys_len] at h
    refine (decide_eq_false fun h2 => ?_).symm
    have := h2.1
    omega
def abytes (a : Activation) : List Int := [65] ++ oct a.t ++ oct a.e ++ oct a.d ++ [(a.seed.length : Int)] ++ a.seed
theorem abytes_len (a : Activation) : (abytes a).length = 26 + a.seed.length := by simp [abytes, oct_len]; omega
theorem abytes_byt [Tabs] {a : Activation} (h : a.Wf) (ho : a.ok) : Byt (abytes a) := by
  have : Byt [(65 : Int)] := fun y hy => by rw [List.mem_singleton.1 hy]; omega
  have h2 : Byt [(a.seed.length : Int)] := fun y hy => by rw [List.mem_singleton.1 hy]; have := ho.2; omega
  exact ((((this.append (oct_byt _)).append (oct_byt _)).append (oct_byt _)).append h2).append h.seed
theorem ABytes_ct [Tabs] (a : Activation) (hw : a.Wf) (ho : a.ok) : CtT Tryz.prog 87 [a.T] (Ret (.t (.tuple [.sl 1 (bys (abytes a)), .int .i64 0])) []) := by
  refine CtT.ofN Tryz.func87 rfl rfl (n := 26) rfl ?_
  have kr := ARight_ct a
  rw [decide_eq_true ho] at kr
  have h2 := ho.2
  refine Told.callT kr rfl rfl rfl rfl ?_
  refine Told.callT (Put_word hw.t.1 hw.t.2) rfl rfl rfl rfl ?_
  refine Told.callT (Put_word hw.e.1 hw.e.2) rfl rfl rfl rfl ?_
  refine Told.callT (Put_word hw.d.1 hw.d.2) rfl rfl rfl rfl ?_
  have w1 : IntKind.u8.wrap ((bys a.seed).length : Int) = (a.seed.length : Int) := by rw [bys_len]; exact wb' (by omega) (by omega)
  have kc := ConcatB_ct [[65], oct a.t, oct a.e, oct a.d, [IntKind.u8.wrap ((bys a.seed).length : Int)], a.seed] (by simp) (by simp [oct_len]; omega)
  refine Told.callT kc rfl rfl rfl rfl ?_
  refine ⟨_, rfl, ?_⟩
  have e : [[65], oct a.t, oct a.e, oct a.d, [IntKind.u8.wrap ((bys a.seed).length : Int)], a.seed].flatten = abytes a := by
    rw [w1]; simp [abytes]
  rw [e]
  exact .refl _
theorem ABytesN_ct [Tabs] (a : Activation) (ho : ¬ a.ok) : CtT Tryz.prog 87 [a.T] (Ret (.t (.tuple [.sl 1 (bys []), .int .i64 1])) []) := by
  refine CtT.ofN Tryz.func87 rfl rfl (n := 26) rfl ?_
  have kr := ARight_ct a
  rw [decide_eq_false ho] at kr
  refine Told.callT kr rfl rfl rfl rfl ?_
  exact ⟨_, rfl, by repeat constructor⟩
@[reducible] def resSeal (g : Engine) (b : List Int) (e : T) : T := .tuple [g.T, .sl 1 (bys b), e]
theorem faultR1 [Tabs] : CtT Tryz.prog 48 [.int .i64 1] (Ret (.t (FaultI 4 1)) []) := by
  have := faultR_ct 1
  rwa [show faultT 4 1 = FaultI 4 1 from rfl] at this
theorem ASealA_ct [Tabs] (g : Engine) (k : List Int) (a : Activation) (ho : ¬ a.ok) : CtT Tryz.prog 59 [g.T, .sl 1 (bys k), a.T] (Ret (.t (resSeal g [] (FaultI 4 1))) []) := by
  refine CtT.ofN Tryz.func59 rfl rfl (n := 41) rfl ?_
  refine Told.callT (ABytesN_ct a ho) rfl rfl rfl rfl ?_
  refine Told.callT faultR1 rfl rfl rfl rfl ?_
  exact ⟨_, rfl, by repeat constructor⟩
theorem ASealN_ct [Tabs] (g : Engine) (hw : g.Wf) (hs : g.Sm) (hg : ¬ g.ok) (k : List Int) (a : Activation) (ha : a.Wf) (ho : a.ok) : CtT Tryz.prog 59 [g.T, .sl 1 (bys k), a.T] (Ret (.t (resSeal g [] (FaultI 4 1))) []) := by
  refine CtT.ofN Tryz.func59 rfl rfl (n := 41) rfl ?_
  refine Told.callT (ABytes_ct a ha ho) rfl rfl rfl rfl ?_
  refine Told.callT (TagN_ct g hw hs hg k (abytes a)) rfl rfl rfl rfl ?_
  refine Told.callT faultR1 rfl rfl rfl rfl ?_
  exact ⟨_, rfl, by repeat constructor⟩
theorem putT_len (l : List Term) (k m : List Int) : (putT l k m).2.length = 8 := by unfold putT; cases atT l k m <;> rfl
theorem putT_byt [Tabs] (l : List Term) (k m : List Int) : Byt (putT l k m).2 := by unfold putT; cases atT l k m <;> exact oct_byt _
theorem ASealS_ct [Tabs] (g : Engine) (hw : g.Wf) (hs : g.Sm) (hg : g.Sym) (k : List Int) (hk : Byt k) (hkl : k.length < 1000000) (a : Activation) (ha : a.Wf) (ho : a.ok) :
    CtT Tryz.prog 59 [g.T, .sl 1 (bys k), a.T] (Ret (.t (resSeal (tagE g k (abytes a)).1 (abytes a ++ (tagE g k (abytes a)).2) (.v .nilIface))) []) := by
  refine CtT.ofN Tryz.func59 rfl rfl (n := 41) rfl ?_
  have h2 := ho.2
  have hl := abytes_len a
  refine Told.callT (ABytes_ct a ha ho) rfl rfl rfl rfl ?_
  refine Told.callT (TagS_ct g hw hs hg k (abytes a) hk (abytes_byt ha ho) ⟨hkl, by simp only; omega⟩) rfl rfl rfl rfl ?_
  have hpl : (tagE g k (abytes a)).2.length = 8 := putT_len _ _ _
  refine Told.callT (ConcatB_ct [abytes a, (tagE g k (abytes a)).2] (by simp) (by simp [hpl]; omega)) rfl rfl rfl rfl ?_
  refine ⟨_, rfl, ?_⟩
  rw [show [abytes a, (tagE g k (abytes a)).2].flatten = abytes a ++ (tagE g k (abytes a)).2 by simp]
  exact .refl _
def sizedI (b : List Int) : Int :=
  if b.length < 1 then 2 else if b[0]? ≠ some 65 then 3 else if b.length < 26 then 2
  else if (b.getD 25 0) < 1 ∨ 32 < (b.getD 25 0) then 3 else if (b.length : Int) < 34 + b.getD 25 0 then 2 else if 34 + b.getD 25 0 < b.length then 4 else 0
theorem sized_ct [Tabs] (b : List Int) (hb : Byt b) (hl : b.length < 1000000) : CtT Tryz.prog 47 [.sl 1 (bys b)] (Ret (.t (.int .i64 (sizedI b))) []) := by
  refine CtT.ofN Tryz.func47 rfl rfl (n := 40) rfl ?_
  unfold sizedI
  refine brB (fun h => ?_) (fun h => ?_)
  · have h := of_decide_eq_true h
    rw [bys_len] at h
    refine ⟨_, rfl, ?_⟩
    rw [if_pos (by omega)]
    exact .refl _
  have h := of_decide_eq_false h
  rw [bys_len] at h
  have hx : b[0]? = some b[0] := List.getElem?_eq_getElem (by omega)
  generalize b[0] = x at hx
  refine ⟨by omega, _, bys_get (i := 0) rfl hx, ?_⟩
  refine brB (fun h1 => ?_) (fun h1 => ?_)
  · refine ⟨_, rfl, ?_⟩
    rw [if_neg (by omega), hx, if_pos (by simpa using h1)]
    exact .refl _
  have h1 : x = 65 := by simpa using h1
  refine brB (fun h2 => ?_) (fun h2 => ?_)
  · have h2 := of_decide_eq_true h2
    rw [bys_len] at h2
    refine ⟨_, rfl, ?_⟩
    rw [if_neg (by omega), hx, if_neg (by simp [h1]), if_pos (by omega)]
    exact .refl _
  have h2 := of_decide_eq_false h2
  rw [bys_len] at h2
  have hy : b[25]? = some b[25] := List.getElem?_eq_getElem (by omega)
  have hyb := hb b[25] (List.getElem_mem _)
  generalize b[25] = y at hy hyb
  have hd : b.getD 25 0 = y := by rw [List.getD_eq_getElem?_getD, hy]; rfl
  refine ⟨by omega, _, bys_get (i := 25) rfl hy, ?_⟩
  have w1 : IntKind.i64.wrap y = y := wi (by omega) (by omega)
  have w2 : IntKind.i64.wrap (IntKind.i64.wrap (26 + IntKind.i64.wrap y) + 8) = 34 + y := by rw [w1, wi (n := 26 + y) (by omega) (by omega)]; exact (wi (by omega) (by omega)).trans (by omega)
  rw [hd]
  refine brB (fun h3 => ?_) (fun h3 => ?_)
  · have h3 := of_decide_eq_true h3
    rw [w1] at h3
    refine ⟨_, rfl, ?_⟩
    rw [if_neg (by omega), hx, if_neg (by simp [h1]), if_neg (by omega), if_pos (by omega)]
    exact .refl _
  have h3 := of_decide_eq_false h3
  rw [w1] at h3
  refine brB (fun h4 => ?_) (fun h4 => ?_)
  · have h4 := of_decide_eq_true h4
    rw [w1] at h4
    refine ⟨_, rfl, ?_⟩
    rw [if_neg (by omega), hx, if_neg (by simp [h1]), if_neg (by omega), if_pos (by omega)]
    exact .refl _
  have h4 := of_decide_eq_false h4
  rw [w1] at h4
  refine brB (fun h5 => ?_) (fun h5 => brB (fun h6 => ?_) (fun h6 => ?_))
  · have h5 := of_decide_eq_true h5
    rw [w2, bys_len] at h5
    refine ⟨_, rfl, ?_⟩
    rw [if_neg (by omega), hx, if_neg (by simp [h1]), if_neg (by omega), if_neg (by omega), if_pos (by omega)]
    exact .refl _
  · have h5 := of_decide_eq_false h5
    have h6 := of_decide_eq_true h6
    rw [w2, bys_len] at h5 h6
    refine ⟨_, rfl, ?_⟩
    rw [if_neg (by omega), hx, if_neg (by simp [h1]), if_neg (by omega), if_neg (by omega), if_neg (by omega), if_pos (by omega)]
    exact .refl _
  · have h5 := of_decide_eq_false h5
    have h6 := of_decide_eq_false h6
    rw [w2, bys_len] at h5 h6
    refine ⟨_, rfl, ?_⟩
    rw [if_neg (by omega), hx, if_neg (by simp [h1]), if_neg (by omega), if_neg (by omega), if_neg (by omega), if_neg (by omega)]
    exact .refl _
end
end Go.Proofs.YtgkmpgfmhjbcjaaGreatX
namespace Go.Proofs.YtgkmpgfmhjbcjaaGreatX
section
open Go Go.YtgkmpgfmhjbcjaaGreatE Go.Proofs
set_option maxRecDepth 100000
set_option autoImplicit false
def numAt (b : List Int) (i : Nat) : Int := val ((b.drop i).take 8)
theorem number_ct [Tabs] (b : List Int) (i : Nat) (hb : Byt b) (hl : b.length < 1000000) (hi : i + 8 ≤ b.length) : CtT Tryz.prog 50 [.sl 1 (bys b), .int .i64 i] (Ret (.int .u64 (numAt b i)) []) := by
  refine Ct.of Tryz.func50 rfl rfl (n := 17) rfl (by simp [ids]) ?_
  have w1 : IntKind.i64.wrap ((i : Int) + 8) = ((i + 8 : Nat) : Int) := by rw [wi (by omega) (by omega)]; omega
  conv => whnf
  rw [w1]
  refine ⟨by omega, by omega, by rw [bys_len]; omega, ?_⟩
  have e : (b.take (i + 8)).drop i = (b.drop i).take 8 := by rw [List.drop_take]; congr 1; omega
  have k := Get_ct ((b.take (i + 8)).drop i) (by simp; omega) ((hb.take _).drop _)
  rw [bys_drop, bys_take] at k
  rw [e] at k
  refine Told.callT k rfl rfl rfl rfl ?_
  exact ⟨[], _, _, ⟨rfl, rfl⟩, rfl, trivial, rfl⟩
def zeroA : Activation := ⟨0, 0, 0, []⟩
def parseA (b : List Int) : Activation := ⟨numAt b 1, numAt b 9, numAt b 17, (b.take (b.length - 8)).drop 26⟩
@[reducible] def resOpen (a : Activation) (e : T) : T := .tuple [a.T, e]
theorem AOpenE_ct [Tabs] (g : Engine) (k b : List Int) (hb : Byt b) (hl : b.length < 1000000) (h : sizedI b ≠ 0) : CtT Tryz.prog 25 [g.T, .sl 1 (bys k), .sl 1 (bys b)] (Ret (.t (resOpen zeroA (FaultI 4 (sizedI b)))) []) := by
  refine CtT.ofN Tryz.func25 rfl rfl (n := 46) rfl ?_
  refine Told.callT (sized_ct b hb hl) rfl rfl rfl rfl ?_
  refine brT (by simpa using h) ?_
  have kf := faultR_ct (sizedI b)
  rw [show faultT 4 (sizedI b) = FaultI 4 (sizedI b) from if_neg h] at kf
  refine Told.callT kf rfl rfl rfl rfl ?_
  exact ⟨_, rfl, by repeat constructor⟩
theorem sized_facts {b : List Int} (h : sizedI b = 0) : ∃ n : Nat, b.length = 34 + n ∧ 1 ≤ n ∧ n ≤ 32 ∧ b[0]? = some 65 ∧ b[25]? = some (n : Int) := by
  unfold sizedI at h
  split at h
  · cases h
  split at h
  · cases h
  split at h
  · cases h
  split at h
  · cases h
  split at h
  · cases h
  split at h
  · cases h
  rename_i h1 h2 h3 h4 h5 h6
  have hy : b[25]? = some b[25] := List.getElem?_eq_getElem (by omega)
  have hd : b.getD 25 0 = b[25] := by rw [List.getD_eq_getElem?_getD, hy]; rfl
  rw [hd] at h4 h5 h6
  exact ⟨b[25].toNat, by omega, by omega, by omega, by simpa using h2, by rw [hy]; congr 1; omega⟩
theorem AOpen_ct [Tabs] (g : Engine) (k b : List Int) (hb : Byt b) (hl : b.length < 1000000) (h : sizedI b = 0) (fits : Bool) (hf : CtT Tryz.prog 49 [g.T, .sl 1 (bys k), .sl 1 (bys (b.take (b.length - 8))), .sl 1 (bys (b.drop (b.length - 8)))] (Ret (.bool fits) [])) :
    CtT Tryz.prog 25 [g.T, .sl 1 (bys k), .sl 1 (bys b)] (Ret (.t (bif fits then resOpen (parseA b) (.v .nilIface) else resOpen zeroA (FaultI 4 5))) []) := by
  refine CtT.ofN Tryz.func25 rfl rfl (n := 46) rfl ?_
  obtain ⟨n, hn, n1, n2, _, _⟩ := sized_facts h
  have ks := sized_ct b hb hl
  rw [h] at ks
  refine Told.callT ks rfl rfl rfl rfl ?_
  have w1 : IntKind.i64.wrap (((bys b).length : Int) - 8) = ((b.length - 8 : Nat) : Int) := by rw [bys_len, wi (by omega) (by omega)]; omega
  conv => whnf
  rw [w1]
  refine ⟨by omega, by omega, by rw [bys_len]; omega, ?_⟩
  conv => whnf
  rw [w1]
  refine ⟨by omega, by rw [bys_len]; omega, by rw [bys_len]; omega, ?_⟩
  rw [bys_take, bys_drop] at hf
  refine Told.callT hf rfl rfl rfl rfl ?_
  cases fits with
  | false =>
    have kf := faultR_ct 5
    rw [show faultT 4 5 = FaultI 4 5 from rfl] at kf
    refine Told.callT kf rfl rfl rfl rfl ?_
    exact ⟨_, rfl, by repeat constructor⟩
  | true =>
    refine Told.callT (number_ct b 1 hb hl (by omega)) rfl rfl rfl rfl ?_
    refine Told.callT (number_ct b 9 hb hl (by omega)) rfl rfl rfl rfl ?_
    refine Told.callT (number_ct b 17 hb hl (by omega)) rfl rfl rfl rfl ?_
    refine ⟨by decide, by simp; omega, by simp, ?_⟩
    have kc := CloneB_ct ((b.take (b.length - 8)).drop 26) (by simp; omega)
    rw [bys_drop, bys_take] at kc
    refine Told.callT kc rfl rfl rfl rfl ?_
    refine ⟨_, rfl, ?_⟩
    have e : (parseA b).T = .agg [.int .u64 (numAt b 1), .int .u64 (numAt b 9), .int .u64 (numAt b 17), .sl 1 (((bys b).take (b.length - 8)).drop 26)] := by rw [← bys_take, ← bys_drop]; rfl
    show Tas _ (.tuple [(parseA b).T, .v .nilIface])
    rw [e]
    exact .refl _
def shortT (l : List Term) : Prop := l.length ≤ 400 ∧ ∀ t ∈ l, t.key.length ≤ 3000 ∧ t.msg.length ≤ 3000
theorem TShort_ct [Tabs] (l : List Term) : ∃ z : Bool, (z = true → shortT l) ∧ CtT Tryz.prog 7 [.sl 2 (l.map Term.T)] (Ret (.bool z) []) := by
  by_cases hs : shortT l
  · refine ⟨true, fun _ => hs, ?_⟩
    refine Ct.of Tryz.func7 rfl rfl (n := 33) rfl (by simp [ids]) ?_
    refine ⟨Nat, fun i => [(0, .t (.sl 2 (l.map Term.T))), (3, .int .i64 i)], fun _ => [], fun i => i ≤ l.length, fun i => l.length - i, 0, Nat.zero_le _, Le.of [] ⟨rfl, rfl, trivial⟩ trivial rfl, ?_⟩
    intro i hi
    have h400 := hs.1
    refine brB (fun hc => ?_) (fun hc => ?_)
    · have hc : i < l.length := by have := of_decide_eq_true hc; rw [Term.row_len] at this; omega
      refine brB (fun hc2 => ?_) (fun hc2 => absurd (of_decide_eq_false hc2) (by omega))
      have hx : l[i]? = some l[i] := List.getElem?_eq_getElem hc
      have hm := hs.2 l[i] (List.getElem_mem _)
      generalize l[i] = t at hx hm
      refine ⟨by omega, _, Term.row_get rfl hx, ?_⟩
      refine brF (decide_eq_false (by rw [bys_len]; omega)) ?_
      refine ⟨by omega, _, Term.row_get rfl hx, ?_⟩
      refine brF (decide_eq_false (by rw [bys_len]; omega)) ?_
      exact ⟨i + 1, hc, Le.of [] ⟨rfl, congrArg (AV.int .i64) (wi (by omega) (by omega)), trivial⟩ trivial rfl, by show l.length - (i + 1) < l.length - i; omega⟩
    · exact ⟨[], _, _, ⟨rfl, rfl⟩, congrArg AV.bool (decide_eq_true (by rw [Term.row_len]; omega)), trivial, rfl⟩
  · refine ⟨false, fun h => (by cases h), ?_⟩
    refine Ct.of Tryz.func7 rfl rfl (n := 33) rfl (by simp [ids]) ?_
    refine ⟨Nat, fun i => [(0, .t (.sl 2 (l.map Term.T))), (3, .int .i64 i)], fun _ => [], fun i => i ≤ l.length ∧ i ≤ 400 ∧ ∀ j, j < i → ∀ t, l[j]? = some t → t.key.length ≤ 3000 ∧ t.msg.length ≤ 3000, fun i => l.length - i, 0, ⟨Nat.zero_le _, Nat.zero_le _, fun j h => absurd h (by omega)⟩, Le.of [] ⟨rfl, rfl, trivial⟩ trivial rfl, ?_⟩
    rintro i ⟨hi, hi4, hb⟩
    refine brB (fun hc => ?_) (fun hc => ?_)
    · have hc : i < l.length := by have := of_decide_eq_true hc; rw [Term.row_len] at this; omega
      refine brB (fun hc2 => ?_) (fun hc2 => ?_)
      · have hc2 := of_decide_eq_true hc2
        have hx : l[i]? = some l[i] := List.getElem?_eq_getElem hc
        generalize l[i] = t at hx
        refine ⟨by omega, _, Term.row_get rfl hx, ?_⟩
        refine brB (fun h1 => ?_) (fun h1 => ?_)
        · exact ⟨[], _, _, ⟨rfl, rfl⟩, rfl, trivial, rfl⟩
        have h1 := of_decide_eq_false h1
        rw [bys_len] at h1
        refine ⟨by omega, _, Term.row_get rfl hx, ?_⟩
        refine brB (fun h2 => ?_) (fun h2 => ?_)
        · exact ⟨[], _, _, ⟨rfl, rfl⟩, rfl, trivial, rfl⟩
        have h2 := of_decide_eq_false h2
        rw [bys_len] at h2
        refine ⟨i + 1, ⟨hc, by omega, fun j hj u hu => ?_⟩, Le.of [] ⟨rfl, congrArg (AV.int .i64) (wi (by omega) (by omega)), trivial⟩ trivial rfl, by show l.length - (i + 1) < l.length - i; omega⟩
        by_cases e : j = i
        · subst e; rw [hx] at hu; cases hu; omega
        · exact hb j (by omega) u hu
      · have hc2 := of_decide_eq_false hc2
        exact ⟨[], _, _, ⟨rfl, rfl⟩, congrArg AV.bool (decide_eq_false (by rw [Term.row_len]; omega)), trivial, rfl⟩
    · have hc : i = l.length := by have := of_decide_eq_false hc; rw [Term.row_len] at this; omega
      subst hc
      refine absurd ⟨hi4, fun t ht => ?_⟩ hs
      obtain ⟨j, hj, rfl⟩ := List.mem_iff_getElem.1 ht
      exact hb j hj _ (List.getElem?_eq_getElem hj)
end
end Go.Proofs.YtgkmpgfmhjbcjaaGreatX
namespace Go.Proofs.YtgkmpgfmhjbcjaaGreatX
section
open Go Go.YtgkmpgfmhjbcjaaGreatE Go.Proofs
set_option maxRecDepth 100000
set_option autoImplicit false
theorem sym_of (l : List Term) (h : l.Nodup) : Engine.Sym ⟨2, l⟩ := ⟨rfl, h⟩
theorem sm_of {l : List Term} (h : shortT l) : Engine.Sm ⟨2, l⟩ := ⟨by have := h.1; simp only; omega, fun t ht => by have := h.2 t ht; exact ⟨by omega, by omega⟩⟩
theorem wf_of {l : List Term} (h : ∀ t ∈ l, t.Wf) : Engine.Wf ⟨2, l⟩ := ⟨⟨by show (_ : Int) ≤ 2; decide, by show (2 : Int) < _; decide⟩, h⟩
def actA : Activation := ⟨1, 2, 3, [9]⟩
end
end Go.Proofs.YtgkmpgfmhjbcjaaGreatX
namespace Go.Proofs.YtgkmpgfmhjbcjaaGreatX
section
open Go Go.YtgkmpgfmhjbcjaaGreatE Go.Proofs
set_option maxRecDepth 100000
set_option autoImplicit false
theorem oct_numAt [Tabs] {b : List Int} (hb : Byt b) {i : Nat} (hi : i + 8 ≤ b.length) : oct (numAt b i) = (b.drop i).take 8 := oct_val (by simp; omega) ((hb.drop _).take _)
theorem take_split {b : List Int} (i j : Nat) : (b.drop i).take (j + 0) ++ (b.drop (i + j)) = b.drop i := by
  rw [← List.drop_drop, Nat.add_zero, List.take_append_drop]
theorem abytes_parse [Tabs] {b : List Int} (hb : Byt b) (h : sizedI b = 0) : abytes (parseA b) = b.take (b.length - 8) ∧ (parseA b).ok ∧ (parseA b).Wf := by
  obtain ⟨n, hn, n1, n2, h0, h25⟩ := sized_facts h
  have hs : (parseA b).seed.length = n := by simp [parseA]; omega
  refine ⟨?_, ⟨by omega, by omega⟩, ⟨val_u64 (by simp; omega) ((hb.drop _).take _), val_u64 (by simp; omega) ((hb.drop _).take _), val_u64 (by simp; omega) ((hb.drop _).take _), (hb.take _).drop _⟩⟩
  unfold abytes
  rw [hs]
  simp only [parseA]
  rw [oct_numAt hb (by omega), oct_numAt hb (by omega), oct_numAt hb (by omega)]
  apply List.ext_getElem?
  intro i
  simp only [List.getElem?_append, List.length_append, List.length_take, List.length_drop, List.length_singleton, List.getElem?_take, List.getElem?_drop]
  have e1 : min 8 (b.length - 1) = 8 := by omega
  have e2 : min 8 (b.length - 9) = 8 := by omega
  have e3 : min 8 (b.length - 17) = 8 := by omega
  rw [e1, e2, e3]
  by_cases c0 : i < 1
  · have : i = 0 := by omega
    subst this
    simp [h0]; omega
  by_cases c1 : i < 9
  · simp [show i < 26 by omega, show i < 25 by omega, show i < 17 by omega, c1, show ¬ i < 1 by omega, show i - 1 < 8 by omega, show 1 + (i - 1) = i by omega, show i < b.length - 8 by omega]
  by_cases c2 : i < 17
  · simp [show i < 26 by omega, show i < 25 by omega, c2, c1, show i - 9 < 8 by omega, show 9 + (i - 9) = i by omega, show i < b.length - 8 by omega]
  by_cases c3 : i < 25
  · simp [show i < 26 by omega, c3, c2, show i - 17 < 8 by omega, show 17 + (i - 17) = i by omega, show i < b.length - 8 by omega]
  by_cases c4 : i < 26
  · have : i = 25 := by omega
    subst this
    simp [h25]; omega
  · simp [c4, show 26 + (i - 26) = i by omega]
theorem sized_seal [Tabs] {a : Activation} (h : a.ok) {t : List Int} (ht : t.length = 8) : sizedI (abytes a ++ t) = 0 := by
  have hl : (abytes a ++ t).length = 34 + a.seed.length := by rw [List.length_append, abytes_len, ht]; omega
  have h1 := h.1
  have h2 := h.2
  have h0 : (abytes a ++ t)[0]? = some 65 := by simp [abytes]
  have h25 : (abytes a ++ t).getD 25 0 = (a.seed.length : Int) := by
    rw [List.getD_eq_getElem?_getD]
    have : (abytes a ++ t)[25]? = some (a.seed.length : Int) := by simp [abytes, oct, quad]
    rw [this]; rfl
  unfold sizedI
  rw [h0, h25, hl]
  rw [if_neg (by omega), if_neg (by simp), if_neg (by omega), if_neg (by omega), if_neg (by omega), if_neg (by omega)]
theorem abytes_inj [Tabs] {a b : Activation} (ha : a.Wf) (hb : b.Wf) (h : abytes a = abytes b) : a = b := by
  obtain ⟨t, e, d, s⟩ := a
  obtain ⟨t', e', d', s'⟩ := b
  simp only [abytes, List.append_assoc, List.cons_append, List.nil_append, List.cons.injEq, true_and] at h
  obtain ⟨h1, h⟩ := List.append_inj h (by simp [oct_len])
  obtain ⟨h2, h⟩ := List.append_inj h (by simp [oct_len])
  obtain ⟨h3, h⟩ := List.append_inj h (by simp [oct_len])
  simp only [List.cons.injEq] at h
  have q1 := congrArg val h1
  have q2 := congrArg val h2
  have q3 := congrArg val h3
  rw [val_oct ha.t, val_oct hb.t] at q1
  rw [val_oct ha.e, val_oct hb.e] at q2
  rw [val_oct ha.d, val_oct hb.d] at q3
  simp only at q1 q2 q3
  rw [q1, q2, q3, h.2]
theorem parse_seal [Tabs] {a : Activation} (hw : a.Wf) (h : a.ok) {t : List Int} (ht : t.length = 8) (hb : Byt t) : parseA (abytes a ++ t) = a := by
  have hB : Byt (abytes a ++ t) := (abytes_byt hw h).append hb
  obtain ⟨h1, h2, h3⟩ := abytes_parse hB (sized_seal h ht)
  refine abytes_inj h3 hw (h1.trans ?_)
  rw [List.length_append, ht, Nat.add_sub_cancel, List.take_left']
  rfl
theorem atT_mem [Tabs] {l : List Term} {k m : List Int} (h : (⟨k, m⟩ : Term) ∈ l) : ∃ i, atT l k m = some i := by
  cases e : atT l k m with
  | none => exact absurd h (atT_none.1 e)
  | some i => exact ⟨i, rfl⟩
theorem atT_snoc {l : List Term} {k m : List Int} (h : atT l k m = none) : atT (l ++ [⟨k, m⟩]) k m = some l.length := by
  unfold atT at h ⊢
  rw [List.findIdx?_append, h]
  simp
theorem putT_has [Tabs] (l : List Term) (k m : List Int) : (⟨k, m⟩ : Term) ∈ (putT l k m).1 ∧ (putT (putT l k m).1 k m).2 = (putT l k m).2 := by
  cases e : atT l k m with
  | none =>
    have e1 : putT l k m = (l ++ [⟨k, m⟩], oct ((l.length : Int) + 1)) := by unfold putT; rw [e]; rfl
    have e2 : putT (l ++ [⟨k, m⟩]) k m = (l ++ [⟨k, m⟩], oct ((l.length : Int) + 1)) := by unfold putT; rw [atT_snoc e]; rfl
    rw [e1]
    exact ⟨by simp, by rw [e2]⟩
  | some i =>
    have e1 : putT l k m = (l, oct ((i : Int) + 1)) := by unfold putT; rw [e]; rfl
    rw [e1]
    exact ⟨List.mem_of_getElem? (atT_some e).2.1, by rw [e1]⟩
theorem putT_nodup [Tabs] {l : List Term} (h : l.Nodup) (k m : List Int) : (putT l k m).1.Nodup := by
  cases e : atT l k m with
  | none =>
    have e1 : putT l k m = (l ++ [⟨k, m⟩], oct ((l.length : Int) + 1)) := by unfold putT; rw [e]; rfl
    rw [e1, List.nodup_append]
    exact ⟨h, by simp, fun a ha b hb => by rw [List.mem_singleton.1 hb]; rintro rfl; exact atT_none.1 e ha⟩
  | some i =>
    have e1 : putT l k m = (l, oct ((i : Int) + 1)) := by unfold putT; rw [e]; rfl
    rw [e1]; exact h
theorem putT_all {l : List Term} {k m : List Int} {p : Term → Prop} (h : ∀ t ∈ l, p t) (hn : p ⟨k, m⟩) : ∀ t ∈ (putT l k m).1, p t := by
  cases e : atT l k m with
  | none =>
    have e1 : putT l k m = (l ++ [⟨k, m⟩], oct ((l.length : Int) + 1)) := by unfold putT; rw [e]; rfl
    rw [e1]
    intro t ht
    rcases List.mem_append.1 ht with ht | ht
    · exact h t ht
    · rw [List.mem_singleton.1 ht]; exact hn
  | some i =>
    have e1 : putT l k m = (l, oct ((i : Int) + 1)) := by unfold putT; rw [e]; rfl
    rw [e1]; exact h
theorem putT_len1 (l : List Term) (k m : List Int) : (putT l k m).1.length ≤ l.length + 1 := by
  unfold putT; cases atT l k m <;> simp
end
end Go.Proofs.YtgkmpgfmhjbcjaaGreatX
namespace Go.Proofs.YtgkmpgfmhjbcjaaGreatX
section
open Go Go.YtgkmpgfmhjbcjaaGreatE Go.Proofs
set_option maxRecDepth 100000
set_option autoImplicit false
theorem xor_ne [Tabs] {x y : Int} (hx : 0 ≤ x ∧ x ≤ 255) (hy : 0 ≤ y ∧ y < 256) (h : Go.bits .xor .u8 x y = x) : y = 0 := by
  obtain ⟨a, rfl⟩ := Int.eq_ofNat_of_zero_le hx.1
  obtain ⟨b, rfl⟩ := Int.eq_ofNat_of_zero_le hy.1
  have h2 : IntKind.u8.wrap (((BitVec.ofInt 8 (a : Int) ^^^ BitVec.ofInt 8 (b : Int)).toNat : Nat) : Int) = (a : Int) := h
  rw [wb' (by omega) (by have := (BitVec.ofInt 8 (a : Int) ^^^ BitVec.ofInt 8 (b : Int)).isLt; omega)] at h2
  have h3 : (BitVec.ofNat 8 a ^^^ BitVec.ofNat 8 b).toNat = a := by
    have : (BitVec.ofInt 8 (a : Int) ^^^ BitVec.ofInt 8 (b : Int)).toNat = a := by omega
    exact this
  have h4 : BitVec.ofNat 8 a ^^^ BitVec.ofNat 8 b = BitVec.ofNat 8 a := BitVec.eq_of_toNat_eq (by rw [h3]; simp; omega)
  have h5 : BitVec.ofNat 8 b = 0#8 := by
    have := congrArg (BitVec.ofNat 8 a ^^^ ·) h4
    simpa [← BitVec.xor_assoc] using this
  have := congrArg BitVec.toNat h5
  simp at this
  omega
end
end Go.Proofs.YtgkmpgfmhjbcjaaGreatX
namespace Go.Proofs.YtgkmpgfmhjbcjaaGreatX
section
open Go Go.YtgkmpgfmhjbcjaaGreatE Go.Proofs
set_option maxRecDepth 100000
set_option autoImplicit false
theorem wf_u64 {x : Int} (h : (Lit.int .u64 x).wf = true) : U64 x := by
  have h : IntKind.u64.min ≤ x ∧ x ≤ IntKind.u64.max := by simpa [Lit.wf] using h
  have e1 : IntKind.u64.min = 0 := by decide
  have e2 : IntKind.u64.max = 18446744073709551615 := by decide
  unfold U64; omega
theorem ex_bys' [Tabs] {n : Nat} {ts : List T} (h : WfC Tryz.prog n 25 ts) : ∃ l : List Int, mkE Tryz.prog 25 ts = .sl 1 (bys l) ∧ Byt l := by
  obtain ⟨l, m', rfl, _, hl'⟩ := h.slice Tryz.underlying25
  obtain ⟨r, rfl, hr⟩ := row_of (f := T.int .u8) (p := fun x => 0 ≤ x ∧ x ≤ 255) hl' (fun cs hcs => by
    obtain ⟨x, rfl, wx⟩ := hcs.int Tryz.underlying5
    exact ⟨x, rfl, by have := wf_u8 wx; omega⟩)
  exact ⟨r, rfl, hr⟩
theorem exc_Term [Tabs] {n : Nat} {ts : List T} (h : WfC Tryz.prog n 74 ts) : ∃ x : Term, ts = [.sl 1 (bys x.key), .sl 1 (bys x.msg)] ∧ x.Wf := by
  obtain ⟨hl, m, hf⟩ := h.struct Tryz.underlying74
  obtain ⟨c0, c1, rfl⟩ : ∃ c0 c1, ts = [c0, c1] := by
    match ts, hl.trans rfl with
    | [c0, c1], _ => exact ⟨c0, c1, rfl⟩
  obtain ⟨x0, e0, w0⟩ := ex_bys' (hf _ (List.mem_cons_self ..))
  replace e0 : c0 = _ := e0
  subst e0
  obtain ⟨x1, e1, w1⟩ := ex_bys' (hf _ (List.mem_cons_of_mem _ (List.mem_cons_self ..)))
  replace e1 : c1 = _ := e1
  subst e1
  exact ⟨⟨x0, x1⟩, rfl, ⟨w0, w1⟩⟩
theorem ex_Term' [Tabs] {n : Nat} {ts : List T} (h : WfC Tryz.prog n 74 ts) : ∃ x : Term, mkE Tryz.prog 74 ts = x.T ∧ x.Wf := by
  obtain ⟨x, rfl, w⟩ := exc_Term h
  exact ⟨x, rfl, w⟩
theorem exs_Term' [Tabs] {n : Nat} {ts : List T} (h : WfC Tryz.prog n 22 ts) : ∃ l : List Term, mkE Tryz.prog 22 ts = .sl 2 (l.map Term.T) ∧ ∀ x ∈ l, x.Wf := by
  obtain ⟨l, m', rfl, _, hl'⟩ := h.slice Tryz.underlying22
  obtain ⟨r, rfl, hr⟩ := row_of (f := Term.T) (p := Term.Wf) hl' (fun cs hcs => ex_Term' hcs)
  exact ⟨r, rfl, hr⟩
theorem exc_Engine [Tabs] {n : Nat} {ts : List T} (h : WfC Tryz.prog n 24 ts) : ∃ x : Engine, ts = [.int .i64 x.kind, .sl 2 (x.terms.map Term.T)] ∧ x.Wf := by
  obtain ⟨hl, m, hf⟩ := h.struct Tryz.underlying24
  obtain ⟨c0, c1, rfl⟩ : ∃ c0 c1, ts = [c0, c1] := by
    match ts, hl.trans rfl with
    | [c0, c1], _ => exact ⟨c0, c1, rfl⟩
  obtain ⟨x0, e0, w0⟩ := (hf _ (List.mem_cons_self ..)).int Tryz.underlying3
  replace e0 : [c0] = _ := e0
  simp only [List.cons.injEq, and_true] at e0
  subst e0
  obtain ⟨x1, e1, w1⟩ := exs_Term' (hf _ (List.mem_cons_of_mem _ (List.mem_cons_self ..)))
  replace e1 : c1 = _ := e1
  subst e1
  exact ⟨⟨x0, x1⟩, rfl, ⟨wf_i64 w0, w1⟩⟩
theorem ex_Engine' [Tabs] {n : Nat} {ts : List T} (h : WfC Tryz.prog n 24 ts) : ∃ x : Engine, mkE Tryz.prog 24 ts = x.T ∧ x.Wf := by
  obtain ⟨x, rfl, w⟩ := exc_Engine h
  exact ⟨x, rfl, w⟩
theorem exc_Activation [Tabs] {n : Nat} {ts : List T} (h : WfC Tryz.prog n 56 ts) : ∃ x : Activation, ts = [.int .u64 x.t, .int .u64 x.e, .int .u64 x.d, .sl 1 (bys x.seed)] ∧ x.Wf := by
  obtain ⟨hl, m, hf⟩ := h.struct Tryz.underlying56
  obtain ⟨c0, c1, c2, c3, rfl⟩ : ∃ c0 c1 c2 c3, ts = [c0, c1, c2, c3] := by
    match ts, hl.trans rfl with
    | [c0, c1, c2, c3], _ => exact ⟨c0, c1, c2, c3, rfl⟩
  obtain ⟨x0, e0, w0⟩ := (hf _ (List.mem_cons_self ..)).int Tryz.underlying26
  replace e0 : [c0] = _ := e0
  simp only [List.cons.injEq, and_true] at e0
  subst e0
  obtain ⟨x1, e1, w1⟩ := (hf _ (List.mem_cons_of_mem _ (List.mem_cons_self ..))).int Tryz.underlying26
  replace e1 : [c1] = _ := e1
  simp only [List.cons.injEq, and_true] at e1
  subst e1
  obtain ⟨x2, e2, w2⟩ := (hf _ (List.mem_cons_of_mem _ (List.mem_cons_of_mem _ (List.mem_cons_self ..)))).int Tryz.underlying26
  replace e2 : [c2] = _ := e2
  simp only [List.cons.injEq, and_true] at e2
  subst e2
  obtain ⟨x3, e3, w3⟩ := ex_bys' (hf _ (List.mem_cons_of_mem _ (List.mem_cons_of_mem _ (List.mem_cons_of_mem _ (List.mem_cons_self ..)))))
  replace e3 : c3 = _ := e3
  subst e3
  exact ⟨⟨x0, x1, x2, x3⟩, rfl, ⟨wf_u64 w0, wf_u64 w1, wf_u64 w2, w3⟩⟩
theorem ex_Activation' [Tabs] {n : Nat} {ts : List T} (h : WfC Tryz.prog n 56 ts) : ∃ x : Activation, mkE Tryz.prog 56 ts = x.T ∧ x.Wf := by
  obtain ⟨x, rfl, w⟩ := exc_Activation h
  exact ⟨x, rfl, w⟩
end
end Go.Proofs.YtgkmpgfmhjbcjaaGreatX
namespace Go.Proofs.YtgkmpgfmhjbcjaaGreatX
section
open Go Go.YtgkmpgfmhjbcjaaGreatE Go.Proofs
set_option maxRecDepth 100000
set_option autoImplicit false
def U32 (x : Int) : Prop := 0 ≤ x ∧ x < 2 ^ 32
theorem wu32_u [Tabs] (x : Int) : U32 (IntKind.u32.wrap x) := by rw [wu32]; exact ⟨Int.emod_nonneg _ (by omega), Int.emod_lt_of_pos _ (by omega)⟩
theorem wu64e (x : Int) : IntKind.u64.wrap x = x % 2 ^ 64 := by
  simp [IntKind.wrap, IntKind.signed, IntKind.bits]
theorem u64_nn [Tabs] (x : Int) : 0 ≤ IntKind.u64.wrap x := by rw [wu64e]; exact Int.emod_nonneg _ (by omega)
def rotL (x n : Int) : Int :=
  Go.bits .or .u32 (IntKind.u32.wrap (x * 2 ^ min (Go.bits .and .u64 (IntKind.u64.wrap n) 31).toNat IntKind.u32.bits)) (x.fdiv (2 ^ min (IntKind.u64.wrap (32 - Go.bits .and .u64 (IntKind.u64.wrap n) 31)).toNat IntKind.u32.bits))
theorem RotL_ct [Tabs] (x n : Int) : CtT Tryz.prog 155 [.int .u32 x, .int .i64 n] (Ret (.int .u32 (rotL x n)) []) := by
  refine Ct.of Tryz.func155 rfl rfl (n := 17) rfl (by simp [ids]) ?_
  exact ⟨u64_nn _, u64_nn _, [], _, _, ⟨rfl, rfl⟩, rfl, trivial, rfl⟩
def rotI (x n : Int) : Int := rotL x (IntKind.i64.wrap (0 - n.tmod 32))
theorem Rot_ct [Tabs] (x n : Int) : CtT Tryz.prog 154 [.int .u32 x, .int .i64 n] (Ret (.int .u32 (rotI x n)) []) := by
  refine Ct.of Tryz.func154 rfl rfl (n := 10) rfl (by simp [ids]) ?_
  refine ⟨by decide, ?_⟩
  refine Told.callT (RotL_ct _ _) rfl rfl rfl rfl ?_
  exact ⟨[], _, _, ⟨rfl, rfl⟩, rfl, trivial, rfl⟩
theorem bits_u32 [Tabs] (op : BinOp) (h : op = .xor ∨ op = .and ∨ op = .or) (x y : Int) : U32 (Go.bits op .u32 x y) := by
  rcases h with rfl | rfl | rfl <;> exact wu32_u _
theorem rotI_u [Tabs] (x n : Int) : U32 (rotI x n) := bits_u32 .or (.inr (.inr rfl)) _ _
def xor32 (x y : Int) : Int := Go.bits .xor .u32 x y
def turnI (x a b c : Int) : Int := xor32 (xor32 (rotI x a) (rotI x b)) (rotI x c)
theorem turn_ct [Tabs] (x a b c : Int) : CtT Tryz.prog 152 [.int .u32 x, .int .i64 a, .int .i64 b, .int .i64 c] (Ret (.int .u32 (turnI x a b c)) []) := by
  refine Ct.of Tryz.func152 rfl rfl (n := 20) rfl (by simp [ids]) ?_
  refine Told.callT (Rot_ct _ _) rfl rfl rfl rfl ?_
  refine Told.callT (Rot_ct _ _) rfl rfl rfl rfl ?_
  refine Told.callT (Rot_ct _ _) rfl rfl rfl rfl ?_
  exact ⟨[], _, _, ⟨rfl, rfl⟩, rfl, trivial, rfl⟩
@[reducible] def ws (l : List Int) : List T := l.map (T.int .u32)
theorem ws_len (l : List Int) : (ws l).length = l.length := by simp [ws]
theorem ws_get {l : List Int} {n : Int} {i : Nat} {x : Int} (hn : n = i) (h : l[i]? = some x) : (ws l)[n.toNat]? = some (T.int .u32 x) := by
  subst hn; simp [ws, h]
def wordsF (b : List Int) (n : Nat) : List Int := (List.range n).map fun i => IntKind.u32.wrap (val ((b.drop (4 * i)).take 4))
theorem Words_ct [Tabs] (b : List Int) (n : Nat) (hb : Byt b) (hn : b.length = 4 * n) (hl : n < 1000) : CtT Tryz.prog 153 [.sl 1 (bys b)] (Ret (.own 0) [(0, false, .row 173 1 (ws (wordsF b n)))]) := by
  refine Ct.ofL Tryz.func153 rfl rfl (n := 17) rfl (by simp [ids]) (by simp) ?_
  refine ⟨Nat, fun i => [(0, .t (.sl 1 (bys (b.drop (4 * i))))), (3, .own 3)], fun i => [(3, false, .row 173 1 (ws (wordsF b i)))], fun i => i ≤ n, fun i => n - i, 0, Nat.zero_le _,
    Le.trans (Le.nil 3 50 173 1 rfl rfl) (Le.of [(3, 50)] ⟨rfl, rfl, trivial⟩ ⟨rfl, trivial⟩ rfl), ?_⟩
  intro i hi
  refine brB (fun hc => ?_) (fun hc => ?_)
  · have hc : 4 ≤ (b.drop (4 * i)).length := by have h := of_decide_eq_true hc; rw [bys_len] at h; omega
    rw [List.length_drop] at hc
    have kv := value_ct ((b.drop (4 * i)).take 4) (by simp; omega) ((hb.drop _).take _)
    rw [bys_take] at kv
    refine ⟨by omega, by decide, by rw [bys_len]; simp; omega, ?_⟩
    refine Told.callT kv rfl rfl rfl rfl ?_
    have hl1 : (bys (b.drop (4 * i))).length = b.length - 4 * i := by rw [bys_len, List.length_drop]
    refine ⟨by show (_ + _) * 4 ≤ _; simp [wordsF]; omega, by decide, by rw [hl1]; omega, Int.le_refl _, i + 1, by omega, Le.of [(3, 13)] ⟨?_, rfl, trivial⟩ ⟨congrArg (fun x => (false, Blk.row 173 1 x)) ?_, trivial⟩ rfl, by show n - (i + 1) < n - i; omega⟩
    · refine congrArg (fun x => AV.t (.sl 1 x)) ?_
      simp [bys, Nat.mul_add, List.map_drop]
    · simp [ws, wordsF, List.range_succ]
  · have hc : i = n := by have h := of_decide_eq_false hc; rw [bys_len, List.length_drop] at h; omega
    subst hc
    exact ⟨_, _, Le.refl _ _ _, [(0, 3)], _, _, ⟨rfl, rfl⟩, rfl, ⟨rfl, trivial⟩, rfl⟩
theorem wordsF_len (b : List Int) (n : Nat) : (wordsF b n).length = n := by simp [wordsF]
theorem wordsF_u [Tabs] (b : List Int) (n : Nat) : ∀ x ∈ wordsF b n, U32 x := by
  intro x hx
  obtain ⟨i, _, rfl⟩ := List.mem_map.1 hx
  exact wu32_u _
def sm0 (x : Int) : Int := xor32 (xor32 (rotI x 7) (rotI x 18)) (x.fdiv (2 ^ min (Int.toNat 3) IntKind.u32.bits))
def sm1 (x : Int) : Int := xor32 (xor32 (rotI x 17) (rotI x 19)) (x.fdiv (2 ^ min (Int.toNat 10) IntKind.u32.bits))
def add32 (x y : Int) : Int := IntKind.u32.wrap (x + y)
def nextW (w : List Int) : Int := add32 (add32 (add32 (sm1 (w.getD (w.length - 2) 0)) (w.getD (w.length - 7) 0)) (sm0 (w.getD (w.length - 15) 0))) (w.getD (w.length - 16) 0)
def growW : Nat → List Int → List Int
  | 0, w => w
  | n + 1, w => growW n w ++ [nextW (growW n w)]
theorem growW_len (n : Nat) (w : List Int) : (growW n w).length = w.length + n := by
  induction n with
  | zero => rfl
  | succ n ih => simp only [growW, List.length_append, ih, List.length_singleton]; omega
theorem growW_u [Tabs] (n : Nat) {w : List Int} (h : ∀ x ∈ w, U32 x) : ∀ x ∈ growW n w, U32 x := by
  induction n with
  | zero => exact h
  | succ n ih =>
    intro x hx
    rcases List.mem_append.1 hx with hx | hx
    · exact ih x hx
    · rw [List.mem_singleton.1 hx]; exact wu32_u _
def schedF (b : List Int) : List Int := growW 48 (wordsF b 16)
theorem schedF_len [Tabs] (b : List Int) : (schedF b).length = 64 := by unfold schedF; rw [growW_len, wordsF_len]
theorem getD_get {l : List Int} {i : Nat} (h : i < l.length) : l[i]? = some (l.getD i 0) := by
  rw [List.getD_eq_getElem?_getD, List.getElem?_eq_getElem h]; rfl
theorem sched_ct [Tabs] (b : List Int) (hb : Byt b) (hn : b.length = 64) : CtT Tryz.prog 151 [.sl 1 (bys b)] (Ret (.t (.sl 1 (ws (schedF b)))) []) := by
  refine CtT.ofN Tryz.func151 rfl rfl (n := 60) rfl ?_
  refine Told.callT (Words_ct b 16 hb (by omega) (by omega)) rfl rfl rfl rfl ?_
  refine ⟨Nat × List Int, fun q => [(3, .own 3), (4, .int .i64 (16 + q.1 : Nat))], fun q => [(3, false, .row 173 1 (ws q.2))], fun q => q.1 ≤ 48 ∧ q.2 = growW q.1 (wordsF b 16), fun q => 48 - q.1, (0, wordsF b 16), ⟨Nat.zero_le _, rfl⟩,
    Le.of [(3, 10)] ⟨rfl, rfl, trivial⟩ ⟨rfl, trivial⟩ rfl, ?_⟩
  rintro ⟨i, w⟩ ⟨hi, hw⟩
  simp only at hi hw ⊢
  have hl : w.length = 16 + i := by rw [hw, growW_len, wordsF_len]
  have lw : (ws w).length = 16 + i := by rw [ws_len, hl]
  refine brB (fun hc => ?_) (fun hc => ?_)
  · have hc : i < 48 := by have h := of_decide_eq_true hc; omega
    have w15 : IntKind.i64.wrap (((16 + i : Nat) : Int) - 15) = ((16 + i - 15 : Nat) : Int) := by rw [wi (by omega) (by omega)]; omega
    have w2 : IntKind.i64.wrap (((16 + i : Nat) : Int) - 2) = ((16 + i - 2 : Nat) : Int) := by rw [wi (by omega) (by omega)]; omega
    have w7 : IntKind.i64.wrap (((16 + i : Nat) : Int) - 7) = ((16 + i - 7 : Nat) : Int) := by rw [wi (by omega) (by omega)]; omega
    have w16 : IntKind.i64.wrap (((16 + i : Nat) : Int) - 16) = ((16 + i - 16 : Nat) : Int) := by rw [wi (by omega) (by omega)]; omega
    have g15 := getD_get (l := w) (i := 16 + i - 15) (by omega)
    have g2 := getD_get (l := w) (i := 16 + i - 2) (by omega)
    have g7 := getD_get (l := w) (i := 16 + i - 7) (by omega)
    have g16 := getD_get (l := w) (i := 16 + i - 16) (by omega)
    have hnx : growW (i + 1) (wordsF b 16) = w ++ [add32 (add32 (add32 (sm1 (w.getD (16 + i - 2) 0)) (w.getD (16 + i - 7) 0)) (sm0 (w.getD (16 + i - 15) 0))) (w.getD (16 + i - 16) 0)] := by
      show growW i (wordsF b 16) ++ [nextW (growW i (wordsF b 16))] = _
      rw [← hw]; unfold nextW; rw [hl]
    refine ⟨by rw [w15]; omega, by rw [w15, lw]; omega, _, ws_get w15 g15, by rw [w2]; omega, by rw [w2, lw]; omega, _, ws_get w2 g2, ?_⟩
    refine Told.callT (Rot_ct _ _) rfl rfl rfl rfl ?_
    refine Told.callT (Rot_ct _ _) rfl rfl rfl rfl ?_
    refine ⟨by decide, ?_⟩
    refine Told.callT (Rot_ct _ _) rfl rfl rfl rfl ?_
    refine Told.callT (Rot_ct _ _) rfl rfl rfl rfl ?_
    refine ⟨by decide, ?_⟩
    refine ⟨by rw [w7]; omega, by rw [w7, lw]; omega, _, ws_get w7 g7, by rw [w16]; omega, by rw [w16, lw]; omega, _, ws_get w16 g16, ?_⟩
    refine ⟨by show (_ + _) * 4 ≤ _; rw [lw]; simp; omega, (i + 1, _), ⟨hc, hnx.symm⟩, Le.of [(3, 58)] ⟨rfl, congrArg (AV.int .i64) (by rw [wi (by omega) (by omega)]; omega), trivial⟩ ⟨congrArg (fun x => (false, Blk.row 173 1 x)) (by simp [ws]; rfl), trivial⟩ rfl, by show 48 - (i + 1) < 48 - i; omega⟩
  · have hc : i = 48 := by have h := of_decide_eq_false hc; omega
    subst hc
    have hs : schedF b = w := hw.symm
    refine ⟨_, rfl, ?_⟩
    rw [hs]
    exact .refl _
end
end Go.Proofs.YtgkmpgfmhjbcjaaGreatX
namespace Go.Proofs.YtgkmpgfmhjbcjaaGreatX
section
open Go Go.YtgkmpgfmhjbcjaaGreatE Go.Proofs
set_option maxRecDepth 100000
set_option autoImplicit false
structure W8 where
  a : Int
  b : Int
  c : Int
  d : Int
  e : Int
  f : Int
  g : Int
  h : Int
@[reducible] def W8.T (s : W8) : T := .agg [.int .u32 s.a, .int .u32 s.b, .int .u32 s.c, .int .u32 s.d, .int .u32 s.e, .int .u32 s.f, .int .u32 s.g, .int .u32 s.h]
abbrev W8.box (s : W8) : Blk := .box 200 [.int .u32 s.a, .int .u32 s.b, .int .u32 s.c, .int .u32 s.d, .int .u32 s.e, .int .u32 s.f, .int .u32 s.g, .int .u32 s.h]
def and32 (x y : Int) : Int := Go.bits .and .u32 x y
theorem tabK [Tabs] {i : Nat} (hi : i < 64) : (((List.range 64).map fun i => (T.int .u32 (Tabs.k i))).drop (i * 1)).take 1 = [T.int .u32 (Tabs.k i)] := by
  rw [Nat.mul_one, List.drop_eq_getElem_cons (by simpa using hi)]
  simp
def not32 (x : Int) : Int := Go.bits .xor .u32 (if IntKind.u32.signed = true then -1 else IntKind.u32.max) x
def rnd (s : W8) (k w : Int) : W8 :=
  let x := add32 (add32 (add32 (add32 s.h (turnI s.e 6 11 25)) (xor32 (and32 s.e s.f) (and32 (not32 s.e) s.g))) k) w
  let y := add32 (turnI s.a 2 13 22) (xor32 (xor32 (and32 s.a s.b) (and32 s.a s.c)) (and32 s.b s.c))
  ⟨add32 x y, s.a, s.b, s.c, add32 s.d x, s.e, s.f, s.g⟩
def rounds [Tabs] (w : List Int) (s : W8) : Nat → W8
  | 0 => s
  | i + 1 => rnd (rounds w s i) (Tabs.k i) (w.getD i 0)
def sumW (s t : W8) : W8 := ⟨add32 s.a t.a, add32 s.b t.b, add32 s.c t.c, add32 s.d t.d, add32 s.e t.e, add32 s.f t.f, add32 s.g t.g, add32 s.h t.h⟩
def blockF [Tabs] (s : W8) (b : List Int) : W8 := sumW (rounds (schedF b) s 64) s
def partW (s t : W8) (i : Nat) : W8 :=
  ⟨if 0 < i then add32 s.a t.a else s.a, if 1 < i then add32 s.b t.b else s.b, if 2 < i then add32 s.c t.c else s.c, if 3 < i then add32 s.d t.d else s.d, if 4 < i then add32 s.e t.e else s.e, if 5 < i then add32 s.f t.f else s.f, if 6 < i then add32 s.g t.g else s.g, if 7 < i then add32 s.h t.h else s.h⟩
theorem SBlock_ct [Tabs] (s : W8) (b : List Int) (hb : Byt b) (hn : b.length = 64) : CtT Tryz.prog 150 [s.T, .sl 1 (bys b)] (Ret (.t (.tuple [(blockF s b).T, .int .i64 0])) []) := by
  refine CtT.ofN Tryz.func150 rfl rfl (n := 101) rfl ?_
  refine brF ?_ ?_
  · rw [bys_len, hn]; rfl
  refine Told.callT (sched_ct b hb hn) rfl rfl rfl rfl ?_
  have sl := schedF_len b
  obtain ⟨w, hw⟩ : ∃ w, w = schedF b := ⟨_, rfl⟩
  rw [← hw] at sl ⊢
  refine ⟨Nat × W8, fun q => [(2, .ptr 2 0), (4, .ptr 4 0), (6, .ptr 6 0), (22, .t (.sl 1 (ws w))), (23, .int .i64 64), (24, .int .i64 q.1)], fun q => [(2, false, s.box), (4, false, .box 200 [.int .u32 0, .int .u32 0, .int .u32 0, .int .u32 0, .int .u32 0, .int .u32 0, .int .u32 0, .int .u32 0]), (6, false, q.2.box)], fun q => q.1 ≤ 64 ∧ q.2 = rounds w s q.1, fun q => 64 - q.1, (0, s), ⟨Nat.zero_le _, rfl⟩,
    Le.of [] ⟨rfl, rfl, rfl, rfl, congrArg (AV.int .i64) (by rw [ws_len, sl]; rfl), rfl, trivial⟩ ⟨rfl, rfl, rfl, trivial⟩ rfl, ?_⟩
  rintro ⟨i, q⟩ ⟨hi, hq⟩
  simp only at hi hq ⊢
  refine brB (fun hc => ?_) (fun hc => ?_)
  · have hc : i < 64 := by have h := of_decide_eq_true hc; omega
    have hx := getD_get (l := w) (i := i) (by omega)
    have hr : rounds w s (i + 1) = rnd q (Tabs.k i) (w.getD i 0) := by rw [hq]; rfl
    generalize w.getD i 0 = x at hx hr
    refine ⟨by omega, _, ws_get rfl hx, ?_⟩
    repeat refine ⟨by decide, ?_⟩
    refine Told.callT (turn_ct _ _ _ _) rfl rfl rfl rfl ?_
    refine ⟨by omega, by omega, by show i * 1 + 1 ≤ 64; omega, _, tabK hc, ?_⟩
    refine Told.callT (turn_ct _ _ _ _) rfl rfl rfl rfl ?_
    repeat refine ⟨by decide, ?_⟩
    refine ⟨1, 7, rfl, rfl, by decide, by decide, by decide, ?_⟩
    refine ⟨0, 7, rfl, rfl, by decide, by decide, by decide, ?_⟩
    refine ⟨by simp [T.one]; exact ⟨rfl, rfl, rfl, rfl, rfl, rfl, rfl⟩, 7, rfl, trivial, ?_⟩
    repeat refine ⟨by decide, ?_⟩
    refine ⟨(i + 1, ⟨_, _, _, _, _, _, _, _⟩), ⟨hc, ?_⟩, Le.of [] ⟨rfl, rfl, rfl, rfl, rfl, congrArg (AV.int .i64) (wi (by omega) (by omega)), trivial⟩ ⟨rfl, rfl, rfl, trivial⟩ rfl, by show 64 - (i + 1) < 64 - i; omega⟩
    rw [hr]
    rfl
  · have hc : i = 64 := by have h := of_decide_eq_false hc; omega
    subst hc
    refine ⟨Nat, fun i => [(2, .ptr 2 0), (4, .ptr 4 0), (6, .ptr 6 0), (88, .int .i64 i)], fun i => [(2, false, s.box), (4, false, .box 200 [.int .u32 0, .int .u32 0, .int .u32 0, .int .u32 0, .int .u32 0, .int .u32 0, .int .u32 0, .int .u32 0]), (6, false, (partW q s i).box)], fun i => i ≤ 8, fun i => 8 - i, 0, Nat.zero_le _,
      Le.of [] ⟨rfl, rfl, rfl, rfl, trivial⟩ ⟨rfl, rfl, rfl, trivial⟩ rfl, ?_⟩
    intro i hi
    refine brB (fun hc => ?_) (fun hc => ?_)
    · have hc : i < 8 := by have h := of_decide_eq_true hc; omega
      obtain rfl | rfl | rfl | rfl | rfl | rfl | rfl | rfl : i = 0 ∨ i = 1 ∨ i = 2 ∨ i = 3 ∨ i = 4 ∨ i = 5 ∨ i = 6 ∨ i = 7 := by omega
      all_goals
        repeat refine ⟨by decide, ?_⟩
        exact ⟨_, by decide, Le.of [] ⟨rfl, rfl, rfl, rfl, trivial⟩ ⟨rfl, rfl, rfl, trivial⟩ rfl, by decide⟩
    · have hc : i = 8 := by have h := of_decide_eq_false hc; omega
      subst hc
      refine ⟨_, rfl, ?_⟩
      have e : blockF s b = partW q s 8 := by unfold blockF; rw [← hw, ← hq]; rfl
      rw [e]
      exact .refl _
end
end Go.Proofs.YtgkmpgfmhjbcjaaGreatX
namespace Go.Proofs.YtgkmpgfmhjbcjaaGreatX
section
open Go Go.YtgkmpgfmhjbcjaaGreatE Go.Proofs
set_option maxRecDepth 100000
set_option autoImplicit false
structure Hs where
  s : W8
  rest : List Int
  many : Int
@[reducible] def Hs.T (h : Hs) : T := .agg [.int .u32 h.s.a, .int .u32 h.s.b, .int .u32 h.s.c, .int .u32 h.s.d, .int .u32 h.s.e, .int .u32 h.s.f, .int .u32 h.s.g, .int .u32 h.s.h, .sl 1 (bys h.rest), .int .u64 h.many]
abbrev Hs.box (h : Hs) : Blk := .box 202 [.int .u32 h.s.a, .int .u32 h.s.b, .int .u32 h.s.c, .int .u32 h.s.d, .int .u32 h.s.e, .int .u32 h.s.f, .int .u32 h.s.g, .int .u32 h.s.h, .t (.sl 1 (bys h.rest)), .int .u64 h.many]
abbrev zeroH : Blk := .box 202 [.int .u32 0, .int .u32 0, .int .u32 0, .int .u32 0, .int .u32 0, .int .u32 0, .int .u32 0, .int .u32 0, .t (.v (.slice none 0 0)), .int .u64 0]
def startW [Tabs] : W8 := ⟨Tabs.f 0, Tabs.f 1, Tabs.f 2, Tabs.f 3, Tabs.f 4, Tabs.f 5, Tabs.f 6, Tabs.f 7⟩
theorem Start_ct [Tabs] : CtT Tryz.prog 147 [] (Ret (.t (⟨startW, [], 0⟩ : Hs).T) []) := by
  refine CtT.ofN Tryz.func147 rfl rfl (n := 3) rfl ?_
  exact ⟨_, rfl, by repeat constructor⟩
def blocksF [Tabs] (s : W8) (l : List Int) : Nat → W8
  | 0 => s
  | i + 1 => blockF (blocksF s l i) ((l.drop (64 * i)).take 64)
def moreF [Tabs] (h : Hs) (b : List Int) : Hs := ⟨blocksF h.s (h.rest ++ b) ((h.rest ++ b).length / 64), (h.rest ++ b).drop (64 * ((h.rest ++ b).length / 64)), IntKind.u64.wrap (h.many + IntKind.u64.wrap (b.length : Int))⟩
theorem More_ct [Tabs] (h : Hs) (b : List Int) (hr : h.rest.length < 64) (hb : Byt b) (hrb : Byt h.rest) (hl : b.length < 1000000) : CtT Tryz.prog 146 [h.T, .sl 1 (bys b)] (Ret (.t (.tuple [(moreF h b).T, .int .i64 0])) []) := by
  refine CtT.ofN Tryz.func146 rfl rfl (n := 42) rfl ?_
  refine brF (decide_eq_false (by rw [bys_len]; omega)) ?_
  obtain ⟨l, hle⟩ : ∃ l, l = h.rest ++ b := ⟨_, rfl⟩
  have hll : l.length = h.rest.length + b.length := by rw [hle, List.length_append]
  have hlb : Byt l := by rw [hle]; exact hrb.append hb
  have kc := ConcatB_ct [h.rest, b] (by simp) (by simp; omega)
  rw [show [h.rest, b].flatten = l by rw [hle]; simp] at kc
  refine Told.callT kc rfl rfl rfl rfl ?_
  obtain ⟨mm, hmm⟩ : ∃ mm, mm = IntKind.u64.wrap (h.many + IntKind.u64.wrap (b.length : Int)) := ⟨_, rfl⟩
  refine ⟨Nat × W8, fun q => [(2, .ptr 2 0), (4, .ptr 4 0), (6, .t (.sl 1 (bys (l.drop (64 * q.1)))))], fun q => [(2, false, (⟨q.2, h.rest, mm⟩ : Hs).box), (4, false, zeroH)], fun q => 64 * q.1 ≤ l.length ∧ q.2 = blocksF h.s l q.1, fun q => l.length - q.1, (0, h.s), ⟨Nat.zero_le _, rfl⟩,
    Le.of [] ⟨rfl, rfl, rfl, trivial⟩ ⟨by rw [hmm, ← bys_len b]; rfl, rfl, trivial⟩ rfl, ?_⟩
  rintro ⟨i, s⟩ ⟨hi, hs⟩
  simp only at hi hs ⊢
  refine brB (fun hc => ?_) (fun hc => ?_)
  · have hc : 64 ≤ l.length - 64 * i := by have h := of_decide_eq_true hc; rw [bys_len, List.length_drop] at h; omega
    have kb := SBlock_ct s ((l.drop (64 * i)).take 64) ((hlb.drop _).take _) (by simp; omega)
    rw [bys_take] at kb
    refine ⟨by decide, by decide, by rw [bys_len, List.length_drop]; omega, ?_⟩
    refine Told.callT kb rfl rfl rfl rfl ?_
    refine ⟨by decide, by rw [bys_len, List.length_drop]; omega, Int.le_refl _, (i + 1, blockF s ((l.drop (64 * i)).take 64)), ⟨by omega, by rw [hs]; rfl⟩, Le.of [] ⟨rfl, rfl, ?_, trivial⟩ ⟨rfl, rfl, trivial⟩ rfl, by show l.length - (i + 1) < l.length - i; omega⟩
    refine congrArg (fun x => AV.t (.sl 1 x)) ?_
    simp [bys, Nat.mul_add, List.map_drop]
  · have hc : l.length - 64 * i < 64 := by have h := of_decide_eq_false hc; rw [bys_len, List.length_drop] at h; omega
    have hi2 : i = l.length / 64 := by omega
    refine Told.callT (CloneB_ct (l.drop (64 * i)) (by simp; omega)) rfl rfl rfl rfl ?_
    refine ⟨_, rfl, ?_⟩
    have e : moreF h b = ⟨s, l.drop (64 * i), mm⟩ := by unfold moreF; rw [← hle, ← hi2, ← hs, ← hmm]
    rw [e]
    exact .refl _
end
end Go.Proofs.YtgkmpgfmhjbcjaaGreatX
namespace Go.Proofs.YtgkmpgfmhjbcjaaGreatX
section
open Go Go.YtgkmpgfmhjbcjaaGreatE Go.Proofs
set_option maxRecDepth 100000
set_option autoImplicit false
def padF (l : List Int) : List Int := (l ++ [128] ++ List.replicate (63 - l.length) 0)
def tailF (l : List Int) (m : Int) : List Int := l.take 56 ++ oct m
def W8.l (s : W8) : List Int := [s.a, s.b, s.c, s.d, s.e, s.f, s.g, s.h]
def endW [Tabs] (h : Hs) : W8 :=
  if h.rest.length < 56 then blockF h.s (tailF (padF h.rest) (IntKind.u64.wrap (h.many * 8)))
  else blockF (blockF h.s (padF h.rest)) (tailF (List.replicate 64 0) (IntKind.u64.wrap (h.many * 8)))
def endF [Tabs] (h : Hs) : List Int := (endW h).l.flatMap quad
theorem padF_len {l : List Int} (h : l.length < 64) : (padF l).length = 64 := by simp [padF]; omega
theorem padF_byt [Tabs] {l : List Int} (h : Byt l) : Byt (padF l) := by
  have h1 : Byt [(128 : Int)] := fun y hy => by rw [List.mem_singleton.1 hy]; omega
  have h2 : ∀ n, Byt (List.replicate n (0 : Int)) := fun n y hy => by rw [(List.mem_replicate.1 hy).2]; omega
  exact (h.append h1).append (h2 _)
theorem zero_byt (n : Nat) : Byt (List.replicate n (0 : Int)) := fun y hy => by rw [(List.mem_replicate.1 hy).2]; omega
theorem End_ct [Tabs] (h : Hs) (hr : h.rest.length < 64) (hb : Byt h.rest) : CtT Tryz.prog 148 [h.T] (Ret (.t (.tuple [.sl 1 (bys (endF h)), .int .i64 0])) []) := by
  refine CtT.ofN Tryz.func148 rfl rfl (n := 46) rfl ?_
  refine brF (decide_eq_false (by rw [bys_len]; omega)) ?_
  have hlr : (bys h.rest).length = h.rest.length := bys_len _
  refine ⟨by decide, by decide, by decide, by decide, h.rest.length, by rw [hlr, List.length_replicate]; exact (Nat.min_eq_left (by omega)).symm, trivial, ?_⟩
  refine ⟨by omega, by simp; omega, ?_⟩
  have e1 : (((bys h.rest).take h.rest.length ++ (List.replicate (Int.toNat 64) (T.int .u8 0)).drop h.rest.length).set ((h.rest.length : Int)).toNat (T.int .u8 128)) = bys (padF h.rest) := by
    have e2 : (bys h.rest).take h.rest.length = bys h.rest := List.take_of_length_le (by omega)
    rw [Int.toNat_natCast, e2, List.drop_replicate, show Int.toNat 64 - h.rest.length = (63 - h.rest.length) + 1 by omega, List.replicate_succ]
    have e3 : ∀ (x y : List T) (u v : T) (n : Nat), x.length = n → (x ++ u :: y).set n v = x ++ v :: y := by
      intro x y u v n hn
      subst hn
      induction x with
      | nil => rfl
      | cons z x ih => simp [ih]
    rw [e3 _ _ _ _ _ hlr]
    simp [padF, bys]
  have e0 : ((bys h.rest).take h.rest.length ++ (List.replicate (Int.toNat 64) (T.int .u8 0)).drop h.rest.length)[((h.rest.length : Int)).toNat]? = some (T.int .u8 0) := by
    have e2 : (bys h.rest).take h.rest.length = bys h.rest := List.take_of_length_le (by omega)
    rw [Int.toNat_natCast, e2, List.getElem?_append_right (by omega), hlr, Nat.sub_self, List.drop_replicate, show Int.toNat 64 - h.rest.length = (63 - h.rest.length) + 1 by omega, List.replicate_succ]
    rfl
  refine ⟨_, e0, ?_⟩
  obtain ⟨m, hm⟩ : ∃ m, m = IntKind.u64.wrap (h.many * 8) := ⟨_, rfl⟩
  have hm0 : 0 ≤ m := by rw [hm]; exact u64_nn _
  have hm1 : m < 2 ^ 64 := by rw [hm, wu64e]; exact Int.emod_lt_of_pos _ (by omega)
  have e4 : ∀ (L : List T) (p : List Int), L = bys p → p.length = 64 → L.take 56 ++ (bys (oct m)).take 8 ++ L.drop (56 + 8) = bys (tailF p m) := by
    intro L p hL hp
    subst hL
    have a1 : (bys p).take 56 = bys (p.take 56) := (bys_take p 56).symm
    have a2 : (bys (oct m)).take 8 = bys (oct m) := List.take_of_length_le (by rw [bys_len, oct_len]; exact Nat.le_refl _)
    have a3 : (bys p).drop (56 + 8) = [] := List.drop_of_length_le (by rw [bys_len]; omega)
    rw [a1, a2, a3, List.append_nil, ← bys_append]
    rfl
  have tl : ∀ p : List Int, p.length = 64 → (tailF p m).length = 64 := by intro p hp; simp [tailF, oct_len]; omega
  have tb : ∀ p : List Int, Byt p → Byt (tailF p m) := fun p hp => (hp.take _).append (oct_byt _)
  have hp := padF_len hr
  have kp := Put_word hm0 hm1
  rw [hm] at kp
  by_cases hlt : h.rest.length < 56
  · refine brF (decide_eq_false (p := ((bys h.rest).length : Int) ≥ 56) (by rw [hlr]; omega)) ?_
    have hL := congrArg List.length e1
    rw [bys_len, hp] at hL
    refine ⟨56, 8, rfl, (show ((8 : Nat) : Int) = ((64 : Nat) : Int) - 56 by decide).trans (congrArg (fun n : Nat => (n : Int) - 56) hL).symm, by decide, Int.le_trans (show (56 : Int) ≤ ((64 : Nat) : Int) by decide) (Int.le_of_eq (congrArg (fun n : Nat => (n : Int)) hL).symm), Int.le_refl _, ?_⟩
    refine Told.callT kp rfl rfl rfl rfl ?_
    rw [← hm]
    refine ⟨8, by rw [bys_len]; rfl, trivial, ?_⟩
    have kb := SBlock_ct h.s (tailF (padF h.rest) m) (tb _ (padF_byt hb)) (tl _ hp)
    refine Told.callT kb rfl rfl (congrArg (fun x => some [h.s.T, T.sl 1 x]) (e4 _ _ e1 hp)) rfl ?_
    refine ⟨0, 8, rfl, rfl, by decide, by decide, by decide, ?_⟩
    have kw := Bytes_ct (blockF h.s (tailF (padF h.rest) m)).l (by simp [W8.l])
    refine Told.callT kw rfl rfl rfl rfl ?_
    refine ⟨_, rfl, ?_⟩
    have e : endF h = (blockF h.s (tailF (padF h.rest) m)).l.flatMap quad := by unfold endF endW; rw [if_pos hlt, hm]
    rw [e]
    exact .refl _
  · refine brT (decide_eq_true (p := ((bys h.rest).length : Int) ≥ 56) (by rw [hlr]; omega)) ?_
    have kb := SBlock_ct h.s (padF h.rest) (padF_byt hb) hp
    refine Told.callT kb rfl rfl (congrArg (fun x => some [h.s.T, T.sl 1 x]) e1) rfl ?_
    refine ⟨by decide, by decide, by decide, by decide, ?_⟩
    refine ⟨56, 8, rfl, by rw [List.length_replicate]; decide, by decide, by rw [List.length_replicate]; decide, Int.le_refl _, ?_⟩
    refine Told.callT kp rfl rfl rfl rfl ?_
    rw [← hm]
    refine ⟨8, by rw [bys_len]; rfl, trivial, ?_⟩
    have kb := SBlock_ct (blockF h.s (padF h.rest)) (tailF (List.replicate 64 0) m) (tb _ (zero_byt 64)) (tl _ (by simp))
    refine Told.callT kb rfl rfl (congrArg (fun x => some [(blockF h.s (padF h.rest)).T, T.sl 1 x]) (e4 _ _ (show List.replicate (Int.toNat 64) (T.int .u8 0) = bys (List.replicate 64 0) by simp [bys]) (by simp))) rfl ?_
    refine ⟨0, 8, rfl, rfl, by decide, by decide, by decide, ?_⟩
    have kw := Bytes_ct (blockF (blockF h.s (padF h.rest)) (tailF (List.replicate 64 0) m)).l (by simp [W8.l])
    refine Told.callT kw rfl rfl rfl rfl ?_
    refine ⟨_, rfl, ?_⟩
    have e : endF h = (blockF (blockF h.s (padF h.rest)) (tailF (List.replicate 64 0) m)).l.flatMap quad := by unfold endF endW; rw [if_neg hlt, hm]
    rw [e]
    exact .refl _
end
end Go.Proofs.YtgkmpgfmhjbcjaaGreatX
namespace Go.Proofs.YtgkmpgfmhjbcjaaGreatX
section
open Go Go.YtgkmpgfmhjbcjaaGreatE Go.Proofs
set_option maxRecDepth 100000
set_option autoImplicit false
def sumF [Tabs] (b : List Int) : List Int := endF (moreF ⟨startW, [], 0⟩ b)
theorem sumF_len [Tabs] (b : List Int) : (sumF b).length = 32 := by unfold sumF endF; rw [quads_len]; rfl
theorem sumF_byt [Tabs] (b : List Int) : Byt (sumF b) := by
  intro y hy
  obtain ⟨x, _, hx⟩ := List.mem_flatMap.1 hy
  exact quad_byt x y hx
theorem Sum_ct [Tabs] (b : List Int) (hb : Byt b) (hl : b.length < 1000000) : CtT Tryz.prog 144 [.sl 1 (bys b)] (Ret (.t (.sl 1 (bys (sumF b)))) []) := by
  refine CtT.ofN Tryz.func144 rfl rfl (n := 19) rfl ?_
  refine Told.callT Start_ct rfl rfl rfl rfl ?_
  have km := More_ct ⟨startW, [], 0⟩ b (by simp) hb (by intro y hy; cases hy) hl
  have hr : (moreF ⟨startW, [], 0⟩ b).rest.length < 64 := by unfold moreF; simp; omega
  have hrb : Byt (moreF ⟨startW, [], 0⟩ b).rest := by unfold moreF; simp only [List.nil_append]; exact hb.drop _
  have hs : sumF b = endF (moreF ⟨startW, [], 0⟩ b) := rfl
  obtain ⟨h, hh⟩ : ∃ h, h = moreF ⟨startW, [], 0⟩ b := ⟨_, rfl⟩
  rw [← hh] at km hr hrb hs
  refine Told.callT km rfl rfl rfl rfl ?_
  refine Told.callT (End_ct h hr hrb) rfl rfl rfl rfl ?_
  refine ⟨_, rfl, ?_⟩
  rw [hs]
  exact .refl _
def hblockF [Tabs] (k : List Int) : List Int := (if 64 < k.length then sumF k else k) ++ List.replicate (64 - (if 64 < k.length then sumF k else k).length) 0
theorem hblockF_len [Tabs] (k : List Int) : (hblockF k).length = 64 := by
  unfold hblockF
  split
  · simp [sumF_len]
  · simp; omega
theorem hblockF_byt [Tabs] {k : List Int} (h : Byt k) : Byt (hblockF k) := by
  unfold hblockF
  split
  · exact (sumF_byt k).append (zero_byt _)
  · exact h.append (zero_byt _)
theorem HBlock_ct [Tabs] (k : List Int) (hb : Byt k) (hl : k.length < 1000000) : CtT Tryz.prog 149 [.sl 1 (bys k)] (Ret (.own 0) [(0, false, .row 5 1 (bys (hblockF k)))]) := by
  refine Ct.of Tryz.func149 rfl rfl (n := 14) rfl (by simp [ids]) ?_
  have fin : ∀ l : List Int, l.length ≤ 64 → (bys l).take l.length ++ (List.replicate (Int.toNat 64) (T.int .u8 0)).drop l.length = bys (l ++ List.replicate (64 - l.length) 0) := fun l hl => by
    have e2 : (bys l).take l.length = bys l := List.take_of_length_le (by rw [bys_len]; exact Nat.le_refl _)
    rw [e2, List.drop_replicate]
    simp [bys]
  by_cases h : 64 < k.length
  · refine brT (decide_eq_true (p := ((bys k).length : Int) > 64) (by rw [bys_len]; omega)) ?_
    refine Told.callT (Sum_ct k hb hl) rfl rfl rfl rfl ?_
    have hs := sumF_len k
    have e : hblockF k = sumF k ++ List.replicate (64 - (sumF k).length) 0 := by unfold hblockF; rw [if_pos h]
    rw [e]
    generalize sumF k = l at hs
    refine ⟨by decide, by decide, by decide, by decide, l.length, by rw [bys_len, List.length_replicate]; exact (Nat.min_eq_left (by show l.length ≤ 64; omega)).symm, trivial, ?_⟩
    exact ⟨[(0, 9)], _, _, ⟨rfl, rfl⟩, rfl, ⟨congrArg (fun x => (false, Blk.row 5 1 x)) (fin l (by omega)), trivial⟩, rfl⟩
  · refine brF (decide_eq_false (p := ((bys k).length : Int) > 64) (by rw [bys_len]; omega)) ?_
    have e : hblockF k = k ++ List.replicate (64 - k.length) 0 := by unfold hblockF; rw [if_neg h]
    rw [e]
    refine ⟨by decide, by decide, by decide, by decide, k.length, by rw [bys_len, List.length_replicate]; exact (Nat.min_eq_left (by show k.length ≤ 64; omega)).symm, trivial, ?_⟩
    exact ⟨[(0, 9)], _, _, ⟨rfl, rfl⟩, rfl, ⟨congrArg (fun x => (false, Blk.row 5 1 x)) (fin k (by omega)), trivial⟩, rfl⟩
def hturnF (l : List Int) (y : Int) : Nat → List Int
  | 0 => l
  | i + 1 => (hturnF l y i).set i (Go.bits .xor .u8 ((hturnF l y i).getD i 0) y)
theorem hturnF_len (l : List Int) (y : Int) (n : Nat) : (hturnF l y n).length = l.length := by
  induction n with
  | zero => rfl
  | succ n ih => simp only [hturnF, List.length_set, ih]
theorem bits8 [Tabs] (x y : Int) : 0 ≤ Go.bits .xor .u8 x y ∧ Go.bits .xor .u8 x y ≤ 255 := by
  have : Go.bits .xor .u8 x y = IntKind.u8.wrap (((BitVec.ofInt 8 x ^^^ BitVec.ofInt 8 y).toNat : Nat) : Int) := rfl
  rw [this, wu8]; omega
theorem hturnF_byt [Tabs] {l : List Int} (h : Byt l) (y : Int) (n : Nat) : Byt (hturnF l y n) := by
  induction n with
  | zero => exact h
  | succ n ih =>
    intro x hx
    rcases List.mem_or_eq_of_mem_set hx with hx | rfl
    · exact ih x hx
    · exact bits8 _ _
theorem HTurn_ct [Tabs] (k : List Int) (y : Int) (hb : Byt k) (hl : k.length < 1000000) : CtT Tryz.prog 145 [.sl 1 (bys k), .int .u8 y] (Ret (.t (.sl 1 (bys (hturnF (hblockF k) y 64)))) []) := by
  refine CtT.ofN Tryz.func145 rfl rfl (n := 23) rfl ?_
  refine Told.callT (HBlock_ct k hb hl) rfl rfl rfl rfl ?_
  have hbl := hblockF_len k
  refine ⟨Nat × List Int, fun q => [(1, .t (.int .u8 y)), (5, .own 5), (10, .int .i64 64), (11, .int .i64 q.1)], fun q => [(5, false, .row 5 1 (bys q.2))], fun q => q.1 ≤ 64 ∧ q.2 = hturnF (hblockF k) y q.1, fun q => 64 - q.1, (0, hblockF k), ⟨Nat.zero_le _, rfl⟩,
    Le.of [(5, 8)] ⟨rfl, rfl, congrArg (AV.int .i64) (by rw [bys_len, hbl]; rfl), rfl, trivial⟩ ⟨rfl, trivial⟩ rfl, ?_⟩
  rintro ⟨i, l⟩ ⟨hi, hq⟩
  simp only at hi hq ⊢
  have hll : l.length = 64 := by rw [hq, hturnF_len, hbl]
  refine brB (fun hc => ?_) (fun hc => ?_)
  · have hc : i < 64 := by have h := of_decide_eq_true hc; omega
    have hx := getD_get (l := l) (i := i) (by omega)
    have hr : hturnF (hblockF k) y (i + 1) = l.set i (Go.bits .xor .u8 (l.getD i 0) y) := by
      show (hturnF (hblockF k) y i).set i _ = _
      rw [← hq]
    generalize l.getD i 0 = x at hx hr
    refine ⟨by omega, by rw [bys_len]; omega, _, bys_get rfl hx, by omega, by rw [bys_len]; omega, _, bys_get rfl hx, ?_⟩
    refine ⟨(i + 1, l.set i (Go.bits .xor .u8 x y)), ⟨hc, hr.symm⟩, Le.of [] ⟨rfl, rfl, rfl, congrArg (AV.int .i64) (wi (by omega) (by omega)), trivial⟩ ⟨congrArg (fun x => (false, Blk.row 5 1 x)) ?_, trivial⟩ rfl, by show 64 - (i + 1) < 64 - i; omega⟩
    simp [bys, List.map_set]
    rfl
  · have hc : i = 64 := by have h := of_decide_eq_false hc; omega
    subst hc
    refine ⟨_, rfl, ?_⟩
    rw [← hq]
    exact .refl _
def macF [Tabs] (k m : List Int) : List Int := sumF (hturnF (hblockF k) 92 64 ++ sumF (hturnF (hblockF k) 54 64 ++ m))
theorem Mac_ct [Tabs] (k m : List Int) (hk : Byt k) (hm : Byt m) (lk : k.length < 100000) (lm : m.length < 100000) : CtT Tryz.prog 143 [.sl 1 (bys k), .sl 1 (bys m)] (Ret (.t (.sl 1 (bys (macF k m)))) []) := by
  refine CtT.ofN Tryz.func143 rfl rfl (n := 18) rfl ?_
  have k1 := HTurn_ct k 54 hk (by omega)
  have k2 := HTurn_ct k 92 hk (by omega)
  have l1 : (hturnF (hblockF k) 54 64).length = 64 := by rw [hturnF_len, hblockF_len]
  have l2 : (hturnF (hblockF k) 92 64).length = 64 := by rw [hturnF_len, hblockF_len]
  have b1 := hturnF_byt (hblockF_byt hk) 54 64
  have b2 := hturnF_byt (hblockF_byt hk) 92 64
  have hf : macF k m = sumF (hturnF (hblockF k) 92 64 ++ sumF (hturnF (hblockF k) 54 64 ++ m)) := rfl
  obtain ⟨t1, ht1⟩ : ∃ t, t = hturnF (hblockF k) 54 64 := ⟨_, rfl⟩
  obtain ⟨t2, ht2⟩ : ∃ t, t = hturnF (hblockF k) 92 64 := ⟨_, rfl⟩
  rw [← ht1] at k1 l1 b1 hf
  rw [← ht2] at k2 l2 b2 hf
  have kc1 := ConcatB_ct [t1, m] (by simp) (by simp; omega)
  rw [show [t1, m].flatten = t1 ++ m by simp] at kc1
  have ks1 := Sum_ct (t1 ++ m) (b1.append hm) (by rw [List.length_append]; omega)
  have sl := sumF_len (t1 ++ m)
  have sb := sumF_byt (t1 ++ m)
  obtain ⟨s1, hs1⟩ : ∃ s, s = sumF (t1 ++ m) := ⟨_, rfl⟩
  rw [← hs1] at ks1 sl sb hf
  have kc2 := ConcatB_ct [t2, s1] (by simp) (by simp; omega)
  rw [show [t2, s1].flatten = t2 ++ s1 by simp] at kc2
  have ks2 := Sum_ct (t2 ++ s1) (b2.append sb) (by rw [List.length_append]; omega)
  rw [← hf] at ks2
  refine Told.callT k1 rfl rfl rfl rfl ?_
  refine Told.callT kc1 rfl rfl rfl rfl ?_
  refine Told.callT ks1 rfl rfl rfl rfl ?_
  refine Told.callT k2 rfl rfl rfl rfl ?_
  refine Told.callT kc2 rfl rfl rfl rfl ?_
  refine Told.callT ks2 rfl rfl rfl rfl ?_
  exact ⟨_, rfl, .refl _⟩
theorem macF_len [Tabs] (k m : List Int) : (macF k m).length = 32 := sumF_len _
theorem macF_byt [Tabs] (k m : List Int) : Byt (macF k m) := sumF_byt _
end
end Go.Proofs.YtgkmpgfmhjbcjaaGreatX
namespace Go.Proofs.YtgkmpgfmhjbcjaaGreatX
section
open Go Go.YtgkmpgfmhjbcjaaGreatE Go.Proofs
set_option maxRecDepth 100000
set_option autoImplicit false
theorem makerC_ct [Tabs] : CtT Tryz.prog 61 [(⟨1, []⟩ : Engine).T] (Ret (.t (.iface 150 (⟨1, []⟩ : Engine).T)) []) := by
  refine CtT.ofN Tryz.func61 rfl rfl (n := 28) rfl ?_
  exact ⟨_, rfl, .refl _⟩
def tag8 [Tabs] (k m : List Int) : List Int := (macF k m).take 8
theorem tag8_len [Tabs] (k m : List Int) : (tag8 k m).length = 8 := by unfold tag8; rw [List.length_take, macF_len]; rfl
theorem tag8_byt [Tabs] (k m : List Int) : Byt (tag8 k m) := (macF_byt k m).take 8
theorem tagC_ct [Tabs] (k m : List Int) (hk : Byt k) (hm : Byt m) (lk : k.length < 100000) (lm : m.length < 100000) :
    CtT Tryz.prog 142 [(⟨1, []⟩ : Engine).T, .sl 1 (bys k), .sl 1 (bys m)] (Ret (.t (.tuple [(⟨1, []⟩ : Engine).T, .sl 1 (bys (tag8 k m))])) []) := by
  refine CtT.ofN Tryz.func142 rfl rfl (n := 14) rfl ?_
  have km := Mac_ct k m hk hm lk lm
  have hl := macF_len k m
  have ht : tag8 k m = (macF k m).take 8 := rfl
  obtain ⟨x, hx⟩ : ∃ x, x = macF k m := ⟨_, rfl⟩
  rw [← hx] at km hl ht
  refine Told.callT km rfl rfl rfl rfl ?_
  refine ⟨by decide, by decide, by rw [bys_len, hl]; decide, ?_⟩
  refine ⟨_, rfl, ?_⟩
  rw [ht, bys_take]
  exact .refl _
theorem knownC_ct [Tabs] (k m : List Int) : CtT Tryz.prog 141 [(⟨1, []⟩ : Engine).T, .sl 1 (bys k), .sl 1 (bys m)] (Ret (.bool true) []) := by
  refine Ct.of Tryz.func141 rfl rfl (n := 7) rfl (by simp [ids]) ?_
  exact ⟨[], _, _, ⟨rfl, rfl⟩, rfl, trivial, rfl⟩
theorem meth_tagC (w : World) (O : Nat → Prop) (v : Value) (x : T) (_ : HT w O x v) : (method (Tryz.prog.types.size + Made.depth) 150 v "wristband/mac.tag").run Tryz.prog w = .ok (142, v) w := by kernel_rfl
theorem meth_knownC (w : World) (O : Nat → Prop) (v : Value) (x : T) (_ : HT w O x v) : (method (Tryz.prog.types.size + Made.depth) 150 v "wristband/mac.known").run Tryz.prog w = .ok (141, v) w := by kernel_rfl
def tagG [Tabs] (g : Engine) (k m : List Int) : Engine × List Int := if g.kind = 2 then tagE g k m else (g, tag8 k m)
def fitG [Tabs] (g : Engine) (k m t : List Int) : Prop := if g.kind = 2 then ((⟨k, m⟩ : Term) ∈ g.terms ∧ (putT g.terms k m).2 = t) else tag8 k m = t
instance fitDec [Tabs] (g : Engine) (k m t : List Int) : Decidable (fitG g k m t) := by unfold fitG; infer_instance
theorem TagG_ct [Tabs] (g : Engine) (hw : g.Wf) (hs : g.Sm) (h : g.ok) (k m : List Int) (hk : Byt k) (hm : Byt m) (lk : k.length < 100000) (lm : m.length < 100000) (hsm : Term.Sm ⟨k, m⟩) :
    CtT Tryz.prog 63 [g.T, .sl 1 (bys k), .sl 1 (bys m)] (Ret (.t (resTag (tagG g k m) 0)) []) := by
  unfold tagG
  split
  case isTrue h2 => exact TagS_ct g hw hs ⟨h2, by rcases h with h | h; exact absurd (h.1.symm.trans h2) (by decide); exact h.2⟩ k m hk hm hsm
  case isFalse h2 =>
    obtain ⟨h1, hn⟩ := h.resolve_right (fun h => h2 h.1)
    obtain ⟨gk, gt⟩ := g
    simp only at h1 hn
    subst h1 hn
    refine CtT.ofN Tryz.func63 rfl rfl (n := 26) rfl ?_
    refine Told.callT makerC_ct rfl rfl rfl rfl ?_
    refine Told.invoke (fun w O v hv => meth_tagC w O v _ hv) (tagC_ct k m hk hm lk lm) rfl rfl rfl ?_
    exact ⟨_, rfl, .refl _⟩
theorem FitsG_ct [Tabs] (g : Engine) (hw : g.Wf) (hs : g.Sm) (h : g.ok) (k m t : List Int) (hk : Byt k) (hm : Byt m) (ht : Byt t) (hl : t.length < 1000000) (lk : k.length < 100000) (lm : m.length < 100000) (hsm : Term.Sm ⟨k, m⟩) :
    CtT Tryz.prog 49 [g.T, .sl 1 (bys k), .sl 1 (bys m), .sl 1 (bys t)] (Ret (.bool (decide (fitG g k m t))) []) := by
  by_cases h2 : g.kind = 2
  case pos =>
    have := FitsS_ct g hw hs ⟨h2, by rcases h with h | h; exact absurd (h.1.symm.trans h2) (by decide); exact h.2⟩ k m t hk hm ht hl hsm
    have e : decide (fitG g k m t) = decide ((⟨k, m⟩ : Term) ∈ g.terms ∧ (putT g.terms k m).2 = t) := decide_eq_decide.2 (by unfold fitG; rw [if_pos h2])
    rw [e]
    exact this
  case neg =>
    obtain ⟨h1, hn⟩ := h.resolve_right (fun h => h2 h.1)
    have e : decide (fitG g k m t) = decide (tag8 k m = t) := decide_eq_decide.2 (by unfold fitG; rw [if_neg h2])
    rw [e]
    obtain ⟨gk, gt⟩ := g
    simp only at h1 hn
    subst h1 hn
    refine Ct.of Tryz.func49 rfl rfl (n := 33) rfl (by simp [ids]) ?_
    refine Told.callT makerC_ct rfl rfl rfl rfl ?_
    refine Told.invoke (fun w O v hv => meth_knownC w O v _ hv) (knownC_ct k m) rfl rfl rfl ?_
    refine Told.invoke (fun w O v hv => meth_tagC w O v _ hv) (tagC_ct k m hk hm lk lm) rfl rfl rfl ?_
    refine Told.callT (TSame_ct (tag8 k m) t (tag8_byt k m) ht (by rw [tag8_len]; omega) hl) rfl rfl rfl rfl ?_
    exact ⟨[], _, _, ⟨rfl, rfl⟩, rfl, trivial, rfl⟩
theorem MRight_ct [Tabs] (g : Engine) (hw : g.Wf) (hs : g.Sm) : CtT Tryz.prog 35 [g.T] (Ret (.bool (decide g.ok)) []) := by
  by_cases h : g.ok
  · rw [decide_eq_true h]
    by_cases h2 : g.kind = 2
    · refine Ct.of Tryz.func35 rfl rfl (n := 6) rfl (by simp [ids]) ?_
      refine Told.callT (makerS_ct g hw hs ⟨h2, by rcases h with h | h; exact absurd (h.1.symm.trans h2) (by decide); exact h.2⟩) rfl rfl rfl rfl ?_
      exact ⟨[], _, _, ⟨rfl, rfl⟩, rfl, trivial, rfl⟩
    · obtain ⟨h1, hn⟩ := h.resolve_right (fun h => h2 h.1)
      obtain ⟨gk, gt⟩ := g
      simp only at h1 hn
      subst h1 hn
      refine Ct.of Tryz.func35 rfl rfl (n := 6) rfl (by simp [ids]) ?_
      refine Told.callT makerC_ct rfl rfl rfl rfl ?_
      exact ⟨[], _, _, ⟨rfl, rfl⟩, rfl, trivial, rfl⟩
  · rw [decide_eq_false h]
    refine Ct.of Tryz.func35 rfl rfl (n := 6) rfl (by simp [ids]) ?_
    refine Told.callT (makerN_ct g hw hs h) rfl rfl rfl rfl ?_
    exact ⟨[], _, _, ⟨rfl, rfl⟩, rfl, trivial, rfl⟩
theorem tagG_len [Tabs] (g : Engine) (k m : List Int) : (tagG g k m).2.length = 8 := by
  unfold tagG; split
  · exact putT_len _ _ _
  · exact tag8_len _ _
theorem tagG_byt [Tabs] (g : Engine) (k m : List Int) : Byt (tagG g k m).2 := by
  unfold tagG; split
  · exact putT_byt _ _ _
  · exact tag8_byt _ _
theorem tagG_ok [Tabs] {g : Engine} (h : g.ok) (k m : List Int) : (tagG g k m).1.ok := by
  unfold tagG; split
  · rename_i h2
    rcases h with h | h
    · exact absurd (h.1.symm.trans h2) (by decide)
    · exact .inr ⟨h.1, putT_nodup h.2 _ _⟩
  · exact h
theorem tagG_wf [Tabs] {g : Engine} (h : g.Wf) {k m : List Int} (hk : Byt k) (hm : Byt m) : (tagG g k m).1.Wf := by
  unfold tagG; split
  · exact ⟨h.kind, putT_all h.terms ⟨hk, hm⟩⟩
  · exact h
theorem tagG_fit [Tabs] {g : Engine} (k m : List Int) : fitG (tagG g k m).1 k m (tagG g k m).2 := by
  unfold tagG; split
  · rename_i h2
    unfold fitG
    rw [if_pos (show (tagE g k m).1.kind = 2 from h2)]
    exact putT_has g.terms k m
  · rename_i h2
    unfold fitG
    rw [if_neg h2]
theorem fitG_tag [Tabs] {g : Engine} {k m t : List Int} (h : fitG g k m t) : (tagG g k m).2 = t := by
  unfold fitG at h; unfold tagG
  split at h
  · rename_i h2; rw [if_pos h2]; exact h.2
  · rename_i h2; rw [if_neg h2]; exact h
theorem tagG_sm [Tabs] {g : Engine} (h : g.Sm) (hn : g.terms.length < 99999) {k m : List Int} (hm : Term.Sm ⟨k, m⟩) : (tagG g k m).1.Sm := by
  unfold tagG; split
  · exact ⟨by have := putT_len1 g.terms k m; show (putT g.terms k m).1.length < _; omega, putT_all h.t hm⟩
  · exact h
end
end Go.Proofs.YtgkmpgfmhjbcjaaGreatX
namespace Go.Proofs.YtgkmpgfmhjbcjaaGreatX
section
open Go Go.YtgkmpgfmhjbcjaaGreatE Go.Proofs
set_option maxRecDepth 100000
set_option autoImplicit false
theorem ASealG_ct [Tabs] (g : Engine) (hw : g.Wf) (hs : g.Sm) (hg : g.ok) (k : List Int) (hk : Byt k) (hkl : k.length < 100000) (a : Activation) (ha : a.Wf) (ho : a.ok) :
    CtT Tryz.prog 59 [g.T, .sl 1 (bys k), a.T] (Ret (.t (resSeal (tagG g k (abytes a)).1 (abytes a ++ (tagG g k (abytes a)).2) (.v .nilIface))) []) := by
  refine CtT.ofN Tryz.func59 rfl rfl (n := 41) rfl ?_
  have h2 := ho.2
  have hl := abytes_len a
  refine Told.callT (ABytes_ct a ha ho) rfl rfl rfl rfl ?_
  have kt := TagG_ct g hw hs hg k (abytes a) hk (abytes_byt ha ho) hkl (by omega) ⟨by simp only; omega, by simp only; omega⟩
  have hpl := tagG_len g k (abytes a)
  generalize tagG g k (abytes a) = p at kt hpl
  refine Told.callT kt rfl rfl rfl rfl ?_
  refine Told.callT (ConcatB_ct [abytes a, p.2] (by simp) (by simp [hpl]; omega)) rfl rfl rfl rfl ?_
  refine ⟨_, rfl, ?_⟩
  rw [show [abytes a, p.2].flatten = abytes a ++ p.2 by simp]
  exact .refl _
theorem sized_cut [Tabs] {x : List Int} (h : sizedI x = 0) {n : Nat} (hn : n < x.length) : sizedI (x.take n) = 2 := by
  obtain ⟨m, h1, h2, h3, h4, h5⟩ := sized_facts h
  have hl : (x.take n).length = n := by rw [List.length_take]; omega
  unfold sizedI
  rw [hl]
  split
  · rfl
  rw [if_neg (by rw [List.getElem?_take_of_lt (by omega), h4]; simp)]
  split
  · rfl
  have hd : (x.take n).getD 25 0 = m := by rw [List.getD_eq_getElem?_getD, List.getElem?_take_of_lt (by omega), h5]; rfl
  rw [hd, if_neg (by omega), if_pos (by omega)]
theorem sized_long [Tabs] {x : List Int} (h : sizedI x = 0) (c : Int) : sizedI (x ++ [c]) = 4 := by
  obtain ⟨m, h1, h2, h3, h4, h5⟩ := sized_facts h
  have hl : (x ++ [c]).length = x.length + 1 := by simp
  unfold sizedI
  rw [hl, if_neg (by omega), if_neg (by rw [List.getElem?_append_left (by omega), h4]; simp), if_neg (by omega)]
  have hd : (x ++ [c]).getD 25 0 = m := by rw [List.getD_eq_getElem?_getD, List.getElem?_append_left (by omega), h5]; rfl
  rw [hd, if_neg (by omega), if_neg (by omega), if_pos (by omega)]
end
end Go.Proofs.YtgkmpgfmhjbcjaaGreatX
namespace Go.Proofs.YtgkmpgfmhjbcjaaGreatX
section
open Go Go.YtgkmpgfmhjbcjaaGreatE Go.Proofs
set_option maxRecDepth 100000
set_option autoImplicit false
structure Entry where
  t : Int
  e : Int
  seed : List Int
  deriving DecidableEq
@[reducible] def Entry.T (x : Entry) : T := .agg [.int .u64 x.t, .int .u64 x.e, .sl 1 (bys x.seed)]
structure Entry.Wf (x : Entry) : Prop where
  t : U64 x.t
  e : U64 x.e
  seed : Byt x.seed
abbrev Entry.box (x : Entry) : Blk := .box 71 [.int .u64 x.t, .int .u64 x.e, .t (.sl 1 (bys x.seed))]
theorem Entry.row_len (l : List Entry) : (l.map Entry.T).length = l.length := by simp
theorem Entry.row_get {l : List Entry} {n : Int} {i : Nat} {x : Entry} (hn : n = i) (h : l[i]? = some x) : (l.map Entry.T)[n.toNat]? = some x.T := by subst hn; simp [h]
structure Bundle where
  v : Int
  entries : List Entry
  gone : List Gon.U
  deriving DecidableEq
@[reducible] def Bundle.T (x : Bundle) : T := .agg [.int .u64 x.v, .sl 3 (x.entries.map Entry.T), .sl 2 (x.gone.map Gon.U.T)]
structure Bundle.Wf (x : Bundle) : Prop where
  v : U64 x.v
  entries : ∀ y ∈ x.entries, y.Wf
  gone : ∀ y ∈ x.gone, y.Wf
abbrev Bundle.box (x : Bundle) : Blk := .box 67 [.int .u64 x.v, .t (.sl 3 (x.entries.map Entry.T)), .t (.sl 2 (x.gone.map Gon.U.T))]
theorem Bundle.row_len (l : List Bundle) : (l.map Bundle.T).length = l.length := by simp
theorem Bundle.row_get {l : List Bundle} {n : Int} {i : Nat} {x : Bundle} (hn : n = i) (h : l[i]? = some x) : (l.map Bundle.T)[n.toNat]? = some x.T := by subst hn; simp [h]
theorem seeded_ct [Tabs] (n : Int) : CtT Tryz.prog 104 [.int .i64 n] (Ret (.bool (decide (1 ≤ n ∧ n ≤ 32))) []) := by
  refine Ct.of Tryz.func104 rfl rfl (n := 9) rfl (by simp [ids]) ?_
  refine brB (fun h => ?_) (fun h => ?_)
  · refine ⟨[], _, _, ⟨rfl, rfl⟩, congrArg AV.bool ?_, trivial, rfl⟩
    have h := of_decide_eq_true h
    rw [decide_eq_decide]
    omega
  · exact ⟨[], _, _, ⟨rfl, rfl⟩, congrArg AV.bool (decide_eq_false fun h2 => by have := of_decide_eq_false h; omega).symm, trivial, rfl⟩
def Entry.ok (e : Entry) : Prop := 1 ≤ (e.seed.length : Int) ∧ (e.seed.length : Int) ≤ 32
instance (e : Entry) : Decidable e.ok := by unfold Entry.ok; infer_instance
structure Bundle.ok (x : Bundle) : Prop where
  len : x.entries.length ≤ 64
  srt : x.entries.Pairwise (fun a b => a.t < b.t)
  seeds : ∀ e ∈ x.entries, e.ok
  gone : Gon.OkL x.gone
instance (x : Bundle) : Decidable x.ok := decidable_of_iff (x.entries.length ≤ 64 ∧ x.entries.Pairwise (fun a b => a.t < b.t) ∧ (∀ e ∈ x.entries, e.ok) ∧ Gon.OkL x.gone) ⟨fun h => ⟨h.1, h.2.1, h.2.2.1, h.2.2.2⟩, fun h => ⟨h.1, h.2, h.3, h.4⟩⟩
theorem esrt_of_adj {l : List Entry} (h : ∀ i u v, l[i]? = some u → l[i + 1]? = some v → u.t < v.t) : l.Pairwise (fun a b => a.t < b.t) := by
  rw [List.pairwise_iff_getElem]
  intro i j hi hj hij
  induction j with
  | zero => omega
  | succ j ih =>
    have h1 := h j l[j] l[j + 1] (List.getElem?_eq_getElem _) (List.getElem?_eq_getElem _)
    by_cases e : i = j
    · subst e; exact h1
    · exact Int.lt_trans (ih (by omega) (by omega)) h1
theorem eadj_of_srt {l : List Entry} (h : l.Pairwise (fun a b => a.t < b.t)) {i : Nat} {u v : Entry} (hu : l[i]? = some u) (hv : l[i + 1]? = some v) : u.t < v.t := by
  rw [List.pairwise_iff_getElem] at h
  obtain ⟨h1, rfl⟩ := List.getElem?_eq_some_iff.1 hu
  obtain ⟨h2, rfl⟩ := List.getElem?_eq_some_iff.1 hv
  exact h i (i + 1) h1 h2 (by omega)
theorem BRight_ct [Tabs] (x : Bundle) (hl : x.entries.length < 100000) (hg : x.gone.length < 100000) : CtT Tryz.prog 83 [x.T] (Ret (.bool (decide x.ok)) []) := by
  refine Ct.of Tryz.func83 rfl rfl (n := 44) rfl (by simp [ids]) ?_
  have fb : ¬ x.ok → false = decide x.ok := fun h => (decide_eq_false h).symm
  refine ⟨Nat, fun i => [(1, .ptr 1 0), (6, .t (.sl 3 (x.entries.map Entry.T))), (7, .int .i64 x.entries.length), (8, .int .i64 i)], fun _ => [(1, false, x.box)],
      fun i => i ≤ x.entries.length ∧ (∀ j u, j < i → x.entries[j]? = some u → u.ok) ∧ ∀ j u v, j + 1 < i → x.entries[j]? = some u → x.entries[j + 1]? = some v → u.t < v.t, fun i => x.entries.length - i, 0, ⟨Nat.zero_le _, fun j u h => absurd h (by omega), fun j u v h => absurd h (by omega)⟩, Le.of [] ⟨rfl, rfl, by rw [← Entry.row_len]; rfl, rfl, trivial⟩ ⟨rfl, trivial⟩ rfl, ?_⟩
  rintro i ⟨q1, q2, q3⟩
  refine brB (fun hc => ?_) (fun hc => ?_)
  · have hc : i < x.entries.length := Int.ofNat_lt.1 (of_decide_eq_true hc)
    have hx : x.entries[i]? = some x.entries[i] := List.getElem?_eq_getElem hc
    generalize x.entries[i] = u at hx
    refine ⟨by omega, _, Entry.row_get rfl hx, ?_⟩
    have hum : u ∈ x.entries := List.mem_of_getElem? hx
    have sd : ∀ (hs : u.ok) (had : ∀ v, x.entries[i - 1]? = some v → 0 < i → v.t < u.t), (∀ j w, j < i + 1 → x.entries[j]? = some w → w.ok) ∧ ∀ j w z, j + 1 < i + 1 → x.entries[j]? = some w → x.entries[j + 1]? = some z → w.t < z.t := fun hs had => by
      refine ⟨fun j w hj hw => ?_, fun j w z hj hw hz => ?_⟩
      · by_cases e : j = i
        · subst e; rw [hx] at hw; cases hw; exact hs
        · exact q2 j w (by omega) hw
      · by_cases e : j + 1 = i
        · subst e
          rw [hx] at hz; cases hz
          exact had w (by simpa using hw) (by omega)
        · exact q3 j w z (by omega) hw hz
    refine brB (fun h5 => ?_) (fun h5 => ?_)
    · have h5 : 0 < i := by have := of_decide_eq_true h5; omega
      have hp : x.entries[i - 1]? = some x.entries[i - 1] := List.getElem?_eq_getElem (by omega)
      generalize x.entries[i - 1] = v at hp
      have w1 : IntKind.i64.wrap ((i : Int) - 1) = ((i - 1 : Nat) : Int) := by rw [wi (by omega) (by omega)]; omega
      refine ⟨by rw [w1]; omega, _, Entry.row_get w1 hp, ?_⟩
      refine brB (fun h6 => ?_) (fun h6 => ?_)
      · refine ⟨[], _, _, ⟨rfl, rfl⟩, congrArg AV.bool (fb fun h => ?_), trivial, rfl⟩
        have h7 := eadj_of_srt h.srt hp (by rw [show i - 1 + 1 = i by omega]; exact hx)
        have := of_decide_eq_true h6
        omega
      · have h6 := of_decide_eq_false h6
        refine Told.callT (seeded_ct _) rfl rfl rfl rfl ?_
        refine brB (fun h7 => ?_) (fun h7 => ?_)
        · refine ⟨[], _, _, ⟨rfl, rfl⟩, congrArg AV.bool (fb fun h => ?_), trivial, rfl⟩
          have := h.seeds u hum
          rw [bys_len] at h7
          simp [Entry.ok] at h7 this
          omega
        · refine ⟨i + 1, ⟨hc, sd ?_ (fun w hw _ => ?_)⟩, Le.of [] ⟨rfl, rfl, rfl, congrArg (AV.int .i64) (wi (by omega) (by omega)), trivial⟩ ⟨rfl, trivial⟩ rfl, by show x.entries.length - (i + 1) < x.entries.length - i; omega⟩
          · rw [bys_len] at h7
            simpa [Entry.ok] using h7
          · rw [hp] at hw; cases hw; omega
    · have h5 : ¬ 0 < i := by have := of_decide_eq_false h5; omega
      refine Told.callT (seeded_ct _) rfl rfl rfl rfl ?_
      refine brB (fun h7 => ?_) (fun h7 => ?_)
      · refine ⟨[], _, _, ⟨rfl, rfl⟩, congrArg AV.bool (fb fun h => ?_), trivial, rfl⟩
        have := h.seeds u hum
        rw [bys_len] at h7
        simp [Entry.ok] at h7 this
        omega
      · refine ⟨i + 1, ⟨hc, sd ?_ (fun w hw h => absurd h h5)⟩, Le.of [] ⟨rfl, rfl, rfl, congrArg (AV.int .i64) (wi (by omega) (by omega)), trivial⟩ ⟨rfl, trivial⟩ rfl, by show x.entries.length - (i + 1) < x.entries.length - i; omega⟩
        rw [bys_len] at h7
        simpa [Entry.ok] using h7
  · have hc : i = x.entries.length := Nat.le_antisymm q1 (Int.ofNat_le.1 (Int.not_lt.1 (of_decide_eq_false hc)))
    subst hc
    have srt : x.entries.Pairwise (fun a b => a.t < b.t) := esrt_of_adj fun j u v hu hv => q3 j u v (List.getElem?_eq_some_iff.1 hv).1 hu hv
    have sds : ∀ e ∈ x.entries, e.ok := fun e he => by
      obtain ⟨j, hj, rfl⟩ := List.mem_iff_getElem.1 he
      exact q2 j _ hj (List.getElem?_eq_getElem hj)
    refine brB (fun h8 => ?_) (fun h8 => ?_)
    · have h8 : x.entries.length ≤ 64 := by have h := of_decide_eq_true h8; rw [Entry.row_len] at h; omega
      refine Told.callT (Gon.Right_ct x.gone hg _ decide_eq_true_iff) rfl rfl rfl rfl ?_
      refine ⟨[], _, _, ⟨rfl, rfl⟩, congrArg AV.bool ?_, trivial, rfl⟩
      rw [decide_eq_decide]
      exact ⟨fun h => ⟨h8, srt, sds, h⟩, fun h => h.gone⟩
    · refine ⟨[], _, _, ⟨rfl, rfl⟩, congrArg AV.bool (fb fun h => ?_), trivial, rfl⟩
      have h9 := of_decide_eq_false h8
      rw [Entry.row_len] at h9
      have := h.len
      omega
end
end Go.Proofs.YtgkmpgfmhjbcjaaGreatX
namespace Go.Proofs.YtgkmpgfmhjbcjaaGreatX
section
open Go Go.YtgkmpgfmhjbcjaaGreatE Go.Proofs
set_option maxRecDepth 100000
set_option autoImplicit false
theorem ConcatO_ct [Tabs] (L : List (List Int)) (hL : L.length < 1000) (hl : L.flatten.length < 1000000000) : CtT Tryz.prog 64 [.sl 1 (byss L)] (Ret (.own 0) [(0, false, .row 5 1 (bys L.flatten))]) := by
  refine Ct.of Tryz.func64 rfl rfl (n := 36) rfl (by simp [ids]) ?_
  have hsub : ∀ i, ((L.take i).flatten).length ≤ L.flatten.length := fun i => by
    conv => rhs; rw [← List.take_append_drop i L, List.flatten_append, List.length_append]
    omega
  refine ⟨Nat, fun i => [(0, .t (.sl 1 (byss L))), (3, .int .i64 ((L.take i).flatten.length : Nat)), (9, .t (.sl 1 (byss L))), (10, .int .i64 L.length), (11, .int .i64 i)], fun _ => [], fun i => i ≤ L.length, fun i => L.length - i, 0, Nat.zero_le _,
    Le.of [] ⟨rfl, rfl, rfl, by rw [← byss_len L]; rfl, rfl, trivial⟩ trivial rfl, ?_⟩
  intro i hi
  refine brB (fun hc => ?_) (fun hc => ?_)
  · have hc : i < L.length := by have := of_decide_eq_true hc; omega
    have hx : L[i]? = some L[i] := List.getElem?_eq_getElem hc
    have hs : (L.take (i + 1)).flatten = (L.take i).flatten ++ L[i] := by rw [List.take_add_one, hx, List.flatten_append]; simp
    have hb := hsub (i + 1)
    rw [hs, List.length_append] at hb
    generalize L[i] = x at hx hs hb
    refine ⟨by omega, _, byss_get rfl hx, ?_⟩
    have w1 : IntKind.i64.wrap (((L.take i).flatten.length : Nat) + ((bys x).length : Int)) = (((L.take (i + 1)).flatten.length : Nat) : Int) := by
      rw [bys_len, wi (by omega) (by omega), hs, List.length_append]; omega
    refine brF (decide_eq_false (by rw [w1]; omega)) ?_
    exact ⟨i + 1, hc, Le.of [] ⟨rfl, congrArg (AV.int .i64) w1, rfl, rfl, congrArg (AV.int .i64) (wi (by omega) (by omega)), trivial⟩ trivial rfl, by show L.length - (i + 1) < L.length - i; omega⟩
  · have hc : i = L.length := by have := of_decide_eq_false hc; omega
    subst hc
    have kg := GrowB_ct (L.take L.length).flatten.length (by have := hsub L.length; omega)
    refine Told.callT kg rfl rfl rfl rfl ?_
    refine ⟨Nat, fun i => [(6, .own 6), (25, .t (.sl 1 (byss L))), (26, .int .i64 L.length), (27, .int .i64 i)], fun i => [(6, false, .row 5 1 (bys (L.take i).flatten))], fun i => i ≤ L.length, fun i => L.length - i, 0, Nat.zero_le _,
      Le.of [(6, 24)] ⟨rfl, rfl, by rw [← byss_len L]; rfl, rfl, trivial⟩ ⟨rfl, trivial⟩ rfl, ?_⟩
    intro i hi
    refine brB (fun hc => ?_) (fun hc => ?_)
    · have hc : i < L.length := by have := of_decide_eq_true hc; omega
      have hx : L[i]? = some L[i] := List.getElem?_eq_getElem hc
      have hs : (L.take (i + 1)).flatten = (L.take i).flatten ++ L[i] := by rw [List.take_add_one, hx, List.flatten_append]; simp
      have hb := hsub (i + 1)
      rw [hs, List.length_append] at hb
      generalize L[i] = x at hx hs hb
      refine ⟨by omega, _, byss_get rfl hx, ?_⟩
      refine ⟨by show _ * 1 ≤ _; rw [bys_len, bys_len]; omega, i + 1, hc, Le.of [(6, 33)] ⟨rfl, rfl, rfl, congrArg (AV.int .i64) (wi (by omega) (by omega)), trivial⟩ ⟨congrArg (fun x => (false, Blk.row 5 1 x)) ?_, trivial⟩ rfl, by show L.length - (i + 1) < L.length - i; omega⟩
      rw [hs, bys_append]
    · have hc : i = L.length := by have := of_decide_eq_false hc; omega
      subst hc
      exact ⟨[(0, 6)], _, _, ⟨rfl, rfl⟩, rfl, ⟨congrArg (fun y => (false, Blk.row 5 1 (bys (List.flatten y)))) (List.take_length (l := L)), trivial⟩, rfl⟩
def ebytes (e : Entry) : List Int := oct e.t ++ oct e.e ++ [(e.seed.length : Int)] ++ e.seed
def ebody (l : List Entry) : List Int := l.flatMap ebytes
def bhead (x : Bundle) : List Int := [66] ++ oct x.v ++ [(x.entries.length : Int)]
def bbytes (x : Bundle) : List Int := bhead x ++ ebody x.entries ++ ((x.gone.length : Int) :: Gon.gbody x.gone)
theorem ebody_snoc {l : List Entry} {i : Nat} {e : Entry} (h : l[i]? = some e) : ebody (l.take (i + 1)) = ebody (l.take i) ++ ebytes e := by
  rw [List.take_add_one, h]; simp [ebody]
theorem ebytes_len {e : Entry} (h : e.ok) : (ebytes e).length ≤ 49 := by simp [ebytes, oct_len]; have := h.2; omega
theorem ebody_len [Tabs] : ∀ {l : List Entry}, (∀ e ∈ l, e.ok) → (ebody l).length ≤ 49 * l.length
  | [], _ => by simp [ebody]
  | e :: l, h => by
    have h1 := ebytes_len (h e (by simp))
    have h2 := ebody_len (l := l) (fun e he => h e (by simp [he]))
    have : ebody (e :: l) = ebytes e ++ ebody l := rfl
    rw [this, List.length_append, List.length_cons]; omega
theorem bhead_len (x : Bundle) : (bhead x).length = 10 := by simp [bhead, oct_len]
theorem BBytesN_ct [Tabs] (x : Bundle) (hl : x.entries.length < 100000) (hg : x.gone.length < 100000) (ho : ¬ x.ok) : CtT Tryz.prog 62 [x.T] (Ret (.t (.tuple [.sl 1 (bys []), .int .i64 1])) []) := by
  refine CtT.ofN Tryz.func62 rfl rfl (n := 56) rfl ?_
  have kr := BRight_ct x hl hg
  rw [decide_eq_false ho] at kr
  refine Told.callT kr rfl rfl rfl rfl ?_
  exact ⟨_, rfl, by repeat constructor⟩
theorem BBytes_ct [Tabs] (x : Bundle) (hw : x.Wf) (ho : x.ok) : CtT Tryz.prog 62 [x.T] (Ret (.t (.tuple [.sl 1 (bys (bbytes x)), .int .i64 0])) []) := by
  refine CtT.ofN Tryz.func62 rfl rfl (n := 56) rfl ?_
  have hlen := ho.len
  have hgl := ho.gone.len
  have kr := BRight_ct x (by omega) (by omega)
  rw [decide_eq_true ho] at kr
  refine Told.callT kr rfl rfl rfl rfl ?_
  refine Told.callT (Put_word hw.v.1 hw.v.2) rfl rfl rfl rfl ?_
  have w1 : IntKind.u8.wrap ((x.entries.map Entry.T).length : Int) = (x.entries.length : Int) := by rw [Entry.row_len]; exact wb' (by omega) (by omega)
  have kc := ConcatO_ct [[66], oct x.v, [IntKind.u8.wrap ((x.entries.map Entry.T).length : Int)]] (by simp) (by simp [oct_len])
  have ec : [[66], oct x.v, [IntKind.u8.wrap ((x.entries.map Entry.T).length : Int)]].flatten = bhead x := by rw [w1]; simp [bhead]
  rw [ec] at kc
  refine Told.callT kc rfl rfl rfl rfl ?_
  refine ⟨Nat, fun i => [(1, .ptr 1 0), (4, .own 4), (24, .t (.sl 3 (x.entries.map Entry.T))), (25, .int .i64 x.entries.length), (26, .int .i64 i)], fun i => [(1, false, x.box), (4, false, .row 5 1 (bys (bhead x ++ ebody (x.entries.take i))))], fun i => i ≤ x.entries.length, fun i => x.entries.length - i, 0, Nat.zero_le _,
    Le.of [(4, 22)] ⟨rfl, rfl, rfl, by rw [← Entry.row_len]; rfl, rfl, trivial⟩ ⟨rfl, congrArg (fun y => (false, Blk.row 5 1 (bys y))) (by simp [ebody]), trivial⟩ rfl, ?_⟩
  intro i hi
  have hbl : (ebody (x.entries.take i)).length ≤ 49 * 64 := Nat.le_trans (ebody_len (fun e he => ho.seeds e (List.mem_of_mem_take he))) (by rw [List.length_take]; omega)
  have hhl := bhead_len x
  refine brB (fun hc => ?_) (fun hc => ?_)
  · have hc : i < x.entries.length := Int.ofNat_lt.1 (of_decide_eq_true hc)
    have hx : x.entries[i]? = some x.entries[i] := List.getElem?_eq_getElem hc
    have he := hw.entries x.entries[i] (List.getElem_mem hc)
    have hk := ho.seeds x.entries[i] (List.getElem_mem hc)
    generalize x.entries[i] = e at hx he hk
    have hk2 := hk.2
    refine ⟨by omega, _, Entry.row_get rfl hx, ?_⟩
    refine Told.callT (Put_word he.t.1 he.t.2) rfl rfl rfl rfl ?_
    refine Told.callT (Put_word he.e.1 he.e.2) rfl rfl rfl rfl ?_
    have w2 : IntKind.u8.wrap ((bys e.seed).length : Int) = (e.seed.length : Int) := by rw [bys_len]; exact wb' (by omega) (by omega)
    have kc := ConcatO_ct [bhead x ++ ebody (x.entries.take i), oct e.t, oct e.e, [IntKind.u8.wrap ((bys e.seed).length : Int)], e.seed] (by simp) (by simp [oct_len]; omega)
    refine Told.callT kc rfl rfl rfl rfl ?_
    refine ⟨i + 1, hc, Le.of [(4, 45)] ⟨rfl, rfl, rfl, rfl, congrArg (AV.int .i64) (wi (by omega) (by omega)), trivial⟩ ⟨rfl, congrArg (fun y => (false, Blk.row 5 1 (bys y))) ?_, trivial⟩ rfl, by show x.entries.length - (i + 1) < x.entries.length - i; omega⟩
    rw [ebody_snoc hx, w2]; simp [ebytes]
  · have hc : i = x.entries.length := Nat.le_antisymm hi (Int.ofNat_le.1 (Int.not_lt.1 (of_decide_eq_false hc)))
    subst hc
    rw [List.take_length] at hbl
    have kg := Gon.GBytes_ct x.gone (by omega) hw.gone
    rw [show Gon.gbytes x.gone = ((x.gone.length : Int) :: Gon.gbody x.gone, 0) from if_pos ho.gone] at kg
    refine Told.callT kg rfl rfl rfl rfl ?_
    have hgb := Gon.gbody_len x.gone
    refine ⟨by show _ * 1 ≤ _; rw [bys_len, bys_len, List.take_length]; simp; omega, ?_⟩
    refine ⟨_, rfl, ?_⟩
    rw [List.take_length]
    simp only [bys, bbytes, List.map_append]
    exact .refl _
end
end Go.Proofs.YtgkmpgfmhjbcjaaGreatX
namespace Go.Proofs.YtgkmpgfmhjbcjaaGreatX
section
open Go Go.YtgkmpgfmhjbcjaaGreatE Go.Proofs
set_option maxRecDepth 100000
set_option autoImplicit false
abbrev RBox (b : List Int) (p : Nat) (e : Int) : Blk := .box 135 [.t (.sl 1 (bys b)), .int .i64 (p : Int), .int .i64 e]
def takeR (b : List Int) (p : Nat) (e : Int) (n : Nat) : List Int × Nat × Int :=
  if e = 0 then if b.length < p + n then ([], p, 2) else ((b.drop p).take n, p + n, 0) else ([], p, e)
theorem take_ct [Tabs] (b : List Int) (p n : Nat) (e : Int) (hl : b.length < 1000000) (hp : p ≤ b.length) (hn : n ≤ 1000) :
    Ct Tryz.prog 103 [.ptr 0 0, .int .i64 n] [(0, false, RBox b p e)] (Ret (.t (.sl 1 (bys (takeR b p e n).1))) [(0, false, RBox b (takeR b p e n).2.1 (takeR b p e n).2.2)]) := by
  unfold takeR
  split
  case isTrue he =>
    subst he
    split
    case isTrue hs =>
      refine Ct.tas (x := .v (.slice none 0 0)) ?_ (.nil 1)
      refine Ct.of Tryz.func103 rfl rfl (n := 55) rfl (by simp [ids]; rfl) ?_
      have w1 : IntKind.i64.wrap (((bys b).length : Int) - p) = ((b.length - p : Nat) : Int) := by rw [bys_len, wi (by omega) (by omega)]; omega
      refine brT (decide_eq_true (by rw [w1]; omega)) ?_
      exact ⟨[], _, _, ⟨rfl, rfl⟩, rfl, ⟨rfl, trivial⟩, rfl⟩
    case isFalse hs =>
      refine Ct.of Tryz.func103 rfl rfl (n := 55) rfl (by simp [ids]; rfl) ?_
      have w1 : IntKind.i64.wrap (((bys b).length : Int) - p) = ((b.length - p : Nat) : Int) := by rw [bys_len, wi (by omega) (by omega)]; omega
      have w2 : IntKind.i64.wrap ((p : Int) + n) = ((p + n : Nat) : Int) := by rw [wi (by omega) (by omega)]; omega
      have w3 : IntKind.i64.wrap (IntKind.i64.wrap ((p : Int) + n) - n) = (p : Int) := by rw [w2, wi (by omega) (by omega)]; omega
      refine brF (decide_eq_false (by rw [w1]; omega)) ?_
      refine ⟨by rw [w3]; omega, by rw [w3, w2]; omega, by rw [w2, bys_len]; omega, ?_⟩
      refine ⟨[], _, _, ⟨rfl, rfl⟩, ?_, ⟨congrArg (fun q => (false, Blk.box 135 [.t (.sl 1 (bys b)), .int .i64 q, .int .i64 0])) w2, trivial⟩, rfl⟩
      refine congrArg (fun l => AV.t (.sl 1 l)) ?_
      rw [w3, w2, Int.toNat_natCast, Int.toNat_natCast, ← bys_take, ← bys_drop, List.drop_take]
      congr 2; omega
  case isFalse he =>
    refine Ct.tas (x := .v (.slice none 0 0)) ?_ (.nil 1)
    refine Ct.of Tryz.func103 rfl rfl (n := 55) rfl (by simp [ids]; rfl) ?_
    refine brF (decide_eq_false he) ?_
    refine brT (by simpa using he) ?_
    exact ⟨[], _, _, ⟨rfl, rfl⟩, rfl, ⟨rfl, trivial⟩, rfl⟩

theorem takeR_byt [Tabs] {b : List Int} (hb : Byt b) (p n : Nat) (e : Int) : Byt (takeR b p e n).1 := by
  unfold takeR
  split
  · split
    · intro x hx; cases hx
    · exact (hb.drop _).take _
  · intro x hx; cases hx
theorem takeR_le {b : List Int} (p n : Nat) (e : Int) (hp : p ≤ b.length) : (takeR b p e n).2.1 ≤ b.length ∧ (takeR b p e n).1.length ≤ n := by
  unfold takeR
  split
  · split
    · simpa using hp
    · exact ⟨by simp only; omega, by simp; omega⟩
  · simpa using hp
theorem GetN_ct [Tabs] (l : List Int) (hl : l.length ≠ 8) : CtT Tryz.prog 75 [.sl 1 (bys l)] (Ret (.tuple [.int .u64 0, .int .i64 1]) []) := by
  refine Ct.of Tryz.func75 rfl rfl (n := 9) rfl (by simp [ids]) ?_
  refine brT ?_ ?_
  · rw [bys_len]; simp; omega
  · exact ⟨[], _, _, ⟨rfl, rfl⟩, rfl, trivial, rfl⟩
def numR (b : List Int) (p : Nat) (e : Int) : Int × Nat × Int := (if (takeR b p e 8).1.length = 8 then val (takeR b p e 8).1 else 0, (takeR b p e 8).2)
theorem bnumber_ct [Tabs] (b : List Int) (p : Nat) (e : Int) (hb : Byt b) (hl : b.length < 1000000) (hp : p ≤ b.length) :
    Ct Tryz.prog 79 [.ptr 0 0] [(0, false, RBox b p e)] (Ret (.t (.int .u64 (numR b p e).1)) [(0, false, RBox b (numR b p e).2.1 (numR b p e).2.2)]) := by
  refine Ct.of Tryz.func79 rfl rfl (n := 12) rfl (by simp [ids]; rfl) ?_
  have k := take_ct b p 8 e hl hp (by omega)
  unfold numR
  have hx := takeR_byt hb p 8 e
  generalize takeR b p e 8 = r at k hx
  refine Told.callR [(0, 0)] k rfl rfl rfl ⟨rfl, trivial⟩ rfl ?_
  by_cases h8 : r.1.length = 8
  · rw [if_pos h8]
    refine Told.callT (Get_ct r.1 h8 hx) rfl rfl rfl rfl ?_
    exact ⟨[], _, _, ⟨rfl, rfl⟩, rfl, ⟨rfl, trivial⟩, rfl⟩
  · rw [if_neg h8]
    refine Told.callT (GetN_ct r.1 h8) rfl rfl rfl rfl ?_
    exact ⟨[], _, _, ⟨rfl, rfl⟩, rfl, ⟨rfl, trivial⟩, rfl⟩
def cntR (b : List Int) (p : Nat) (e : Int) (q : Int → Bool) : Int × Nat × Int :=
  if (takeR b p e 1).2.2 = 0 then bif q ((takeR b p e 1).1.headD 0) then ((takeR b p e 1).1.headD 0, (takeR b p e 1).2) else (0, (takeR b p e 1).2.1, 3) else (0, (takeR b p e 1).2)
theorem takeR_one {b : List Int} {p : Nat} {e : Int} (h : (takeR b p e 1).2.2 = 0) : ∃ x, (takeR b p e 1).1 = [x] := by
  unfold takeR at h ⊢
  split at h
  · rename_i he
    split at h
    · cases h
    · rename_i h2
      rw [if_pos he, if_neg h2]
      have h3 : b[p]? = some b[p] := List.getElem?_eq_getElem (by omega)
      exact ⟨b[p], by show (b.drop p).take 1 = _; rw [List.drop_eq_getElem_cons (by omega)]; rfl⟩
  · rename_i he; exact absurd h he
theorem count_ct [Tabs] (b : List Int) (p : Nat) (e : Int) (f : FuncId) (q : Int → Bool) (hq : ∀ x, 0 ≤ x → x ≤ 255 → CtT Tryz.prog f [.int .i64 x] (Ret (.bool (q x)) [])) (hb : Byt b) (hl : b.length < 1000000) (hp : p ≤ b.length) :
    Ct Tryz.prog 77 [.ptr 0 0, .t (.v (.func (.func f) #[] #[]))] [(0, false, RBox b p e)] (Ret (.t (.int .i64 (cntR b p e q).1)) [(0, false, RBox b (cntR b p e q).2.1 (cntR b p e q).2.2)]) := by
  refine Ct.of Tryz.func77 rfl rfl (n := 27) rfl (by simp [ids]; rfl) ?_
  have k := take_ct b p 1 e hl hp (by omega)
  unfold cntR
  have hx := takeR_byt hb p 1 e
  have h1 := takeR_one (b := b) (p := p) (e := e)
  generalize takeR b p e 1 = r at k hx h1
  refine Told.callR [(0, 0)] k rfl rfl rfl ⟨rfl, trivial⟩ rfl ?_
  refine brB (fun h => ?_) (fun h => ?_)
  · have h : r.2.2 ≠ 0 := by simpa using h
    rw [if_neg h]
    exact ⟨[], _, _, ⟨rfl, rfl⟩, rfl, ⟨rfl, trivial⟩, rfl⟩
  · have h : r.2.2 = 0 := by simpa using h
    rw [if_pos h]
    obtain ⟨x, hx1⟩ := h1 h
    obtain ⟨l, p2, e2⟩ := r
    simp only at h hx1 hx ⊢
    subst h hx1
    have hxb := hx x (List.mem_singleton.2 rfl)
    refine ⟨by decide, _, rfl, ?_⟩
    have w1 : IntKind.i64.wrap x = x := wi (by omega) (by omega)
    have kq := hq (IntKind.i64.wrap x) (by omega) (by omega)
    refine Told.callT kq rfl rfl rfl rfl ?_
    rw [w1]
    cases hqx : q x with
    | false =>
      simp only [List.headD_cons, hqx, cond_false]
      exact ⟨[], _, _, ⟨rfl, rfl⟩, rfl, ⟨rfl, trivial⟩, rfl⟩
    | true =>
      simp only [List.headD_cons, hqx, cond_true]
      refine ⟨by decide, _, rfl, ?_⟩
      exact ⟨[], _, _, ⟨rfl, rfl⟩, congrArg (AV.int .i64) w1, ⟨rfl, trivial⟩, rfl⟩
end
end Go.Proofs.YtgkmpgfmhjbcjaaGreatX
namespace Go.Proofs.YtgkmpgfmhjbcjaaGreatX
section
open Go Go.YtgkmpgfmhjbcjaaGreatE Go.Proofs
set_option maxRecDepth 100000
set_option autoImplicit false
def sdQ (x : Int) : Bool := decide (1 ≤ x ∧ x ≤ 32)
theorem numR_le [Tabs] {b : List Int} (p : Nat) (e : Int) (hp : p ≤ b.length) : (numR b p e).2.1 ≤ b.length := (takeR_le p 8 e hp).1
theorem cntR_le [Tabs] {b : List Int} (p : Nat) (e : Int) (q : Int → Bool) (hp : p ≤ b.length) : (cntR b p e q).2.1 ≤ b.length := by
  have := (takeR_le p 1 e hp).1
  unfold cntR
  split
  · cases q ((takeR b p e 1).1.headD 0) <;> exact this
  · exact this
theorem cntR_bd [Tabs] {b : List Int} (hb : Byt b) (p : Nat) (e : Int) (q : Int → Bool) : 0 ≤ (cntR b p e q).1 ∧ (cntR b p e q).1 ≤ 255 ∧ ((cntR b p e q).1 = 0 ∨ q (cntR b p e q).1 = true) := by
  have hx := takeR_byt hb p 1 e
  have h1 := takeR_one (b := b) (p := p) (e := e)
  unfold cntR
  generalize takeR b p e 1 = r at hx h1
  split
  · rename_i h
    obtain ⟨x, hx1⟩ := h1 h
    rw [hx1] at hx ⊢
    have := hx x (List.mem_singleton.2 rfl)
    simp only [List.headD_cons]
    cases hq : q x with
    | true => exact ⟨this.1, this.2, .inr hq⟩
    | false => simp
  · simp
theorem numR_u64 [Tabs] {b : List Int} (hb : Byt b) (p : Nat) (e : Int) : U64 (numR b p e).1 := by
  unfold numR
  split
  · rename_i h; exact val_u64 (by omega) (takeR_byt hb p 8 e)
  · exact ⟨by simp, by simp⟩
def entR (b : List Int) (p : Nat) (e : Int) : Entry × Nat × Int :=
  let r1 := numR b p e
  let r2 := numR b r1.2.1 r1.2.2
  let r3 := cntR b r2.2.1 r2.2.2 sdQ
  let r4 := takeR b r3.2.1 r3.2.2 r3.1.toNat
  (⟨r1.1, r2.1, r4.1⟩, r4.2)
theorem entry_ct [Tabs] (b : List Int) (p : Nat) (e : Int) (hb : Byt b) (hl : b.length < 1000000) (hp : p ≤ b.length) :
    Ct Tryz.prog 81 [.ptr 0 0] [(0, false, RBox b p e)] (Ret (.t (entR b p e).1.T) [(0, false, RBox b (entR b p e).2.1 (entR b p e).2.2)]) := by
  unfold entR
  have k1 := bnumber_ct b p e hb hl hp
  have l1 := numR_le p e hp
  generalize numR b p e = r1 at k1 l1
  have k2 := bnumber_ct b r1.2.1 r1.2.2 hb hl l1
  have l2 := numR_le r1.2.1 r1.2.2 l1
  generalize hr2 : numR b r1.2.1 r1.2.2 = r2 at k2 l2
  have k3 := count_ct b r2.2.1 r2.2.2 104 sdQ (fun x _ _ => seeded_ct x) hb hl l2
  have l3 := cntR_le r2.2.1 r2.2.2 sdQ l2
  have d3 := cntR_bd hb r2.2.1 r2.2.2 sdQ
  generalize hr3 : cntR b r2.2.1 r2.2.2 sdQ = r3 at k3 l3 d3
  have k4 := take_ct b r3.2.1 r3.1.toNat r3.2.2 hl l3 (by omega)
  have l4 := (takeR_le (b := b) r3.2.1 r3.1.toNat r3.2.2 l3).2
  generalize hr4 : takeR b r3.2.1 r3.2.2 r3.1.toNat = r4 at k4 l4
  rw [Int.toNat_of_nonneg d3.1] at k4
  simp only [hr2, hr3, hr4]
  refine Ct.of Tryz.func81 rfl rfl (n := 16) rfl (by simp [ids]; rfl) ?_
  refine Told.callR [(0, 0)] k1 rfl rfl rfl ⟨rfl, trivial⟩ rfl ?_
  refine Told.callR [(0, 0)] k2 rfl rfl rfl ⟨rfl, trivial⟩ rfl ?_
  refine Told.callR [(0, 0)] k3 rfl rfl rfl ⟨rfl, trivial⟩ rfl ?_
  refine Told.callR [(0, 0)] k4 rfl rfl rfl ⟨rfl, trivial⟩ rfl ?_
  refine Told.callT (CloneB_ct r4.1 (by omega)) rfl rfl rfl rfl ?_
  exact ⟨[], _, _, ⟨rfl, rfl⟩, rfl, ⟨rfl, trivial⟩, rfl⟩
end
end Go.Proofs.YtgkmpgfmhjbcjaaGreatX
namespace Go.Proofs.YtgkmpgfmhjbcjaaGreatX
section
open Go Go.YtgkmpgfmhjbcjaaGreatE Go.Proofs
set_option maxRecDepth 100000
set_option autoImplicit false
def entsR (b : List Int) : Nat → Nat → Int → List Entry × Nat × Int
  | 0, p, e => ([], p, e)
  | n + 1, p, e => if e = 0 then ((entR b p e).1 :: (entsR b n (entR b p e).2.1 (entR b p e).2.2).1, (entsR b n (entR b p e).2.1 (entR b p e).2.2).2) else ([], p, e)
theorem entsR_err (b : List Int) (n p : Nat) {e : Int} (h : e ≠ 0) : entsR b n p e = ([], p, e) := by
  cases n with
  | zero => rfl
  | succ n => unfold entsR; rw [if_neg h]
theorem entR_le [Tabs] {b : List Int} (p : Nat) (e : Int) (hp : p ≤ b.length) : (entR b p e).2.1 ≤ b.length := by
  unfold entR
  exact (takeR_le _ _ _ (cntR_le _ _ _ (numR_le _ _ (numR_le _ _ hp)))).1
theorem entsR_le [Tabs] {b : List Int} : ∀ (n p : Nat) (e : Int), p ≤ b.length → (entsR b n p e).2.1 ≤ b.length ∧ (entsR b n p e).1.length ≤ n
  | 0, p, e, hp => by simpa [entsR] using hp
  | n + 1, p, e, hp => by
    unfold entsR
    split
    · have := entsR_le n (entR b p e).2.1 (entR b p e).2.2 (entR_le p e hp)
      exact ⟨this.1, by simp only [List.length_cons]; omega⟩
    · simpa using hp
def kindQ (x : Int) : Bool := decide (x = 66)
def manyQ (x : Int) : Bool := decide (x ≤ 64)
theorem kindQ_ct [Tabs] (x : Int) : CtT Tryz.prog 78 [.int .i64 x] (Ret (.bool (kindQ x)) []) := by
  refine Ct.of Tryz.func78 rfl rfl (n := 5) rfl (by simp [ids]) ?_
  exact ⟨[], _, _, ⟨rfl, rfl⟩, rfl, trivial, rfl⟩
theorem manyQ_ct [Tabs] (x : Int) : CtT Tryz.prog 80 [.int .i64 x] (Ret (.bool (manyQ x)) []) := by
  refine Ct.of Tryz.func80 rfl rfl (n := 5) rfl (by simp [ids]) ?_
  exact ⟨[], _, _, ⟨rfl, rfl⟩, rfl, trivial, rfl⟩
def zeroB : Bundle := ⟨0, [], []⟩
structure Rd where
  v : Int
  l : List Entry
  p : Nat
  e : Int
def headR (b : List Int) : Rd :=
  let r1 := cntR b 0 0 kindQ
  let r2 := numR b r1.2.1 r1.2.2
  let r3 := cntR b r2.2.1 r2.2.2 manyQ
  let r4 := entsR b r3.1.toNat r3.2.1 r3.2.2
  ⟨r2.1, r4.1, r4.2.1, r4.2.2⟩
def endR (b : List Int) (h : Rd) : Bundle × Int × Int :=
  if h.e ≠ 0 then (zeroB, 0, h.e) else
  let g := Gon.readG (b.drop h.p)
  if g.2.2 ≠ 0 then (zeroB, 0, g.2.2) else
  if (⟨h.v, h.l, g.1⟩ : Bundle).ok then (⟨h.v, h.l, g.1⟩, (h.p : Int) + g.2.1, 0) else (zeroB, 0, 3)
def readB (b : List Int) : Bundle × Int × Int := endR b (headR b)
@[reducible] def resRead (x : Bundle × Int × Int) : T := .tuple [x.1.T, .int .i64 x.2.1, .int .i64 x.2.2]
theorem BRead_ct [Tabs] (b : List Int) (hb : Byt b) (hl : b.length < 1000000) : CtT Tryz.prog 52 [.sl 1 (bys b)] (Ret (.t (resRead (readB b))) []) := by
  refine CtT.ofN Tryz.func52 rfl rfl (n := 95) rfl ?_
  have k1 := count_ct b 0 0 78 kindQ (fun x _ _ => kindQ_ct x) hb hl (Nat.zero_le _)
  have l1 := cntR_le (b := b) 0 0 kindQ (Nat.zero_le _)
  obtain ⟨r1, hr1⟩ : ∃ r1, r1 = cntR b 0 0 kindQ := ⟨_, rfl⟩
  rw [← hr1] at k1 l1
  have k2 := bnumber_ct b r1.2.1 r1.2.2 hb hl l1
  have l2 := numR_le r1.2.1 r1.2.2 l1
  obtain ⟨r2, hr2⟩ : ∃ r2, r2 = numR b r1.2.1 r1.2.2 := ⟨_, rfl⟩
  rw [← hr2] at k2 l2
  have k3 := count_ct b r2.2.1 r2.2.2 80 manyQ (fun x _ _ => manyQ_ct x) hb hl l2
  have l3 := cntR_le r2.2.1 r2.2.2 manyQ l2
  have d3 := cntR_bd hb r2.2.1 r2.2.2 manyQ
  obtain ⟨r3, hr3⟩ : ∃ r3, r3 = cntR b r2.2.1 r2.2.2 manyQ := ⟨_, rfl⟩
  rw [← hr3] at k3 l3 d3
  have d3' : r3.1.toNat ≤ 64 := by
    rcases d3.2.2 with h | h
    · omega
    · have := of_decide_eq_true h; omega
  refine Told.callR [(0, 12)] k1 rfl rfl rfl ⟨rfl, trivial⟩ rfl ?_
  refine Told.callR [(0, 12)] k2 rfl rfl rfl ⟨rfl, trivial⟩ rfl ?_
  refine Told.callR [(0, 12)] k3 rfl rfl rfl ⟨rfl, trivial⟩ rfl ?_
  obtain ⟨m, hm⟩ : ∃ m : Nat, r3.1 = m := ⟨r3.1.toNat, by omega⟩
  obtain ⟨vv, hvv⟩ : ∃ vv, vv = r2.1 := ⟨_, rfl⟩
  have ents := entsR_le (b := b) m r3.2.1 r3.2.2 l3
  obtain ⟨tot, htot⟩ : ∃ tot, tot = entsR b m r3.2.1 r3.2.2 := ⟨_, rfl⟩
  refine ⟨Nat × List Entry × Nat × Int, fun q => [(0, .t (.sl 1 (bys b))), (2, .ptr 2 0), (5, .ptr 12 0), (6, .ptr 6 0), (7, .int .i64 m), (8, .int .i64 q.1)],
    fun q => [(2, false, .box 67 [.int .u64 0, .t (.v (.slice none 0 0)), .t (.v (.slice none 0 0))]), (12, false, RBox b q.2.2.1 q.2.2.2), (60, false, .row 71 3 (q.2.1.map Entry.T)), (6, false, .box 67 [.int .u64 vv, .own 60, .t (.v (.slice none 0 0))])],
    fun q => q.1 ≤ m ∧ q.2.1.length ≤ q.1 ∧ q.2.2.1 ≤ b.length ∧ (q.2.1 ++ (entsR b (m - q.1) q.2.2.1 q.2.2.2).1, (entsR b (m - q.1) q.2.2.1 q.2.2.2).2) = tot, fun q => m - q.1,
    (0, [], r3.2.1, r3.2.2), ⟨Nat.zero_le _, Nat.le_refl _, l3, by rw [htot]; rfl⟩,
    Le.trans (Le.nilBox 6 1 60 67 71 3 _ rfl rfl rfl) (Le.of [] ⟨rfl, rfl, rfl, rfl, congrArg (AV.int .i64) hm, rfl, trivial⟩ ⟨rfl, rfl, rfl, by rw [hvv]; rfl, trivial⟩ rfl), ?_⟩
  rintro ⟨i, l, p, e⟩ ⟨q1, q2, q3, q4⟩
  simp only at q1 q2 q3 q4 ⊢
  refine brB (fun hc => ?one) (fun hc => ?two)
  case' one =>
    have hc : i < m := Int.ofNat_lt.1 (of_decide_eq_true hc)
    refine brB (fun he => ?_) (fun he => ?_)
    · have he : e = 0 := by simpa using he
      have ke := entry_ct b p e hb hl q3
      have le := entR_le (b := b) p e q3
      have hun : entsR b (m - i) p e = ((entR b p e).1 :: (entsR b (m - (i + 1)) (entR b p e).2.1 (entR b p e).2.2).1, (entsR b (m - (i + 1)) (entR b p e).2.1 (entR b p e).2.2).2) := by
        rw [show m - i = m - (i + 1) + 1 by omega]; unfold entsR; rw [if_pos he]
        cases m - (i + 1) <;> rfl
      rw [hun] at q4
      generalize entR b p e = en at ke le q4
      refine Told.callR [(0, 12)] ke rfl rfl rfl ⟨rfl, trivial⟩ rfl ?_
      refine ⟨by show (_ + 1) * 40 ≤ _; rw [Entry.row_len]; omega, (i + 1, l ++ [en.1], en.2.1, en.2.2), ⟨hc, by simp; omega, le, by rw [← q4]; simp⟩, Le.of [(60, 37)] ⟨rfl, rfl, rfl, rfl, rfl, congrArg (AV.int .i64) (wi (by omega) (by omega)), trivial⟩ ⟨rfl, rfl, congrArg (fun x => (false, Blk.row 71 3 x)) (by simp), rfl, trivial⟩ rfl, by show m - (i + 1) < m - i; omega⟩
    have he : e ≠ 0 := by simpa using he
    have htq : tot = (l, p, e) := by rw [← q4, entsR_err b _ p he]; simp
  case' two =>
    have hc : i = m := Nat.le_antisymm q1 (Int.ofNat_le.1 (Int.not_lt.1 (of_decide_eq_false hc)))
    have htq : tot = (l, p, e) := by rw [← q4, hc, Nat.sub_self]; simp [entsR]
  all_goals
    have hfin : readB b = endR b ⟨vv, l, p, e⟩ := by
      unfold readB headR
      simp only
      rw [← hr1, ← hr2, ← hr3, hm, Int.toNat_natCast, ← htot, htq, hvv]
    have hll : l.length ≤ 64 := by omega
    clear q4 htq htot
    by_cases he0 : e = 0
    · subst he0
      refine ⟨by omega, by rw [bys_len]; omega, by rw [bys_len]; omega, ?_⟩
      have kg := Gon.GRead_ct (b.drop p) (by simp; omega) (hb.drop _)
      rw [bys_drop] at kg
      obtain ⟨gl, gn, ge, hg⟩ : ∃ gl gn ge, Gon.readG (b.drop p) = (gl, gn, ge) := ⟨_, _, _, rfl⟩
      have hbk := Gon.read_back (hb.drop p) hg
      have hgl := Gon.readG_len (b.drop p)
      rw [hg] at kg hgl
      refine Told.callT kg rfl rfl rfl rfl ?_
      have w1 : IntKind.i64.wrap ((p : Int) + gn) = (p : Int) + gn := by
        have h1 := hbk
        simp only [List.length_drop] at h1
        rcases h1 with h1 | h1
        · exact wi (by omega) (by omega)
        · exact wi (by omega) (by omega)
      refine brB (fun hge => ?_) (fun hge => ?_)
      · have hge : ge = 0 := by simpa using hge
        subst hge
        have kr := BRight_ct ⟨vv, l, gl⟩ (by simp only; omega) (by simp only at hgl ⊢; omega)
        by_cases hok : (⟨vv, l, gl⟩ : Bundle).ok
        · rw [decide_eq_true hok] at kr
          refine Told.callT kr rfl rfl rfl rfl ?_
          refine ⟨_, rfl, ?_⟩
          rw [hfin]
          unfold endR
          simp only [hg, ne_eq, not_true_eq_false, if_false, if_pos hok]
          rw [w1]
          exact .refl _
        · rw [decide_eq_false hok] at kr
          refine Told.callT kr rfl rfl rfl rfl ?_
          refine ⟨_, rfl, ?_⟩
          rw [hfin]
          unfold endR
          simp only [hg, ne_eq, not_true_eq_false, if_false, if_neg hok]
          repeat constructor
      · have hge : ge ≠ 0 := by simpa using hge
        refine brT (by simpa using hge) ?_
        refine ⟨_, rfl, ?_⟩
        rw [hfin]
        unfold endR
        simp only [hg, ne_eq, not_true_eq_false, if_false, if_pos hge]
        repeat constructor
    · refine brF (decide_eq_false he0) ?_
      refine brF (decide_eq_false he0) ?_
      refine brT (by simpa using he0) ?_
      refine ⟨_, rfl, ?_⟩
      rw [hfin]
      unfold endR
      rw [if_pos he0]
      repeat constructor
end
end Go.Proofs.YtgkmpgfmhjbcjaaGreatX
namespace Go.Proofs.YtgkmpgfmhjbcjaaGreatX
section
open Go Go.YtgkmpgfmhjbcjaaGreatE Go.Proofs
set_option maxRecDepth 100000
set_option autoImplicit false
def zeroE : Entry := ⟨0, 0, []⟩
def findR (l : List Entry) (t : Int) : Entry × Int :=
  match l.findIdx? fun e => decide (e.t = t) with
  | none => (zeroE, 7)
  | some i => (l.getD i zeroE, 0)
@[reducible] def resFind (p : Entry × Int) : T := .tuple [p.1.T, .int .i64 p.2]
theorem entry_eq {a b : Entry} : a = b ↔ a.t = b.t ∧ a.e = b.e ∧ a.seed = b.seed := by
  obtain ⟨a1, a2, a3⟩ := a; obtain ⟨b1, b2, b3⟩ := b; simp
theorem bundle_eq {x y : Bundle} : x = y ↔ x.v = y.v ∧ x.entries = y.entries ∧ x.gone = y.gone := by
  obtain ⟨a1, a2, a3⟩ := x; obtain ⟨b1, b2, b3⟩ := y; simp
def shortB (x : Bundle) : Prop := x.entries.length ≤ 99 ∧ x.gone.length ≤ 99 ∧ ∀ e ∈ x.entries, e.seed.length ≤ 99
end
end Go.Proofs.YtgkmpgfmhjbcjaaGreatX
namespace Go.Proofs.YtgkmpgfmhjbcjaaGreatX
section
open Go Go.YtgkmpgfmhjbcjaaGreatE Go.Proofs
set_option maxRecDepth 100000
set_option autoImplicit false
theorem bfault_ct [Tabs] (e : Int) : CtT Tryz.prog 53 [.int .i64 e] (Ret (.t (faultT 4 e)) []) := by
  refine CtT.ofN Tryz.func53 rfl rfl (n := 10) rfl ?_
  unfold faultT
  refine brB (fun h => ?_) (fun h => ?_)
  · refine ⟨_, rfl, ?_⟩
    rw [if_pos (of_decide_eq_true h)]
    exact .refl _
  · refine ⟨_, rfl, ?_⟩
    rw [if_neg (of_decide_eq_false h)]
    exact .refl _
theorem bfault1 [Tabs] : CtT Tryz.prog 53 [.int .i64 1] (Ret (.t (FaultI 4 1)) []) := by
  have := bfault_ct 1
  rwa [show faultT 4 1 = FaultI 4 1 from rfl] at this
theorem BSealA_ct [Tabs] (g : Engine) (k : List Int) (x : Bundle) (hl : x.entries.length < 100000) (hg : x.gone.length < 100000) (ho : ¬ x.ok) : CtT Tryz.prog 36 [g.T, .sl 1 (bys k), x.T] (Ret (.t (resSeal g [] (FaultI 4 1))) []) := by
  refine CtT.ofN Tryz.func36 rfl rfl (n := 41) rfl ?_
  refine Told.callT (BBytesN_ct x hl hg ho) rfl rfl rfl rfl ?_
  refine Told.callT bfault1 rfl rfl rfl rfl ?_
  exact ⟨_, rfl, by repeat constructor⟩
theorem BSealN_ct [Tabs] (g : Engine) (hw : g.Wf) (hs : g.Sm) (hg : ¬ g.ok) (k : List Int) (x : Bundle) (hx : x.Wf) (ho : x.ok) : CtT Tryz.prog 36 [g.T, .sl 1 (bys k), x.T] (Ret (.t (resSeal g [] (FaultI 4 1))) []) := by
  refine CtT.ofN Tryz.func36 rfl rfl (n := 41) rfl ?_
  refine Told.callT (BBytes_ct x hx ho) rfl rfl rfl rfl ?_
  refine Told.callT (TagN_ct g hw hs hg k (bbytes x)) rfl rfl rfl rfl ?_
  refine Told.callT bfault1 rfl rfl rfl rfl ?_
  exact ⟨_, rfl, by repeat constructor⟩
theorem bbytes_len [Tabs] {x : Bundle} (ho : x.ok) : (bbytes x).length ≤ 5000 := by
  have h1 := ebody_len ho.seeds
  have h2 := bhead_len x
  have h3 := Gon.gbody_len x.gone
  have h4 := ho.len
  have h5 := ho.gone.len
  simp only [bbytes, List.length_append, List.length_cons]
  omega
theorem ebody_byt [Tabs] : ∀ {l : List Entry}, (∀ e ∈ l, e.Wf) → (∀ e ∈ l, e.ok) → Byt (ebody l)
  | [], _, _ => by intro y hy; cases hy
  | e :: l, hw, ho => by
    have : ebody (e :: l) = ebytes e ++ ebody l := rfl
    rw [this]
    have h1 := hw e (by simp)
    have h2 := ho e (by simp)
    have h3 : Byt [(e.seed.length : Int)] := fun y hy => by rw [List.mem_singleton.1 hy]; have := h2.2; omega
    exact ((((oct_byt _).append (oct_byt _)).append h3).append h1.seed).append (ebody_byt (fun a ha => hw a (by simp [ha])) (fun a ha => ho a (by simp [ha])))
theorem bbytes_byt [Tabs] {x : Bundle} (hw : x.Wf) (ho : x.ok) : Byt (bbytes x) := by
  have h0 : Byt [(66 : Int)] := fun y hy => by rw [List.mem_singleton.1 hy]; omega
  have h1 : Byt [(x.entries.length : Int)] := fun y hy => by rw [List.mem_singleton.1 hy]; have := ho.len; omega
  have h2 : Byt [(x.gone.length : Int)] := fun y hy => by rw [List.mem_singleton.1 hy]; have := ho.gone.len; omega
  exact (((h0.append (oct_byt _)).append h1).append (ebody_byt hw.entries ho.seeds)).append (h2.append (Gon.gbody_byt _))
theorem BSealS_ct [Tabs] (g : Engine) (hw : g.Wf) (hs : g.Sm) (hg : g.Sym) (k : List Int) (hk : Byt k) (hkl : k.length < 1000000) (x : Bundle) (hx : x.Wf) (ho : x.ok) :
    CtT Tryz.prog 36 [g.T, .sl 1 (bys k), x.T] (Ret (.t (resSeal (tagE g k (bbytes x)).1 (bbytes x ++ (tagE g k (bbytes x)).2) (.v .nilIface))) []) := by
  refine CtT.ofN Tryz.func36 rfl rfl (n := 41) rfl ?_
  have hl := bbytes_len ho
  refine Told.callT (BBytes_ct x hx ho) rfl rfl rfl rfl ?_
  refine Told.callT (TagS_ct g hw hs hg k (bbytes x) hk (bbytes_byt hx ho) ⟨hkl, by simp only; omega⟩) rfl rfl rfl rfl ?_
  have hpl : (tagE g k (bbytes x)).2.length = 8 := putT_len _ _ _
  refine Told.callT (ConcatB_ct [bbytes x, (tagE g k (bbytes x)).2] (by simp) (by simp [hpl]; omega)) rfl rfl rfl rfl ?_
  refine ⟨_, rfl, ?_⟩
  rw [show [bbytes x, (tagE g k (bbytes x)).2].flatten = bbytes x ++ (tagE g k (bbytes x)).2 by simp]
  exact .refl _
theorem readB_cases [Tabs] {b : List Int} (hb : Byt b) : ((readB b).2.2 ≠ 0 ∧ (readB b).1 = zeroB ∧ (readB b).2.1 = 0) ∨ ((readB b).2.2 = 0 ∧ (readB b).1.ok ∧ 0 ≤ (readB b).2.1 ∧ (readB b).2.1 ≤ b.length) := by
  have hp : (headR b).p ≤ b.length := (entsR_le _ _ _ (cntR_le _ _ _ (numR_le _ _ (cntR_le _ _ _ (Nat.zero_le _))))).1
  unfold readB endR
  generalize headR b = h at hp
  split
  · rename_i he; exact .inl ⟨he, rfl, rfl⟩
  · obtain ⟨gl, gn, ge, hg⟩ : ∃ gl gn ge, Gon.readG (b.drop h.p) = (gl, gn, ge) := ⟨_, _, _, rfl⟩
    have hbk := Gon.read_back (hb.drop h.p) hg
    simp only [hg]
    split
    · rename_i he; exact .inl ⟨he, rfl, rfl⟩
    · rename_i he
      split
      · rename_i hok
        refine .inr ⟨rfl, hok, ?_⟩
        rcases hbk with h2 | h2
        · have := h2.2.2.2.1
          simp only [List.length_drop] at this
          simp only
          omega
        · exact absurd h2.1 he
      · exact .inl ⟨by decide, rfl, rfl⟩
def openI (b : List Int) : Int :=
  if (readB b).2.2 ≠ 0 then (readB b).2.2 else if (b.length : Int) - (readB b).2.1 < 8 then 2 else if 8 < (b.length : Int) - (readB b).2.1 then 4 else 0
@[reducible] def resBOpen (x : Bundle) (e : T) : T := .tuple [x.T, e]
theorem BOpenE_ct [Tabs] (g : Engine) (k b : List Int) (hb : Byt b) (hl : b.length < 1000000) (h : openI b ≠ 0) : CtT Tryz.prog 27 [g.T, .sl 1 (bys k), .sl 1 (bys b)] (Ret (.t (resBOpen zeroB (FaultI 4 (openI b)))) []) := by
  refine CtT.ofN Tryz.func27 rfl rfl (n := 49) rfl ?_
  have kr := BRead_ct b hb hl
  have hc := readB_cases hb
  have kf := bfault_ct (openI b)
  rw [show faultT 4 (openI b) = FaultI 4 (openI b) from if_neg h] at kf
  unfold openI at h kf ⊢
  obtain ⟨x, n, e, hr⟩ : ∃ x n e, readB b = (x, n, e) := ⟨_, _, _, rfl⟩
  rw [hr] at kr hc h kf ⊢
  simp only at hc h kf ⊢
  refine Told.callT kr rfl rfl rfl rfl ?_
  by_cases he : e = 0
  · have hc := hc.resolve_left (fun h => h.1 he)
    rw [if_neg (by simpa using he)] at h kf
    subst he
    have w1 : IntKind.i64.wrap (((bys b).length : Int) - n) = (b.length : Int) - n := by rw [bys_len]; exact wi (by omega) (by omega)
    by_cases h1 : (b.length : Int) - n < 8
    · rw [if_pos h1] at kf
      refine brT (decide_eq_true (by rw [w1]; exact h1)) ?_
      refine Told.callT kf rfl rfl rfl rfl ?_
      refine ⟨_, rfl, ?_⟩
      rw [if_neg (by simp), if_pos h1]
      repeat constructor
    · rw [if_neg h1] at h kf
      refine brF (decide_eq_false (by rw [w1]; exact h1)) ?_
      by_cases h2 : 8 < (b.length : Int) - n
      · rw [if_pos h2] at kf
        refine brT (decide_eq_true (by rw [w1]; exact h2)) ?_
        refine Told.callT kf rfl rfl rfl rfl ?_
        refine ⟨_, rfl, ?_⟩
        rw [if_neg (by simp), if_neg h1, if_pos h2]
        repeat constructor
      · rw [if_neg h2] at h; exact absurd rfl h
  · rw [if_pos he] at kf
    refine brT (by simpa using he) ?_
    refine brT (by simpa using he) ?_
    refine Told.callT kf rfl rfl rfl rfl ?_
    refine ⟨_, rfl, ?_⟩
    rw [if_pos he]
    repeat constructor
theorem openI_facts [Tabs] {b : List Int} (hb : Byt b) (h : openI b = 0) : ∃ n : Nat, (readB b).2.2 = 0 ∧ (readB b).1.ok ∧ (readB b).2.1 = n ∧ b.length = n + 8 := by
  have hc := readB_cases hb
  unfold openI at h
  split at h
  · rename_i he; exact absurd h he
  · rename_i he
    have he : (readB b).2.2 = 0 := by simpa using he
    have hc := hc.resolve_left (fun h => h.1 he)
    split at h
    · cases h
    · split at h
      · cases h
      · exact ⟨(readB b).2.1.toNat, he, hc.2.1, by omega, by omega⟩
theorem BOpen_ct [Tabs] (g : Engine) (k b : List Int) (hb : Byt b) (hl : b.length < 1000000) (h : openI b = 0) (fits : Bool) (hf : CtT Tryz.prog 49 [g.T, .sl 1 (bys k), .sl 1 (bys (b.take (b.length - 8))), .sl 1 (bys (b.drop (b.length - 8)))] (Ret (.bool fits) [])) :
    CtT Tryz.prog 27 [g.T, .sl 1 (bys k), .sl 1 (bys b)] (Ret (.t (bif fits then resBOpen (readB b).1 (.v .nilIface) else resBOpen zeroB (FaultI 4 5))) []) := by
  refine CtT.ofN Tryz.func27 rfl rfl (n := 49) rfl ?_
  have kr := BRead_ct b hb hl
  obtain ⟨n, h1, h2, h3, h4⟩ := openI_facts hb h
  rw [show b.length - 8 = n by omega] at hf
  obtain ⟨x, n', e, hr⟩ : ∃ x n e, readB b = (x, n, e) := ⟨_, _, _, rfl⟩
  rw [hr] at kr h1 h2 h3 ⊢
  simp only at h1 h2 h3 ⊢
  subst h1 h3
  refine Told.callT kr rfl rfl rfl rfl ?_
  have w1 : IntKind.i64.wrap (((bys b).length : Int) - (n : Int)) = 8 := by rw [bys_len, h4]; exact (wi (by omega) (by omega)).trans (by omega)
  refine brF (decide_eq_false (by rw [w1]; omega)) ?_
  refine brF (decide_eq_false (by rw [w1]; omega)) ?_
  refine ⟨by omega, by simp only; omega, by rw [bys_len]; simp only; omega, ?_⟩
  refine ⟨by simp only; omega, by rw [bys_len]; simp only; omega, by rw [bys_len]; omega, ?_⟩
  rw [bys_take, bys_drop] at hf
  refine Told.callT hf rfl rfl rfl rfl ?_
  cases fits with
  | false =>
    have kf := bfault_ct 5
    rw [show faultT 4 5 = FaultI 4 5 from rfl] at kf
    refine Told.callT kf rfl rfl rfl rfl ?_
    exact ⟨_, rfl, by repeat constructor⟩
  | true =>
    exact ⟨_, rfl, .refl _⟩
def bunA : Bundle := ⟨7, [⟨3, 1, [115]⟩], [⟨2, 1⟩]⟩
def bunB : List Int := [66, 0, 0, 0, 0, 0, 0, 0, 7, 1, 0, 0, 0, 0, 0, 0, 0, 3, 0, 0, 0, 0, 0, 0, 0, 1, 1, 115, 1, 0, 0, 0, 0, 0, 0, 0, 2, 0, 0, 0, 0, 0, 0, 0, 1]
def bunS : List Int := [66, 0, 0, 0, 0, 0, 0, 0, 7, 1, 0, 0, 0, 0, 0, 0, 0, 3, 0, 0, 0, 0, 0, 0, 0, 1, 1, 115, 1, 0, 0, 0, 0, 0, 0, 0, 2, 0, 0, 0, 0, 0, 0, 0, 1, 0, 0, 0, 0, 0, 0, 0, 1]
theorem bunA_wf : bunA.Wf := ⟨by constructor <;> decide, by intro e he; rw [List.mem_singleton.1 he]; exact ⟨by constructor <;> decide, by constructor <;> decide, by unfold Byt; decide⟩, by intro e he; rw [List.mem_singleton.1 he]; exact ⟨by constructor <;> decide, by constructor <;> decide⟩⟩
end
end Go.Proofs.YtgkmpgfmhjbcjaaGreatX
namespace Go.Proofs.YtgkmpgfmhjbcjaaGreatX
section
open Go Go.YtgkmpgfmhjbcjaaGreatE Go.Proofs
set_option maxRecDepth 100000
set_option autoImplicit false
theorem drop_step {b u r : List Int} {p n : Nat} (h : b.drop p = u ++ r) (hu : u.length = n) : b.drop (p + n) = r := by
  rw [← List.drop_drop, h, ← hu, List.drop_left']
  rfl
theorem len_step {b u r : List Int} {p n : Nat} (h : b.drop p = u ++ r) (hu : u.length = n) (hp : p ≤ b.length) : p + n ≤ b.length := by
  have := congrArg List.length h
  rw [List.length_drop, List.length_append] at this
  omega
theorem takeR_app [Tabs] {b u r : List Int} {p n : Nat} (h : b.drop p = u ++ r) (hu : u.length = n) (hp : p ≤ b.length) : takeR b p 0 n = (u, p + n, 0) := by
  have := len_step h hu hp
  unfold takeR
  rw [if_pos rfl, if_neg (by omega), h, ← hu, List.take_left']
  rfl
theorem numR_app [Tabs] {b r : List Int} {p : Nat} {v : Int} (h : b.drop p = oct v ++ r) (hv : U64 v) (hp : p ≤ b.length) : numR b p 0 = (v, p + 8, 0) := by
  unfold numR
  rw [takeR_app h (oct_len v) hp]
  simp only
  rw [if_pos (oct_len v), val_oct hv]
theorem cntR_app [Tabs] {b r : List Int} {p : Nat} {x : Int} {q : Int → Bool} (h : b.drop p = [x] ++ r) (hq : q x = true) (hp : p ≤ b.length) : cntR b p 0 q = (x, p + 1, 0) := by
  unfold cntR
  rw [takeR_app (n := 1) h rfl hp]
  simp [hq]
theorem entR_app [Tabs] {b r : List Int} {p : Nat} {e : Entry} (h : b.drop p = ebytes e ++ r) (hw : e.Wf) (ho : e.ok) (hp : p ≤ b.length) : entR b p 0 = (e, p + (ebytes e).length, 0) := by
  unfold ebytes at h
  rw [List.append_assoc, List.append_assoc, List.append_assoc] at h
  have n1 := numR_app h hw.t hp
  have h2 := drop_step h (oct_len _)
  have p2 := len_step h (oct_len _) hp
  have n2 := numR_app h2 hw.e p2
  have h3 := drop_step h2 (oct_len _)
  have p3 := len_step h2 (oct_len _) p2
  have n3 := cntR_app (q := sdQ) h3 (decide_eq_true ho) p3
  have h4 := drop_step h3 (n := 1) rfl
  have p4 := len_step h3 (n := 1) rfl p3
  have n4 := takeR_app h4 (n := e.seed.length) rfl p4
  unfold entR
  simp only [n1, n2, n3]
  rw [Int.toNat_natCast, n4]
  have hl : (ebytes e).length = 17 + e.seed.length := by simp [ebytes, oct_len]; omega
  rw [hl]
  simp only [Prod.mk.injEq, and_true, true_and]
  omega
theorem entsR_app [Tabs] {r : List Int} : ∀ (l : List Entry) {b : List Int} {p : Nat}, b.drop p = ebody l ++ r → (∀ e ∈ l, e.Wf) → (∀ e ∈ l, e.ok) → p ≤ b.length → entsR b l.length p 0 = (l, p + (ebody l).length, 0)
  | [], b, p, _, _, _, _ => by simp [entsR, ebody]
  | e :: l, b, p, h, hw, ho, hp => by
    have hb : ebody (e :: l) = ebytes e ++ ebody l := rfl
    rw [hb, List.append_assoc] at h
    have n1 := entR_app h (hw e (by simp)) (ho e (by simp)) hp
    have h2 := drop_step h rfl
    have p2 := len_step h rfl hp
    have n2 := entsR_app l h2 (fun e he => hw e (by simp [he])) (fun e he => ho e (by simp [he])) p2
    rw [List.length_cons]
    unfold entsR
    rw [if_pos rfl, n1]
    simp only
    rw [n2, hb, List.length_append]
    simp only [Prod.mk.injEq, and_true, true_and]
    omega
theorem readB_app [Tabs] {x : Bundle} (hw : x.Wf) (ho : x.ok) (r : List Int) : readB (bbytes x ++ r) = (x, ((bbytes x).length : Int), 0) := by
  have h : (bbytes x ++ r).drop 0 = [66] ++ (oct x.v ++ ([(x.entries.length : Int)] ++ (ebody x.entries ++ ((Gon.gbytes x.gone).1 ++ r)))) := by
    rw [show Gon.gbytes x.gone = ((x.gone.length : Int) :: Gon.gbody x.gone, 0) from if_pos ho.gone]
    simp [bbytes, bhead]
  obtain ⟨b, hb⟩ : ∃ b, b = bbytes x ++ r := ⟨_, rfl⟩
  have hlb : b.length = (bbytes x).length + r.length := by rw [hb, List.length_append]
  rw [← hb] at h ⊢
  have n1 := cntR_app (q := kindQ) h rfl (Nat.zero_le _)
  have h2 := drop_step h (n := 1) rfl
  have p2 := len_step h (n := 1) rfl (Nat.zero_le _)
  have n2 := numR_app h2 hw.v p2
  have h3 := drop_step h2 (oct_len _)
  have p3 := len_step h2 (oct_len _) p2
  have n3 := cntR_app (q := manyQ) h3 (decide_eq_true (by have := ho.len; omega)) p3
  have h4 := drop_step h3 (n := 1) rfl
  have p4 := len_step h3 (n := 1) rfl p3
  have n4 := entsR_app x.entries h4 hw.entries ho.seeds p4
  have h5 := drop_step h4 rfl
  have p5 := len_step h4 rfl p4
  have n5 := Gon.read_bytes ho.gone hw.gone r
  have hd : headR b = ⟨x.v, x.entries, 0 + 1 + 8 + 1 + (ebody x.entries).length, 0⟩ := by
    unfold headR
    simp only [n1, n2, n3]
    rw [Int.toNat_natCast, n4]
  unfold readB endR
  rw [hd]
  simp only [ne_eq, not_true_eq_false, if_false]
  rw [h5, n5]
  simp only [not_true_eq_false, if_false]
  rw [if_pos ho]
  have hg : (Gon.gbytes x.gone).1.length = 1 + (Gon.gbody x.gone).length := by
    rw [show Gon.gbytes x.gone = ((x.gone.length : Int) :: Gon.gbody x.gone, 0) from if_pos ho.gone, List.length_cons]; omega
  have hx : (bbytes x).length = 10 + (ebody x.entries).length + (1 + (Gon.gbody x.gone).length) := by
    have h10 := bhead_len x
    unfold bbytes
    simp only [List.length_append, List.length_cons]
    omega
  rw [hg, hx]
  simp only [Prod.mk.injEq, and_true, true_and]
  omega
end
end Go.Proofs.YtgkmpgfmhjbcjaaGreatX
namespace Go.Proofs.YtgkmpgfmhjbcjaaGreatX
section
open Go Go.YtgkmpgfmhjbcjaaGreatE Go.Proofs
set_option maxRecDepth 100000
set_option autoImplicit false
theorem BSealG_ct [Tabs] (g : Engine) (hw : g.Wf) (hs : g.Sm) (hg : g.ok) (k : List Int) (hk : Byt k) (hkl : k.length < 100000) (x : Bundle) (hx : x.Wf) (ho : x.ok) :
    CtT Tryz.prog 36 [g.T, .sl 1 (bys k), x.T] (Ret (.t (resSeal (tagG g k (bbytes x)).1 (bbytes x ++ (tagG g k (bbytes x)).2) (.v .nilIface))) []) := by
  refine CtT.ofN Tryz.func36 rfl rfl (n := 41) rfl ?_
  have hl := bbytes_len ho
  refine Told.callT (BBytes_ct x hx ho) rfl rfl rfl rfl ?_
  have kt := TagG_ct g hw hs hg k (bbytes x) hk (bbytes_byt hx ho) hkl (by omega) ⟨by simp only; omega, by simp only; omega⟩
  have hpl := tagG_len g k (bbytes x)
  generalize tagG g k (bbytes x) = p at kt hpl
  refine Told.callT kt rfl rfl rfl rfl ?_
  refine Told.callT (ConcatB_ct [bbytes x, p.2] (by simp) (by simp [hpl]; omega)) rfl rfl rfl rfl ?_
  refine ⟨_, rfl, ?_⟩
  rw [show [bbytes x, p.2].flatten = bbytes x ++ p.2 by simp]
  exact .refl _
theorem readB_seal [Tabs] {x : Bundle} (hw : x.Wf) (ho : x.ok) {t : List Int} (ht : t.length = 8) : readB (bbytes x ++ t) = (x, ((bbytes x).length : Int), 0) ∧ openI (bbytes x ++ t) = 0 := by
  have h := readB_app hw ho t
  refine ⟨h, ?_⟩
  unfold openI
  rw [h]
  have : ((bbytes x ++ t).length : Int) - ((bbytes x).length : Int) = 8 := by rw [List.length_append, ht]; omega
  simp only [this]
  decide
end
end Go.Proofs.YtgkmpgfmhjbcjaaGreatX
