-- Written by hand for this claim's session.
import Derived.Test.YtonihdgidhflnaaDoorProg
import Derived.DeepKeys4
import Derived.WalkKit
import Derived.LaidEql
import Derived.Stop.Asserts
import Derived.RowKitTokens
import Derived.Test.YtonihdgidhflnaaDoorRows
import Derived.HandedShaped
import Derived.JoinedOf
import Derived.RowKit
import Derived.LaidLaws
import Derived.LaidHandle
import Derived.Stop.Joined
import Derived.Test.YtonihdgidhflnaaDoorEvC
namespace Go.Proofs.YtonihdgidhflnaaDoorX
section
open Go Go.YtonihdgidhflnaaDoorE Go.Proofs
set_option maxRecDepth 100000
set_option autoImplicit false
@[reducible] def bys (xs : List Int) : List T := xs.map (T.int .u8)
theorem bys_len (l : List Int) : (bys l).length = l.length := by simp [bys]
theorem bys_get {l : List Int} {n : Int} {i : Nat} {x : Int} (hn : n = i) (h : l[i]? = some x) : (bys l)[n.toNat]? = some (T.int .u8 x) := by
  subst hn; simp [bys, h]
def Byt (l : List Int) : Prop := ∀ x ∈ l, 0 ≤ x ∧ x ≤ 255
def val (l : List Int) : Int := l.foldl (fun v x => 256 * v + x) 0
theorem val_snoc (l : List Int) (x : Int) : val (l ++ [x]) = 256 * val l + x := by simp [val]
theorem val_bound [Tabs] : ∀ (n : Nat) (l : List Int), l.length = n → Byt l → 0 ≤ val l ∧ val l < 256 ^ n := by
  intro n
  induction n with
  | zero => intro l h _; have := List.length_eq_zero_iff.1 h; subst this; simp [val]
  | succ n ih =>
    intro l h hb
    obtain ⟨l', x, rfl⟩ : ∃ l' x, l = l' ++ [x] := by
      have hne : l ≠ [] := fun e => by subst e; simp at h
      exact ⟨l.dropLast, l.getLast hne, (List.dropLast_concat_getLast hne).symm⟩
    obtain ⟨h1, h2⟩ := ih l' (by simpa using h) (fun y hy => hb y (by simp [hy]))
    have := hb x (by simp)
    rw [val_snoc, Int.pow_succ]
    omega
theorem val_lt [Tabs] {l : List Int} (h : l.length ≤ 8) (hb : Byt l) : 0 ≤ val l ∧ val l < 2 ^ 64 := by
  obtain ⟨h1, h2⟩ := val_bound _ l rfl hb
  refine ⟨h1, Int.lt_of_lt_of_le h2 ?_⟩
  have : (256 : Int) ^ l.length ≤ 256 ^ 8 := by
    have := Nat.pow_le_pow_right (n := 256) (by omega) h
    exact_mod_cast this
  have e : (256 : Int) ^ 8 = 2 ^ 64 := by decide
  omega
theorem wu64 {x : Int} (h0 : 0 ≤ x) (h1 : x < 2 ^ 64) : IntKind.u64.wrap x = x := by
  simp [IntKind.wrap, IntKind.signed, IntKind.bits]; omega
theorem or_byte [Tabs] {v x : Int} (h0 : 0 ≤ v) (x0 : 0 ≤ x) (x1 : x ≤ 255) (h : 256 * v + x < 2 ^ 64) : Go.bits .or .u64 (IntKind.u64.wrap (v * 2 ^ min (Int.toNat 8) IntKind.u64.bits)) (IntKind.u64.wrap x) = 256 * v + x := by
  have e : (2 : Int) ^ min (Int.toNat 8) IntKind.u64.bits = 256 := by decide
  have w1 : IntKind.u64.wrap (v * 256) = v * 256 := wu64 (by omega) (by omega)
  have w2 : IntKind.u64.wrap x = x := wu64 (by omega) (by omega)
  rw [e, w1, w2]
  obtain ⟨a, rfl⟩ := Int.eq_ofNat_of_zero_le h0
  obtain ⟨b, rfl⟩ := Int.eq_ofNat_of_zero_le x0
  have hb : b < 2 ^ 8 := by omega
  have hor := Nat.two_pow_add_eq_or_of_lt hb a
  have e1 : ((a : Int) * 256 % 2 ^ 64).toNat = 2 ^ 8 * a := by rw [Int.emod_eq_of_lt (by omega) (by omega)]; omega
  have e2 : ((b : Int) % 2 ^ 64).toNat = b := by rw [Int.emod_eq_of_lt (by omega) (by omega)]; omega
  show IntKind.u64.wrap (((BitVec.ofInt 64 ((a : Int) * 256) ||| BitVec.ofInt 64 (b : Int)).toNat : Nat) : Int) = _
  rw [BitVec.toNat_or, BitVec.toNat_ofInt, BitVec.toNat_ofInt]
  have e1' : ((a : Int) * 256 % ((2 ^ 64 : Nat) : Int)).toNat = 2 ^ 8 * a := e1
  have e2' : ((b : Int) % ((2 ^ 64 : Nat) : Int)).toNat = b := e2
  rw [e1', e2', ← hor, wu64 (by omega) (by omega)]
  omega
theorem value_ct [Tabs] (l : List Int) (hl : l.length ≤ 8) (hb : Byt l) : CtT Tryd.prog 64 [.sl 1 (bys l)] (Ret (.int .u64 (val l)) []) := by
  refine Ct.of Tryd.func64 rfl rfl (n := 19) rfl (by simp [ids]) ?_
  refine ⟨Nat, fun i => [(3, .int .u64 (val (l.take i))), (6, .t (.sl 1 (bys l))), (7, .int .i64 l.length), (8, .int .i64 i)], fun _ => [], fun i => i ≤ l.length, fun i => l.length - i, 0, by simp, Le.of [] ⟨rfl, rfl, by rw [← bys_len l]; rfl, rfl, trivial⟩ trivial rfl, ?_⟩
  rintro i h1
  refine brB (fun hc => ?_) (fun hc => ?_)
  · have hc : i < l.length := by have := of_decide_eq_true hc; omega
    have hx : l[i]? = some l[i] := List.getElem?_eq_getElem hc
    have htk : l.take (i + 1) = l.take i ++ [l[i]] := by rw [List.take_add_one, hx]; rfl
    have hxb := hb l[i] (List.getElem_mem hc)
    generalize l[i] = x at hx htk hxb
    refine ⟨by omega, _, bys_get rfl hx, ?_⟩
    have hv := val_lt (l := l.take i) (by simp; omega) (fun y hy => hb y (List.mem_of_mem_take hy))
    have hv' := val_lt (l := l.take (i + 1)) (by simp; omega) (fun y hy => hb y (List.mem_of_mem_take hy))
    rw [htk, val_snoc] at hv'
    refine ⟨by decide, i + 1, hc, Le.of [] ⟨congrArg (AV.int .u64) ?_, rfl, rfl, congrArg (AV.int .i64) (wi (by omega) (by omega)), trivial⟩ trivial rfl, by show l.length - (i + 1) < l.length - i; omega⟩
    rw [htk, val_snoc]
    exact or_byte hv.1 hxb.1 hxb.2 hv'.2
  · have hc : i = l.length := by have := of_decide_eq_false hc; omega
    subst hc
    refine ⟨[], _, _, ⟨rfl, rfl⟩, congrArg (AV.int .u64) (by simp), trivial, rfl⟩
theorem Get_ct [Tabs] (l : List Int) (hl : l.length = 8) (hb : Byt l) : CtT Tryd.prog 53 [.sl 1 (bys l)] (Ret (.tuple [.int .u64 (val l), .int .i64 0]) []) := by
  refine Ct.of Tryd.func53 rfl rfl (n := 9) rfl (by simp [ids]) ?_
  refine brB (fun hc => ?_) (fun hc => ?_)
  · have hc : ¬ (((bys l).length : Int) = 8) := by simpa using hc
    rw [bys_len, hl] at hc
    exact absurd rfl hc
  · refine Told.callT (value_ct l (by omega) hb) rfl rfl rfl rfl ?_
    exact ⟨[], _, _, ⟨rfl, rfl⟩, rfl, trivial, rfl⟩
def quad (x : Int) : List Int := [x / 2 ^ 24 % 256, x / 2 ^ 16 % 256, x / 2 ^ 8 % 256, x % 256]
theorem quad_len (x : Int) : (quad x).length = 4 := rfl
theorem quads_len (l : List Int) : (l.flatMap quad).length = 4 * l.length := by
  induction l with
  | nil => rfl
  | cons x l ih => simp [ih, quad_len]; omega
theorem wu8 (x : Int) : IntKind.u8.wrap x = x % 256 := by
  simp [IntKind.wrap, IntKind.signed, IntKind.bits]
theorem shr32 {x : Int} (k : Int) (j : Nat) (hk : min k.toNat 32 = j) : x.fdiv (2 ^ (min k.toNat IntKind.u32.bits)) = x / 2 ^ j := by
  rw [show min k.toNat IntKind.u32.bits = j from hk, Int.fdiv_eq_ediv_of_nonneg _ (by exact Int.le_of_lt (Int.pow_pos (by decide)))]
theorem Bytes_ct [Tabs] (l : List Int) (hl : l.length < 1000) : CtT Tryd.prog 54 [.sl 1 (l.map (T.int .u32))] (Ret (.t (.sl 1 (bys (l.flatMap quad)))) []) := by
  refine CtT.ofN Tryd.func54 rfl rfl (n := 28) rfl ?_
  have hlen : (l.map (T.int .u32)).length = l.length := by simp
  refine ⟨Nat, fun i => [(3, .own 9), (6, .t (.sl 1 (l.map (T.int .u32)))), (7, .int .i64 l.length), (8, .int .i64 i)], fun i => [(9, false, .row 5 1 (bys ((l.take i).flatMap quad)))], fun i => i ≤ l.length, fun i => l.length - i, 0, Nat.zero_le _, Le.trans (Le.nil 3 9 5 1 rfl rfl) (Le.of [] ⟨rfl, rfl, by rw [← hlen]; rfl, rfl, trivial⟩ ⟨rfl, trivial⟩ rfl), ?_⟩
  intro i hi
  refine brB (fun hc => ?_) (fun hc => ?_)
  · have hc : i < l.length := by have := of_decide_eq_true hc; omega
    have hx : l[i]? = some l[i] := List.getElem?_eq_getElem hc
    have htk : l.take (i + 1) = l.take i ++ [l[i]] := by rw [List.take_add_one, hx]; rfl
    generalize l[i] = x at hx htk
    refine ⟨by omega, _, (show (l.map (T.int .u32))[((i : Int)).toNat]? = some (T.int .u32 x) by simp [hx]), ?_⟩
    refine ⟨by decide, by decide, by decide, by show _ * 1 ≤ _; have := quads_len (l.take i); simp [bys] at *; omega, ?_⟩
    refine ⟨i + 1, hc, Le.of [(9, 25)] ⟨rfl, rfl, rfl, congrArg (AV.int .i64) (wi (by omega) (by omega)), trivial⟩ ⟨congrArg (fun x => (false, Blk.row 5 1 x)) ?_, trivial⟩ rfl, by show l.length - (i + 1) < l.length - i; omega⟩
    rw [htk, List.flatMap_append]
    have e : quad x = [IntKind.u8.wrap (x.fdiv (2 ^ min (Int.toNat 24) IntKind.u32.bits)), IntKind.u8.wrap (x.fdiv (2 ^ min (Int.toNat 16) IntKind.u32.bits)), IntKind.u8.wrap (x.fdiv (2 ^ min (Int.toNat 8) IntKind.u32.bits)), IntKind.u8.wrap x] := by
      rw [shr32 24 24 (by decide), shr32 16 16 (by decide), shr32 8 8 (by decide), wu8, wu8, wu8, wu8]; rfl
    simp [bys, e]
  · have hc : i = l.length := by have := of_decide_eq_false hc; omega
    subst hc
    refine ⟨_, rfl, ?_⟩
    rw [List.take_length]
    exact .refl _
def oct (v : Int) : List Int := quad (v / 2 ^ 32) ++ quad (v % 2 ^ 32)
theorem oct_len (v : Int) : (oct v).length = 8 := rfl
theorem wu32 (x : Int) : IntKind.u32.wrap x = x % 2 ^ 32 := by
  simp [IntKind.wrap, IntKind.signed, IntKind.bits]
theorem Put_word [Tabs] {v : Int} (h0 : 0 ≤ v) (h1 : v < 2 ^ 64) : CtT Tryd.prog 35 [.int .u64 v] (Ret (.t (.sl 1 (bys (oct v)))) []) := by
  refine CtT.ofN Tryd.func35 rfl rfl (n := 10) rfl ?_
  refine ⟨by decide, ?_⟩
  refine Told.callT (Bytes_ct [IntKind.u32.wrap (v.fdiv (2 ^ min (Int.toNat 32) IntKind.u64.bits)), IntKind.u32.wrap v] (by simp)) rfl rfl rfl rfl ?_
  refine ⟨_, rfl, ?_⟩
  have e1 : IntKind.u32.wrap (v.fdiv (2 ^ min (Int.toNat 32) IntKind.u64.bits)) = v / 2 ^ 32 := by
    rw [show min (Int.toNat 32) IntKind.u64.bits = 32 by decide, Int.fdiv_eq_ediv_of_nonneg _ (by decide), wu32]
    omega
  rw [e1, wu32]
  have e2 : [v / 2 ^ 32, v % 2 ^ 32].flatMap quad = oct v := by simp [oct]
  rw [e2]
  exact .refl _
def U64 (x : Int) : Prop := 0 ≤ x ∧ x < 2 ^ 64
theorem bys_take (l : List Int) (n : Nat) : bys (l.take n) = (bys l).take n := by simp [bys]
theorem bys_drop (l : List Int) (n : Nat) : bys (l.drop n) = (bys l).drop n := by simp [bys]
theorem bys_append (l m : List Int) : bys (l ++ m) = bys l ++ bys m := by simp [bys]
theorem Byt.take {l : List Int} (h : Byt l) (n : Nat) : Byt (l.take n) := fun x hx => h x (List.mem_of_mem_take hx)
theorem Byt.drop {l : List Int} (h : Byt l) (n : Nat) : Byt (l.drop n) := fun x hx => h x (List.mem_of_mem_drop hx)
theorem Byt.append {l m : List Int} (h : Byt l) (h' : Byt m) : Byt (l ++ m) := fun x hx => (List.mem_append.1 hx).elim (h x) (h' x)
theorem val_oct {v : Int} (h : U64 v) : val (oct v) = v := by
  obtain ⟨h0, h1⟩ := h
  simp only [val, oct, quad, List.cons_append, List.nil_append, List.foldl_cons, List.foldl_nil]
  omega
theorem oct_val {l : List Int} (hl : l.length = 8) (hb : Byt l) : oct (val l) = l := by
  match l, hl with
  | [a, b, c, d, e, f, g, h], _ =>
    have ha := hb a (by simp); have hb' := hb b (by simp); have hc := hb c (by simp); have hd := hb d (by simp)
    have he := hb e (by simp); have hf := hb f (by simp); have hg := hb g (by simp); have hh := hb h (by simp)
    clear hb
    have e1 : val [a, b, c, d, e, f, g, h] = (((a * 256 + b) * 256 + c) * 256 + d) * 2 ^ 32 + (((e * 256 + f) * 256 + g) * 256 + h) := by
      simp only [val, List.foldl_cons, List.foldl_nil]; omega
    have e2 : ((((a * 256 + b) * 256 + c) * 256 + d) * 2 ^ 32 + (((e * 256 + f) * 256 + g) * 256 + h)) / 2 ^ 32 = ((a * 256 + b) * 256 + c) * 256 + d := by omega
    have e3 : ((((a * 256 + b) * 256 + c) * 256 + d) * 2 ^ 32 + (((e * 256 + f) * 256 + g) * 256 + h)) % 2 ^ 32 = ((e * 256 + f) * 256 + g) * 256 + h := by omega
    rw [e1, oct, e2, e3]
    simp only [quad, List.cons_append, List.nil_append, List.cons.injEq, and_true]
    omega
theorem quad_byt (x : Int) : Byt (quad x) := by
  intro y hy
  simp [quad] at hy
  omega
theorem oct_byt [Tabs] (v : Int) : Byt (oct v) := by
  intro y hy
  rw [oct, List.mem_append] at hy
  exact hy.elim (quad_byt _ y) (quad_byt _ y)
theorem val_u64 [Tabs] {l : List Int} (hl : l.length ≤ 8) (hb : Byt l) : U64 (val l) := val_lt hl hb
end
end Go.Proofs.YtonihdgidhflnaaDoorX
namespace Go.Proofs.YtonihdgidhflnaaDoorX
section
open Go Go.YtonihdgidhflnaaDoorE Go.Proofs
set_option maxRecDepth 100000
set_option autoImplicit false
def I64 (x : Int) : Prop := -9223372036854775808 ≤ x ∧ x < 9223372036854775808
@[reducible] def byss (L : List (List Int)) : List T := L.map fun l => .sl 1 (bys l)
theorem byss_len (L : List (List Int)) : (byss L).length = L.length := by simp [byss]
theorem byss_get {L : List (List Int)} {n : Int} {i : Nat} {x : List Int} (hn : n = i) (h : L[i]? = some x) : (byss L)[n.toNat]? = some (.sl 1 (bys x)) := by
  subst hn; simp [byss, h]
theorem CloneB_ct [Tabs] (l : List Int) (hl : l.length < 100000000) : CtT Tryd.prog 34 [.sl 1 (bys l)] (Ret (.t (.sl 1 (bys l))) []) := by
  refine CtT.ofN Tryd.func34 rfl rfl (n := 8) rfl ?_
  refine ⟨fun hn => ?_, fun _ => ?_⟩
  · have e : bys l = [] := hn
    refine ⟨_, rfl, ?_⟩
    rw [e]; repeat constructor
  · exact ⟨by show (_ + _) * 1 ≤ _; simp; omega, _, rfl, .refl _⟩
theorem GrowB_ct [Tabs] (n : Nat) (hn : n < 1000000000) : CtT Tryd.prog 51 [.v (.slice none 0 0), .int .i64 n] (Ret (.own 0) [(0, false, .row 5 1 [])]) := by
  refine Ct.ofL Tryd.func51 rfl rfl (n := 27) rfl (by simp [ids]) (by simp) ?_
  have w0 : IntKind.i64.wrap ((n : Int) - IntKind.i64.wrap (((0 : Nat) : Int) - ((0 : Nat) : Int))) = n := by rw [wi (n := ((0 : Nat) : Int) - ((0 : Nat) : Int)) (by omega) (by omega)]; exact (wi (by omega) (by omega)).trans (by omega)
  refine brB (fun h => ?_) (fun h => ?_)
  · have h : 0 < n := by have := of_decide_eq_true h; rw [w0] at this; omega
    refine ⟨rfl, rfl, n, w0.symm, trivial, by simp; omega, by show _ * 1 ≤ _; simp; omega, ?_⟩
    refine ⟨0, 0, rfl, rfl, by decide, by decide, by simp, ?_⟩
    exact ⟨_, _, Le.cut 4 22 50 5 1 0 _ rfl rfl (Nat.zero_le _) rfl, [(0, 50)], _, _, ⟨rfl, rfl⟩, rfl, ⟨rfl, trivial⟩, rfl⟩
  · have h : n = 0 := by have := of_decide_eq_false h; rw [w0] at this; omega
    exact ⟨_, _, Le.nil 4 50 5 1 rfl rfl, [(0, 50)], _, _, ⟨rfl, rfl⟩, rfl, ⟨rfl, trivial⟩, rfl⟩
theorem ConcatB_ct [Tabs] (L : List (List Int)) (hL : L.length < 1000) (hl : L.flatten.length < 1000000000) : CtT Tryd.prog 30 [.sl 1 (byss L)] (Ret (.t (.sl 1 (bys L.flatten))) []) := by
  refine CtT.ofN Tryd.func30 rfl rfl (n := 36) rfl ?_
  have hsub : ∀ i, ((L.take i).flatten).length ≤ L.flatten.length := fun i => by
    conv => rhs; rw [← List.take_append_drop i L, List.flatten_append, List.length_append]
    omega
  refine ⟨Nat, fun i => [(0, .t (.sl 1 (byss L))), (3, .int .i64 ((L.take i).flatten.length : Nat)), (9, .t (.sl 1 (byss L))), (10, .int .i64 L.length), (11, .int .i64 i)], fun _ => [], fun i => i ≤ L.length, fun i => L.length - i, 0, Nat.zero_le _,
    Le.of [] ⟨rfl, rfl, rfl, by rw [← byss_len L]; rfl, rfl, trivial⟩ trivial rfl, ?_⟩
  intro i hi
  refine brB (fun hc => ?_) (fun hc => ?_)
  · have hc : i < L.length := by have := of_decide_eq_true hc; omega
    have hx : L[i]? = some L[i] := List.getElem?_eq_getElem hc
    have hs : (L.take (i + 1)).flatten = (L.take i).flatten ++ L[i] := by rw [List.take_add_one, hx, List.flatten_append]; simp
    have hb := hsub (i + 1)
    rw [hs, List.length_append] at hb
    generalize L[i] = x at hx hs hb
    refine ⟨by omega, _, byss_get rfl hx, ?_⟩
    have w1 : IntKind.i64.wrap (((L.take i).flatten.length : Nat) + ((bys x).length : Int)) = (((L.take (i + 1)).flatten.length : Nat) : Int) := by
      rw [bys_len, wi (by omega) (by omega), hs, List.length_append]; omega
    refine brF (decide_eq_false (by rw [w1]; omega)) ?_
    exact ⟨i + 1, hc, Le.of [] ⟨rfl, congrArg (AV.int .i64) w1, rfl, rfl, congrArg (AV.int .i64) (wi (by omega) (by omega)), trivial⟩ trivial rfl, by show L.length - (i + 1) < L.length - i; omega⟩
  · have hc : i = L.length := by have := of_decide_eq_false hc; omega
    subst hc
    have kg := GrowB_ct (L.take L.length).flatten.length (by have := hsub L.length; omega)
    refine Told.callT kg rfl rfl rfl rfl ?_
    refine ⟨Nat, fun i => [(6, .own 6), (25, .t (.sl 1 (byss L))), (26, .int .i64 L.length), (27, .int .i64 i)], fun i => [(6, false, .row 5 1 (bys (L.take i).flatten))], fun i => i ≤ L.length, fun i => L.length - i, 0, Nat.zero_le _,
      Le.of [(6, 24)] ⟨rfl, rfl, by rw [← byss_len L]; rfl, rfl, trivial⟩ ⟨rfl, trivial⟩ rfl, ?_⟩
    intro i hi
    refine brB (fun hc => ?_) (fun hc => ?_)
    · have hc : i < L.length := by have := of_decide_eq_true hc; omega
      have hx : L[i]? = some L[i] := List.getElem?_eq_getElem hc
      have hs : (L.take (i + 1)).flatten = (L.take i).flatten ++ L[i] := by rw [List.take_add_one, hx, List.flatten_append]; simp
      have hb := hsub (i + 1)
      rw [hs, List.length_append] at hb
      generalize L[i] = x at hx hs hb
      refine ⟨by omega, _, byss_get rfl hx, ?_⟩
      refine ⟨by show _ * 1 ≤ _; rw [bys_len, bys_len]; omega, i + 1, hc, Le.of [(6, 33)] ⟨rfl, rfl, rfl, congrArg (AV.int .i64) (wi (by omega) (by omega)), trivial⟩ ⟨congrArg (fun x => (false, Blk.row 5 1 x)) ?_, trivial⟩ rfl, by show L.length - (i + 1) < L.length - i; omega⟩
      rw [hs, bys_append]
    · have hc : i = L.length := by have := of_decide_eq_false hc; omega
      subst hc
      refine ⟨_, rfl, ?_⟩
      rw [List.take_length]
      exact .refl _
end
end Go.Proofs.YtonihdgidhflnaaDoorX
namespace Go.Proofs.YtonihdgidhflnaaDoorX
section
open Go Go.YtonihdgidhflnaaDoorE Go.Proofs
set_option maxRecDepth 100000
set_option autoImplicit false
structure Term where
  key : List Int
  msg : List Int
  deriving DecidableEq
@[reducible] def Term.T (x : Term) : T := .agg [.sl 1 (bys x.key), .sl 1 (bys x.msg)]
structure Term.Wf (x : Term) : Prop where
  key : Byt x.key
  msg : Byt x.msg
abbrev Term.box (x : Term) : Blk := .box 41 [.t (.sl 1 (bys x.key)), .t (.sl 1 (bys x.msg))]
theorem Term.row_len (l : List Term) : (l.map Term.T).length = l.length := by simp
theorem Term.row_get {l : List Term} {n : Int} {i : Nat} {x : Term} (hn : n = i) (h : l[i]? = some x) : (l.map Term.T)[n.toNat]? = some x.T := by subst hn; simp [h]
structure Engine where
  kind : Int
  terms : List Term
  deriving DecidableEq
@[reducible] def Engine.T (x : Engine) : T := .agg [.int .i64 x.kind, .sl 2 (x.terms.map Term.T)]
structure Engine.Wf (x : Engine) : Prop where
  kind : I64 x.kind
  terms : ∀ y ∈ x.terms, y.Wf
abbrev Engine.box (x : Engine) : Blk := .box 29 [.int .i64 x.kind, .t (.sl 2 (x.terms.map Term.T))]
theorem Engine.row_len (l : List Engine) : (l.map Engine.T).length = l.length := by simp
theorem Engine.row_get {l : List Engine} {n : Int} {i : Nat} {x : Engine} (hn : n = i) (h : l[i]? = some x) : (l.map Engine.T)[n.toNat]? = some x.T := by subst hn; simp [h]
theorem laid_prog : laidOutB Tryd.prog = true := by kernel_rfl
theorem pair_law [Tabs] : WideMaps.KeyLaw Tryd.prog 152 := deep_law_laid laid_prog (m := 2) (by omega) (of_decide_eq_true (by kernel_rfl)) (by kernel_rfl) (by rw [Tryd.underlying152])
theorem pair_key (a b : ByteArray) (ha : a.size ≤ maxLen) (hb : b.size ≤ maxLen) : ∃ l, keyOf Tryd.prog 152 (.agg #[.string a, .string b]) = some l := by
  have h1 : Tryd.prog.keyType 152 = true := by kernel_rfl
  have h2 : (Value.agg #[.string a, .string b]).formed Tryd.prog 152 = true := by kernel_rfl
  have h3 : Tryd.prog.cellsOf 152 = 2 := by kernel_rfl
  have h4 : Tryd.prog.cellsOf 9 = 1 := by kernel_rfl
  obtain ⟨d, hd⟩ : ∃ d, Tryd.prog.types.size + 1 = d + 1 + 1 := ⟨Tryd.prog.types.size - 1, by have : 0 < Tryd.prog.types.size := of_decide_eq_true (by kernel_rfl); omega⟩
  have h5 : ∀ s : ByteArray, s.size ≤ maxLen → Tryd.prog.keyLits (d + 1) 9 [.string s] = some [.string s.data.toList] := fun s hs => by
    unfold Program.keyLits
    rw [Tryd.underlying9]
    simp only [if_pos hs]
  have h6 : Tryd.prog.keyLits (d + 1 + 1) 152 [.string a, .string b] = some [.string a.data.toList, .string b.data.toList] := by
    unfold Program.keyLits
    rw [Tryd.underlying152]
    simp [h3, h4, List.range_succ, h5 a ha, h5 b hb]
  unfold keyOf
  rw [Tryd.underlying152]
  simp only [h1, h2, Bool.and_self, if_true]
  rw [hd, show (Value.agg #[Value.string a, Value.string b]).cells.toList = [.string a, .string b] from rfl, h6]
  exact ⟨_, rfl⟩
def Term.pair (t : Term) : Value := .agg #[.string (strOf t.key), .string (strOf t.msg)]
structure Term.Sm (t : Term) : Prop where
  k : t.key.length < 1000000
  m : t.msg.length < 1000000
theorem strOf_inj [Tabs] {xs ys : List Int} (hx : Byt xs) (hy : Byt ys) (h : strOf xs = strOf ys) : xs = ys :=
  (strOf_eq (fun x h => by have := hx x h; omega) (fun y h => by have := hy y h; omega)).1 (by rw [h])
theorem strOf_size [Tabs] (xs : List Int) : (strOf xs).size = xs.length := by
  show (strOf xs).data.size = _
  rw [← Array.length_toList, strOf_data, List.length_map]
theorem Term.pair_inj [Tabs] {t u : Term} (ht : t.Wf) (hu : u.Wf) (h : t.pair = u.pair) : t = u := by
  unfold Term.pair at h
  simp only [Value.agg.injEq, Array.mk.injEq, List.cons.injEq, Value.string.injEq, and_true] at h
  obtain ⟨a, b⟩ := t; obtain ⟨c, d⟩ := u
  have h1 : a = c := strOf_inj ht.key hu.key h.1
  have h2 : b = d := strOf_inj ht.msg hu.msg h.2
  rw [h1, h2]
theorem TRight_ct [Tabs] (l : List Term) (hl : l.length < 1000000) (hw : ∀ t ∈ l, t.Wf) (hs : ∀ t ∈ l, t.Sm) : CtT Tryd.prog 59 [.sl 2 (l.map Term.T)] (Ret (.bool (decide l.Nodup)) []) := by
  refine Ct.of Tryd.func59 rfl rfl (n := 27) rfl (by simp [ids]) ?_
  refine Told.makeMap rfl rfl ?_
  refine ⟨Nat, fun i => [(3, .own 7), (8, .t (.sl 2 (l.map Term.T))), (9, .int .i64 l.length), (10, .int .i64 i)], fun i => [(7, false, .set ((l.take i).map Term.pair))], fun i => i ≤ l.length ∧ (l.take i).Nodup, fun i => l.length - i, 0, ⟨Nat.zero_le _, by simp⟩,
    Le.of [] ⟨rfl, rfl, by rw [← Term.row_len l]; rfl, rfl, trivial⟩ ⟨rfl, trivial⟩ rfl, ?_⟩
  rintro i ⟨hi, hn⟩
  refine brB (fun hc => ?_) (fun hc => ?_)
  · have hc : i < l.length := by have := of_decide_eq_true hc; omega
    have hx : l[i]? = some l[i] := List.getElem?_eq_getElem hc
    have htk : l.take (i + 1) = l.take i ++ [l[i]] := by rw [List.take_add_one, hx]; rfl
    have hm := List.getElem_mem hc
    generalize l[i] = t at hx htk hm
    have kt : ∃ q, keyOf Tryd.prog 152 (.agg #[.string (strOf t.key), .string (strOf t.msg)]) = some q := by
      have := hs t hm
      have hmx : maxLen = 9223372036854775807 := rfl
      exact pair_key _ _ (by rw [strOf_size]; have := this.k; omega) (by rw [strOf_size]; have := this.m; omega)
    have ks : ∀ y ∈ (l.take i).map Term.pair, ∃ q, keyOf Tryd.prog 152 y = some q := by
      intro y hy
      obtain ⟨u, hu, rfl⟩ := List.mem_map.1 hy
      have hu := List.mem_of_mem_take hu
      have := hs u hu
      have hmx : maxLen = 9223372036854775807 := rfl
      exact pair_key _ _ (by rw [strOf_size]; have := this.k; omega) (by rw [strOf_size]; have := this.m; omega)
    have hin : t.pair ∈ (l.take i).map Term.pair ↔ t ∈ l.take i := by
      refine ⟨fun h => ?_, fun h => List.mem_map.2 ⟨t, h, rfl⟩⟩
      obtain ⟨u, hu, e⟩ := List.mem_map.1 h
      rwa [← Term.pair_inj (hw u (List.mem_of_mem_take hu)) (hw t hm) e]
    refine ⟨by omega, _, Term.row_get rfl hx, ?_⟩
    refine ⟨_, rfl, _, rfl, ?_⟩
    refine Told.lookup rfl rfl rfl rfl Tryd.underlying151 pair_law (fun w => by kernel_rfl) kt ks fun c hc2 => ?_
    refine brB (fun h => ?_) (fun h => ?_)
    · refine ⟨[], _, _, ⟨rfl, rfl⟩, congrArg AV.bool (decide_eq_false fun hnd => ?_).symm, trivial, rfl⟩
      have h1 := hin.1 (hc2.1 h)
      have h2 : (l.take (i + 1)).Nodup := hnd.sublist (List.take_sublist _ _)
      rw [htk, List.nodup_append] at h2
      exact h2.2.2 t h1 t (by simp) rfl
    · have hni : t ∉ l.take i := fun h1 => by rw [hc2.2 (hin.2 h1)] at h; cases h
      refine Told.mapUpdate rfl rfl rfl rfl rfl Tryd.underlying151 pair_law kt ks (fun h1 => hni (hin.1 h1)) ?_
      refine ⟨i + 1, ⟨hc, ?_⟩, Le.of [] ⟨rfl, rfl, rfl, congrArg (AV.int .i64) (wi (by omega) (by omega)), trivial⟩ ⟨congrArg (fun x => (false, Blk.set x)) ?_, trivial⟩ rfl, by show l.length - (i + 1) < l.length - i; omega⟩
      · rw [htk, List.nodup_append]
        exact ⟨hn, by simp, fun a ha b hb => by rw [List.mem_singleton.1 hb]; rintro rfl; exact hni ha⟩
      · rw [htk]; simp [Term.pair]
  · have hc : i = l.length := by have := of_decide_eq_false hc; omega
    subst hc
    rw [List.take_length] at hn
    exact ⟨[], _, _, ⟨rfl, rfl⟩, congrArg AV.bool (decide_eq_true hn).symm, trivial, rfl⟩
end
end Go.Proofs.YtonihdgidhflnaaDoorX
namespace Go.Proofs.YtonihdgidhflnaaDoorX
section
open Go Go.YtonihdgidhflnaaDoorE Go.Proofs
set_option maxRecDepth 100000
set_option autoImplicit false
theorem BEqual_ct [Tabs] (a b : List Int) (ha : Byt a) (hb : Byt b) : CtT Tryd.prog 116 [.sl 1 (bys a), .sl 1 (bys b)] (Ret (.bool (decide (a = b))) []) := by
  refine Ct.of Tryd.func116 rfl rfl (n := 10) rfl (by simp [ids]) ?_
  refine ⟨_, rfl, _, rfl, fun c hc => ?_⟩
  refine ⟨[], _, _, ⟨rfl, rfl⟩, congrArg AV.bool ?_, trivial, rfl⟩
  rw [hc, decide_eq_decide]
  exact strOf_eq (fun x h => by have := ha x h; omega) (fun y h => by have := hb y h; omega)
theorem term_eq {t : Term} {k m : List Int} : t = ⟨k, m⟩ ↔ t.key = k ∧ t.msg = m := by
  obtain ⟨a, b⟩ := t; simp
theorem PlaceF_ct [Tabs] (t : Term) (k m : List Int) (ht : t.Wf) (hk : Byt k) (hm : Byt m) : CtT Tryd.prog 115 [t.T, .pt [.sl 1 (bys k)], .pt [.sl 1 (bys m)]] (Ret (.bool (decide (t = ⟨k, m⟩))) []) := by
  refine Ct.of Tryd.func115 rfl rfl (n := 15) rfl (by simp [ids]) ?_
  refine Told.callT (BEqual_ct t.key k ht.key hk) rfl rfl rfl rfl ?_
  refine brB (fun h => ?_) (fun h => ?_)
  · refine Told.callT (BEqual_ct t.msg m ht.msg hm) rfl rfl rfl rfl ?_
    refine ⟨[], _, _, ⟨rfl, rfl⟩, congrArg AV.bool ?_, trivial, rfl⟩
    rw [decide_eq_decide, term_eq]
    exact ⟨fun h2 => ⟨of_decide_eq_true h, h2⟩, fun h2 => h2.2⟩
  · exact ⟨[], _, _, ⟨rfl, rfl⟩, congrArg AV.bool (decide_eq_false fun h2 => of_decide_eq_false h (term_eq.1 h2).1).symm, trivial, rfl⟩
theorem Term_IndexFunc [Tabs] (l : List Term) (f : FuncId) (c1 c2 : T) (p : Term → Bool) (hl : l.length < 1000000) (hp : ∀ x ∈ l, CtT Tryd.prog f [x.T, c1, c2] (Ret (.bool (p x)) [])) (n : Int) (hn : n = (l.findIdx? p).elim (-1 : Int) fun i => (i : Int)) :
    CtT Tryd.prog 114 [.sl 2 (l.map Term.T), .fn (.func f) [] [c1, c2]] (Ret (.int .i64 n) []) := by
  refine Ct.of Tryd.func114 rfl rfl (n := 19) rfl (by simp [ids]) ?_
  refine ⟨Nat, fun i => [(0, .t (.sl 2 (l.map Term.T))), (1, .t (.fn (.func f) [] [c1, c2])), (7, .int .i64 l.length), (8, .int .i64 i)], fun _ => [], fun i => i ≤ l.length ∧ ∀ j, j < i → ∀ x, l[j]? = some x → p x = false, fun i => l.length - i, 0, ⟨Nat.zero_le _, fun j h => absurd h (by omega)⟩,
    Le.of [] ⟨rfl, rfl, by rw [← Term.row_len l]; rfl, rfl, trivial⟩ trivial rfl, ?_⟩
  rintro i ⟨hi, hbef⟩
  refine brB (fun hc => ?_) (fun hc => ?_)
  · have hc : i < l.length := by have := of_decide_eq_true hc; omega
    have hx : l[i]? = some l[i] := List.getElem?_eq_getElem hc
    have hpx := hp l[i] (List.getElem_mem hc)
    generalize hy : l[i] = x at hx hpx
    refine ⟨by omega, _, Term.row_get rfl hx, ?_⟩
    refine Told.callT hpx rfl rfl rfl rfl ?_
    cases hb : p x with
    | true =>
      refine ⟨[], _, _, ⟨rfl, rfl⟩, congrArg (AV.int .i64) ?_, trivial, rfl⟩
      have : l.findIdx? p = some i := by
        rw [List.findIdx?_eq_some_iff_getElem]
        exact ⟨hc, by rw [hy]; exact hb, fun j hj => by rw [Bool.not_eq_true]; exact hbef j hj _ (List.getElem?_eq_getElem (by omega))⟩
      rw [hn, this]; rfl
    | false =>
      refine ⟨i + 1, ⟨hc, fun j hj y hy2 => ?_⟩, Le.of [] ⟨rfl, rfl, rfl, congrArg (AV.int .i64) (wi (by omega) (by omega)), trivial⟩ trivial rfl, by show l.length - (i + 1) < l.length - i; omega⟩
      by_cases e : j = i
      · subst e; rw [hx] at hy2; cases hy2; exact hb
      · exact hbef j (by omega) y hy2
  · have hc : i = l.length := by have := of_decide_eq_false hc; omega
    subst hc
    refine ⟨[], _, _, ⟨rfl, rfl⟩, congrArg (AV.int .i64) ?_, trivial, rfl⟩
    have : l.findIdx? p = none := by
      rw [List.findIdx?_eq_none_iff]
      intro x hx
      obtain ⟨j, hj, rfl⟩ := List.mem_iff_getElem.1 hx
      exact hbef j hj _ (List.getElem?_eq_getElem hj)
    rw [hn, this]; rfl
theorem Term_Clone [Tabs] (l : List Term) (hl : l.length < 1000000) : CtT Tryd.prog 117 [.sl 2 (l.map Term.T)] (Ret (.own 0) [(0, false, .row 41 2 (l.map Term.T))]) := by
  refine Ct.ofL Tryd.func117 rfl rfl (n := 8) rfl (by simp [ids]) (by simp) ?_
  refine ⟨fun hn => ?_, fun _ => ?_⟩
  · refine ⟨_, _, Le.nil 2 50 41 2 rfl rfl, ?_⟩
    refine ⟨[(0, 50)], _, _, ⟨rfl, rfl⟩, rfl, ⟨?_, trivial⟩, rfl⟩
    rw [hn]; rfl
  · refine ⟨by show (_ + _) * 48 ≤ _; simp; omega, _, _, Le.refl _ _ _, ?_⟩
    exact ⟨[(0, 7)], _, _, ⟨rfl, rfl⟩, rfl, ⟨rfl, trivial⟩, rfl⟩
theorem Term_CloneT [Tabs] (l : List Term) (hl : l.length < 1000000) : CtT Tryd.prog 117 [.sl 2 (l.map Term.T)] (Ret (.t (.sl 2 (l.map Term.T))) []) := by
  refine CtT.ofN Tryd.func117 rfl rfl (n := 8) rfl ?_
  refine ⟨fun hn => ?_, fun _ => ?_⟩
  · have e : l.map Term.T = [] := hn
    refine ⟨_, rfl, ?_⟩
    rw [e]; repeat constructor
  · exact ⟨by show (_ + _) * 48 ≤ _; simp; omega, _, rfl, .refl _⟩
end
end Go.Proofs.YtonihdgidhflnaaDoorX
namespace Go.Proofs.YtonihdgidhflnaaDoorX
section
open Go Go.YtonihdgidhflnaaDoorE Go.Proofs
set_option maxRecDepth 100000
set_option autoImplicit false
def atT (l : List Term) (k m : List Int) : Option Nat := l.findIdx? fun t => decide (t = ⟨k, m⟩)
theorem atT_some {l : List Term} {k m : List Int} {i : Nat} (h : atT l k m = some i) : i < l.length ∧ l[i]? = some ⟨k, m⟩ ∧ ∀ j, j < i → l[j]? ≠ some ⟨k, m⟩ := by
  unfold atT at h
  rw [List.findIdx?_eq_some_iff_getElem] at h
  obtain ⟨h1, h2, h3⟩ := h
  refine ⟨h1, by rw [List.getElem?_eq_getElem h1, of_decide_eq_true h2], fun j hj e => ?_⟩
  rw [List.getElem?_eq_getElem (by omega)] at e
  have := h3 j hj
  simp [Option.some.inj e] at this
theorem atT_none {l : List Term} {k m : List Int} : atT l k m = none ↔ (⟨k, m⟩ : Term) ∉ l := by
  unfold atT
  rw [List.findIdx?_eq_none_iff]
  refine ⟨fun h hm => by simpa using h _ hm, fun h x hx => by
    rw [decide_eq_false_iff_not]; rintro rfl; exact h hx⟩
def placeT (l : List Term) (k m : List Int) : Int := (atT l k m).elim (-1) fun i => (i : Int)
theorem Place_ct [Tabs] (l : List Term) (k m : List Int) (hl : l.length < 1000000) (hw : ∀ t ∈ l, t.Wf) (hk : Byt k) (hm : Byt m) : CtT Tryd.prog 112 [.sl 2 (l.map Term.T), .sl 1 (bys k), .sl 1 (bys m)] (Ret (.int .i64 (placeT l k m)) []) := by
  refine Ct.of Tryd.func112 rfl rfl (n := 10) rfl (by simp [ids]) ?_
  refine Told.callT (Term_IndexFunc l 115 (.pt [.sl 1 (bys k)]) (.pt [.sl 1 (bys m)]) (fun t => decide (t = ⟨k, m⟩)) hl (fun t ht => PlaceF_ct t k m (hw t ht) hk hm) _ rfl) rfl rfl rfl rfl ?_
  exact ⟨[], _, _, ⟨rfl, rfl⟩, rfl, trivial, rfl⟩
theorem own_ct [Tabs] (t : Term) (h : t.Sm) : CtT Tryd.prog 118 [t.T] (Ret (.t t.T) []) := by
  refine CtT.ofN Tryd.func118 rfl rfl (n := 10) rfl ?_
  refine Told.callT (CloneB_ct t.key (by have := h.k; omega)) rfl rfl rfl rfl ?_
  refine Told.callT (CloneB_ct t.msg (by have := h.m; omega)) rfl rfl rfl rfl ?_
  exact ⟨_, rfl, .refl _⟩
def putT (l : List Term) (k m : List Int) : List Term × List Int := (atT l k m).elim (l ++ [⟨k, m⟩], oct ((l.length : Int) + 1)) fun i => (l, oct ((i : Int) + 1))
theorem TPut_ct [Tabs] (l : List Term) (k m : List Int) (hl : l.length < 100000) (hw : ∀ t ∈ l, t.Wf) (hk : Byt k) (hm : Byt m) (hs : Term.Sm ⟨k, m⟩) :
    CtT Tryd.prog 113 [.sl 2 (l.map Term.T), .sl 1 (bys k), .sl 1 (bys m)] (Ret (.t (.tuple [.sl 2 ((putT l k m).1.map Term.T), .sl 1 (bys (putT l k m).2)])) []) := by
  refine CtT.ofN Tryd.func113 rfl rfl (n := 30) rfl ?_
  refine Told.callT (Place_ct l k m (by omega) hw hk hm) rfl rfl rfl rfl ?_
  cases hp : atT l k m with
  | none =>
    have e1 : placeT l k m = -1 := by unfold placeT; rw [hp]; rfl
    have e2 : putT l k m = (l ++ [⟨k, m⟩], oct ((l.length : Int) + 1)) := by unfold putT; rw [hp]; rfl
    rw [e1]
    refine Told.callT (Term_Clone l (by omega)) rfl rfl rfl rfl ?_
    refine Told.callT (own_ct ⟨k, m⟩ hs) rfl rfl rfl rfl ?_
    refine ⟨by show _ * 48 ≤ _; simp; omega, ?_⟩
    have w1 : IntKind.u64.wrap (IntKind.u64.wrap ((l.map Term.T).length : Int) + 1) = (l.length : Int) + 1 := by
      rw [Term.row_len, wu64 (x := (l.length : Int)) (by omega) (by omega), wu64 (by omega) (by omega)]
    have kp := Put_word (v := IntKind.u64.wrap (IntKind.u64.wrap ((l.map Term.T).length : Int) + 1)) (by rw [w1]; omega) (by rw [w1]; omega)
    refine Told.callT kp rfl rfl rfl rfl ?_
    refine ⟨_, rfl, ?_⟩
    rw [w1, e2, List.map_append]
    exact .refl _
  | some i =>
    have hi := (atT_some hp).1
    have e1 : placeT l k m = (i : Int) := by unfold placeT; rw [hp]; rfl
    have e2 : putT l k m = (l, oct ((i : Int) + 1)) := by unfold putT; rw [hp]; rfl
    rw [e1]
    have w1 : IntKind.u64.wrap (IntKind.u64.wrap (i : Int) + 1) = (i : Int) + 1 := by
      rw [wu64 (x := (i : Int)) (by omega) (by omega), wu64 (by omega) (by omega)]
    have kp := Put_word (v := IntKind.u64.wrap (IntKind.u64.wrap (i : Int) + 1)) (by rw [w1]; omega) (by rw [w1]; omega)
    refine Told.callT kp rfl rfl rfl rfl ?_
    refine ⟨_, rfl, ?_⟩
    rw [w1, e2]
    exact .refl _
def unl (a b : List Int) : Nat → Nat
  | 0 => 0
  | i + 1 => unl a b i + if a[i]? = b[i]? then 0 else 1
theorem unl_zero {a b : List Int} : ∀ {i : Nat}, unl a b i = 0 ↔ ∀ j, j < i → a[j]? = b[j]?
  | 0 => by simp [unl]
  | i + 1 => by
    unfold unl
    constructor
    · intro h j hj
      have h1 : unl a b i = 0 := by omega
      by_cases e : j = i
      · subst e
        apply Classical.byContradiction
        intro hne
        rw [if_neg hne] at h
        omega
      · exact unl_zero.1 h1 j (by omega)
    · intro h
      rw [unl_zero.2 fun j hj => h j (by omega), if_pos (h i (by omega))]
theorem unl_le (a b : List Int) : ∀ i, unl a b i ≤ i
  | 0 => Nat.le_refl _
  | i + 1 => by unfold unl; have := unl_le a b i; split <;> omega
def unlike (a b : List Int) : Nat := (max a.length b.length - min a.length b.length) + unl a b (min a.length b.length)
theorem unlike_zero [Tabs] {a b : List Int} : unlike a b = 0 ↔ a = b := by
  unfold unlike
  constructor
  · intro h
    have h1 : a.length = b.length := by omega
    have h2 := unl_zero.1 (show unl a b (min a.length b.length) = 0 by omega)
    apply List.ext_getElem?
    intro j
    by_cases hj : j < min a.length b.length
    · exact h2 j hj
    · rw [List.getElem?_eq_none (by omega), List.getElem?_eq_none (by omega)]
  · rintro rfl
    simp [unl_zero.2 fun j _ => (rfl : a[j]? = a[j]?)]
theorem xor_u8 [Tabs] {x y : Int} (hx : 0 ≤ x ∧ x ≤ 255) (hy : 0 ≤ y ∧ y ≤ 255) : ∃ n : Nat, Go.bits .xor .u8 x y = n ∧ n < 256 ∧ (n = 0 ↔ x = y) := by
  obtain ⟨a, rfl⟩ := Int.eq_ofNat_of_zero_le hx.1
  obtain ⟨b, rfl⟩ := Int.eq_ofNat_of_zero_le hy.1
  refine ⟨(BitVec.ofNat 8 a ^^^ BitVec.ofNat 8 b).toNat, ?_, by omega, ?_⟩
  · show IntKind.u8.wrap (((BitVec.ofInt 8 (a : Int) ^^^ BitVec.ofInt 8 (b : Int)).toNat : Nat) : Int) = _
    rw [wb' (by omega) (by have := (BitVec.ofInt 8 (a : Int) ^^^ BitVec.ofInt 8 (b : Int)).isLt; omega)]
    rfl
  · rw [show ((BitVec.ofNat 8 a ^^^ BitVec.ofNat 8 b).toNat = 0 ↔ BitVec.ofNat 8 a ^^^ BitVec.ofNat 8 b = 0#8) from ⟨fun h => BitVec.eq_of_toNat_eq (by simpa using h), fun h => by rw [h]; rfl⟩, BitVec.xor_eq_zero_iff]
    refine ⟨fun h => ?_, fun h => by have : a = b := by omega
                                     rw [this]⟩
    have := congrArg BitVec.toNat h
    simp at this
    omega
theorem Unlike_ct [Tabs] (a b : List Int) (ha : Byt a) (hb : Byt b) (la : a.length < 1000000) (lb : b.length < 1000000) : CtT Tryd.prog 63 [.sl 1 (bys a), .sl 1 (bys b)] (Ret (.int .i64 (unlike a b)) []) := by
  refine Ct.of Tryd.func63 rfl rfl (n := 45) rfl (by simp [ids]) ?_
  have m1 : ∀ x y : Nat, max (x : Int) y = ((max x y : Nat) : Int) := fun x y => by omega
  have m2 : ∀ x y : Nat, min (x : Int) y = ((min x y : Nat) : Int) := fun x y => by omega
  refine ⟨Nat, fun i => [(0, .t (.sl 1 (bys a))), (1, .t (.sl 1 (bys b))), (5, .int .i64 (((max a.length b.length - min a.length b.length) + unl a b i : Nat) : Int)), (23, .int .i64 ((min a.length b.length : Nat) : Int)), (24, .int .i64 i)], fun _ => [], fun i => i ≤ min a.length b.length, fun i => min a.length b.length - i, 0, Nat.zero_le _,
    Le.of [] ⟨rfl, rfl, congrArg (AV.int .i64) ?_, congrArg (AV.int .i64) ?_, rfl, trivial⟩ trivial rfl, ?_⟩
  · rw [bys_len, bys_len, wi (by split <;> split <;> omega) (by split <;> split <;> omega)]
    simp only [unl]
    split <;> split <;> omega
  · rw [bys_len, bys_len]
    split <;> omega
  intro i hi
  refine brB (fun hc => ?_) (fun hc => ?_)
  · have hc : i < min a.length b.length := by have := of_decide_eq_true hc; omega
    have hx : a[i]? = some a[i] := List.getElem?_eq_getElem (by omega)
    have hy : b[i]? = some b[i] := List.getElem?_eq_getElem (by omega)
    have hxb := ha a[i] (List.getElem_mem _)
    have hyb := hb b[i] (List.getElem_mem _)
    generalize a[i] = x at hx hxb
    generalize b[i] = y at hy hyb
    refine ⟨by omega, _, bys_get rfl hx, by omega, _, bys_get rfl hy, ?_⟩
    obtain ⟨n, hn, hn1, hn2⟩ := xor_u8 hxb hyb
    have hu := unl_le a b i
    have hu1 : unl a b (i + 1) = unl a b i + if n = 0 then 0 else 1 := by
      show unl a b i + (if a[i]? = b[i]? then 0 else 1) = _
      rw [hx, hy]
      congr 1
      by_cases e : x = y
      · rw [if_pos (by rw [e]), if_pos (hn2.2 e)]
      · rw [if_neg (fun h => e (Option.some.inj h)), if_neg (fun h => e (hn2.1 h))]
    refine ⟨by decide, i + 1, hc, Le.of [] ⟨rfl, rfl, congrArg (AV.int .i64) ?_, rfl, congrArg (AV.int .i64) (wi (by omega) (by omega)), trivial⟩ trivial rfl, by show min a.length b.length - (i + 1) < min a.length b.length - i; omega⟩
    rw [hn, hu1]
    have e1 : IntKind.u32.wrap (n : Int) = n := by rw [wu32]; omega
    have e2 : IntKind.u32.wrap ((n : Int) + 255) = (n : Int) + 255 := by rw [wu32]; omega
    rw [e1, e2, shr32 8 8 (by decide)]
    have e3 : ((n : Int) + 255) / 2 ^ 8 = if n = 0 then 0 else 1 := by split <;> omega
    rw [e3]
    have e4 : IntKind.i64.wrap (if n = 0 then 0 else 1) = if n = 0 then 0 else 1 := wi (by split <;> omega) (by split <;> omega)
    rw [e4, wi (by split <;> omega) (by split <;> omega)]
    split <;> omega
  · have hc : i = min a.length b.length := by have := of_decide_eq_false hc; omega
    subst hc
    exact ⟨[], _, _, ⟨rfl, rfl⟩, rfl, trivial, rfl⟩
theorem TSame_ct [Tabs] (a b : List Int) (ha : Byt a) (hb : Byt b) (la : a.length < 1000000) (lb : b.length < 1000000) : CtT Tryd.prog 52 [.sl 1 (bys a), .sl 1 (bys b)] (Ret (.bool (decide (a = b))) []) := by
  refine Ct.of Tryd.func52 rfl rfl (n := 9) rfl (by simp [ids]) ?_
  refine Told.callT (Unlike_ct a b ha hb la lb) rfl rfl rfl rfl ?_
  refine ⟨[], _, _, ⟨rfl, rfl⟩, congrArg AV.bool ?_, trivial, rfl⟩
  rw [decide_eq_decide, ← unlike_zero]
  omega
end
end Go.Proofs.YtonihdgidhflnaaDoorX
namespace Go.Proofs.YtonihdgidhflnaaDoorX
section
open Go Go.YtonihdgidhflnaaDoorE Go.Proofs
set_option maxRecDepth 100000
set_option autoImplicit false
structure Engine.Sm (g : Engine) : Prop where
  n : g.terms.length < 100000
  t : ∀ t ∈ g.terms, t.Sm
structure Engine.Sym (g : Engine) : Prop where
  kind : g.kind = 2
  nd : g.terms.Nodup
theorem makerS_ct [Tabs] (g : Engine) (hw : g.Wf) (hs : g.Sm) (h : g.Sym) : CtT Tryd.prog 37 [g.T] (Ret (.t (.iface 129 g.T)) []) := by
  obtain ⟨k, l⟩ := g
  obtain ⟨rfl, hn⟩ := h
  refine CtT.ofN Tryd.func37 rfl rfl (n := 28) rfl ?_
  have kr := TRight_ct l (by have := hs.n; simp only at this; omega) hw.terms hs.t
  rw [decide_eq_true hn] at kr
  refine Told.callT kr rfl rfl rfl rfl ?_
  exact ⟨_, rfl, .refl _⟩
def Engine.ok (g : Engine) : Prop := (g.kind = 1 ∧ g.terms = []) ∨ (g.kind = 2 ∧ g.terms.Nodup)
instance (g : Engine) : Decidable g.ok := by unfold Engine.ok; infer_instance
theorem Engine.Sym.ok {g : Engine} (h : g.Sym) : g.ok := .inr ⟨h.kind, h.nd⟩
theorem makerN_ct [Tabs] (g : Engine) (hw : g.Wf) (hs : g.Sm) (h : ¬ g.ok) : CtT Tryd.prog 37 [g.T] (Ret (.t (.v .nilIface)) []) := by
  obtain ⟨k, l⟩ := g
  refine CtT.ofN Tryd.func37 rfl rfl (n := 28) rfl ?_
  have kr := TRight_ct l (by have := hs.n; simp only at this; omega) hw.terms hs.t
  refine brB (fun h1 => brB (fun h2 => ?_) (fun h2 => brB (fun h3 => ?_) (fun h3 => ?_))) (fun h1 => brB (fun h3 => ?_) (fun h3 => ?_))
  · exact absurd (.inl ⟨of_decide_eq_true h1, by have := of_decide_eq_true h2; exact List.eq_nil_of_length_eq_zero (by simpa using this)⟩) h
  · have := of_decide_eq_true h1; have := of_decide_eq_true h3; omega
  · exact ⟨_, rfl, .refl _⟩
  · refine Told.callT kr rfl rfl rfl rfl ?_
    have hn : ¬ l.Nodup := fun hn => h (.inr ⟨of_decide_eq_true h3, hn⟩)
    rw [decide_eq_false hn]
    exact ⟨_, rfl, .refl _⟩
  · exact ⟨_, rfl, .refl _⟩
theorem tagS_ct [Tabs] (g : Engine) (hw : g.Wf) (hs : g.Sm) (k m : List Int) (hk : Byt k) (hm : Byt m) (hsm : Term.Sm ⟨k, m⟩) :
    CtT Tryd.prog 111 [g.T, .sl 1 (bys k), .sl 1 (bys m)] (Ret (.t (.tuple [(Engine.mk g.kind (putT g.terms k m).1).T, .sl 1 (bys (putT g.terms k m).2)])) []) := by
  refine CtT.ofN Tryd.func111 rfl rfl (n := 23) rfl ?_
  refine Told.callT (TPut_ct g.terms k m hs.n hw.terms hk hm hsm) rfl rfl rfl rfl ?_
  exact ⟨_, rfl, .refl _⟩
theorem knownS_ct [Tabs] (g : Engine) (hw : g.Wf) (hs : g.Sm) (k m : List Int) (hk : Byt k) (hm : Byt m) :
    CtT Tryd.prog 110 [g.T, .sl 1 (bys k), .sl 1 (bys m)] (Ret (.bool (decide ((⟨k, m⟩ : Term) ∈ g.terms))) []) := by
  refine Ct.of Tryd.func110 rfl rfl (n := 14) rfl (by simp [ids]) ?_
  refine Told.callT (Place_ct g.terms k m (by have := hs.n; omega) hw.terms hk hm) rfl rfl rfl rfl ?_
  refine ⟨[], _, _, ⟨rfl, rfl⟩, congrArg AV.bool ?_, trivial, rfl⟩
  rw [decide_eq_decide]
  unfold placeT
  cases h : atT g.terms k m with
  | none =>
    have := atT_none.1 h
    simp [this]
  | some i =>
    have := List.mem_of_getElem? (atT_some h).2.1
    simp [this]
theorem meth_tag (w : World) (O : Nat → Prop) (v : Value) (x : T) (h : HT w O x v) : (method (Tryd.prog.types.size + Made.depth) 129 v "wristband/mac.tag").run Tryd.prog w = .ok (111, v) w := by kernel_rfl
theorem meth_known (w : World) (O : Nat → Prop) (v : Value) (x : T) (h : HT w O x v) : (method (Tryd.prog.types.size + Made.depth) 129 v "wristband/mac.known").run Tryd.prog w = .ok (110, v) w := by kernel_rfl
def tagE (g : Engine) (k m : List Int) : Engine × List Int := (⟨g.kind, (putT g.terms k m).1⟩, (putT g.terms k m).2)
@[reducible] def resTag (p : Engine × List Int) (e : Int) : T := .tuple [p.1.T, .sl 1 (bys p.2), .int .i64 e]
theorem TagS_ct [Tabs] (g : Engine) (hw : g.Wf) (hs : g.Sm) (h : g.Sym) (k m : List Int) (hk : Byt k) (hm : Byt m) (hsm : Term.Sm ⟨k, m⟩) :
    CtT Tryd.prog 29 [g.T, .sl 1 (bys k), .sl 1 (bys m)] (Ret (.t (resTag (tagE g k m) 0)) []) := by
  refine CtT.ofN Tryd.func29 rfl rfl (n := 26) rfl ?_
  refine Told.callT (makerS_ct g hw hs h) rfl rfl rfl rfl ?_
  refine Told.invoke (fun w O v hv => meth_tag w O v _ hv) (tagS_ct g hw hs k m hk hm hsm) rfl rfl rfl ?_
  exact ⟨_, rfl, .refl _⟩
theorem TagN_ct [Tabs] (g : Engine) (hw : g.Wf) (hs : g.Sm) (h : ¬ g.ok) (k m : List Int) : CtT Tryd.prog 29 [g.T, .sl 1 (bys k), .sl 1 (bys m)] (Ret (.t (resTag (g, []) 1)) []) := by
  refine CtT.ofN Tryd.func29 rfl rfl (n := 26) rfl ?_
  refine Told.callT (makerN_ct g hw hs h) rfl rfl rfl rfl ?_
  exact ⟨_, rfl, by repeat constructor⟩
theorem FitsS_ct [Tabs] (g : Engine) (hw : g.Wf) (hs : g.Sm) (h : g.Sym) (k m t : List Int) (hk : Byt k) (hm : Byt m) (ht : Byt t) (hl : t.length < 1000000) (hsm : Term.Sm ⟨k, m⟩) :
    CtT Tryd.prog 32 [g.T, .sl 1 (bys k), .sl 1 (bys m), .sl 1 (bys t)] (Ret (.bool (decide ((⟨k, m⟩ : Term) ∈ g.terms ∧ (putT g.terms k m).2 = t))) []) := by
  refine Ct.of Tryd.func32 rfl rfl (n := 33) rfl (by simp [ids]) ?_
  refine Told.callT (makerS_ct g hw hs h) rfl rfl rfl rfl ?_
  refine Told.invoke (fun w O v hv => meth_known w O v _ hv) (knownS_ct g hw hs k m hk hm) rfl rfl rfl ?_
  by_cases hin : (⟨k, m⟩ : Term) ∈ g.terms
  case neg =>
    rw [decide_eq_false hin]
    exact ⟨[], _, _, ⟨rfl, rfl⟩, congrArg AV.bool (decide_eq_false fun h => hin h.1).symm, trivial, rfl⟩
  rw [decide_eq_true hin]
  refine Told.invoke (fun w O v hv => meth_tag w O v _ hv) (tagS_ct g hw hs k m hk hm hsm) rfl rfl rfl ?_
  refine Told.callT (TSame_ct (putT g.terms k m).2 t ?_ ht ?_ hl) rfl rfl rfl rfl ?_
  · unfold putT; cases atT g.terms k m <;> exact oct_byt _
  · unfold putT; cases atT g.terms k m <;> (show (oct _).length < _; rw [oct_len]; omega)
  · refine ⟨[], _, _, ⟨rfl, rfl⟩, congrArg AV.bool ?_, trivial, rfl⟩
    rw [decide_eq_decide]
    exact ⟨fun h => ⟨hin, h⟩, fun h => h.2⟩
theorem FitsN_ct [Tabs] (g : Engine) (hw : g.Wf) (hs : g.Sm) (h : ¬ g.ok) (k m t : List Int) : CtT Tryd.prog 32 [g.T, .sl 1 (bys k), .sl 1 (bys m), .sl 1 (bys t)] (Ret (.bool false) []) := by
  refine Ct.of Tryd.func32 rfl rfl (n := 33) rfl (by simp [ids]) ?_
  refine Told.callT (makerN_ct g hw hs h) rfl rfl rfl rfl ?_
  exact ⟨[], _, _, ⟨rfl, rfl⟩, rfl, trivial, rfl⟩
end
end Go.Proofs.YtonihdgidhflnaaDoorX
namespace Go.Proofs.YtonihdgidhflnaaDoorX
section
open Go Go.YtonihdgidhflnaaDoorE Go.Proofs Go.RowKit Go.Extern.Stop Go.Stop Go.Extern
set_option maxRecDepth 100000
set_option autoImplicit false
theorem tas_valueOf27 (t : Addr) (w : World) : (ReflectliteValue.unpack (.iface 80 (.pointer (some t)))).run Tryd.prog w
    = .ok (.agg #[.pointer (some ⟨3, 80, none⟩), .pointer (some ⟨w.heap.size, 0, none⟩), .int .u64 150]) (w.alloc (.cells #[.pointer (some t)] 80)) := by kernel_rfl
theorem tas_type27 (a : Addr) (w : World) : (ReflectliteValue.methodAny (ReflectliteValue.valueError "reflectlite.Value.Type" 0) (fun t _ _ _ => ReflectliteType.toType t) #[.agg #[.pointer (some ⟨3, 80, none⟩), .pointer (some a), .int .u64 150]]).run Tryd.prog w
    = .ok (.iface 138 (.agg #[.pointer (some ⟨3, 80, none⟩)])) w := by kernel_rfl
theorem tas_methodKind (h : Value) (w : World) : (Go.method 309 138 (.agg #[h]) "Kind").run Tryd.prog w = .ok (86, h) w := by kernel_rfl
theorem tas_kind27 (w : World) : ((ReflectliteType.abiMethod fun t => (fun a : Nat => Value.int IntKind.u8 (a : Int)) <$> Rtype.kind t) #[.pointer (some ⟨3, 80, none⟩)]).run Tryd.prog w = .ok (.int .u8 22) w := by kernel_rfl
theorem tas_kind25 (w : World) : ((ReflectliteType.abiMethod fun t => (fun a : Nat => Value.int IntKind.u8 (a : Int)) <$> Rtype.kind t) #[.pointer (some ⟨3, 78, none⟩)]).run Tryd.prog w = .ok (.int .u8 22) w := by kernel_rfl

theorem rlm (z : Sem Value) (f : TypeId → Addr → Nat → Nat → Sem Value) (v : Value) :
    ReflectliteValue.method z f #[v] = (do match ← ReflectliteValue.parts v with | none => z | some (t, a, fl) => f t a fl (fl % 32)) := rfl
theorem tas_parts27 (a : Addr) (w : World) : (ReflectliteValue.parts (.agg #[.pointer (some ⟨3, 80, none⟩), .pointer (some a), .int .u64 150])).run Tryd.prog w = .ok (some (80, a, 150)) w := by kernel_rfl
theorem tas_isNil27 (a p : Addr) (W : World) (ha : W.cell? a = some (.pointer (some p))) :
    (ReflectliteValue.method (ReflectliteValue.valueError "reflectlite.Value.IsNil" 0) ReflectliteValue.isNil #[.agg #[.pointer (some ⟨3, 80, none⟩), .pointer (some a), .int .u64 150]]).run Tryd.prog W = .ok (.bool false) W := by
  rw [rlm]
  simp only [Sem.run_bind, tas_parts27, Result.andThen]
  simp [ReflectliteValue.isNil, loadVar, isAgg, underlying, Tryd.underlying80, ha, Result.andThen]

theorem tas_methodElem (h : Value) (w : World) : (Go.method 309 138 (.agg #[h]) "Elem").run Tryd.prog w = .ok (122, .agg #[h]) w := by kernel_rfl
theorem tas_methodImplements (h : Value) (w : World) : (Go.method 309 138 (.agg #[h]) "Implements").run Tryd.prog w = .ok (123, .agg #[h]) w := by kernel_rfl
theorem tas_methodAssignableTo (h : Value) (w : World) : (Go.method 309 138 (.agg #[h]) "AssignableTo").run Tryd.prog w = .ok (120, .agg #[h]) w := by kernel_rfl
theorem tas_elem27 (w : World) : (ReflectliteType.method ReflectliteType.elem #[.agg #[.pointer (some ⟨3, 80, none⟩)]]).run Tryd.prog w = .ok (.iface 138 (.agg #[.pointer (some ⟨3, 78, none⟩)])) w := by kernel_rfl
theorem tas_implements25 (w : World) : (ReflectliteType.relation "Implements" ReflectliteType.implements_ #[.agg #[.pointer (some ⟨3, 78, none⟩)], .iface 138 (.agg #[.pointer (some ⟨3, 32, none⟩)])]).run Tryd.prog w = .ok (.bool true) w := by kernel_rfl
theorem tas_typeOf25 (v : Value) (w : World) : (ReflectliteType.typeOf #[.iface 78 v]).run Tryd.prog w = .ok (.iface 138 (.agg #[.pointer (some ⟨3, 78, none⟩)])) w := by kernel_rfl
theorem tas_assignable25 (w : World) : (ReflectliteType.relation "AssignableTo" ReflectliteType.assignableTo #[.agg #[.pointer (some ⟨3, 78, none⟩)], .iface 138 (.agg #[.pointer (some ⟨3, 78, none⟩)])]).run Tryd.prog w = .ok (.bool true) w := by kernel_rfl
theorem tas_valueOf25 (e : Addr) (w : World) : (ReflectliteValue.unpack (.iface 78 (.pointer (some e)))).run Tryd.prog w
    = .ok (.agg #[.pointer (some ⟨3, 78, none⟩), .pointer (some ⟨w.heap.size, 0, none⟩), .int .u64 150]) (w.alloc (.cells #[.pointer (some e)] 78)) := by kernel_rfl

theorem tas_elemOf27 (w : World) : (Rtype.elem? 80).run Tryd.prog w = .ok (some 78) w := by kernel_rfl
theorem tas_mk25 (p : Addr) (w : World) : (ReflectliteValue.mk 78 p ReflectliteValue.flagAddr).run Tryd.prog w = .ok (.agg #[.pointer (some ⟨3, 78, none⟩), .pointer (some p), .int .u64 406]) w := by kernel_rfl
theorem tas_elemV27 (a p : Addr) (W : World) (ha : W.cell? a = some (.pointer (some p))) :
    (ReflectliteValue.method (ReflectliteValue.valueError "reflectlite.Value.Elem" 0) ReflectliteValue.elem #[.agg #[.pointer (some ⟨3, 80, none⟩), .pointer (some a), .int .u64 150]]).run Tryd.prog W
      = .ok (.agg #[.pointer (some ⟨3, 78, none⟩), .pointer (some p), .int .u64 406]) W := by
  rw [rlm]
  simp only [Sem.run_bind, tas_parts27, Result.andThen]
  simp [ReflectliteValue.elem, loadVar, isAgg, underlying, Tryd.underlying80, ha, Result.andThen, tas_elemOf27, tas_mk25]
theorem rls (v x : Value) : ReflectliteValue.set #[v, x] = (do
    let (some (dst, a, fl), some (src, b, _)) := (← ReflectliteValue.parts v, ← ReflectliteValue.parts x)
      | unsupported (.noEntry "extern/(internal/reflectlite.Value).Set.zeroValue")
    if fl / ReflectliteValue.flagAddr % 2 == 0 then unsupported (.noEntry "extern/(internal/reflectlite.Value).Set.unaddressable")
    let val ← loadVar src b
    if ← Rtype.directlyAssignable dst src then storeVar dst a val
    else if ← Rtype.implements dst src then
      if (← Rtype.kind src) == 20 then
        match val with
        | .nilIface => unsupported (.noEntry "extern/reflectlite: a nil value of one interface type handed on as a value of another")
        | _ => storeVar dst a val
      else storeVar dst a (.iface src val)
    else panicString ("reflectlite.Set: value of type " ++ (← Rtype.spelt src) ++ " is not assignable to type " ++ (← Rtype.spelt dst))
    pure (.tuple #[])) := rfl
theorem tas_parts25a (a : Addr) (w : World) : (ReflectliteValue.parts (.agg #[.pointer (some ⟨3, 78, none⟩), .pointer (some a), .int .u64 406])).run Tryd.prog w = .ok (some (78, a, 406)) w := by kernel_rfl
theorem tas_parts25 (a : Addr) (w : World) : (ReflectliteValue.parts (.agg #[.pointer (some ⟨3, 78, none⟩), .pointer (some a), .int .u64 150])).run Tryd.prog w = .ok (some (78, a, 150)) w := by kernel_rfl
theorem tas_direct25 (w : World) : (Rtype.directlyAssignable 78 78).run Tryd.prog w = .ok true w := by kernel_rfl
theorem tas_size25 (w : World) : (Go.sizeOf 78).run Tryd.prog w = .ok 1 w := by kernel_rfl
theorem tas_set25 (ta b e : Addr) (old : Value) (W : World) (hb : W.cell? b = some (.pointer (some e))) (ht : W.cell? ta = some old) (hf : W.frozen? ta = false) :
    (ReflectliteValue.set #[.agg #[.pointer (some ⟨3, 78, none⟩), .pointer (some ta), .int .u64 406], .agg #[.pointer (some ⟨3, 78, none⟩), .pointer (some b), .int .u64 150]]).run Tryd.prog W
      = .ok (.tuple #[]) (W.setCell ta (.pointer (some e))) := by
  rw [rls]
  simp only [Sem.run_bind, tas_parts25a, tas_parts25, Result.andThen]
  simp [ReflectliteValue.flagAddr, loadVar, isAgg, underlying, Tryd.underlying78, hb, Result.andThen, tas_direct25, storeVar, Value.cells, storeCells, Addr.add]
  rw [run_store Tryd.prog W ta _ _ (by rfl)]
  simp [ht, hf]

set_option maxHeartbeats 4000000 in
theorem as_hit (e t : Addr) (old : Value) (w : World) (hg : w.cell? ⟨0, 0, none⟩ = some (.iface 138 (.agg #[.pointer (some ⟨3, 32, none⟩)]))) (ht0 : w.cell? t = some old) (hf0 : w.frozen? t = false) :
    Calls Tryd.prog 36 #[.iface 78 (.pointer (some e)), .iface 80 (.pointer (some t))] w fun ev w' => ev = .returned (.bool true) ∧ w' = ((((w.alloc (.cells #[.pointer (some t)] 80)).alloc (.cells #[.pointer (some ⟨3, 80, none⟩), .pointer (some ⟨w.heap.size, 0, none⟩), .int .u64 150] 118)).alloc (.cells #[.pointer (some ⟨3, 80, none⟩), .pointer (some ⟨w.heap.size, 0, none⟩), .int .u64 150] 118)).alloc (.cells #[.pointer (some e)] 78)).setCell t (.pointer (some e)) := by
  have h6 := @run_callFunc_extern Tryd.prog 55 _ (fun args => ReflectliteValue.unpack (args.getD 0 (.tuple #[]))) Tryd.func55 (by kernel_rfl) (by kernel_rfl) (by kernel_rfl) (by kernel_rfl)
  have h7 := @run_callFunc_extern Tryd.prog 56 _ (ReflectliteValue.methodAny (ReflectliteValue.valueError "reflectlite.Value.Type" 0) (fun t _ _ _ => ReflectliteType.toType t)) Tryd.func56 (by kernel_rfl) (by kernel_rfl) (by kernel_rfl) (by kernel_rfl)
  have h8 := @run_callFunc_extern Tryd.prog 57 _ (ReflectliteValue.method (ReflectliteValue.valueError "reflectlite.Value.IsNil" 0) ReflectliteValue.isNil) Tryd.func57 (by kernel_rfl) (by kernel_rfl) (by kernel_rfl) (by kernel_rfl)
  have h27 := @run_callFunc_extern Tryd.prog 86 _ (ReflectliteType.abiMethod fun t => do pure (.int .u8 (← Rtype.kind t))) Tryd.func86 (by kernel_rfl) (by kernel_rfl) (by kernel_rfl) (by kernel_rfl)
  have h37 := @run_callFunc_extern Tryd.prog 122 _ (ReflectliteType.method ReflectliteType.elem) Tryd.func122 (by kernel_rfl) (by kernel_rfl) (by kernel_rfl) (by kernel_rfl)
  have h38 := @run_callFunc_extern Tryd.prog 123 _ (ReflectliteType.relation "Implements" ReflectliteType.implements_) Tryd.func123 (by kernel_rfl) (by kernel_rfl) (by kernel_rfl) (by kernel_rfl)
  have h10 := @run_callFunc_extern Tryd.prog 65 _ ReflectliteType.typeOf Tryd.func65 (by kernel_rfl) (by kernel_rfl) (by kernel_rfl) (by kernel_rfl)
  have h35 := @run_callFunc_extern Tryd.prog 120 _ (ReflectliteType.relation "AssignableTo" ReflectliteType.assignableTo) Tryd.func120 (by kernel_rfl) (by kernel_rfl) (by kernel_rfl) (by kernel_rfl)
  have h11 := @run_callFunc_extern Tryd.prog 66 _ (ReflectliteValue.method (ReflectliteValue.valueError "reflectlite.Value.Elem" 0) ReflectliteValue.elem) Tryd.func66 (by kernel_rfl) (by kernel_rfl) (by kernel_rfl) (by kernel_rfl)
  have h12 := @run_callFunc_extern Tryd.prog 67 _ ReflectliteValue.set Tryd.func67 (by kernel_rfl) (by kernel_rfl) (by kernel_rfl) (by kernel_rfl)
  have tO := tas_typeOf25
  have mA := tas_methodAssignableTo
  have a25 := tas_assignable25
  have v25 := tas_valueOf25
  have f6 := tas_valueOf27
  have f7 := tas_type27
  have mK := tas_methodKind
  have mE := tas_methodElem
  have mI := tas_methodImplements
  have k27 := tas_kind27
  have k25 := tas_kind25
  have e27 := tas_elem27
  have i25 := tas_implements25
  have n8 := tas_isNil27 ⟨w.heap.size, 0, none⟩ t ((w.alloc (.cells #[.pointer (some t)] 80)).alloc (.cells #[.pointer (some ⟨3, 80, none⟩), .pointer (some ⟨w.heap.size, 0, none⟩), .int .u64 150] 118)) (by simp)
  have hlt : 0 < w.heap.size := by
    rcases Nat.eq_zero_or_pos w.heap.size with h0 | h
    · simp [World.cell?, h0] at hg
    · exact h
  have hg2 : ((w.alloc (.cells #[.pointer (some t)] 80)).alloc (.cells #[.pointer (some ⟨3, 80, none⟩), .pointer (some ⟨w.heap.size, 0, none⟩), .int .u64 150] 118)).cell? ⟨0, 0, none⟩ = some (.iface 138 (.agg #[.pointer (some ⟨3, 32, none⟩)])) := by
    rw [World.cell?_alloc_lt _ _ ⟨0, 0, none⟩ (by simp), World.cell?_alloc_lt _ _ ⟨0, 0, none⟩ hlt]; exact hg
  have htl : t.block < w.heap.size := by
    rcases Nat.lt_or_ge t.block w.heap.size with h | h
    · exact h
    · simp [World.cell?, Array.getElem?_eq_none h] at ht0
  have el := tas_elemV27 ⟨w.heap.size, 0, none⟩ t (((w.alloc (.cells #[.pointer (some t)] 80)).alloc (.cells #[.pointer (some ⟨3, 80, none⟩), .pointer (some ⟨w.heap.size, 0, none⟩), .int .u64 150] 118)).alloc (.cells #[.pointer (some ⟨3, 80, none⟩), .pointer (some ⟨w.heap.size, 0, none⟩), .int .u64 150] 118)) (by rw [World.cell?_alloc_lt _ _ ⟨w.heap.size, 0, none⟩ (by simp; omega)]; simp)
  have st := tas_set25 t ⟨w.heap.size + 1 + 1 + 1, 0, none⟩ e old ((((w.alloc (.cells #[.pointer (some t)] 80)).alloc (.cells #[.pointer (some ⟨3, 80, none⟩), .pointer (some ⟨w.heap.size, 0, none⟩), .int .u64 150] 118)).alloc (.cells #[.pointer (some ⟨3, 80, none⟩), .pointer (some ⟨w.heap.size, 0, none⟩), .int .u64 150] 118)).alloc (.cells #[.pointer (some e)] 78))
    (by rw [World.cell?_alloc_at _ _ _ _ (by simp)]; rfl)
    (by rw [World.cell?_alloc_lt _ _ t (by simp; omega), World.cell?_alloc_lt _ _ t (by simp; omega), World.cell?_alloc_lt _ _ t (by simp; omega), World.cell?_alloc_lt _ _ t htl]; exact ht0)
    (by rw [World.frozen?_alloc_old _ _ t (by simp; omega), World.frozen?_alloc_old _ _ t (by simp; omega), World.frozen?_alloc_old _ _ t (by simp; omega), World.frozen?_alloc_old _ _ t (Nat.ne_of_lt htl)]; exact hf0)
  go_enter Tryd.func36, Tryd.ntmps36
  go_wp2
  refine wp_loop_rounds 1 ?_
  rw [rounds_succ]
  go_wp2
  go_ret
  exact ⟨rfl, rfl⟩
end
end Go.Proofs.YtonihdgidhflnaaDoorX
namespace Go.Proofs.YtonihdgidhflnaaDoorX
section
open Go Go.YtonihdgidhflnaaDoorE Go.Proofs Go.RowKit Go.Extern.Stop Go.Stop Go.Extern
set_option maxRecDepth 100000
set_option autoImplicit false
theorem tax_valueOf27 (t : Addr) (w : World) : (ReflectliteValue.unpack (.iface 81 (.pointer (some t)))).run Tryd.prog w
    = .ok (.agg #[.pointer (some ⟨3, 81, none⟩), .pointer (some ⟨w.heap.size, 0, none⟩), .int .u64 150]) (w.alloc (.cells #[.pointer (some t)] 81)) := by kernel_rfl
theorem tax_type27 (a : Addr) (w : World) : (ReflectliteValue.methodAny (ReflectliteValue.valueError "reflectlite.Value.Type" 0) (fun t _ _ _ => ReflectliteType.toType t) #[.agg #[.pointer (some ⟨3, 81, none⟩), .pointer (some a), .int .u64 150]]).run Tryd.prog w
    = .ok (.iface 138 (.agg #[.pointer (some ⟨3, 81, none⟩)])) w := by kernel_rfl
theorem tax_kind27 (w : World) : ((ReflectliteType.abiMethod fun t => (fun a : Nat => Value.int IntKind.u8 (a : Int)) <$> Rtype.kind t) #[.pointer (some ⟨3, 81, none⟩)]).run Tryd.prog w = .ok (.int .u8 22) w := by kernel_rfl
theorem tax_kind25 (w : World) : ((ReflectliteType.abiMethod fun t => (fun a : Nat => Value.int IntKind.u8 (a : Int)) <$> Rtype.kind t) #[.pointer (some ⟨3, 37, none⟩)]).run Tryd.prog w = .ok (.int .u8 2) w := by kernel_rfl

theorem tax_parts27 (a : Addr) (w : World) : (ReflectliteValue.parts (.agg #[.pointer (some ⟨3, 81, none⟩), .pointer (some a), .int .u64 150])).run Tryd.prog w = .ok (some (81, a, 150)) w := by kernel_rfl
theorem tax_isNil27 (a p : Addr) (W : World) (ha : W.cell? a = some (.pointer (some p))) :
    (ReflectliteValue.method (ReflectliteValue.valueError "reflectlite.Value.IsNil" 0) ReflectliteValue.isNil #[.agg #[.pointer (some ⟨3, 81, none⟩), .pointer (some a), .int .u64 150]]).run Tryd.prog W = .ok (.bool false) W := by
  rw [rlm]
  simp only [Sem.run_bind, tax_parts27, Result.andThen]
  simp [ReflectliteValue.isNil, loadVar, isAgg, underlying, Tryd.underlying81, ha, Result.andThen]

theorem tax_elem27 (w : World) : (ReflectliteType.method ReflectliteType.elem #[.agg #[.pointer (some ⟨3, 81, none⟩)]]).run Tryd.prog w = .ok (.iface 138 (.agg #[.pointer (some ⟨3, 37, none⟩)])) w := by kernel_rfl
theorem tax_implements25 (w : World) : (ReflectliteType.relation "Implements" ReflectliteType.implements_ #[.agg #[.pointer (some ⟨3, 37, none⟩)], .iface 138 (.agg #[.pointer (some ⟨3, 32, none⟩)])]).run Tryd.prog w = .ok (.bool true) w := by kernel_rfl
theorem tax_typeOf25 (v : Value) (w : World) : (ReflectliteType.typeOf #[.iface 37 v]).run Tryd.prog w = .ok (.iface 138 (.agg #[.pointer (some ⟨3, 37, none⟩)])) w := by kernel_rfl
theorem tax_assignable25 (w : World) : (ReflectliteType.relation "AssignableTo" ReflectliteType.assignableTo #[.agg #[.pointer (some ⟨3, 37, none⟩)], .iface 138 (.agg #[.pointer (some ⟨3, 37, none⟩)])]).run Tryd.prog w = .ok (.bool true) w := by kernel_rfl
theorem tax_valueOf25 (n : Int) (w : World) : (ReflectliteValue.unpack (.iface 37 (.int .i64 n))).run Tryd.prog w
    = .ok (.agg #[.pointer (some ⟨3, 37, none⟩), .pointer (some ⟨w.heap.size, 0, none⟩), .int .u64 130]) (w.alloc (.cells #[.int .i64 n] 37)) := by kernel_rfl

theorem tax_elemOf27 (w : World) : (Rtype.elem? 81).run Tryd.prog w = .ok (some 37) w := by kernel_rfl
theorem tax_mk25 (p : Addr) (w : World) : (ReflectliteValue.mk 37 p ReflectliteValue.flagAddr).run Tryd.prog w = .ok (.agg #[.pointer (some ⟨3, 37, none⟩), .pointer (some p), .int .u64 386]) w := by kernel_rfl
theorem tax_elemV27 (a p : Addr) (W : World) (ha : W.cell? a = some (.pointer (some p))) :
    (ReflectliteValue.method (ReflectliteValue.valueError "reflectlite.Value.Elem" 0) ReflectliteValue.elem #[.agg #[.pointer (some ⟨3, 81, none⟩), .pointer (some a), .int .u64 150]]).run Tryd.prog W
      = .ok (.agg #[.pointer (some ⟨3, 37, none⟩), .pointer (some p), .int .u64 386]) W := by
  rw [rlm]
  simp only [Sem.run_bind, tax_parts27, Result.andThen]
  simp [ReflectliteValue.elem, loadVar, isAgg, underlying, Tryd.underlying81, ha, Result.andThen, tax_elemOf27, tax_mk25]
theorem tax_parts25a (a : Addr) (w : World) : (ReflectliteValue.parts (.agg #[.pointer (some ⟨3, 37, none⟩), .pointer (some a), .int .u64 386])).run Tryd.prog w = .ok (some (37, a, 386)) w := by kernel_rfl
theorem tax_parts25 (a : Addr) (w : World) : (ReflectliteValue.parts (.agg #[.pointer (some ⟨3, 37, none⟩), .pointer (some a), .int .u64 130])).run Tryd.prog w = .ok (some (37, a, 130)) w := by kernel_rfl
theorem tax_direct25 (w : World) : (Rtype.directlyAssignable 37 37).run Tryd.prog w = .ok true w := by kernel_rfl
theorem tax_size25 (w : World) : (Go.sizeOf 37).run Tryd.prog w = .ok 1 w := by kernel_rfl
theorem tax_set25 (ta b : Addr) (n : Int) (old : Value) (W : World) (hb : W.cell? b = some (.int .i64 n)) (ht : W.cell? ta = some old) (hf : W.frozen? ta = false) :
    (ReflectliteValue.set #[.agg #[.pointer (some ⟨3, 37, none⟩), .pointer (some ta), .int .u64 386], .agg #[.pointer (some ⟨3, 37, none⟩), .pointer (some b), .int .u64 130]]).run Tryd.prog W
      = .ok (.tuple #[]) (W.setCell ta (.int .i64 n)) := by
  rw [rls]
  simp only [Sem.run_bind, tax_parts25a, tax_parts25, Result.andThen]
  simp [ReflectliteValue.flagAddr, loadVar, isAgg, underlying, Tryd.underlying37, hb, Result.andThen, tax_direct25, storeVar, Value.cells, storeCells, Addr.add]
  rw [run_store Tryd.prog W ta _ _ (by rfl)]
  simp [ht, hf]

theorem tax_notas (w : World) : (ReflectliteType.relation "AssignableTo" ReflectliteType.assignableTo #[.agg #[.pointer (some ⟨3, 78, none⟩)], .iface 138 (.agg #[.pointer (some ⟨3, 37, none⟩)])]).run Tryd.prog w = .ok (.bool false) w := by kernel_rfl
theorem tax_methodUnwrap (e : Addr) (w : World) : (Go.method 309 78 (.pointer (some e)) "Unwrap").run Tryd.prog w = .ok (91, .pointer (some e)) w := by kernel_rfl
theorem tax_noAs (v : Value) (xT : TypeId) (w : World) : (Instr.typeAssert (.iface 78 v) xT 143 true).run Tryd.prog w = .ok (.tuple #[.nilIface, .bool false]) w := run_typeAssert_lacksB Tryd.underlying143 (by kernel_rfl) (by kernel_rfl) v xT w
theorem tax_unwrap (v : Value) (xT : TypeId) (w : World) : (Instr.typeAssert (.iface 78 v) xT 146 true).run Tryd.prog w = .ok (.tuple #[.iface 78 v, .bool true]) w := run_typeAssert_hasB Tryd.underlying146 (by kernel_rfl) v xT w
set_option maxHeartbeats 4000000 in
theorem as_code (eb eo : Nat) (t : Addr) (n : Int) (old : Value) (w : World) (hg : w.cell? ⟨0, 0, none⟩ = some (.iface 138 (.agg #[.pointer (some ⟨3, 32, none⟩)]))) (he : w.cell? ⟨eb, eo + 1, none⟩ = some (.iface 37 (.int .i64 n))) (hel : eb < w.heap.size) (ht0 : w.cell? t = some old) (hf0 : w.frozen? t = false) :
    Calls Tryd.prog 36 #[.iface 78 (.pointer (some ⟨eb, eo, none⟩)), .iface 81 (.pointer (some t))] w fun ev w' => ev = .returned (.bool true) ∧ w' = ((((w.alloc (.cells #[.pointer (some t)] 81)).alloc (.cells #[.pointer (some ⟨3, 81, none⟩), .pointer (some ⟨w.heap.size, 0, none⟩), .int .u64 150] 118)).alloc (.cells #[.pointer (some ⟨3, 81, none⟩), .pointer (some ⟨w.heap.size, 0, none⟩), .int .u64 150] 118)).alloc (.cells #[.int .i64 n] 37)).setCell t (.int .i64 n) := by
  have h6 := @run_callFunc_extern Tryd.prog 55 _ (fun args => ReflectliteValue.unpack (args.getD 0 (.tuple #[]))) Tryd.func55 (by kernel_rfl) (by kernel_rfl) (by kernel_rfl) (by kernel_rfl)
  have h7 := @run_callFunc_extern Tryd.prog 56 _ (ReflectliteValue.methodAny (ReflectliteValue.valueError "reflectlite.Value.Type" 0) (fun t _ _ _ => ReflectliteType.toType t)) Tryd.func56 (by kernel_rfl) (by kernel_rfl) (by kernel_rfl) (by kernel_rfl)
  have h8 := @run_callFunc_extern Tryd.prog 57 _ (ReflectliteValue.method (ReflectliteValue.valueError "reflectlite.Value.IsNil" 0) ReflectliteValue.isNil) Tryd.func57 (by kernel_rfl) (by kernel_rfl) (by kernel_rfl) (by kernel_rfl)
  have h27 := @run_callFunc_extern Tryd.prog 86 _ (ReflectliteType.abiMethod fun t => do pure (.int .u8 (← Rtype.kind t))) Tryd.func86 (by kernel_rfl) (by kernel_rfl) (by kernel_rfl) (by kernel_rfl)
  have h37 := @run_callFunc_extern Tryd.prog 122 _ (ReflectliteType.method ReflectliteType.elem) Tryd.func122 (by kernel_rfl) (by kernel_rfl) (by kernel_rfl) (by kernel_rfl)
  have h38 := @run_callFunc_extern Tryd.prog 123 _ (ReflectliteType.relation "Implements" ReflectliteType.implements_) Tryd.func123 (by kernel_rfl) (by kernel_rfl) (by kernel_rfl) (by kernel_rfl)
  have h10 := @run_callFunc_extern Tryd.prog 65 _ ReflectliteType.typeOf Tryd.func65 (by kernel_rfl) (by kernel_rfl) (by kernel_rfl) (by kernel_rfl)
  have h35 := @run_callFunc_extern Tryd.prog 120 _ (ReflectliteType.relation "AssignableTo" ReflectliteType.assignableTo) Tryd.func120 (by kernel_rfl) (by kernel_rfl) (by kernel_rfl) (by kernel_rfl)
  have h11 := @run_callFunc_extern Tryd.prog 66 _ (ReflectliteValue.method (ReflectliteValue.valueError "reflectlite.Value.Elem" 0) ReflectliteValue.elem) Tryd.func66 (by kernel_rfl) (by kernel_rfl) (by kernel_rfl) (by kernel_rfl)
  have h12 := @run_callFunc_extern Tryd.prog 67 _ ReflectliteValue.set Tryd.func67 (by kernel_rfl) (by kernel_rfl) (by kernel_rfl) (by kernel_rfl)
  have tO := tas_typeOf25
  have tO2 := tax_typeOf25
  have mA := tas_methodAssignableTo
  have a25 := tax_notas
  have a26 := tax_assignable25
  have v25 := tax_valueOf25
  have f6 := tax_valueOf27
  have f7 := tax_type27
  have mK := tas_methodKind
  have mE := tas_methodElem
  have mI := tas_methodImplements
  have mU := tax_methodUnwrap
  have k27 := tax_kind27
  have k25 := tax_kind25
  have e27 := tax_elem27
  have i25 := tax_implements25
  have nA := tax_noAs
  have yU := tax_unwrap
  have n8 := tax_isNil27 ⟨w.heap.size, 0, none⟩ t ((w.alloc (.cells #[.pointer (some t)] 81)).alloc (.cells #[.pointer (some ⟨3, 81, none⟩), .pointer (some ⟨w.heap.size, 0, none⟩), .int .u64 150] 118)) (by simp)
  have hlt : 0 < w.heap.size := by
    rcases Nat.eq_zero_or_pos w.heap.size with h0 | h
    · simp [World.cell?, h0] at hg
    · exact h
  have hg2 : ((w.alloc (.cells #[.pointer (some t)] 81)).alloc (.cells #[.pointer (some ⟨3, 81, none⟩), .pointer (some ⟨w.heap.size, 0, none⟩), .int .u64 150] 118)).cell? ⟨0, 0, none⟩ = some (.iface 138 (.agg #[.pointer (some ⟨3, 32, none⟩)])) := by
    rw [World.cell?_alloc_lt _ _ ⟨0, 0, none⟩ (by simp), World.cell?_alloc_lt _ _ ⟨0, 0, none⟩ hlt]; exact hg
  have he2 : (((w.alloc (.cells #[.pointer (some t)] 81)).alloc (.cells #[.pointer (some ⟨3, 81, none⟩), .pointer (some ⟨w.heap.size, 0, none⟩), .int .u64 150] 118)).alloc (.cells #[.pointer (some ⟨3, 81, none⟩), .pointer (some ⟨w.heap.size, 0, none⟩), .int .u64 150] 118)).cell? ⟨eb, eo + 1, none⟩ = some (.iface 37 (.int .i64 n)) := by
    rw [World.cell?_alloc_lt _ _ ⟨eb, eo + 1, none⟩ (by simp; omega), World.cell?_alloc_lt _ _ ⟨eb, eo + 1, none⟩ (by simp; omega), World.cell?_alloc_lt _ _ ⟨eb, eo + 1, none⟩ hel]; exact he
  have htl : t.block < w.heap.size := by
    rcases Nat.lt_or_ge t.block w.heap.size with h | h
    · exact h
    · simp [World.cell?, Array.getElem?_eq_none h] at ht0
  have el := tax_elemV27 ⟨w.heap.size, 0, none⟩ t (((w.alloc (.cells #[.pointer (some t)] 81)).alloc (.cells #[.pointer (some ⟨3, 81, none⟩), .pointer (some ⟨w.heap.size, 0, none⟩), .int .u64 150] 118)).alloc (.cells #[.pointer (some ⟨3, 81, none⟩), .pointer (some ⟨w.heap.size, 0, none⟩), .int .u64 150] 118)) (by rw [World.cell?_alloc_lt _ _ ⟨w.heap.size, 0, none⟩ (by simp; omega)]; simp)
  have st := tax_set25 t ⟨w.heap.size + 1 + 1 + 1, 0, none⟩ n old ((((w.alloc (.cells #[.pointer (some t)] 81)).alloc (.cells #[.pointer (some ⟨3, 81, none⟩), .pointer (some ⟨w.heap.size, 0, none⟩), .int .u64 150] 118)).alloc (.cells #[.pointer (some ⟨3, 81, none⟩), .pointer (some ⟨w.heap.size, 0, none⟩), .int .u64 150] 118)).alloc (.cells #[.int .i64 n] 37))
    (by rw [World.cell?_alloc_at _ _ _ _ (by simp)]; rfl)
    (by rw [World.cell?_alloc_lt _ _ t (by simp; omega), World.cell?_alloc_lt _ _ t (by simp; omega), World.cell?_alloc_lt _ _ t (by simp; omega), World.cell?_alloc_lt _ _ t htl]; exact ht0)
    (by rw [World.frozen?_alloc_old _ _ t (by simp; omega), World.frozen?_alloc_old _ _ t (by simp; omega), World.frozen?_alloc_old _ _ t (by simp; omega), World.frozen?_alloc_old _ _ t (Nat.ne_of_lt htl)]; exact hf0)
  go_enter Tryd.func36, Tryd.ntmps36
  go_wp2
  refine wp_loop_rounds 2 ?_
  rw [rounds_succ]
  go_wp2
  rw [rounds_succ]
  go_wp2
  go_ret
  exact ⟨rfl, rfl⟩
end
end Go.Proofs.YtonihdgidhflnaaDoorX
namespace Go.Proofs.YtonihdgidhflnaaDoorX
section
open Go Go.YtonihdgidhflnaaDoorE Go.Proofs Go.RowKit
set_option maxRecDepth 100000
set_option autoImplicit false
@[reducible] def FaultP (s n : Int) : T := .pt [.int .i64 s, .iface 37 (.int .i64 n)]
@[reducible] def FaultI (s n : Int) : T := .iface 78 (FaultP s n)
theorem fault_parts {w : World} {O : Nat → Prop} {s n : Int} {v : Value} (h : HT w O (FaultI s n) v) : ∃ b o, v = .iface 78 (.pointer (some ⟨b, o, none⟩)) ∧ b < w.heap.size ∧ w.cell? ⟨b, o + 1, none⟩ = some (.iface 37 (.int .i64 n)) ∧ HT w O (FaultP s n) (.pointer (some ⟨b, o, none⟩)) := by
  cases h with
  | iface _ _ y hy =>
    have hy0 := hy
    cases hy with
    | pt _ b o f hO hb h1 hm ht =>
      have e1 := hm 1 (by simp)
      have t1 := ht 1 _ rfl
      have : f 1 = .iface 37 (.int .i64 n) := by
        generalize f 1 = z at t1
        cases t1 with
        | iface _ _ z hz => cases hz; rfl
      rw [this] at e1
      exact ⟨b, o, rfl, hb, e1, hy0⟩
theorem errorType_cell [Tabs] {w : World} {O : Nat → Prop} (h : ∀ p ∈ globs, HT w O (.pt p.2) (.pointer (some ⟨p.1, 0, none⟩))) : w.cell? ⟨0, 0, none⟩ = some (.iface 138 (.agg #[.pointer (some ⟨3, 32, none⟩)])) := by
  have h0 := h (0, [.iface 138 (.agg [.v (.pointer (some ⟨3, 32, none⟩))])]) (List.mem_cons_self ..)
  cases h0 with
  | pt _ b o f hO hb h1 hm ht =>
    have e1 := hm 0 (by simp)
    have t1 := ht 0 _ rfl
    rw [Nat.zero_add] at e1
    rw [e1]
    generalize f 0 = z at t1
    cases t1 with
    | iface _ _ z hz =>
      cases hz with
      | agg _ vs hl hv =>
        match vs, hl, hv with
        | [c], _, hv =>
          have := hv 0 _ c rfl rfl
          cases this
          rfl
theorem cell_of {w : World} {g : Nat} {c0 : Value} {tb : TypeId} (h : w.heap[g]? = some (.cells #[c0] tb (0, 0))) : w.cell? ⟨g, 0, none⟩ = some c0 ∧ w.frozen? ⟨g, 0, none⟩ = false := by
  constructor
  · unfold World.cell?; simp [h]
  · unfold World.frozen?; simp [h]
theorem fill_end [Tabs] {w : World} {g : Nat} {c0 u : Value} {tb : TypeId} {o1 o2 o3 o4 : Obj} (h : w.heap[g]? = some (.cells #[c0] tb (0, 0))) :
    But w (fun c => c = g) (((((w.alloc o1).alloc o2).alloc o3).alloc o4).setCell ⟨g, 0, none⟩ u) ∧ (((((w.alloc o1).alloc o2).alloc o3).alloc o4).setCell ⟨g, 0, none⟩ u).heap[g]? = some (.cells #[u] tb (0, 0)) := by
  have hb : But w (fun c => c = g) ((((w.alloc o1).alloc o2).alloc o3).alloc o4) := (((But.alloc w o1 _).trans (But.alloc _ o2 _)).trans (But.alloc _ o3 _)).trans (But.alloc _ o4 _)
  have hlt : g < w.heap.size := (Array.getElem?_eq_some_iff.1 h).1
  have hg : ((((w.alloc o1).alloc o2).alloc o3).alloc o4).heap[g]? = some (.cells #[c0] tb (0, 0)) := by
    rw [Below.heap_alloc _ _ _ (by simp; omega), Below.heap_alloc _ _ _ (by simp; omega), Below.heap_alloc _ _ _ (by simp; omega), Below.heap_alloc _ _ _ hlt, h]
  exact ⟨hb.trans (But.setCell _ _ _ _), by
    have := heap_setCell_same _ g 0 #[c0] tb u hg
    simpa using this⟩
theorem AsF_ct [Tabs] (s n : Int) : Ct Tryd.prog 36 [.t (FaultI s n), .iface 80 (.ptr 0 0)] [(0, false, .box 78 [.t (.v (.pointer none))])] (Ret (.bool true) [(0, false, .box 78 [.t (FaultP s n)])]) := by
  refine Ct.fill ⟨_, Tryd.func36, rfl, rfl⟩ rfl fun w O v c0 g hv hg hc => ?_
  obtain ⟨b, o, rfl, hb, he, hp⟩ := fault_parts hv
  obtain ⟨h1, h2⟩ := cell_of hc
  refine ⟨_, hp, (as_hit ⟨b, o, none⟩ ⟨g, 0, none⟩ c0 w (errorType_cell hg) h1 h2).mono ?_⟩
  rintro e w' ⟨rfl, rfl⟩
  exact ⟨rfl, fill_end hc⟩
theorem AsC_ct [Tabs] (s n : Int) : Ct Tryd.prog 36 [.t (FaultI s n), .iface 81 (.ptr 0 0)] [(0, false, .box 37 [.t (.int .i64 0)])] (Ret (.bool true) [(0, false, .box 37 [.t (.int .i64 n)])]) := by
  refine Ct.fill ⟨_, Tryd.func36, rfl, rfl⟩ rfl fun w O v c0 g hv hg hc => ?_
  obtain ⟨b, o, rfl, hb, he, hp⟩ := fault_parts hv
  obtain ⟨h1, h2⟩ := cell_of hc
  refine ⟨.int .i64 n, .v _, (as_code b o ⟨g, 0, none⟩ n c0 w (errorType_cell hg) he hb h1 h2).mono ?_⟩
  rintro e w' ⟨rfl, rfl⟩
  exact ⟨rfl, fill_end hc⟩
theorem ToldN_ct [Tabs] : CtT Tryd.prog 13 [.v .nilIface] (Ret (.t (.tuple [.int .i64 0, .int .i64 0])) []) := by
  refine CtT.ofN Tryd.func13 rfl rfl (n := 27) rfl ?_
  exact ⟨_, rfl, .refl _⟩
theorem Told_ct [Tabs] (s n : Int) : CtT Tryd.prog 13 [FaultI s n] (Ret (.t (.tuple [.int .i64 s, .int .i64 n])) []) := by
  refine CtT.ofN Tryd.func13 rfl rfl (n := 27) rfl ?_
  refine Told.callR [(0, 4)] (AsF_ct s n) rfl rfl rfl ⟨rfl, trivial⟩ rfl ?_
  refine Told.callR [(0, 5)] (AsC_ct s n) rfl rfl rfl ⟨rfl, trivial⟩ rfl ?_
  exact ⟨_, rfl, .refl _⟩
end
end Go.Proofs.YtonihdgidhflnaaDoorX
namespace Go.Proofs.YtonihdgidhflnaaDoorX
section
open Go Go.YtonihdgidhflnaaDoorE Go.Proofs
set_option maxRecDepth 100000
set_option autoImplicit false
structure Activation where
  t : Int
  e : Int
  d : Int
  seed : List Int
  deriving DecidableEq
@[reducible] def Activation.T (x : Activation) : T := .agg [.int .u64 x.t, .int .u64 x.e, .int .u64 x.d, .sl 1 (bys x.seed)]
structure Activation.Wf (x : Activation) : Prop where
  t : U64 x.t
  e : U64 x.e
  d : U64 x.d
  seed : Byt x.seed
abbrev Activation.box (x : Activation) : Blk := .box 26 [.int .u64 x.t, .int .u64 x.e, .int .u64 x.d, .t (.sl 1 (bys x.seed))]
theorem Activation.row_len (l : List Activation) : (l.map Activation.T).length = l.length := by simp
theorem Activation.row_get {l : List Activation} {n : Int} {i : Nat} {x : Activation} (hn : n = i) (h : l[i]? = some x) : (l.map Activation.T)[n.toNat]? = some x.T := by subst hn; simp [h]
def faultT (s e : Int) : T := if e = 0 then .v .nilIface else FaultI s e
theorem faultR_ct [Tabs] (e : Int) : CtT Tryd.prog 28 [.int .i64 e] (Ret (.t (faultT 4 e)) []) := by
  refine CtT.ofN Tryd.func28 rfl rfl (n := 10) rfl ?_
  unfold faultT
  refine brB (fun h => ?_) (fun h => ?_)
  · refine ⟨_, rfl, ?_⟩
    rw [if_pos (of_decide_eq_true h)]
    exact .refl _
  · refine ⟨_, rfl, ?_⟩
    rw [if_neg (of_decide_eq_false h)]
    exact .refl _
def Activation.ok (a : Activation) : Prop := 1 ≤ a.seed.length ∧ a.seed.length ≤ 32
instance (a : Activation) : Decidable a.ok := by unfold Activation.ok; infer_instance
theorem ARight_ct [Tabs] (a : Activation) : CtT Tryd.prog 14 [a.T] (Ret (.bool (decide a.ok)) []) := by
  refine Ct.of Tryd.func14 rfl rfl (n := 13) rfl (by simp [ids]) ?_
  refine brB (fun h => ?_) (fun h => ?_)
  · refine ⟨[], _, _, ⟨rfl, rfl⟩, congrArg AV.bool ?_, trivial, rfl⟩
    have h := of_decide_eq_true h
    rw [bys_len] at h ⊢
    rw [decide_eq_decide, Activation.ok]
    omega
  · refine ⟨[], _, _, ⟨rfl, rfl⟩, congrArg AV.bool ?_, trivial, rfl⟩
    have h := of_decide_eq_false h
    rw [bys_len] at h
    refine (decide_eq_false fun h2 => ?_).symm
    have := h2.1
    omega
def abytes (a : Activation) : List Int := [65] ++ oct a.t ++ oct a.e ++ oct a.d ++ [(a.seed.length : Int)] ++ a.seed
theorem abytes_len (a : Activation) : (abytes a).length = 26 + a.seed.length := by simp [abytes, oct_len]; omega
theorem abytes_byt [Tabs] {a : Activation} (h : a.Wf) (ho : a.ok) : Byt (abytes a) := by
  have : Byt [(65 : Int)] := fun y hy => by rw [List.mem_singleton.1 hy]; omega
  have h2 : Byt [(a.seed.length : Int)] := fun y hy => by rw [List.mem_singleton.1 hy]; have := ho.2; omega
  exact ((((this.append (oct_byt _)).append (oct_byt _)).append (oct_byt _)).append h2).append h.seed
theorem ABytes_ct [Tabs] (a : Activation) (hw : a.Wf) (ho : a.ok) : CtT Tryd.prog 11 [a.T] (Ret (.t (.tuple [.sl 1 (bys (abytes a)), .int .i64 0])) []) := by
  refine CtT.ofN Tryd.func11 rfl rfl (n := 26) rfl ?_
  have kr := ARight_ct a
  rw [decide_eq_true ho] at kr
  have h2 := ho.2
  refine Told.callT kr rfl rfl rfl rfl ?_
  refine Told.callT (Put_word hw.t.1 hw.t.2) rfl rfl rfl rfl ?_
  refine Told.callT (Put_word hw.e.1 hw.e.2) rfl rfl rfl rfl ?_
  refine Told.callT (Put_word hw.d.1 hw.d.2) rfl rfl rfl rfl ?_
  have w1 : IntKind.u8.wrap ((bys a.seed).length : Int) = (a.seed.length : Int) := by rw [bys_len]; exact wb' (by omega) (by omega)
  have kc := ConcatB_ct [[65], oct a.t, oct a.e, oct a.d, [IntKind.u8.wrap ((bys a.seed).length : Int)], a.seed] (by simp) (by simp [oct_len]; omega)
  refine Told.callT kc rfl rfl rfl rfl ?_
  refine ⟨_, rfl, ?_⟩
  have e : [[65], oct a.t, oct a.e, oct a.d, [IntKind.u8.wrap ((bys a.seed).length : Int)], a.seed].flatten = abytes a := by
    rw [w1]; simp [abytes]
  rw [e]
  exact .refl _
theorem ABytesN_ct [Tabs] (a : Activation) (ho : ¬ a.ok) : CtT Tryd.prog 11 [a.T] (Ret (.t (.tuple [.sl 1 (bys []), .int .i64 1])) []) := by
  refine CtT.ofN Tryd.func11 rfl rfl (n := 26) rfl ?_
  have kr := ARight_ct a
  rw [decide_eq_false ho] at kr
  refine Told.callT kr rfl rfl rfl rfl ?_
  exact ⟨_, rfl, by repeat constructor⟩
@[reducible] def resSeal (g : Engine) (b : List Int) (e : T) : T := .tuple [g.T, .sl 1 (bys b), e]
theorem faultR1 [Tabs] : CtT Tryd.prog 28 [.int .i64 1] (Ret (.t (FaultI 4 1)) []) := by
  have := faultR_ct 1
  rwa [show faultT 4 1 = FaultI 4 1 from rfl] at this
theorem ASealA_ct [Tabs] (g : Engine) (k : List Int) (a : Activation) (ho : ¬ a.ok) : CtT Tryd.prog 9 [g.T, .sl 1 (bys k), a.T] (Ret (.t (resSeal g [] (FaultI 4 1))) []) := by
  refine CtT.ofN Tryd.func9 rfl rfl (n := 41) rfl ?_
  refine Told.callT (ABytesN_ct a ho) rfl rfl rfl rfl ?_
  refine Told.callT faultR1 rfl rfl rfl rfl ?_
  exact ⟨_, rfl, by repeat constructor⟩
theorem ASealN_ct [Tabs] (g : Engine) (hw : g.Wf) (hs : g.Sm) (hg : ¬ g.ok) (k : List Int) (a : Activation) (ha : a.Wf) (ho : a.ok) : CtT Tryd.prog 9 [g.T, .sl 1 (bys k), a.T] (Ret (.t (resSeal g [] (FaultI 4 1))) []) := by
  refine CtT.ofN Tryd.func9 rfl rfl (n := 41) rfl ?_
  refine Told.callT (ABytes_ct a ha ho) rfl rfl rfl rfl ?_
  refine Told.callT (TagN_ct g hw hs hg k (abytes a)) rfl rfl rfl rfl ?_
  refine Told.callT faultR1 rfl rfl rfl rfl ?_
  exact ⟨_, rfl, by repeat constructor⟩
theorem putT_len (l : List Term) (k m : List Int) : (putT l k m).2.length = 8 := by unfold putT; cases atT l k m <;> rfl
theorem putT_byt [Tabs] (l : List Term) (k m : List Int) : Byt (putT l k m).2 := by unfold putT; cases atT l k m <;> exact oct_byt _
theorem ASealS_ct [Tabs] (g : Engine) (hw : g.Wf) (hs : g.Sm) (hg : g.Sym) (k : List Int) (hk : Byt k) (hkl : k.length < 1000000) (a : Activation) (ha : a.Wf) (ho : a.ok) :
    CtT Tryd.prog 9 [g.T, .sl 1 (bys k), a.T] (Ret (.t (resSeal (tagE g k (abytes a)).1 (abytes a ++ (tagE g k (abytes a)).2) (.v .nilIface))) []) := by
  refine CtT.ofN Tryd.func9 rfl rfl (n := 41) rfl ?_
  have h2 := ho.2
  have hl := abytes_len a
  refine Told.callT (ABytes_ct a ha ho) rfl rfl rfl rfl ?_
  refine Told.callT (TagS_ct g hw hs hg k (abytes a) hk (abytes_byt ha ho) ⟨hkl, by simp only; omega⟩) rfl rfl rfl rfl ?_
  have hpl : (tagE g k (abytes a)).2.length = 8 := putT_len _ _ _
  refine Told.callT (ConcatB_ct [abytes a, (tagE g k (abytes a)).2] (by simp) (by simp [hpl]; omega)) rfl rfl rfl rfl ?_
  refine ⟨_, rfl, ?_⟩
  rw [show [abytes a, (tagE g k (abytes a)).2].flatten = abytes a ++ (tagE g k (abytes a)).2 by simp]
  exact .refl _
def sizedI (b : List Int) : Int :=
  if b.length < 1 then 2 else if b[0]? ≠ some 65 then 3 else if b.length < 26 then 2
  else if (b.getD 25 0) < 1 ∨ 32 < (b.getD 25 0) then 3 else if (b.length : Int) < 34 + b.getD 25 0 then 2 else if 34 + b.getD 25 0 < b.length then 4 else 0
theorem sized_ct [Tabs] (b : List Int) (hb : Byt b) (hl : b.length < 1000000) : CtT Tryd.prog 31 [.sl 1 (bys b)] (Ret (.t (.int .i64 (sizedI b))) []) := by
  refine CtT.ofN Tryd.func31 rfl rfl (n := 40) rfl ?_
  unfold sizedI
  refine brB (fun h => ?_) (fun h => ?_)
  · have h := of_decide_eq_true h
    rw [bys_len] at h
    refine ⟨_, rfl, ?_⟩
    rw [if_pos (by omega)]
    exact .refl _
  have h := of_decide_eq_false h
  rw [bys_len] at h
  have hx : b[0]? = some b[0] := List.getElem?_eq_getElem (by omega)
  generalize b[0] = x at hx
  refine ⟨by omega, _, bys_get (i := 0) rfl hx, ?_⟩
  refine brB (fun h1 => ?_) (fun h1 => ?_)
  · refine ⟨_, rfl, ?_⟩
    rw [if_neg (by omega), hx, if_pos (by simpa using h1)]
    exact .refl _
  have h1 : x = 65 := by simpa using h1
  refine brB (fun h2 => ?_) (fun h2 => ?_)
  · have h2 := of_decide_eq_true h2
    rw [bys_len] at h2
    refine ⟨_, rfl, ?_⟩
    rw [if_neg (by omega), hx, if_neg (by simp [h1]), if_pos (by omega)]
    exact .refl _
  have h2 := of_decide_eq_false h2
  rw [bys_len] at h2
  have hy : b[25]? = some b[25] := List.getElem?_eq_getElem (by omega)
  have hyb := hb b[25] (List.getElem_mem _)
  generalize b[25] = y at hy hyb
  have hd : b.getD 25 0 = y := by rw [List.getD_eq_getElem?_getD, hy]; rfl
  refine ⟨by omega, _, bys_get (i := 25) rfl hy, ?_⟩
  have w1 : IntKind.i64.wrap y = y := wi (by omega) (by omega)
  have w2 : IntKind.i64.wrap (IntKind.i64.wrap (26 + IntKind.i64.wrap y) + 8) = 34 + y := by rw [w1, wi (n := 26 + y) (by omega) (by omega)]; exact (wi (by omega) (by omega)).trans (by omega)
  rw [hd]
  refine brB (fun h3 => ?_) (fun h3 => ?_)
  · have h3 := of_decide_eq_true h3
    rw [w1] at h3
    refine ⟨_, rfl, ?_⟩
    rw [if_neg (by omega), hx, if_neg (by simp [h1]), if_neg (by omega), if_pos (by omega)]
    exact .refl _
  have h3 := of_decide_eq_false h3
  rw [w1] at h3
  refine brB (fun h4 => ?_) (fun h4 => ?_)
  · have h4 := of_decide_eq_true h4
    rw [w1] at h4
    refine ⟨_, rfl, ?_⟩
    rw [if_neg (by omega), hx, if_neg (by simp [h1]), if_neg (by omega), if_pos (by omega)]
    exact .refl _
  have h4 := of_decide_eq_false h4
  rw [w1] at h4
  refine brB (fun h5 => ?_) (fun h5 => brB (fun h6 => ?_) (fun h6 => ?_))
  · have h5 := of_decide_eq_true h5
    rw [w2, bys_len] at h5
    refine ⟨_, rfl, ?_⟩
    rw [if_neg (by omega), hx, if_neg (by simp [h1]), if_neg (by omega), if_neg (by omega), if_pos (by omega)]
    exact .refl _
  · have h5 := of_decide_eq_false h5
    have h6 := of_decide_eq_true h6
    rw [w2, bys_len] at h5 h6
    refine ⟨_, rfl, ?_⟩
    rw [if_neg (by omega), hx, if_neg (by simp [h1]), if_neg (by omega), if_neg (by omega), if_neg (by omega), if_pos (by omega)]
    exact .refl _
  · have h5 := of_decide_eq_false h5
    have h6 := of_decide_eq_false h6
    rw [w2, bys_len] at h5 h6
    refine ⟨_, rfl, ?_⟩
    rw [if_neg (by omega), hx, if_neg (by simp [h1]), if_neg (by omega), if_neg (by omega), if_neg (by omega), if_neg (by omega)]
    exact .refl _
end
end Go.Proofs.YtonihdgidhflnaaDoorX
namespace Go.Proofs.YtonihdgidhflnaaDoorX
section
open Go Go.YtonihdgidhflnaaDoorE Go.Proofs
set_option maxRecDepth 100000
set_option autoImplicit false
def numAt (b : List Int) (i : Nat) : Int := val ((b.drop i).take 8)
theorem number_ct [Tabs] (b : List Int) (i : Nat) (hb : Byt b) (hl : b.length < 1000000) (hi : i + 8 ≤ b.length) : CtT Tryd.prog 33 [.sl 1 (bys b), .int .i64 i] (Ret (.int .u64 (numAt b i)) []) := by
  refine Ct.of Tryd.func33 rfl rfl (n := 17) rfl (by simp [ids]) ?_
  have w1 : IntKind.i64.wrap ((i : Int) + 8) = ((i + 8 : Nat) : Int) := by rw [wi (by omega) (by omega)]; omega
  conv => whnf
  rw [w1]
  refine ⟨by omega, by omega, by rw [bys_len]; omega, ?_⟩
  have e : (b.take (i + 8)).drop i = (b.drop i).take 8 := by rw [List.drop_take]; congr 1; omega
  have k := Get_ct ((b.take (i + 8)).drop i) (by simp; omega) ((hb.take _).drop _)
  rw [bys_drop, bys_take] at k
  rw [e] at k
  refine Told.callT k rfl rfl rfl rfl ?_
  exact ⟨[], _, _, ⟨rfl, rfl⟩, rfl, trivial, rfl⟩
def zeroA : Activation := ⟨0, 0, 0, []⟩
def parseA (b : List Int) : Activation := ⟨numAt b 1, numAt b 9, numAt b 17, (b.take (b.length - 8)).drop 26⟩
@[reducible] def resOpen (a : Activation) (e : T) : T := .tuple [a.T, e]
theorem AOpenE_ct [Tabs] (g : Engine) (k b : List Int) (hb : Byt b) (hl : b.length < 1000000) (h : sizedI b ≠ 0) : CtT Tryd.prog 10 [g.T, .sl 1 (bys k), .sl 1 (bys b)] (Ret (.t (resOpen zeroA (FaultI 4 (sizedI b)))) []) := by
  refine CtT.ofN Tryd.func10 rfl rfl (n := 46) rfl ?_
  refine Told.callT (sized_ct b hb hl) rfl rfl rfl rfl ?_
  refine brT (by simpa using h) ?_
  have kf := faultR_ct (sizedI b)
  rw [show faultT 4 (sizedI b) = FaultI 4 (sizedI b) from if_neg h] at kf
  refine Told.callT kf rfl rfl rfl rfl ?_
  exact ⟨_, rfl, by repeat constructor⟩
theorem sized_facts {b : List Int} (h : sizedI b = 0) : ∃ n : Nat, b.length = 34 + n ∧ 1 ≤ n ∧ n ≤ 32 ∧ b[0]? = some 65 ∧ b[25]? = some (n : Int) := by
  unfold sizedI at h
  split at h
  · cases h
  split at h
  · cases h
  split at h
  · cases h
  split at h
  · cases h
  split at h
  · cases h
  split at h
  · cases h
  rename_i h1 h2 h3 h4 h5 h6
  have hy : b[25]? = some b[25] := List.getElem?_eq_getElem (by omega)
  have hd : b.getD 25 0 = b[25] := by rw [List.getD_eq_getElem?_getD, hy]; rfl
  rw [hd] at h4 h5 h6
  exact ⟨b[25].toNat, by omega, by omega, by omega, by simpa using h2, by rw [hy]; congr 1; omega⟩
theorem AOpen_ct [Tabs] (g : Engine) (k b : List Int) (hb : Byt b) (hl : b.length < 1000000) (h : sizedI b = 0) (fits : Bool) (hf : CtT Tryd.prog 32 [g.T, .sl 1 (bys k), .sl 1 (bys (b.take (b.length - 8))), .sl 1 (bys (b.drop (b.length - 8)))] (Ret (.bool fits) [])) :
    CtT Tryd.prog 10 [g.T, .sl 1 (bys k), .sl 1 (bys b)] (Ret (.t (bif fits then resOpen (parseA b) (.v .nilIface) else resOpen zeroA (FaultI 4 5))) []) := by
  refine CtT.ofN Tryd.func10 rfl rfl (n := 46) rfl ?_
  obtain ⟨n, hn, n1, n2, _, _⟩ := sized_facts h
  have ks := sized_ct b hb hl
  rw [h] at ks
  refine Told.callT ks rfl rfl rfl rfl ?_
  have w1 : IntKind.i64.wrap (((bys b).length : Int) - 8) = ((b.length - 8 : Nat) : Int) := by rw [bys_len, wi (by omega) (by omega)]; omega
  conv => whnf
  rw [w1]
  refine ⟨by omega, by omega, by rw [bys_len]; omega, ?_⟩
  conv => whnf
  rw [w1]
  refine ⟨by omega, by rw [bys_len]; omega, by rw [bys_len]; omega, ?_⟩
  rw [bys_take, bys_drop] at hf
  refine Told.callT hf rfl rfl rfl rfl ?_
  cases fits with
  | false =>
    have kf := faultR_ct 5
    rw [show faultT 4 5 = FaultI 4 5 from rfl] at kf
    refine Told.callT kf rfl rfl rfl rfl ?_
    exact ⟨_, rfl, by repeat constructor⟩
  | true =>
    refine Told.callT (number_ct b 1 hb hl (by omega)) rfl rfl rfl rfl ?_
    refine Told.callT (number_ct b 9 hb hl (by omega)) rfl rfl rfl rfl ?_
    refine Told.callT (number_ct b 17 hb hl (by omega)) rfl rfl rfl rfl ?_
    refine ⟨by decide, by simp [bys_len]; omega, by simp, ?_⟩
    have kc := CloneB_ct ((b.take (b.length - 8)).drop 26) (by simp; omega)
    rw [bys_drop, bys_take] at kc
    refine Told.callT kc rfl rfl rfl rfl ?_
    refine ⟨_, rfl, ?_⟩
    have e : (parseA b).T = .agg [.int .u64 (numAt b 1), .int .u64 (numAt b 9), .int .u64 (numAt b 17), .sl 1 (((bys b).take (b.length - 8)).drop 26)] := by rw [← bys_take, ← bys_drop]; rfl
    show Tas _ (.tuple [(parseA b).T, .v .nilIface])
    rw [e]
    exact .refl _
theorem ASame_ct [Tabs] (a b : Activation) (ha : a.Wf) (hb : b.Wf) : CtT Tryd.prog 12 [a.T, b.T] (Ret (.bool (decide (a = b))) []) := by
  refine Ct.of Tryd.func12 rfl rfl (n := 33) rfl (by simp [ids]) ?_
  have fin : ∀ x : Bool, (x = true ↔ a.t = b.t ∧ a.e = b.e ∧ a.d = b.d ∧ a.seed = b.seed) → x = decide (a = b) := fun x h => by
    obtain ⟨a1, a2, a3, a4⟩ := a; obtain ⟨b1, b2, b3, b4⟩ := b
    rw [Bool.eq_iff_iff, h, decide_eq_true_iff]; simp
  have bad : ¬ (a.t = b.t ∧ a.e = b.e ∧ a.d = b.d ∧ a.seed = b.seed) → false = decide (a = b) := fun h => fin false ⟨fun h => (by cases h), fun h2 => absurd h2 h⟩
  refine brB (fun h1 => brB (fun h2 => brB (fun h3 => ?_) (fun h3 => ?_)) (fun h2 => ?_)) (fun h1 => ?_)
  · refine ⟨_, rfl, _, rfl, fun c hc => ?_⟩
    refine ⟨[], _, _, ⟨rfl, rfl⟩, congrArg AV.bool (fin c ?_), trivial, rfl⟩
    rw [hc, decide_eq_true_iff, strOf_eq (fun x h => by have := ha.seed x h; omega) (fun y h => by have := hb.seed y h; omega)]
    exact ⟨fun h => ⟨of_decide_eq_true h1, of_decide_eq_true h2, of_decide_eq_true h3, h⟩, fun h => h.2.2.2⟩
  · exact ⟨[], _, _, ⟨rfl, rfl⟩, congrArg AV.bool (bad fun h => of_decide_eq_false h3 h.2.2.1), trivial, rfl⟩
  · exact ⟨[], _, _, ⟨rfl, rfl⟩, congrArg AV.bool (bad fun h => of_decide_eq_false h2 h.2.1), trivial, rfl⟩
  · exact ⟨[], _, _, ⟨rfl, rfl⟩, congrArg AV.bool (bad fun h => of_decide_eq_false h1 h.1), trivial, rfl⟩
def shortT (l : List Term) : Prop := l.length ≤ 400 ∧ ∀ t ∈ l, t.key.length ≤ 3000 ∧ t.msg.length ≤ 3000
theorem TShort_ct [Tabs] (l : List Term) : ∃ z : Bool, (z = true → shortT l) ∧ CtT Tryd.prog 27 [.sl 2 (l.map Term.T)] (Ret (.bool z) []) := by
  by_cases hs : shortT l
  · refine ⟨true, fun _ => hs, ?_⟩
    refine Ct.of Tryd.func27 rfl rfl (n := 33) rfl (by simp [ids]) ?_
    refine ⟨Nat, fun i => [(0, .t (.sl 2 (l.map Term.T))), (3, .int .i64 i)], fun _ => [], fun i => i ≤ l.length, fun i => l.length - i, 0, Nat.zero_le _, Le.of [] ⟨rfl, rfl, trivial⟩ trivial rfl, ?_⟩
    intro i hi
    have h400 := hs.1
    refine brB (fun hc => ?_) (fun hc => ?_)
    · have hc : i < l.length := by have := of_decide_eq_true hc; rw [Term.row_len] at this; omega
      refine brB (fun hc2 => ?_) (fun hc2 => absurd (of_decide_eq_false hc2) (by omega))
      have hx : l[i]? = some l[i] := List.getElem?_eq_getElem hc
      have hm := hs.2 l[i] (List.getElem_mem _)
      generalize l[i] = t at hx hm
      refine ⟨by omega, _, Term.row_get rfl hx, ?_⟩
      refine brF (decide_eq_false (by rw [bys_len]; omega)) ?_
      refine ⟨by omega, _, Term.row_get rfl hx, ?_⟩
      refine brF (decide_eq_false (by rw [bys_len]; omega)) ?_
      exact ⟨i + 1, hc, Le.of [] ⟨rfl, congrArg (AV.int .i64) (wi (by omega) (by omega)), trivial⟩ trivial rfl, by show l.length - (i + 1) < l.length - i; omega⟩
    · exact ⟨[], _, _, ⟨rfl, rfl⟩, congrArg AV.bool (decide_eq_true (by rw [Term.row_len]; omega)), trivial, rfl⟩
  · refine ⟨false, fun h => (by cases h), ?_⟩
    refine Ct.of Tryd.func27 rfl rfl (n := 33) rfl (by simp [ids]) ?_
    refine ⟨Nat, fun i => [(0, .t (.sl 2 (l.map Term.T))), (3, .int .i64 i)], fun _ => [], fun i => i ≤ l.length ∧ i ≤ 400 ∧ ∀ j, j < i → ∀ t, l[j]? = some t → t.key.length ≤ 3000 ∧ t.msg.length ≤ 3000, fun i => l.length - i, 0, ⟨Nat.zero_le _, Nat.zero_le _, fun j h => absurd h (by omega)⟩, Le.of [] ⟨rfl, rfl, trivial⟩ trivial rfl, ?_⟩
    rintro i ⟨hi, hi4, hb⟩
    refine brB (fun hc => ?_) (fun hc => ?_)
    · have hc : i < l.length := by have := of_decide_eq_true hc; rw [Term.row_len] at this; omega
      refine brB (fun hc2 => ?_) (fun hc2 => ?_)
      · have hc2 := of_decide_eq_true hc2
        have hx : l[i]? = some l[i] := List.getElem?_eq_getElem hc
        generalize l[i] = t at hx
        refine ⟨by omega, _, Term.row_get rfl hx, ?_⟩
        refine brB (fun h1 => ?_) (fun h1 => ?_)
        · exact ⟨[], _, _, ⟨rfl, rfl⟩, rfl, trivial, rfl⟩
        have h1 := of_decide_eq_false h1
        rw [bys_len] at h1
        refine ⟨by omega, _, Term.row_get rfl hx, ?_⟩
        refine brB (fun h2 => ?_) (fun h2 => ?_)
        · exact ⟨[], _, _, ⟨rfl, rfl⟩, rfl, trivial, rfl⟩
        have h2 := of_decide_eq_false h2
        rw [bys_len] at h2
        refine ⟨i + 1, ⟨hc, by omega, fun j hj u hu => ?_⟩, Le.of [] ⟨rfl, congrArg (AV.int .i64) (wi (by omega) (by omega)), trivial⟩ trivial rfl, by show l.length - (i + 1) < l.length - i; omega⟩
        by_cases e : j = i
        · subst e; rw [hx] at hu; cases hu; omega
        · exact hb j (by omega) u hu
      · have hc2 := of_decide_eq_false hc2
        exact ⟨[], _, _, ⟨rfl, rfl⟩, congrArg AV.bool (decide_eq_false (by rw [Term.row_len]; omega)), trivial, rfl⟩
    · have hc : i = l.length := by have := of_decide_eq_false hc; rw [Term.row_len] at this; omega
      subst hc
      refine absurd ⟨hi4, fun t ht => ?_⟩ hs
      obtain ⟨j, hj, rfl⟩ := List.mem_iff_getElem.1 ht
      exact hb j hj _ (List.getElem?_eq_getElem hj)
end
end Go.Proofs.YtonihdgidhflnaaDoorX
namespace Go.Proofs.YtonihdgidhflnaaDoorX
section
open Go Go.YtonihdgidhflnaaDoorE Go.Proofs
set_option maxRecDepth 100000
set_option autoImplicit false
theorem small14_ct [Tabs] (g : Engine) (k b : List Int) : ∃ z : Bool, (z = true → shortT g.terms ∧ k.length ≤ 300 ∧ b.length ≤ 300) ∧ CtT Tryd.prog 8 [g.T, .sl 1 (bys k), .sl 1 (bys b)] (Ret (.bool z) []) := by
  obtain ⟨z, hz, kt⟩ := TShort_ct g.terms
  cases z with
  | false =>
    refine ⟨false, fun h => (by cases h), ?_⟩
    refine Ct.of Tryd.func8 rfl rfl (n := 20) rfl (by simp [ids]) ?_
    refine Told.callT kt rfl rfl rfl rfl ?_
    exact ⟨[], _, _, ⟨rfl, rfl⟩, rfl, trivial, rfl⟩
  | true =>
    refine ⟨decide (k.length ≤ 300) && decide (b.length ≤ 300), fun h => ?_, ?_⟩
    · simp only [Bool.and_eq_true, decide_eq_true_eq] at h
      exact ⟨hz rfl, h⟩
    · refine Ct.of Tryd.func8 rfl rfl (n := 20) rfl (by simp [ids]) ?_
      refine Told.callT kt rfl rfl rfl rfl ?_
      refine brB (fun h => ?_) (fun h => ?_)
      · have h := of_decide_eq_true h
        rw [bys_len] at h
        refine ⟨[], _, _, ⟨rfl, rfl⟩, congrArg AV.bool ?_, trivial, rfl⟩
        rw [decide_eq_true (show k.length ≤ 300 by omega), Bool.true_and, bys_len, decide_eq_decide]
        omega
      · have h := of_decide_eq_false h
        rw [bys_len] at h
        refine ⟨[], _, _, ⟨rfl, rfl⟩, congrArg AV.bool ?_, trivial, rfl⟩
        rw [decide_eq_false (show ¬ k.length ≤ 300 by omega)]; rfl
theorem sym_of (l : List Term) (h : l.Nodup) : Engine.Sym ⟨2, l⟩ := ⟨rfl, h⟩
theorem sm_of {l : List Term} (h : shortT l) : Engine.Sm ⟨2, l⟩ := ⟨by have := h.1; simp only; omega, fun t ht => by have := h.2 t ht; exact ⟨by omega, by omega⟩⟩
theorem wf_of {l : List Term} (h : ∀ t ∈ l, t.Wf) : Engine.Wf ⟨2, l⟩ := ⟨⟨by show (_ : Int) ≤ 2; decide, by show (2 : Int) < _; decide⟩, h⟩
def actA : Activation := ⟨1, 2, 3, [9]⟩
theorem awake14_ct [Tabs] : CtT Tryd.prog 7 [] (Ret (.bool true) []) := by
  refine Ct.of Tryd.func7 rfl rfl (n := 83) rfl (by simp [ids]) ?_
  have wa : actA.Wf := ⟨by constructor <;> decide, by constructor <;> decide, by constructor <;> decide, by unfold Byt; decide⟩
  have oa : actA.ok := by unfold Activation.ok; decide
  have w0 : Engine.Wf ⟨2, []⟩ := wf_of (by simp)
  have s0 : Engine.Sm ⟨2, []⟩ := sm_of ⟨by simp, by simp⟩
  have y0 : Engine.Sym ⟨2, []⟩ := sym_of [] (by simp)
  have kb : Byt [107, 101, 121] := by unfold Byt; decide
  have zb : Byt [107, 101, 122] := by unfold Byt; decide
  have k1 := ASealS_ct ⟨2, []⟩ w0 s0 y0 [107, 101, 121] kb (by simp) actA wa oa
  have eb : abytes actA = [65, 0, 0, 0, 0, 0, 0, 0, 1, 0, 0, 0, 0, 0, 0, 0, 2, 0, 0, 0, 0, 0, 0, 0, 3, 1, 9] := by decide +kernel
  have et : tagE ⟨2, []⟩ [107, 101, 121] (abytes actA) = (⟨2, [⟨[107, 101, 121], abytes actA⟩]⟩, [0, 0, 0, 0, 0, 0, 0, 1]) := by decide +kernel
  rw [et, eb] at k1
  refine Told.callT (k1.tas (by repeat constructor)) rfl rfl rfl rfl ?_
  have w1 : Engine.Wf ⟨2, [⟨[107, 101, 121], [65, 0, 0, 0, 0, 0, 0, 0, 1, 0, 0, 0, 0, 0, 0, 0, 2, 0, 0, 0, 0, 0, 0, 0, 3, 1, 9]⟩]⟩ := wf_of (by intro t ht; rw [List.mem_singleton.1 ht]; exact ⟨kb, by unfold Byt; decide⟩)
  have s1 : Engine.Sm ⟨2, [⟨[107, 101, 121], [65, 0, 0, 0, 0, 0, 0, 0, 1, 0, 0, 0, 0, 0, 0, 0, 2, 0, 0, 0, 0, 0, 0, 0, 3, 1, 9]⟩]⟩ := sm_of ⟨by simp, by intro t ht; rw [List.mem_singleton.1 ht]; simp⟩
  have y1 : Engine.Sym ⟨2, [⟨[107, 101, 121], [65, 0, 0, 0, 0, 0, 0, 0, 1, 0, 0, 0, 0, 0, 0, 0, 2, 0, 0, 0, 0, 0, 0, 0, 3, 1, 9]⟩]⟩ := sym_of _ (by simp)
  have f1 := FitsS_ct _ w1 s1 y1 [107, 101, 121] [65, 0, 0, 0, 0, 0, 0, 0, 1, 0, 0, 0, 0, 0, 0, 0, 2, 0, 0, 0, 0, 0, 0, 0, 3, 1, 9] [0, 0, 0, 0, 0, 0, 0, 1] kb (by unfold Byt; decide) (by unfold Byt; decide) (by simp) ⟨by simp, by simp⟩
  have f2 := FitsS_ct _ w1 s1 y1 [107, 101, 122] [65, 0, 0, 0, 0, 0, 0, 0, 1, 0, 0, 0, 0, 0, 0, 0, 2, 0, 0, 0, 0, 0, 0, 0, 3, 1, 9] [0, 0, 0, 0, 0, 0, 0, 1] zb (by unfold Byt; decide) (by unfold Byt; decide) (by simp) ⟨by simp, by simp⟩
  rw [decide_eq_true (by decide +kernel)] at f1
  rw [decide_eq_false (by decide +kernel)] at f2
  have k2 := AOpen_ct _ [107, 101, 121] [65, 0, 0, 0, 0, 0, 0, 0, 1, 0, 0, 0, 0, 0, 0, 0, 2, 0, 0, 0, 0, 0, 0, 0, 3, 1, 9, 0, 0, 0, 0, 0, 0, 0, 1] (by unfold Byt; decide) (by simp) (by decide +kernel) _ f1
  have k3 := AOpen_ct _ [107, 101, 122] [65, 0, 0, 0, 0, 0, 0, 0, 1, 0, 0, 0, 0, 0, 0, 0, 2, 0, 0, 0, 0, 0, 0, 0, 3, 1, 9, 0, 0, 0, 0, 0, 0, 0, 1] (by unfold Byt; decide) (by simp) (by decide +kernel) _ f2
  have ep : parseA [65, 0, 0, 0, 0, 0, 0, 0, 1, 0, 0, 0, 0, 0, 0, 0, 2, 0, 0, 0, 0, 0, 0, 0, 3, 1, 9, 0, 0, 0, 0, 0, 0, 0, 1] = actA := by decide +kernel
  rw [ep] at k2
  refine Told.callT k2 rfl rfl rfl rfl ?_
  refine Told.callT k3 rfl rfl rfl rfl ?_
  refine Told.callT (Told_ct 4 5) rfl rfl rfl rfl ?_
  have ks := ASame_ct actA actA wa wa
  rw [decide_eq_true rfl] at ks
  have kr := ARight_ct actA
  rw [decide_eq_true oa] at kr
  refine ⟨by decide, _, rfl, by decide, _, rfl, ?_⟩
  refine Told.callT ks rfl rfl rfl rfl ?_
  refine Told.callT kr rfl rfl rfl rfl ?_
  exact ⟨[], _, _, ⟨rfl, rfl⟩, rfl, trivial, rfl⟩
end
end Go.Proofs.YtonihdgidhflnaaDoorX
namespace Go.Proofs.YtonihdgidhflnaaDoorX
section
open Go Go.YtonihdgidhflnaaDoorE Go.Proofs
set_option maxRecDepth 100000
set_option autoImplicit false
theorem oct_numAt [Tabs] {b : List Int} (hb : Byt b) {i : Nat} (hi : i + 8 ≤ b.length) : oct (numAt b i) = (b.drop i).take 8 := oct_val (by simp; omega) ((hb.drop _).take _)
theorem take_split {b : List Int} (i j : Nat) : (b.drop i).take (j + 0) ++ (b.drop (i + j)) = b.drop i := by
  rw [← List.drop_drop, Nat.add_zero, List.take_append_drop]
theorem abytes_parse [Tabs] {b : List Int} (hb : Byt b) (h : sizedI b = 0) : abytes (parseA b) = b.take (b.length - 8) ∧ (parseA b).ok ∧ (parseA b).Wf := by
  obtain ⟨n, hn, n1, n2, h0, h25⟩ := sized_facts h
  have hs : (parseA b).seed.length = n := by simp [parseA]; omega
  refine ⟨?_, ⟨by omega, by omega⟩, ⟨val_u64 (by simp; omega) ((hb.drop _).take _), val_u64 (by simp; omega) ((hb.drop _).take _), val_u64 (by simp; omega) ((hb.drop _).take _), (hb.take _).drop _⟩⟩
  unfold abytes
  rw [hs]
  simp only [parseA]
  rw [oct_numAt hb (by omega), oct_numAt hb (by omega), oct_numAt hb (by omega)]
  apply List.ext_getElem?
  intro i
  simp only [List.getElem?_append, List.length_append, List.length_take, List.length_drop, List.length_singleton, List.getElem?_take, List.getElem?_drop]
  have e1 : min 8 (b.length - 1) = 8 := by omega
  have e2 : min 8 (b.length - 9) = 8 := by omega
  have e3 : min 8 (b.length - 17) = 8 := by omega
  rw [e1, e2, e3]
  by_cases c0 : i < 1
  · have : i = 0 := by omega
    subst this
    simp [h0]; omega
  by_cases c1 : i < 9
  · simp [show i < 26 by omega, show i < 25 by omega, show i < 17 by omega, c1, show ¬ i < 1 by omega, show i - 1 < 8 by omega, show 1 + (i - 1) = i by omega, show i < b.length - 8 by omega]
  by_cases c2 : i < 17
  · simp [show i < 26 by omega, show i < 25 by omega, c2, c1, show i - 9 < 8 by omega, show 9 + (i - 9) = i by omega, show i < b.length - 8 by omega]
  by_cases c3 : i < 25
  · simp [show i < 26 by omega, c3, c2, show i - 17 < 8 by omega, show 17 + (i - 17) = i by omega, show i < b.length - 8 by omega]
  by_cases c4 : i < 26
  · have : i = 25 := by omega
    subst this
    simp [h25]; omega
  · simp [c4, show 26 + (i - 26) = i by omega]
theorem sized_seal [Tabs] {a : Activation} (h : a.ok) {t : List Int} (ht : t.length = 8) : sizedI (abytes a ++ t) = 0 := by
  have hl : (abytes a ++ t).length = 34 + a.seed.length := by rw [List.length_append, abytes_len, ht]; omega
  have h1 := h.1
  have h2 := h.2
  have h0 : (abytes a ++ t)[0]? = some 65 := by simp [abytes]
  have h25 : (abytes a ++ t).getD 25 0 = (a.seed.length : Int) := by
    rw [List.getD_eq_getElem?_getD]
    have : (abytes a ++ t)[25]? = some (a.seed.length : Int) := by simp [abytes, oct, quad]
    rw [this]; rfl
  unfold sizedI
  rw [h0, h25, hl]
  rw [if_neg (by omega), if_neg (by simp), if_neg (by omega), if_neg (by omega), if_neg (by omega), if_neg (by omega)]
theorem abytes_inj [Tabs] {a b : Activation} (ha : a.Wf) (hb : b.Wf) (h : abytes a = abytes b) : a = b := by
  obtain ⟨t, e, d, s⟩ := a
  obtain ⟨t', e', d', s'⟩ := b
  simp only [abytes, List.append_assoc, List.cons_append, List.nil_append, List.cons.injEq, true_and] at h
  obtain ⟨h1, h⟩ := List.append_inj h (by simp [oct_len])
  obtain ⟨h2, h⟩ := List.append_inj h (by simp [oct_len])
  obtain ⟨h3, h⟩ := List.append_inj h (by simp [oct_len])
  simp only [List.cons.injEq] at h
  have q1 := congrArg val h1
  have q2 := congrArg val h2
  have q3 := congrArg val h3
  rw [val_oct ha.t, val_oct hb.t] at q1
  rw [val_oct ha.e, val_oct hb.e] at q2
  rw [val_oct ha.d, val_oct hb.d] at q3
  simp only at q1 q2 q3
  rw [q1, q2, q3, h.2]
theorem parse_seal [Tabs] {a : Activation} (hw : a.Wf) (h : a.ok) {t : List Int} (ht : t.length = 8) (hb : Byt t) : parseA (abytes a ++ t) = a := by
  have hB : Byt (abytes a ++ t) := (abytes_byt hw h).append hb
  obtain ⟨h1, h2, h3⟩ := abytes_parse hB (sized_seal h ht)
  refine abytes_inj h3 hw (h1.trans ?_)
  rw [List.length_append, ht, Nat.add_sub_cancel, List.take_left']
  rfl
theorem atT_mem [Tabs] {l : List Term} {k m : List Int} (h : (⟨k, m⟩ : Term) ∈ l) : ∃ i, atT l k m = some i := by
  cases e : atT l k m with
  | none => exact absurd h (atT_none.1 e)
  | some i => exact ⟨i, rfl⟩
theorem atT_snoc {l : List Term} {k m : List Int} (h : atT l k m = none) : atT (l ++ [⟨k, m⟩]) k m = some l.length := by
  unfold atT at h ⊢
  rw [List.findIdx?_append, h]
  simp
theorem putT_has [Tabs] (l : List Term) (k m : List Int) : (⟨k, m⟩ : Term) ∈ (putT l k m).1 ∧ (putT (putT l k m).1 k m).2 = (putT l k m).2 := by
  cases e : atT l k m with
  | none =>
    have e1 : putT l k m = (l ++ [⟨k, m⟩], oct ((l.length : Int) + 1)) := by unfold putT; rw [e]; rfl
    have e2 : putT (l ++ [⟨k, m⟩]) k m = (l ++ [⟨k, m⟩], oct ((l.length : Int) + 1)) := by unfold putT; rw [atT_snoc e]; rfl
    rw [e1]
    exact ⟨by simp, by rw [e2]⟩
  | some i =>
    have e1 : putT l k m = (l, oct ((i : Int) + 1)) := by unfold putT; rw [e]; rfl
    rw [e1]
    exact ⟨List.mem_of_getElem? (atT_some e).2.1, by rw [e1]⟩
theorem putT_nodup [Tabs] {l : List Term} (h : l.Nodup) (k m : List Int) : (putT l k m).1.Nodup := by
  cases e : atT l k m with
  | none =>
    have e1 : putT l k m = (l ++ [⟨k, m⟩], oct ((l.length : Int) + 1)) := by unfold putT; rw [e]; rfl
    rw [e1, List.nodup_append]
    exact ⟨h, by simp, fun a ha b hb => by rw [List.mem_singleton.1 hb]; rintro rfl; exact atT_none.1 e ha⟩
  | some i =>
    have e1 : putT l k m = (l, oct ((i : Int) + 1)) := by unfold putT; rw [e]; rfl
    rw [e1]; exact h
theorem putT_all {l : List Term} {k m : List Int} {p : Term → Prop} (h : ∀ t ∈ l, p t) (hn : p ⟨k, m⟩) : ∀ t ∈ (putT l k m).1, p t := by
  cases e : atT l k m with
  | none =>
    have e1 : putT l k m = (l ++ [⟨k, m⟩], oct ((l.length : Int) + 1)) := by unfold putT; rw [e]; rfl
    rw [e1]
    intro t ht
    rcases List.mem_append.1 ht with ht | ht
    · exact h t ht
    · rw [List.mem_singleton.1 ht]; exact hn
  | some i =>
    have e1 : putT l k m = (l, oct ((i : Int) + 1)) := by unfold putT; rw [e]; rfl
    rw [e1]; exact h
theorem putT_len1 (l : List Term) (k m : List Int) : (putT l k m).1.length ≤ l.length + 1 := by
  unfold putT; cases atT l k m <;> simp
end
end Go.Proofs.YtonihdgidhflnaaDoorX
namespace Go.Proofs.YtonihdgidhflnaaDoorX
section
open Go Go.YtonihdgidhflnaaDoorE Go.Proofs
set_option maxRecDepth 100000
set_option autoImplicit false
theorem xor_ne [Tabs] {x y : Int} (hx : 0 ≤ x ∧ x ≤ 255) (hy : 0 ≤ y ∧ y < 256) (h : Go.bits .xor .u8 x y = x) : y = 0 := by
  obtain ⟨a, rfl⟩ := Int.eq_ofNat_of_zero_le hx.1
  obtain ⟨b, rfl⟩ := Int.eq_ofNat_of_zero_le hy.1
  have h2 : IntKind.u8.wrap (((BitVec.ofInt 8 (a : Int) ^^^ BitVec.ofInt 8 (b : Int)).toNat : Nat) : Int) = (a : Int) := h
  rw [wb' (by omega) (by have := (BitVec.ofInt 8 (a : Int) ^^^ BitVec.ofInt 8 (b : Int)).isLt; omega)] at h2
  have h3 : (BitVec.ofNat 8 a ^^^ BitVec.ofNat 8 b).toNat = a := by
    have : (BitVec.ofInt 8 (a : Int) ^^^ BitVec.ofInt 8 (b : Int)).toNat = a := by omega
    exact this
  have h4 : BitVec.ofNat 8 a ^^^ BitVec.ofNat 8 b = BitVec.ofNat 8 a := BitVec.eq_of_toNat_eq (by rw [h3]; simp; omega)
  have h5 : BitVec.ofNat 8 b = 0#8 := by
    have := congrArg (BitVec.ofNat 8 a ^^^ ·) h4
    simpa [← BitVec.xor_assoc] using this
  have := congrArg BitVec.toNat h5
  simp at this
  omega
theorem RecordTurned_g [Tabs] (l : List Term) (hl : ∀ t ∈ l, t.Wf) (key other : List Int) (hk : Byt key) (ho : Byt other) (a : Activation) (ha : a.Wf) (at_ by_ : Int) (hat : 0 ≤ at_ ∧ at_ < 256) (hby : 0 ≤ by_ ∧ by_ < 256) :
    CtT Tryd.prog 3 [.sl 2 (l.map Term.T), .sl 1 (bys key), .sl 1 (bys other), a.T, .int .u8 at_, .int .u8 by_] (Ret (.bool true) []) := by
  refine Ct.of Tryd.func3 rfl rfl (n := 167) rfl (by simp [ids]) ?_
  refine Told.callT awake14_ct rfl rfl rfl rfl ?_
  obtain ⟨z, hz, ks⟩ := small14_ct ⟨2, l⟩ key other
  refine Told.callT ks rfl rfl rfl rfl ?_
  cases z with
  | false => exact ⟨[], _, _, ⟨rfl, rfl⟩, rfl, trivial, rfl⟩
  | true =>
  obtain ⟨h1, h2, h3⟩ := hz rfl
  simp only at h1
  refine brB (fun h4 => ?_) (fun h4 => ?_)
  · exact ⟨[], _, _, ⟨rfl, rfl⟩, rfl, trivial, rfl⟩
  have h4 := of_decide_eq_false h4
  rw [bys_len] at h4
  by_cases ok : a.ok
  case neg =>
    refine Told.callT (ASealA_ct ⟨2, l⟩ key a ok) rfl rfl rfl rfl ?_
    exact ⟨[], _, _, ⟨rfl, rfl⟩, rfl, trivial, rfl⟩
  have wf := wf_of hl
  have sm := sm_of h1
  by_cases nd : l.Nodup
  case neg =>
    have hno : ¬ Engine.ok ⟨2, l⟩ := fun h => by
      rcases h with h | h
      · exact absurd (show (2 : Int) = 1 from h.1) (by decide)
      · exact nd h.2
    refine Told.callT (ASealN_ct ⟨2, l⟩ wf sm hno key a ha ok) rfl rfl rfl rfl ?_
    exact ⟨[], _, _, ⟨rfl, rfl⟩, rfl, trivial, rfl⟩
  have hkl : key.length < 1000000 := by omega
  have hal := abytes_len a
  obtain ⟨l1, x, k1, hin, hagain, w1, s1, y1, hx0, hxb, hx1, hx2, htk⟩ : ∃ (l1 : List Term) (x : List Int), CtT Tryd.prog 9 [(⟨2, l⟩ : Engine).T, .sl 1 (bys key), a.T] (Ret (.t (resSeal ⟨2, l1⟩ x (.v .nilIface))) []) ∧
      (⟨key, abytes a⟩ : Term) ∈ l1 ∧ (putT l1 key (abytes a)).2 = x.drop (x.length - 8) ∧ Engine.Wf ⟨2, l1⟩ ∧ Engine.Sm ⟨2, l1⟩ ∧ Engine.Sym ⟨2, l1⟩ ∧ x.length = 34 + a.seed.length ∧ Byt x ∧ sizedI x = 0 ∧ parseA x = a ∧ x.take (x.length - 8) = abytes a := by
    have hpl := putT_len l key (abytes a)
    have hpb := putT_byt l key (abytes a)
    obtain ⟨hin, hagain⟩ := putT_has l key (abytes a)
    have h5 := putT_len1 l key (abytes a)
    have hxl : (abytes a ++ (putT l key (abytes a)).2).length = 34 + a.seed.length := by rw [List.length_append, hal, hpl]; omega
    refine ⟨(putT l key (abytes a)).1, abytes a ++ (putT l key (abytes a)).2, ASealS_ct ⟨2, l⟩ wf sm (sym_of l nd) key hk hkl a ha ok, hin, ?_, wf_of (putT_all hl ⟨hk, abytes_byt ha ok⟩), ⟨?_, putT_all sm.t ⟨hkl, by have := ok.2; simp only; omega⟩⟩, sym_of _ (putT_nodup nd _ _), hxl, (abytes_byt ha ok).append hpb, sized_seal ok hpl, parse_seal ha ok hpl hpb, ?_⟩
    · rw [hxl, List.drop_left' (by omega)]; exact hagain
    · have := h1.1; simp only; omega
    · rw [hxl, List.take_left' (by omega)]
  refine Told.callT k1 rfl rfl rfl rfl ?_
  refine brF (decide_eq_false (by rw [bys_len]; have := ok.1; omega)) ?_
  refine ⟨by show _ * 1 ≤ _; rw [bys_len]; have := ok.2; simp; omega, ?_⟩
  have hcw : (IntKind.i64.wrap at_).tmod ((([] : List T) ++ bys x).length : Int) = ((at_.toNat % x.length : Nat) : Int) := by
    rw [wi (by omega) (by omega), List.nil_append, bys_len, Int.tmod_eq_emod_of_nonneg hat.1, Int.natCast_emod, Int.toNat_of_nonneg hat.1]
  have hcl : at_.toNat % x.length < x.length := Nat.mod_lt _ (by omega)
  have hl1 : l1.length < 100000 := s1.n
  generalize at_.toNat % x.length = p at hcw hcl
  have hlx : ((([] : List T) ++ bys x).length : Int) = x.length := by rw [List.nil_append, bys_len]
  have hxp : x[p]? = some x[p] := List.getElem?_eq_getElem hcl
  have hxpb := hxb x[p] (List.getElem_mem _)
  generalize x[p] = xp at hxp hxpb
  refine ⟨by rw [hlx]; omega, by rw [hcw]; omega, by rw [hcw, hlx]; omega, _, by rw [hcw, List.nil_append]; exact bys_get rfl hxp, ?_⟩
  refine ⟨by rw [hcw]; omega, by rw [hcw, hlx]; omega, _, by rw [hcw, List.nil_append]; exact bys_get rfl hxp, ?_⟩
  obtain ⟨v, hv⟩ : ∃ v, v = Go.bits .xor .u8 xp by_ := ⟨_, rfl⟩
  have hvb : 0 ≤ v ∧ v ≤ 255 := by
    obtain ⟨n, hn, hn1, _⟩ := xor_u8 hxpb (y := by_) (by omega)
    rw [hv, hn]; omega
  have ey : bys (x.set p v) = (([] : List T) ++ bys x).set ((IntKind.i64.wrap at_).tmod ((([] : List T) ++ bys x).length : Int)).toNat (T.int .u8 (Go.bits .xor .u8 xp by_)) := by
    rw [hcw, Int.toNat_natCast, List.nil_append, ← hv]; simp [bys, List.map_set]
  obtain ⟨y, hy⟩ : ∃ y, y = x.set p v := ⟨_, rfl⟩
  rw [← hy] at ey
  have hyl : y.length = x.length := by rw [hy, List.length_set]
  have hyb : Byt y := fun q hq => by
    rw [hy] at hq
    rcases List.mem_or_eq_of_mem_set hq with h | h
    · exact hxb q h
    · rw [h]; exact hvb
  have hsm : ∀ (k2 : List Int), k2.length ≤ 300 → ∀ (b : List Int), b.length ≤ 100 → Term.Sm ⟨k2, b⟩ := fun k2 h b h' => ⟨by simp only; omega, by simp only; omega⟩
  have hsl := ok.2
  have hx0' : sizedI x = 0 := hx1
  have hmx : (x.take (x.length - 8)).length ≤ 100 := by rw [List.length_take]; omega
  have hmy : (y.take (y.length - 8)).length ≤ 100 := by rw [List.length_take]; omega
  have kf := FitsS_ct ⟨2, l1⟩ w1 s1 y1 key (y.take (y.length - 8)) (y.drop (y.length - 8)) hk (hyb.take _) (hyb.drop _) (by simp; omega) (hsm key h2 _ hmy)
  have kg := FitsS_ct ⟨2, l1⟩ w1 s1 y1 other (x.take (x.length - 8)) (x.drop (x.length - 8)) ho (hxb.take _) (hxb.drop _) (by simp; omega) (hsm other h3 _ hmx)
  have ko2 := AOpen_ct ⟨2, l1⟩ other x hxb (by omega) hx1 _ kg
  refine Classical.byCases (p := sizedI y = 0 ∧ ((⟨key, y.take (y.length - 8)⟩ : Term) ∈ l1 ∧ (putT l1 key (y.take (y.length - 8))).2 = y.drop (y.length - 8))) (fun hc => ?one) (fun hc => ?two)
  case' two =>
    by_cases hs : sizedI y = 0
    case' pos =>
      have ko := AOpen_ct ⟨2, l1⟩ key y hyb (by omega) hs _ kf
      rw [decide_eq_false (fun hf : (⟨key, y.take (y.length - 8)⟩ : Term) ∈ (⟨2, l1⟩ : Engine).terms ∧ (putT (⟨2, l1⟩ : Engine).terms key (y.take (y.length - 8))).2 = y.drop (y.length - 8) => hc ⟨hs, hf⟩), ey] at ko
      refine Told.callT ko rfl rfl rfl rfl ?_
    case' neg =>
      have ko := AOpenE_ct ⟨2, l1⟩ key y hyb (by omega) hs
      rw [ey] at ko
      refine Told.callT ko rfl rfl rfl rfl ?_
  case' one =>
    obtain ⟨hs, hf⟩ := hc
    have ko := AOpen_ct ⟨2, l1⟩ key y hyb (by omega) hs _ kf
    rw [decide_eq_true (show (⟨key, y.take (y.length - 8)⟩ : Term) ∈ (⟨2, l1⟩ : Engine).terms ∧ (putT (⟨2, l1⟩ : Engine).terms key (y.take (y.length - 8))).2 = y.drop (y.length - 8) from hf), ey] at ko
    obtain ⟨hp1, hp2, hp3⟩ := abytes_parse hyb hs
    have hca : by_ ≠ 0 → parseA y ≠ a := by
      intro hb0 e
      rw [e] at hp1
      rw [← hp1] at hf
      have e1 : x.take (x.length - 8) = y.take (y.length - 8) := htk.trans hp1
      have e2 : x.drop (x.length - 8) = y.drop (y.length - 8) := hagain.symm.trans hf.2
      have e3 : y = x := by rw [← List.take_append_drop (y.length - 8) y, ← e1, ← e2, List.take_append_drop]
      have e4 : y[p]? = some v := by rw [hy, List.getElem?_set_self (by omega)]
      rw [e3, hxp] at e4
      have e5 : xp = v := Option.some.inj e4
      exact hb0 (xor_ne hxpb hby (by rw [← hv, ← e5]))
    generalize hcc : parseA y = c at ko hp1 hp2 hp3 hca
    refine Told.callT ko rfl rfl rfl rfl ?_
    have kb := ABytes_ct c hp3 hp2
    refine Told.callT kb rfl rfl rfl rfl ?_
    have hmem : (⟨key, abytes c⟩ : Term) ∈ l1 := by rw [hp1]; exact hf.1
    have habc : (abytes c).length ≤ 100 := by rw [hp1]; exact hmy
    refine ⟨Nat × Bool, fun q => [(1, .t (.sl 1 (bys key))), (2, .t (.sl 1 (bys other))), (5, .int .u8 by_), (9, .ptr 9 0), (14, .ptr 14 0), (15, .t (.sl 1 (bys x))), (18, .ptr 18 0), (20, .bool q.2), (21, .t (.sl 1 (bys (abytes c)))), (22, .int .i64 0), (23, .int .i64 q.1)],
      fun _ => [(9, false, Activation.box a), (14, false, Engine.box ⟨2, l1⟩), (18, false, Activation.box c)],
      fun q => q.1 ≤ l1.length ∧ (q.2 = true ↔ ∃ j, j < q.1 ∧ l1[j]? = some ⟨key, abytes c⟩), fun q => l1.length - q.1, (0, false), ⟨Nat.zero_le _, by simp⟩, Le.of [] ⟨rfl, rfl, rfl, rfl, rfl, rfl, rfl, rfl, rfl, rfl, rfl, trivial⟩ ⟨rfl, rfl, rfl, trivial⟩ rfl, ?_⟩
    rintro ⟨i, z⟩ ⟨q1, q2⟩
    simp only at q1 q2 ⊢
    refine brB (fun hc => ?_) (fun hc => ?_)
    · have hc : i < l1.length := by have h := of_decide_eq_true hc; rw [Term.row_len] at h; exact Int.ofNat_lt.1 h
      have hx : l1[i]? = some l1[i] := List.getElem?_eq_getElem hc
      have htw := w1.terms l1[i] (List.getElem_mem hc)
      generalize l1[i] = t at hx htw
      have stp : ∀ b : Bool, (b = true ↔ t = ⟨key, abytes c⟩) → (((z || b) = true) ↔ ∃ j, j < i + 1 ∧ l1[j]? = some ⟨key, abytes c⟩) := fun b hb => by
        rw [Bool.or_eq_true, q2, hb]
        refine ⟨fun h => h.elim (fun ⟨j, h1, h2⟩ => ⟨j, by omega, h2⟩) (fun h => ⟨i, by omega, by rw [hx, h]⟩), fun ⟨j, h1, h2⟩ => ?_⟩
        by_cases e : j = i
        · subst e; rw [hx] at h2; exact .inr (Option.some.inj h2)
        · exact .inl ⟨j, by omega, h2⟩
      cases z with
      | true =>
        refine ⟨(i + 1, true), ⟨hc, by simpa using stp (decide (t = ⟨key, abytes c⟩)) decide_eq_true_iff⟩, Le.of [] ⟨rfl, rfl, rfl, rfl, rfl, rfl, rfl, rfl, rfl, rfl, congrArg (AV.int .i64) (wi (by omega) (by omega)), trivial⟩ ⟨rfl, rfl, rfl, trivial⟩ rfl, by show l1.length - (i + 1) < l1.length - i; omega⟩
      | false =>
        refine ⟨by omega, _, Term.row_get rfl hx, ?_⟩
        refine ⟨_, rfl, _, rfl, fun c1 hc1 => ?_⟩
        have hq1 : c1 = true ↔ t.key = key := by rw [hc1, decide_eq_true_iff, strOf_eq (fun x h => by have := htw.key x h; omega) (fun y h => by have := hk y h; omega)]
        refine brB (fun h => ?_) (fun h => ?_)
        · refine ⟨by omega, _, Term.row_get rfl hx, ?_⟩
          refine ⟨_, rfl, _, rfl, fun c2 hc2 => ?_⟩
          have hq2 : c2 = true ↔ t.msg = abytes c := by rw [hc2, decide_eq_true_iff, strOf_eq (fun x h => by have := htw.msg x h; omega) (fun y h => by have := abytes_byt hp3 hp2 y h; omega)]
          refine ⟨(i + 1, c2), ⟨hc, ?_⟩, Le.of [] ⟨rfl, rfl, rfl, rfl, rfl, rfl, rfl, rfl, rfl, rfl, congrArg (AV.int .i64) (wi (by omega) (by omega)), trivial⟩ ⟨rfl, rfl, rfl, trivial⟩ rfl, by show l1.length - (i + 1) < l1.length - i; omega⟩
          have := stp c2 (by rw [hq2, term_eq]; exact ⟨fun e => ⟨hq1.1 h, e⟩, fun e => e.2⟩)
          simpa using this
        · refine ⟨(i + 1, false), ⟨hc, ?_⟩, Le.of [] ⟨rfl, rfl, rfl, rfl, rfl, rfl, rfl, rfl, rfl, rfl, congrArg (AV.int .i64) (wi (by omega) (by omega)), trivial⟩ ⟨rfl, rfl, rfl, trivial⟩ rfl, by show l1.length - (i + 1) < l1.length - i; omega⟩
          have := stp false (by rw [term_eq]; exact ⟨fun e => (by cases e), fun e => by rw [hq1.2 e.1] at h; cases h⟩)
          simpa using this
    have hc : i = l1.length := by have h := of_decide_eq_false hc; rw [Term.row_len] at h; exact Nat.le_antisymm q1 (Int.ofNat_le.1 (Int.not_lt.1 h))
    subst hc
    have hz : z = true := q2.2 (by
      obtain ⟨j, hj, e⟩ := List.mem_iff_getElem.1 hmem
      exact ⟨j, hj, by rw [List.getElem?_eq_getElem hj, e]⟩)
    subst hz
    refine brB (fun hb => ?three) (fun hb => ?four)
    case' three =>
      have hb : by_ ≠ 0 := by simpa using hb
      have kz := ASame_ct c a hp3 ha
      rw [decide_eq_false (hca hb)] at kz
      refine Told.callT kz rfl rfl rfl rfl ?_
  all_goals
    refine ⟨Nat × Bool, fun q => [(2, .t (.sl 1 (bys other))), (14, .ptr 14 0), (15, .t (.sl 1 (bys x))), (24, .bool q.2), (25, .int .i64 q.1)], fun _ => [(14, false, Engine.box ⟨2, l1⟩)],
      fun q => q.1 ≤ l1.length ∧ (q.2 = true ↔ ∃ j, j < q.1 ∧ ∃ t, l1[j]? = some t ∧ t.key = other), fun q => l1.length - q.1, (0, false), ⟨Nat.zero_le _, by simp⟩, Le.of [] ⟨rfl, rfl, rfl, rfl, rfl, trivial⟩ ⟨rfl, trivial⟩ rfl, ?_⟩
    rintro ⟨i, z⟩ ⟨q1, q2⟩
    simp only at q1 q2 ⊢
    refine brB (fun hc => ?_) (fun hc => ?_)
    · have hc : i < l1.length := by have h := of_decide_eq_true hc; rw [Term.row_len] at h; exact Int.ofNat_lt.1 h
      have hx : l1[i]? = some l1[i] := List.getElem?_eq_getElem hc
      have htw := w1.terms l1[i] (List.getElem_mem hc)
      generalize l1[i] = t at hx htw
      have stp : ∀ b : Bool, (b = true ↔ t.key = other) → (((z || b) = true) ↔ ∃ j, j < i + 1 ∧ ∃ t, l1[j]? = some t ∧ t.key = other) := fun b hb => by
        rw [Bool.or_eq_true, q2, hb]
        refine ⟨fun h => h.elim (fun ⟨j, h1, h2⟩ => ⟨j, by omega, h2⟩) (fun h => ⟨i, by omega, t, hx, h⟩), fun ⟨j, h1, t2, h2, h3⟩ => ?_⟩
        by_cases e : j = i
        · subst e; rw [hx] at h2; cases h2; exact .inr h3
        · exact .inl ⟨j, by omega, t2, h2, h3⟩
      cases z with
      | true =>
        refine ⟨(i + 1, true), ⟨hc, by simpa using stp (decide (t.key = other)) decide_eq_true_iff⟩, Le.of [] ⟨rfl, rfl, rfl, rfl, congrArg (AV.int .i64) (wi (by omega) (by omega)), trivial⟩ ⟨rfl, trivial⟩ rfl, by show l1.length - (i + 1) < l1.length - i; omega⟩
      | false =>
        refine ⟨by omega, _, Term.row_get rfl hx, ?_⟩
        refine ⟨_, rfl, _, rfl, fun c1 hc1 => ?_⟩
        have hq1 : c1 = true ↔ t.key = other := by rw [hc1, decide_eq_true_iff, strOf_eq (fun x h => by have := htw.key x h; omega) (fun y h => by have := ho y h; omega)]
        refine ⟨(i + 1, c1), ⟨hc, by simpa using stp c1 hq1⟩, Le.of [] ⟨rfl, rfl, rfl, rfl, congrArg (AV.int .i64) (wi (by omega) (by omega)), trivial⟩ ⟨rfl, trivial⟩ rfl, by show l1.length - (i + 1) < l1.length - i; omega⟩
    · have hc : i = l1.length := by have h := of_decide_eq_false hc; rw [Term.row_len] at h; exact Nat.le_antisymm q1 (Int.ofNat_le.1 (Int.not_lt.1 h))
      subst hc
      cases z with
      | true =>
        by_cases hff : (⟨other, x.take (x.length - 8)⟩ : Term) ∈ (⟨2, l1⟩ : Engine).terms ∧ (putT (⟨2, l1⟩ : Engine).terms other (x.take (x.length - 8))).2 = x.drop (x.length - 8)
        · rw [decide_eq_true hff] at ko2
          refine Told.callT ko2 rfl rfl rfl rfl ?_
          exact ⟨[], _, _, ⟨rfl, rfl⟩, rfl, trivial, rfl⟩
        · rw [decide_eq_false hff] at ko2
          refine Told.callT ko2 rfl rfl rfl rfl ?_
          exact ⟨[], _, _, ⟨rfl, rfl⟩, rfl, trivial, rfl⟩
      | false =>
        rw [decide_eq_false (fun h => (by
          obtain ⟨j, hj, e⟩ := List.mem_iff_getElem.1 h.1
          exact absurd (q2.2 ⟨j, hj, _, List.getElem?_eq_getElem hj, by rw [e]⟩) (by decide)))] at ko2
        refine Told.callT ko2 rfl rfl rfl rfl ?_
        exact ⟨[], _, _, ⟨rfl, rfl⟩, rfl, trivial, rfl⟩
end
end Go.Proofs.YtonihdgidhflnaaDoorX
namespace Go.Proofs.YtonihdgidhflnaaDoorX
section
open Go Go.YtonihdgidhflnaaDoorE Go.Proofs
set_option maxRecDepth 100000
set_option autoImplicit false
theorem wf_u64 {x : Int} (h : (Lit.int .u64 x).wf = true) : U64 x := by
  have h : IntKind.u64.min ≤ x ∧ x ≤ IntKind.u64.max := by simpa [Lit.wf] using h
  have e1 : IntKind.u64.min = 0 := by decide
  have e2 : IntKind.u64.max = 18446744073709551615 := by decide
  unfold U64; omega
theorem ex_bys' [Tabs] {n : Nat} {ts : List T} (h : WfC Tryd.prog n 23 ts) : ∃ l : List Int, mkE Tryd.prog 23 ts = .sl 1 (bys l) ∧ Byt l := by
  obtain ⟨l, m', rfl, _, hl'⟩ := h.slice Tryd.underlying23
  obtain ⟨r, rfl, hr⟩ := row_of (f := T.int .u8) (p := fun x => 0 ≤ x ∧ x ≤ 255) hl' (fun cs hcs => by
    obtain ⟨x, rfl, wx⟩ := hcs.int Tryd.underlying5
    exact ⟨x, rfl, by have := wf_u8 wx; omega⟩)
  exact ⟨r, rfl, hr⟩
theorem exc_Term [Tabs] {n : Nat} {ts : List T} (h : WfC Tryd.prog n 41 ts) : ∃ x : Term, ts = [.sl 1 (bys x.key), .sl 1 (bys x.msg)] ∧ x.Wf := by
  obtain ⟨hl, m, hf⟩ := h.struct Tryd.underlying41
  obtain ⟨c0, c1, rfl⟩ : ∃ c0 c1, ts = [c0, c1] := by
    match ts, hl.trans rfl with
    | [c0, c1], _ => exact ⟨c0, c1, rfl⟩
  obtain ⟨x0, e0, w0⟩ := ex_bys' (hf _ (List.mem_cons_self ..))
  replace e0 : c0 = _ := e0
  subst e0
  obtain ⟨x1, e1, w1⟩ := ex_bys' (hf _ (List.mem_cons_of_mem _ (List.mem_cons_self ..)))
  replace e1 : c1 = _ := e1
  subst e1
  exact ⟨⟨x0, x1⟩, rfl, ⟨w0, w1⟩⟩
theorem ex_Term' [Tabs] {n : Nat} {ts : List T} (h : WfC Tryd.prog n 41 ts) : ∃ x : Term, mkE Tryd.prog 41 ts = x.T ∧ x.Wf := by
  obtain ⟨x, rfl, w⟩ := exc_Term h
  exact ⟨x, rfl, w⟩
theorem exs_Term' [Tabs] {n : Nat} {ts : List T} (h : WfC Tryd.prog n 22 ts) : ∃ l : List Term, mkE Tryd.prog 22 ts = .sl 2 (l.map Term.T) ∧ ∀ x ∈ l, x.Wf := by
  obtain ⟨l, m', rfl, _, hl'⟩ := h.slice Tryd.underlying22
  obtain ⟨r, rfl, hr⟩ := row_of (f := Term.T) (p := Term.Wf) hl' (fun cs hcs => ex_Term' hcs)
  exact ⟨r, rfl, hr⟩
theorem exc_Activation [Tabs] {n : Nat} {ts : List T} (h : WfC Tryd.prog n 26 ts) : ∃ x : Activation, ts = [.int .u64 x.t, .int .u64 x.e, .int .u64 x.d, .sl 1 (bys x.seed)] ∧ x.Wf := by
  obtain ⟨hl, m, hf⟩ := h.struct Tryd.underlying26
  obtain ⟨c0, c1, c2, c3, rfl⟩ : ∃ c0 c1 c2 c3, ts = [c0, c1, c2, c3] := by
    match ts, hl.trans rfl with
    | [c0, c1, c2, c3], _ => exact ⟨c0, c1, c2, c3, rfl⟩
  obtain ⟨x0, e0, w0⟩ := (hf _ (List.mem_cons_self ..)).int Tryd.underlying24
  replace e0 : [c0] = _ := e0
  simp only [List.cons.injEq, and_true] at e0
  subst e0
  obtain ⟨x1, e1, w1⟩ := (hf _ (List.mem_cons_of_mem _ (List.mem_cons_self ..))).int Tryd.underlying24
  replace e1 : [c1] = _ := e1
  simp only [List.cons.injEq, and_true] at e1
  subst e1
  obtain ⟨x2, e2, w2⟩ := (hf _ (List.mem_cons_of_mem _ (List.mem_cons_of_mem _ (List.mem_cons_self ..)))).int Tryd.underlying24
  replace e2 : [c2] = _ := e2
  simp only [List.cons.injEq, and_true] at e2
  subst e2
  obtain ⟨x3, e3, w3⟩ := ex_bys' (hf _ (List.mem_cons_of_mem _ (List.mem_cons_of_mem _ (List.mem_cons_of_mem _ (List.mem_cons_self ..)))))
  replace e3 : c3 = _ := e3
  subst e3
  exact ⟨⟨x0, x1, x2, x3⟩, rfl, ⟨wf_u64 w0, wf_u64 w1, wf_u64 w2, w3⟩⟩
theorem ex_Activation' [Tabs] {n : Nat} {ts : List T} (h : WfC Tryd.prog n 26 ts) : ∃ x : Activation, mkE Tryd.prog 26 ts = x.T ∧ x.Wf := by
  obtain ⟨x, rfl, w⟩ := exc_Activation h
  exact ⟨x, rfl, w⟩
end
end Go.Proofs.YtonihdgidhflnaaDoorX
namespace Go.Proofs.YtonihdgidhflnaaDoorX
section
open Go Go.YtonihdgidhflnaaDoorE Go.Proofs Go.RowKit
set_option maxRecDepth 100000
set_option autoImplicit false
theorem ownNone : ownKnob Tryd.prog.godebug = none := by kernel_rfl
theorem laidAt : Tryd.prog.globalNamed "errors.errorType" = some 0 := by kernel_rfl
theorem laidRt : (Tryd.prog.cutTypes.find? (·.1 == "internal/reflectlite.rtype")).map (·.2) = some 138 := by kernel_rfl
theorem oneRow : ((List.range Tryd.prog.types.size).filter fun t => Tryd.prog.rowNamed t [101, 114, 114, 111, 114]) = [32] := by kernel_rfl
abbrev LaidL : List (String × DataW Unit) := [("errors.errorType", .iface "internal/reflectlite.rtype" (.agg [.ptr (.lit (.string [101, 114, 114, 111, 114]))]))]
theorem handle_of_laid {W : World} (h : laidMetH Tryd.prog LaidL W) : W.cell? ⟨0, 0, none⟩ = some (.iface 138 (.agg #[.pointer (some ⟨3, 32, none⟩)])) := by
  have h' : laidMet Tryd.prog [] W ∧ handlesMet Tryd.prog LaidL W := h
  obtain ⟨name, u, ty, e1, e2, e3, e4, e5⟩ := h'.2 _ (List.mem_singleton.2 rfl)
  have en : name = [101, 114, 114, 111, 114] := (Option.some.inj e1).symm
  subst en
  obtain rfl := Option.some.inj (laidRt.symm.trans e2)
  have hm : ty ∈ (List.range Tryd.prog.types.size).filter fun t => Tryd.prog.rowNamed t [101, 114, 114, 111, 114] := List.mem_filter.2 ⟨List.mem_range.2 e3, e4⟩
  rw [oneRow] at hm
  obtain rfl := List.mem_singleton.1 hm
  have hh : typeHandle Tryd.prog 32 = .pointer (some ⟨3, 32, none⟩) := by kernel_rfl
  rw [hh] at e5
  simpa using World.var?_cell laidAt e5 0
noncomputable def laidWorld (os : Os) : World :=
  let w0 := World.holding Tryd.prog os ⟨#[], #[], []⟩
  { w0 with heap := w0.heap.modify 0 fun
      | .cells _ t frozen => .cells #[.iface 138 (.agg #[.pointer (some ⟨3, 32, none⟩)])] t frozen
      | o => o }
theorem laidWorld_met (os : Os) (args : Array Value) : laidMetH Tryd.prog LaidL ((laidWorld os).forCall (fun _ _ => 0) ⟨#[], args, []⟩).memory :=
  laidMetH_of_parts (laidMet_nil _ _) (by kernel_rfl)
theorem ints_of_shaped {P : Program} {w : World} {g : Nat} {t u : TypeId} {k : IntKind} (n : Nat) (h : w.ShapedOpen P) (hg : g < P.globals.size)
    (h0 : (((begin P (fun _ _ => 0) default).world.heap[g]?).bind Obj.row?).any (fun z => z.1.size == n && z.2 == t) = true)
    (hb : P.buildable t = true) (hc : P.cellTypes P.depth t = some (List.replicate n u)) (hu : P.underlying u = some (.int k)) :
    g < w.heap.size ∧ ∃ f : Nat → Int, ∀ i, i < n → w.cell? ⟨g, i, none⟩ = some (.int k (f i)) := by
  obtain ⟨⟨zero, t'⟩, e0, e1⟩ := (Option.any_eq_true _ _).1 h0
  simp only [Bool.and_eq_true, beq_iff_eq] at e1
  obtain ⟨e1, rfl⟩ := e1
  obtain ⟨cs, hh, hs, hr⟩ := h.1 g zero t' hg e0
  obtain ⟨ts, hts, _, hall⟩ := hr hb
  rw [hc] at hts
  cases hts
  have key : ∀ i, ∃ m, i < n → w.cell? ⟨g, i, none⟩ = some (.int k m) := fun i => by
    by_cases hi : i < n
    · have h1 : i < cs.size := by omega
      obtain ⟨u', hu', hok⟩ := hall i cs[i] (by simp [h1])
      have : u' = u := by
        have h2 : (List.replicate n u)[i % (List.replicate n u).length]? = some u := by rw [List.length_replicate, Nat.mod_eq_of_lt hi, List.getElem?_replicate]; simp [hi]
        exact Option.some.inj (hu'.symm.trans h2)
      subst this
      have hcell : w.cell? ⟨g, i, none⟩ = some cs[i] := by simp [World.cell?, hh, h1]
      rw [hcell]
      unfold Cell.ok at hok
      rw [hu] at hok
      cases hv : cs[i] <;> rw [hv] at hok <;> simp at hok
      case int k' m => exact ⟨m, fun _ => by rw [hok.1]⟩
    · exact ⟨0, fun h => absurd h hi⟩
  refine ⟨(Array.getElem?_eq_some_iff.1 hh).1, fun i => Classical.choose (key i), fun i hi => Classical.choose_spec (key i) hi⟩
theorem HT.tab {w : World} {g n : Nat} {k : IntKind} {f : Nat → Int} (hb : g < w.heap.size) (h : ∀ i, i < n → w.cell? ⟨g, i, none⟩ = some (.int k (f i))) (l : List T) (hl : l = (List.range n).map fun i => .v (.int k (f i))) :
    HT w (fun _ => False) (.pt l) (.pointer (some ⟨g, 0, none⟩)) := by
  subst hl
  refine .pt _ g 0 (fun i => .int k (f i)) (fun h => h) hb ?_ ?_ ?_
  · intro y hy
    obtain ⟨i, _, rfl⟩ := List.mem_map.1 hy
    rfl
  · intro i hi
    rw [List.length_map, List.length_range] at hi
    rw [Nat.zero_add]
    exact h i hi
  · intro i x hx
    rw [List.getElem?_map] at hx
    obtain ⟨j, hj, rfl⟩ := Option.map_eq_some_iff.1 hx
    obtain ⟨hi, hj⟩ := List.getElem?_eq_some_iff.1 hj
    rw [List.getElem_range] at hj
    subst hj
    exact .v _
theorem globs_of {W : World} (hL : laidMetH Tryd.prog LaidL W) (hS : W.ShapedOpen Tryd.prog) : ∃ i : Tabs, @Globs i W := by
  have h0 := handle_of_laid hL
  obtain ⟨b1, f1, h1⟩ := ints_of_shaped (g := 1) (t := 177) (u := 112) (k := .u32) 8 hS (of_decide_eq_true (by kernel_rfl)) (by kernel_rfl) (by kernel_rfl) (by kernel_rfl) (by kernel_rfl)
  obtain ⟨b2, f2, h2⟩ := ints_of_shaped (g := 2) (t := 188) (u := 112) (k := .u32) 64 hS (of_decide_eq_true (by kernel_rfl)) (by kernel_rfl) (by kernel_rfl) (by kernel_rfl) (by kernel_rfl)
  refine ⟨⟨f2, f1⟩, List.forall_mem_cons.2 ⟨?_, List.forall_mem_cons.2 ⟨HT.tab b2 h2 _ rfl, List.forall_mem_cons.2 ⟨HT.tab b1 h1 _ rfl, fun _ h => by cases h⟩⟩⟩⟩
  have hb : 0 < W.heap.size := by omega
  refine .pt _ 0 0 (fun _ => .iface 138 (.agg #[.pointer (some ⟨3, 32, none⟩)])) (fun h => h) hb (fun y hy => by rcases List.mem_singleton.1 hy with rfl; rfl) ?_ ?_
  · intro i hi
    have : i = 0 := by simp at hi; exact hi
    subst this
    exact h0
  · intro i x hx
    match i, hx with
    | 0, hx =>
      cases hx
      refine .iface _ _ _ (.agg [.v (.pointer (some ⟨3, 32, none⟩))] [.pointer (some ⟨3, 32, none⟩)] rfl (fun i x y hx hy => ?_))
      match i, hx, hy with
      | 0, hx, hy => cases hx; cases hy; exact .v _
theorem lift_shaped {H : Type} {enc : TypeId × Value → H} {a : Assume} {C : Checked} {os : Os} {f : FuncId} {fn : Func} {s : ChangeSpec} {conds : List PathCond} {apart fresh handsOn again : Bool} {X : World → Prop}
    (hX : ∀ (w w' : World), w.heap = w'.heap → X w → X w')
    (own : ownKnob C.prog.godebug = none) (started : os.Started) (noInit : C.prog.inits.idxOf? f = none) (hfn : C.prog.funcs[f]? = some fn)
    (witness : ∃ (w : World) (tape : Tape) (i : Input), w.os = os ∧ (w.forCall tape i).Shaped C.prog ∧ i.vars = [] ∧ Input.okWide C.prog (w.forCall tape i) .any w.heap.size f i ∧
      ((s.pre enc C.prog fn conds apart (w.forCall tape i).memory i.args ∧ X (w.forCall tape i).memory) ∧ sizedMet enc C.prog fn (OpenSpec.ofChange s) apart (w.forCall tape i).memory i.args) ∧ a.holds C.prog (lone (Frame.enter C.prog f i.args .normal) [] (w.forCall tape i)))
    (told : ∀ (W : World) (base : Nat) (args : Array Value) (ds gs : List (DataW H)) (before : List MemPlace),
      (∀ (j : Nat) t v, fn.params[j]? = some t → args[j]? = some v → Value.okWide C.prog W .any base t v) →
      DataW.Whole enc C.prog fn.params.toList s.vars apart W args.toList ds gs before → X W → W.ShapedOpen C.prog →
      Calls C.prog f args W fun e W' => ∃ v, e = .returned v ∧ s.post enc C.prog fn apart fresh handsOn again W args v W') :
    ReturnsInHanded a C os f .any (fun w args => (s.pre enc C.prog fn conds apart w args ∧ X w) ∧ sizedMet enc C.prog fn (OpenSpec.ofChange s) apart w args) (s.post enc C.prog fn apart fresh handsOn again) := by
  refine returnsInHanded_of_calls own started noInit witness ?_
  intro w tape i _ hsh _ hok hpre _
  obtain ⟨_, _, _, fn', hfn', _, _, _, _, hval⟩ := hok
  obtain rfl : fn' = fn := Option.some.inj (hfn'.symm.trans hfn)
  obtain ⟨⟨⟨ds, gs, before, hw, _⟩, hx⟩, _⟩ := hpre
  refine (told (w.forCall tape i) w.heap.size i.args ds gs before hval (DataW.Whole.of_heap (w' := w.forCall tape i) (by rfl) hw) (hX _ _ (by rfl) hx) hsh).mono fun e W' ⟨v, he, hp⟩ => ?_
  subst he
  exact ChangeSpec.post_blind hp
end
end Go.Proofs.YtonihdgidhflnaaDoorX
