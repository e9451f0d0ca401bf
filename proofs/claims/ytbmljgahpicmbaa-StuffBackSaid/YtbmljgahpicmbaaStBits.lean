-- Written by hand for this claim's session.
import Derived.Test.YtbmljgahpicmbaaStC
open Go Go.YtbmljgahpicmbaaE Go.Proofs
set_option maxRecDepth 100000
set_option autoImplicit false
namespace Go.Proofs.YtbmljgahpicmbaaSt
def bi (b : Bool) : Int := if b then 1 else 0
theorem bit_at (x : List Bool) (j : Nat) (hj : j < x.length) : val x / 2 ^ (x.length - (j + 1)) % 2 = (x[j]).toNat := by
  rw [val_take x (j + 1), List.take_succ_eq_append_getElem hj, val_append, val_one]
  have : (x[j]).toNat ≤ 1 := by cases x[j] <;> decide
  simp only [List.length_singleton, Nat.pow_one]
  omega
def nj (j : Nat) : Int := if j < 8 then ((2 ^ (7 - j) : Nat) : Int) else 0
theorem nj_pos (j : Nat) : (nj j > 0) ↔ j < 8 := by
  unfold nj
  by_cases h : j < 8
  · rw [if_pos h]; have := Nat.two_pow_pos (7 - j); constructor <;> intro _ <;> omega
  · rw [if_neg h]; constructor <;> intro h' <;> omega
theorem nj_next : ∀ j, j < 8 → IntKind.i64.wrap ((nj j).tdiv 2) = nj (j + 1) := by decide
theorem bit_read (x : List Bool) (h8 : x.length = 8) (j : Nat) (hj : j < 8) (b : Bool) (hb : x[j]? = some b) : IntKind.u8.wrap ((IntKind.i64.wrap ((IntKind.i64.wrap (V x)).tdiv (nj j))).tmod 2) = bi b := by
  obtain ⟨h1, h2⟩ := List.getElem?_eq_some_iff.1 hb
  have hb := bit_at x j h1
  rw [h2, h8, show 8 - (j + 1) = 7 - j by omega] at hb
  have hlt := val_lt x
  rw [h8] at hlt
  have e1 : IntKind.i64.wrap (V x) = ((val x : Nat) : Int) := by unfold V; exact wi (by omega) (by omega)
  have e2 : ((val x : Nat) : Int).tdiv (nj j) = ((val x / 2 ^ (7 - j) : Nat) : Int) := by
    unfold nj
    rw [if_pos hj]
    rfl
  have hd : val x / 2 ^ (7 - j) ≤ val x := Nat.div_le_self _ _
  have h256 : (2 : Nat) ^ 8 = 256 := by decide
  rw [e1, e2]
  generalize val x / 2 ^ (7 - j) = q at *
  rw [wi (by omega) (by omega)]
  have e3 : ((q : Nat) : Int).tmod 2 = ((q % 2 : Nat) : Int) := rfl
  rw [e3, hb]
  cases b <;> rfl
theorem flat8 : ∀ l : List (List Bool), (∀ x ∈ l, x.length = 8) → l.flatten.length = 8 * l.length := by
  intro l
  induction l with
  | nil => intro _; rfl
  | cons x l ih => intro h; rw [List.flatten_cons, List.length_append, ih (fun y hy => h y (List.mem_cons_of_mem _ hy)), h x (List.mem_cons_self ..), List.length_cons]; omega
theorem ref_Bits_ct (g : List (List Bool)) (h8 : ∀ x ∈ g, x.length = 8) (hl : g.length < 1000000000) : CtT Try.prog 12 [.sl 1 (bys (g.map V))] (Ret (.own 0) [(0, false, .row 5 1 (bys (g.flatten.map bi)))]) := by
  refine Ct.of Try.func12 (by rfl) rfl (n := 29) rfl (by simp [ids]) ?_
  refine ⟨Nat, fun i => [(0, .t (.sl 1 (bys (g.map V)))), (3, .own 1), (4, .int .i64 i)], fun i => [(1, false, .row 5 1 (bys ((g.take i).flatten.map bi)))], fun i => i ≤ g.length, fun i => g.length - i, 0, by omega, ?_, ?_⟩
  · exact Le.trans (Le.nil 3 1 5 1 rfl rfl) (Le.of [] ⟨rfl, rfl, rfl, trivial⟩ ⟨rfl, trivial⟩ rfl)
  intro i h1
  simp only at h1 ⊢
  refine brB (fun hc => ?_) (fun hc => ?_)
  · have hc : (i : Int) < ((bys (g.map V)).length : Int) := of_decide_eq_true hc
    rw [bys_length, List.length_map] at hc
    have hi : i < g.length := by omega
    obtain ⟨x, hx⟩ : ∃ x, g[i]? = some x := ⟨_, List.getElem?_eq_getElem hi⟩
    have hx8 := h8 x (List.mem_of_getElem? hx)
    have hxV : (g.map V)[i]? = some (V x) := by rw [List.getElem?_map, hx]; rfl
    have hfl : (g.take i).flatten.length = 8 * i := by rw [flat8 _ (fun y hy => h8 y (List.mem_of_mem_take hy)), List.length_take]; omega
    refine ⟨Nat, fun j => [(0, .t (.sl 1 (bys (g.map V)))), (3, .own 1), (4, .int .i64 i), (5, .int .i64 (nj j))], fun j => [(1, false, .row 5 1 (bys (((g.take i).flatten ++ x.take j).map bi)))], fun j => j ≤ 8, fun j => 8 - j, 0, by omega, Le.of [] ⟨rfl, rfl, rfl, rfl, trivial⟩ ⟨by rw [List.take_zero, List.append_nil]; rfl, trivial⟩ rfl, ?_⟩
    intro j hj
    simp only at hj ⊢
    refine brB (fun hc2 => ?_) (fun hc2 => ?_)
    · have hc2 := (nj_pos j).1 (of_decide_eq_true hc2)
      obtain ⟨b, hb⟩ : ∃ b, x[j]? = some b := ⟨_, List.getElem?_eq_getElem (by omega)⟩
      refine ⟨by omega, .int .u8 (V x), bys_get hxV, ?_⟩
      refine ⟨by have := (nj_pos j).2 hc2; omega, by decide, ?_, ?_⟩
      · show ((bys (((g.take i).flatten ++ x.take j).map bi)).length + 1) * 1 ≤ _
        rw [bys_length, List.length_map, List.length_append, hfl, List.length_take]; omega
      refine ⟨by decide, ?_⟩
      refine ⟨j + 1, by show j + 1 ≤ 8; omega, Le.of [(1, 25)] ⟨rfl, rfl, rfl, ?_, trivial⟩ ⟨?_, trivial⟩ rfl, by show 8 - (j + 1) < 8 - j; omega⟩
      · exact congrArg (AV.int .i64) (nj_next j hc2)
      · have e := bit_read x hx8 j hc2 b hb
        obtain ⟨q1, q2⟩ := List.getElem?_eq_some_iff.1 hb
        have er : bys (((g.take i).flatten ++ x.take j).map bi) ++ [T.int .u8 (IntKind.u8.wrap ((IntKind.i64.wrap ((IntKind.i64.wrap (V x)).tdiv (nj j))).tmod 2))] = bys (((g.take i).flatten ++ x.take (j + 1)).map bi) := by
          rw [List.take_succ_eq_append_getElem q1, q2, ← List.append_assoc, List.map_append (l₁ := (g.take i).flatten ++ x.take j), bys_append, e]
          rfl
        exact congrArg (fun l => (false, Blk.row 5 1 l)) er
    · have hc2 : ¬ j < 8 := fun h => of_decide_eq_false hc2 ((nj_pos j).2 h)
      refine ⟨i + 1, by show i + 1 ≤ _; omega, Le.of [] ⟨rfl, rfl, ?_, trivial⟩ ⟨?_, trivial⟩ rfl, by show g.length - (i + 1) < g.length - i; omega⟩
      · exact congrArg (AV.int .i64) (by rw [wi (by omega) (by omega)]; rfl)
      · obtain ⟨q1, q2⟩ := List.getElem?_eq_some_iff.1 hx
        have ex : x.take j = x := List.take_of_length_le (by omega)
        have er : bys (((g.take i).flatten ++ x.take j).map bi) = bys ((g.take (i + 1)).flatten.map bi) := by
          rw [List.take_succ_eq_append_getElem q1, q2, List.flatten_append, ex]
          simp only [List.flatten_cons, List.flatten_nil, List.append_nil]
        exact congrArg (fun l => (false, Blk.row 5 1 l)) er
  · have hc : ¬ (i : Int) < ((bys (g.map V)).length : Int) := of_decide_eq_false hc
    rw [bys_length, List.length_map] at hc
    have hi : i = g.length := by omega
    refine ⟨[(0, 1)], _, _, ⟨rfl, rfl⟩, rfl, ⟨?_, trivial⟩, rfl⟩
    rw [hi, List.take_length]
    rfl
end Go.Proofs.YtbmljgahpicmbaaSt
