-- Written by hand for this claim's session.
import Derived.Test.YtbmljgahpicmbaaStRPut
import Derived.Test.YtbmljgahpicmbaaStGp
open Go Go.YtbmljgahpicmbaaE Go.Proofs
set_option maxRecDepth 100000
set_option autoImplicit false
namespace Go.Proofs.YtbmljgahpicmbaaSt
theorem bys_slice {l : List Bool} {a b : Nat} : ((bys (l.map bi)).take b).drop a = bys (((l.take b).drop a).map bi) := by
  unfold bys
  rw [List.map_map, List.map_map, List.map_drop, List.map_take]
theorem flat_slice {s : List (List Bool)} (h8 : ∀ x ∈ s, x.length = 8) {i : Nat} {x : List Bool} (h : s[i]? = some x) : (s.flatten.take (8 * i + 8)).drop (8 * i) = x := by
  obtain ⟨h1, h2⟩ := List.getElem?_eq_some_iff.1 h
  have e : s.flatten = (s.take i).flatten ++ (x ++ (s.drop (i + 1)).flatten) := by
    conv => lhs; rw [← List.take_append_drop i s, List.drop_eq_getElem_cons h1, h2]
    simp
  have hl : (s.take i).flatten.length = 8 * i := by rw [flat8 _ (fun y hy => h8 y (List.mem_of_mem_take hy)), List.length_take]; omega
  have hx := h8 x (List.mem_of_getElem? h)
  rw [e, List.take_append, List.take_of_length_le (by omega), hl, List.drop_append, List.drop_eq_nil_of_le (by omega), hl]
  rw [show 8 * i + 8 - 8 * i = 8 by omega, show 8 * i - 8 * i = 0 by omega, List.take_append_of_le_length (by omega), List.take_of_length_le (by omega)]
  rfl
theorem V_byte {x : Int} {g : List (List Bool)} (h8 : ∀ y ∈ g, y.length = 8) (h : x ∈ g.map V) : 0 ≤ x ∧ x < 256 := by
  obtain ⟨y, hy, rfl⟩ := List.mem_map.1 h
  exact ⟨V_nonneg y, V_lt8 (by rw [h8 y hy]; omega)⟩
theorem bits1_def (x : List Bool) : bits1 x = if x.take 7 = zeros ∨ x.take 7 = ones then x.take 7 else x := rfl
theorem cnt_take {x : List Bool} (h : x.length = 8) : (cnt (x.take 7) = 0 ↔ x.take 7 = zeros) ∧ (cnt (x.take 7) = 7 ↔ x.take 7 = ones) := by
  have e : seven x = x.take 7 := seven_long (by omega)
  rw [← e]
  exact ⟨cnt_zero, cnt_seven⟩
def gotR (s : List (List Bool)) : List (List Bool) := chop (dec s)
theorem dec_drop {s : List (List Bool)} {i : Nat} {x : List Bool} (h : s[i]? = some x) : dec (s.take (i + 1)) = dec (s.take i) ++ bits1 x := by
  obtain ⟨h1, h2⟩ := List.getElem?_eq_some_iff.1 h
  rw [List.take_succ_eq_append_getElem h1, h2]
  unfold dec
  rw [List.map_append, List.flatten_append]
  simp
theorem dec_len (s : List (List Bool)) (h : ∀ x ∈ s, x.length = 8) : (dec s).length ≤ 8 * s.length := by
  induction s with
  | nil => simp [dec]
  | cons x s ih =>
    have h1 := ih (fun y hy => h y (List.mem_cons_of_mem _ hy))
    have h2 := h x (List.mem_cons_self ..)
    have e : dec (x :: s) = bits1 x ++ dec s := rfl
    have h3 : (bits1 x).length ≤ 8 := by rw [bits1_def]; split <;> (try rw [List.length_take]) <;> omega
    rw [e, List.length_append, List.length_cons]
    omega
theorem ref_Get_ct (s : List (List Bool)) (h8 : ∀ x ∈ s, x.length = 8) (hl : s.length < 100000000) (ok : Bool) (hok : decide ((E (gotR s).flatten).map V = s.map V) = ok) :
    CtT Try.prog 8 [.sl 1 (bys (s.map V))] (Ret (.tuple [bif ok then .own 0 else .t (.v (.slice none 0 0)), .bool ok]) (bif ok then [(0, true, .row 5 1 (bys ((gotR s).map V)))] else [])) := by
  have hdl := dec_len s h8
  have htot : (gotR s).length * 8 ≤ 8 * s.length := Nat.le_trans (chop_count _ _ (Nat.le_refl _)) hdl
  have hgm : ∀ x ∈ gotR s, x.length = 8 := chop_mem _ _ (Nat.le_refl _)
  have hsl : (bys (s.map V)).length = s.length := by rw [bys_length, List.length_map]
  have hfl := flat8 s h8
  have hbl : (bys (s.flatten.map bi)).length = s.flatten.length := by rw [bys_length, List.length_map]
  refine Ct.of Try.func8 (by rfl) rfl (n := 74) rfl (by simp [ids]) ?_
  refine Told.callT (ref_Bits_ct s h8 (by omega)) rfl rfl rfl rfl ?_
  refine ⟨Nat, fun i => [(0, .t (.sl 1 (bys (s.map V)))), (4, .t (.sl 1 (bys (s.flatten.map bi)))), (5, .own 1), (6, .int .i64 i)], fun i => [(1, false, .row 5 1 (bys ((dec (s.take i)).map bi)))], fun i => i ≤ s.length, fun i => s.length - i, 0, by omega, ?_, ?_⟩
  · exact Le.trans (Le.nil 5 1 5 1 rfl rfl) (Le.trans (Le.flat 4 (.sl 1 (bys (s.flatten.map bi))) rfl) (Le.of [] ⟨rfl, rfl, rfl, rfl, trivial⟩ ⟨rfl, trivial⟩ rfl))
  intro i h1
  simp only at h1 ⊢
  refine brB (fun hc => ?_) (fun hc => ?_)
  · have hc : (i : Int) < ((bys (s.map V)).length : Int) := of_decide_eq_true hc
    rw [hsl] at hc
    obtain ⟨x, hx⟩ : ∃ x, s[i]? = some x := ⟨_, List.getElem?_eq_getElem (by omega)⟩
    have hx8 := h8 x (List.mem_of_getElem? hx)
    have e8 : IntKind.i64.wrap (8 * (i : Int)) = ((8 * i : Nat) : Int) := by rw [wi (by omega) (by omega)]; push_cast; rfl
    have e88 : IntKind.i64.wrap (IntKind.i64.wrap (8 * (i : Int)) + 8) = ((8 * i + 8 : Nat) : Int) := by rw [e8, wi (by omega) (by omega)]; push_cast; rfl
    have hdt := dec_len (s.take i) (fun y hy => h8 y (List.mem_of_mem_take hy))
    rw [List.length_take] at hdt
    refine ⟨by rw [e8]; omega, by rw [e88, e8]; omega, by rw [e88, hbl, hfl]; omega, ?_⟩
    have esl : ((bys (s.flatten.map bi)).take (IntKind.i64.wrap (IntKind.i64.wrap (8 * (i : Int)) + 8)).toNat).drop (IntKind.i64.wrap (8 * (i : Int))).toNat = bys (x.map bi) := by
      rw [e88, e8]
      show ((bys (s.flatten.map bi)).take (8 * i + 8)).drop (8 * i) = _
      rw [bys_slice, flat_slice h8 hx]
    rw [esl]
    refine ⟨Nat, fun j => [(0, .t (.sl 1 (bys (s.map V)))), (4, .t (.sl 1 (bys (s.flatten.map bi)))), (5, .own 1), (6, .int .i64 i), (7, .t (.sl 1 (bys (x.map bi)))), (8, .int .i64 (cnt (x.take j))), (9, .int .i64 j)], fun _ => [(1, false, .row 5 1 (bys ((dec (s.take i)).map bi)))], fun j => j ≤ 7, fun j => 7 - j, 0, by omega, Le.of [] ⟨rfl, rfl, rfl, rfl, rfl, rfl, rfl, trivial⟩ ⟨rfl, trivial⟩ rfl, ?_⟩
    intro j hj
    simp only at hj ⊢
    refine brB (fun hc2 => ?_) (fun hc2 => ?_)
    · have hc2 : (j : Int) < 7 := of_decide_eq_true hc2
      obtain ⟨b, hb⟩ : ∃ b, x[j]? = some b := ⟨_, List.getElem?_eq_getElem (by omega)⟩
      have hbV : (x.map bi)[j]? = some (bi b) := by rw [List.getElem?_map, hb]; rfl
      refine ⟨by omega, .int .u8 (bi b), bys_get hbV, ?_⟩
      refine ⟨j + 1, by show j + 1 ≤ 7; omega, Le.of [] ⟨rfl, rfl, rfl, rfl, rfl, congrArg (AV.int .i64) ?_, congrArg (AV.int .i64) (by rw [wi (by omega) (by omega)]; rfl), trivial⟩ ⟨rfl, trivial⟩ rfl, by show 7 - (j + 1) < 7 - j; omega⟩
      obtain ⟨q1, q2⟩ := List.getElem?_eq_some_iff.1 hb
      have hcl : (x.take j).count true ≤ 7 := Nat.le_trans List.count_le_length (by rw [List.length_take]; omega)
      rw [List.take_succ_eq_append_getElem q1, q2, bi_wrap]
      unfold cnt
      rw [List.count_append]
      have e : ((([b] : List Bool).count true : Nat) : Int) = bi b := by cases b <;> rfl
      have hb1 : 0 ≤ bi b ∧ bi b ≤ 1 := by cases b <;> decide
      push_cast
      rw [e]
      exact wi (by omega) (by omega)
    · have hc2 : ¬ (j : Int) < 7 := of_decide_eq_false hc2
      have hj7 : j = 7 := by omega
      subst hj7
      obtain ⟨c1, c2⟩ := cnt_take hx8
      have e7 : (bys (x.map bi)).take 7 = bys ((x.take 7).map bi) := by unfold bys; rw [List.map_map, List.map_map, List.map_take]
      have hxl : (bys (x.map bi)).length = 8 := by rw [bys_length, List.length_map, hx8]
      have hdl2 : (bys ((dec (s.take i)).map bi)).length ≤ 8 * s.length := by rw [bys_length, List.length_map]; omega
      have ei : IntKind.i64.wrap ((i : Int) + 1) = ((i + 1 : Nat) : Int) := by rw [wi (by omega) (by omega)]; rfl
      have fin7 : bits1 x = x.take 7 → bys ((dec (s.take i)).map bi) ++ (bys (x.map bi)).take 7 = bys ((dec (s.take (i + 1))).map bi) := fun e => by rw [dec_drop hx, e, List.map_append, bys_append, e7]
      have fin8 : bits1 x = x → bys ((dec (s.take i)).map bi) ++ bys (x.map bi) = bys ((dec (s.take (i + 1))).map bi) := fun e => by rw [dec_drop hx, e, List.map_append, bys_append]
      refine brB (fun hc3 => ?_) (fun hc3 => brB (fun hc4 => ?_) (fun hc4 => ?_))
      · have hz := c1.1 (of_decide_eq_true hc3)
        refine ⟨by decide, by decide, by rw [hxl]; decide, ?_⟩
        refine ⟨by show ((bys ((dec (s.take i)).map bi)).length + ((bys (x.map bi)).take 7).length) * 1 ≤ _; rw [List.length_take]; omega, ?_⟩
        exact ⟨i + 1, by show i + 1 ≤ _; omega, Le.of [(1, 47)] ⟨rfl, rfl, rfl, congrArg (AV.int .i64) ei, trivial⟩ ⟨congrArg (fun l => (false, Blk.row 5 1 l)) (fin7 (by rw [bits1_def, if_pos (.inl hz)])), trivial⟩ rfl, by show s.length - (i + 1) < s.length - i; omega⟩
      · have hz := c2.1 (of_decide_eq_true hc4)
        refine ⟨by decide, by decide, by rw [hxl]; decide, ?_⟩
        refine ⟨by show ((bys ((dec (s.take i)).map bi)).length + ((bys (x.map bi)).take 7).length) * 1 ≤ _; rw [List.length_take]; omega, ?_⟩
        exact ⟨i + 1, by show i + 1 ≤ _; omega, Le.of [(1, 47)] ⟨rfl, rfl, rfl, congrArg (AV.int .i64) ei, trivial⟩ ⟨congrArg (fun l => (false, Blk.row 5 1 l)) (fin7 (by rw [bits1_def, if_pos (.inr hz)])), trivial⟩ rfl, by show s.length - (i + 1) < s.length - i; omega⟩
      · have hnz : ¬ x.take 7 = zeros := fun e => of_decide_eq_false hc3 (c1.2 e)
        have hno : ¬ x.take 7 = ones := fun e => of_decide_eq_false hc4 (c2.2 e)
        refine ⟨by show ((bys ((dec (s.take i)).map bi)).length + (bys (x.map bi)).length) * 1 ≤ _; omega, ?_⟩
        exact ⟨i + 1, by show i + 1 ≤ _; omega, Le.of [(1, 50)] ⟨rfl, rfl, rfl, congrArg (AV.int .i64) ei, trivial⟩ ⟨congrArg (fun l => (false, Blk.row 5 1 l)) (fin8 (by rw [bits1_def, if_neg (fun e => e.elim hnz hno)])), trivial⟩ rfl, by show s.length - (i + 1) < s.length - i; omega⟩
  · have hc : ¬ (i : Int) < ((bys (s.map V)).length : Int) := of_decide_eq_false hc
    rw [hsl] at hc
    have hi : i = s.length := by omega
    subst hi
    rw [List.take_length]
    have hbl2 : (bys ((dec s).map bi)).length = (dec s).length := by rw [bys_length, List.length_map]
    refine ⟨Nat × List (List Bool), fun y => [(0, .t (.sl 1 (bys (s.map V)))), (5, .t (.sl 1 (bys ((dec s).map bi)))), (10, .own 1), (11, .int .i64 y.1)], fun y => [(1, false, .row 5 1 (bys (y.2.map V)))], fun y => y.1 ≤ (dec s).length ∧ y.2 ++ chop ((dec s).drop y.1) = gotR s, fun y => (dec s).length - y.1, (0, []), ⟨by simp, by simp [gotR]⟩, ?_, ?_⟩
    · exact Le.trans (Le.nil 10 2 5 1 rfl rfl) (Le.trans (Le.flat 5 (.sl 1 (bys ((dec s).map bi))) rfl) (Le.of [(1, 2)] ⟨rfl, rfl, rfl, rfl, trivial⟩ ⟨rfl, trivial⟩ rfl))
    rintro ⟨p, out⟩ ⟨h4, h5⟩
    simp only at h4 h5 ⊢
    have ep7 : IntKind.i64.wrap ((p : Int) + 7) = ((p + 7 : Nat) : Int) := by rw [wi (by omega) (by omega)]; rfl
    have ep8 : IntKind.i64.wrap ((p : Int) + 8) = ((p + 8 : Nat) : Int) := by rw [wi (by omega) (by omega)]; rfl
    refine brB (fun hc2 => ?_) (fun hc2 => ?_)
    · have hc2 : IntKind.i64.wrap ((p : Int) + 7) < ((bys ((dec s).map bi)).length : Int) := of_decide_eq_true hc2
      rw [hbl2, ep7] at hc2
      have hdl8 : 8 ≤ ((dec s).drop p).length := by rw [List.length_drop]; omega
      rw [chop_long hdl8, List.drop_drop] at h5
      have hlen : out.length + 1 ≤ (gotR s).length := by rw [← h5, List.length_append, List.length_cons]; omega
      refine ⟨by omega, by rw [ep8]; omega, by rw [ep8, hbl2]; omega, ?_⟩
      have esl : ((bys ((dec s).map bi)).take (IntKind.i64.wrap ((p : Int) + 8)).toNat).drop ((p : Int)).toNat = bys ((((dec s).drop p).take 8).map bi) := by
        rw [ep8]
        show ((bys ((dec s).map bi)).take (p + 8)).drop p = _
        rw [bys_slice, List.drop_take, show p + 8 - p = 8 by omega]
      refine Told.callT (ref_value_ct (((dec s).drop p).take 8) (by rw [List.length_take]; omega)) rfl rfl (congrArg (fun l => some [T.sl 1 l]) esl) rfl ?_
      refine ⟨by show ((bys (out.map V)).length + 1) * 1 ≤ _; rw [bys_length, List.length_map]; omega, ?_⟩
      exact ⟨(p + 8, out ++ [((dec s).drop p).take 8]), ⟨by show p + 8 ≤ _; omega, by rw [List.append_assoc]; exact h5⟩, Le.of [(1, 66)] ⟨rfl, rfl, rfl, congrArg (AV.int .i64) ep8, trivial⟩ ⟨congrArg (fun l => (false, Blk.row 5 1 l)) (show bys (out.map V) ++ [T.int .u8 (V (((dec s).drop p).take 8))] = bys ((out ++ [((dec s).drop p).take 8]).map V) by rw [List.map_append, bys_append]; rfl), trivial⟩ rfl, by show (dec s).length - (p + 8) < (dec s).length - p; omega⟩
    · have hc2 : ¬ IntKind.i64.wrap ((p : Int) + 7) < ((bys ((dec s).map bi)).length : Int) := of_decide_eq_false hc2
      rw [hbl2, ep7] at hc2
      rw [chop_short (by rw [List.length_drop]; omega), List.append_nil] at h5
      subst h5
      refine Told.callT (ref_Put_ct (gotR s) hgm (by omega)) rfl rfl rfl rfl ?_
      refine ⟨_, rfl, _, rfl, fun c hcs => ?_⟩
      have hstr := strOf_eq (xs := (E (gotR s).flatten).map V) (ys := s.map V) (fun x hx => V_byte (fun y hy => E_len hy) hx) (fun x hx => V_byte h8 hx)
      cases ok with
      | true =>
        have hok := of_decide_eq_true hok
        refine brF (by rw [hcs, Bool.not_eq_false', decide_eq_true_eq]; exact hstr.2 hok) ?_
        exact ⟨[(0, 1)], _, _, ⟨rfl, rfl⟩, rfl, ⟨rfl, trivial⟩, rfl⟩
      | false =>
        have hok := of_decide_eq_false hok
        refine brT (by rw [hcs, Bool.not_eq_true', decide_eq_false_iff_not]; exact fun h => hok (hstr.1 h)) ?_
        exact ⟨[], _, _, ⟨rfl, rfl⟩, rfl, trivial, rfl⟩
end Go.Proofs.YtbmljgahpicmbaaSt
