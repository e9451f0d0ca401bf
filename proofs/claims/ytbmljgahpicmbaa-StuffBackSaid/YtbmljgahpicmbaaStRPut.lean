-- Written by hand for this claim's session.
import Derived.Test.YtbmljgahpicmbaaStVal
open Go Go.YtbmljgahpicmbaaE Go.Proofs
set_option maxRecDepth 100000
set_option autoImplicit false
namespace Go.Proofs.YtbmljgahpicmbaaSt
def cnt (l : List Bool) : Int := (l.count true : Nat)
theorem seven_at (m : List Bool) (i : Nat) (hi : i < 7) : (seven m)[i]? = some (if h : i < m.length then m[i] else true) := by
  unfold seven
  rw [List.getElem?_take, if_pos hi, List.getElem?_append]
  by_cases h : i < m.length
  · rw [if_pos h, dif_pos h, List.getElem?_eq_getElem h]
  · rw [if_neg h, dif_neg h, List.getElem?_replicate, if_pos (by omega)]
theorem cnt_zero {m : List Bool} : cnt (seven m) = 0 ↔ seven m = zeros := by
  unfold cnt
  constructor
  · intro h
    have h1 : (seven m).count true = 0 := by omega
    rw [List.count_eq_zero] at h1
    refine List.eq_replicate_iff.2 ⟨seven_length m, fun b hb => ?_⟩
    cases b
    · rfl
    · exact absurd hb h1
  · intro h; rw [h]; decide
theorem cnt_seven {m : List Bool} : cnt (seven m) = 7 ↔ seven m = ones := by
  unfold cnt
  constructor
  · intro h
    have h1 : (seven m).count true = (seven m).length := by rw [seven_length]; omega
    rw [List.count_eq_length] at h1
    exact List.eq_replicate_iff.2 ⟨seven_length m, fun b hb => (h1 b hb).symm⟩
  · intro h; rw [h]; decide
theorem bi_wrap (b : Bool) : IntKind.i64.wrap (bi b) = bi b := by cases b <;> decide
theorem ref_Put_ct (g : List (List Bool)) (h8 : ∀ x ∈ g, x.length = 8) (hl : g.length < 1000000000) : CtT Try.prog 10 [.sl 1 (bys (g.map V))] (Ret (.own 0) [(0, false, .row 5 1 (bys ((E g.flatten).map V)))]) := by
  refine Ct.of Try.func10 (by rfl) rfl (n := 77) rfl (by simp [ids]) ?_
  refine Told.callT (ref_Bits_ct g h8 hl) rfl rfl rfl rfl ?_
  have hLL := flat8 g h8
  have htot := (E_count g.flatten).1
  generalize g.flatten = L at *
  refine ⟨Nat × List (List Bool), fun y => [(3, .t (.sl 1 (bys (L.map bi)))), (4, .own 1), (5, .int .i64 y.1)], fun y => [(1, false, .row 5 1 (bys (y.2.map V)))], fun y => y.1 ≤ L.length + 7 ∧ y.2 ++ E (L.drop y.1) = E L, fun y => L.length - y.1, (0, []), ⟨by simp, by simp⟩, ?_, ?_⟩
  · exact Le.trans (Le.nil 4 1 5 1 rfl rfl) (Le.trans (Le.flat 3 (.sl 1 (bys (L.map bi))) rfl) (Le.of [] ⟨rfl, rfl, rfl, trivial⟩ ⟨rfl, trivial⟩ rfl))
  rintro ⟨p, out⟩ ⟨h1, h3⟩
  simp only at h1 h3 ⊢
  have hbl : (bys (L.map bi)).length = L.length := by rw [bys_length, List.length_map]
  refine brB (fun hc => ?_) (fun hc => ?_)
  · have hc : (p : Int) < ((bys (L.map bi)).length : Int) := of_decide_eq_true hc
    rw [hbl] at hc
    have hp : p < L.length := by omega
    have hm0 : L.drop p ≠ [] := fun e => by have := congrArg List.length e; rw [List.length_drop] at this; simp at this; omega
    have hmlen : (L.drop p).length = L.length - p := List.length_drop
    have hmat : ∀ k, p + k < L.length → ∃ b, L[p + k]? = some b ∧ (L.drop p)[k]? = some b := fun k hk => ⟨L[p + k], List.getElem?_eq_getElem hk, by rw [List.getElem?_drop, List.getElem?_eq_getElem hk]⟩
    have hdd : ∀ k, L.drop (p + k) = (L.drop p).drop k := fun k => by rw [List.drop_drop]
    generalize hm : L.drop p = m at *
    rw [E_cons hm0] at h3
    have hlen : out.length + 1 + (E (left1 m)).length = (E L).length := by rw [← h3, List.length_append, List.length_cons]; omega
    refine ⟨Nat, fun i => [(3, .t (.sl 1 (bys (L.map bi)))), (4, .own 1), (5, .int .i64 p), (6, .own 2), (7, .int .i64 (cnt ((seven m).take i))), (8, .int .i64 i)], fun i => [(1, false, .row 5 1 (bys (out.map V))), (2, false, .row 5 1 (bys (((seven m).take i).map bi)))], fun i => i ≤ 7, fun i => 7 - i, 0, by omega, ?_, ?_⟩
    · exact Le.trans (Le.nil 6 2 5 1 rfl rfl) (Le.of [] ⟨rfl, rfl, rfl, rfl, rfl, rfl, trivial⟩ ⟨rfl, rfl, trivial⟩ rfl)
    intro i hi
    simp only at hi ⊢
    refine brB (fun hc2 => ?_) (fun hc2 => ?_)
    · have hc2 : (i : Int) < 7 := of_decide_eq_true hc2
      have hat := seven_at m i (by omega)
      have key : ∀ (b : Bool), (seven m)[i]? = some b → bys (((seven m).take i).map bi) ++ [T.int .u8 (bi b)] = bys (((seven m).take (i + 1)).map bi) ∧ IntKind.i64.wrap (cnt ((seven m).take i) + IntKind.i64.wrap (bi b)) = cnt ((seven m).take (i + 1)) := by
        intro b hb
        obtain ⟨q1, q2⟩ := List.getElem?_eq_some_iff.1 hb
        rw [List.take_succ_eq_append_getElem q1, q2]
        refine ⟨by rw [List.map_append, bys_append]; rfl, ?_⟩
        have hcl : ((seven m).take i).count true ≤ 7 := Nat.le_trans List.count_le_length (by rw [List.length_take, seven_length]; omega)
        rw [bi_wrap]
        unfold cnt
        rw [List.count_append]
        have e : ((([b] : List Bool).count true : Nat) : Int) = bi b := by cases b <;> rfl
        have hb1 : 0 ≤ bi b ∧ bi b ≤ 1 := by cases b <;> decide
        push_cast
        rw [e]
        exact wi (by omega) (by omega)
      have ei : IntKind.i64.wrap ((i : Int) + 1) = ((i + 1 : Nat) : Int) := by rw [wi (by omega) (by omega)]; rfl
      have epi : IntKind.i64.wrap ((p : Int) + i) = ((p + i : Nat) : Int) := by rw [wi (by omega) (by omega)]; rfl
      have hcap : (bys (((seven m).take i).map bi)).length + 1 ≤ 140737488355328 := by rw [bys_length, List.length_map, List.length_take, seven_length]; omega
      refine brB (fun hc3 => ?_) (fun hc3 => ?_)
      · have hc3 : IntKind.i64.wrap ((p : Int) + i) < ((bys (L.map bi)).length : Int) := of_decide_eq_true hc3
        rw [hbl, epi] at hc3
        obtain ⟨b, hb1, hb2⟩ := hmat i (by omega)
        rw [show (seven m)[i]? = some b by rw [hat, dif_pos (by omega)]; rw [List.getElem?_eq_getElem (by omega)] at hb2; exact hb2] at *
        have hbV : (L.map bi)[p + i]? = some (bi b) := by rw [List.getElem?_map, hb1]; rfl
        obtain ⟨k1, k2⟩ := key b rfl
        refine ⟨by rw [epi]; omega, .int .u8 (bi b), by rw [epi]; exact bys_get hbV, ?_⟩
        refine ⟨by show ((bys (((seven m).take i).map bi)).length + 1) * 1 ≤ _; omega, ?_⟩
        exact ⟨i + 1, by show i + 1 ≤ 7; omega, Le.of [(2, 35)] ⟨rfl, rfl, rfl, rfl, congrArg (AV.int .i64) k2, congrArg (AV.int .i64) ei, trivial⟩ ⟨rfl, congrArg (fun l => (false, Blk.row 5 1 l)) k1, trivial⟩ rfl, by show 7 - (i + 1) < 7 - i; omega⟩
      · have hc3 : ¬ IntKind.i64.wrap ((p : Int) + i) < ((bys (L.map bi)).length : Int) := of_decide_eq_false hc3
        rw [hbl, epi] at hc3
        rw [dif_neg (by omega)] at hat
        obtain ⟨k1, k2⟩ := key true hat
        refine ⟨by show ((bys (((seven m).take i).map bi)).length + 1) * 1 ≤ _; omega, ?_⟩
        exact ⟨i + 1, by show i + 1 ≤ 7; omega, Le.of [(2, 35)] ⟨rfl, rfl, rfl, rfl, congrArg (AV.int .i64) k2, congrArg (AV.int .i64) ei, trivial⟩ ⟨rfl, congrArg (fun l => (false, Blk.row 5 1 l)) k1, trivial⟩ rfl, by show 7 - (i + 1) < 7 - i; omega⟩
    · have hc2 : ¬ (i : Int) < 7 := of_decide_eq_false hc2
      have hi7 : i = 7 := by omega
      subst hi7
      have hst : (seven m).take 7 = seven m := List.take_of_length_le (by rw [seven_length]; omega)
      rw [hst]
      have ep7 : IntKind.i64.wrap ((p : Int) + 7) = ((p + 7 : Nat) : Int) := by rw [wi (by omega) (by omega)]; rfl
      have hcap : ((bys ((seven m).map bi)).length + 1) * 1 ≤ 140737488355328 := by rw [bys_length, List.length_map, seven_length]; omega
      have hcap2 : ((bys (out.map V)).length + 1) * 1 ≤ 140737488355328 := by rw [bys_length, List.length_map]; omega
      have hrow : bys (out.map V) ++ [T.int .u8 (V (byte1 m))] = bys ((out ++ [byte1 m]).map V) := by rw [List.map_append, bys_append]; rfl
      have hb1 : ∀ c : Bool, byte1 m = seven m ++ [c] → bys ((seven m).map bi) ++ [T.int .u8 (bi c)] = bys ((byte1 m).map bi) := fun c e => by rw [e, List.map_append, bys_append]; rfl
      have hinv : ∀ q, L.drop q = left1 m → (out ++ [byte1 m]) ++ E (L.drop q) = E L := fun q e => by rw [e, List.append_assoc]; exact h3
      refine brB (fun hc3 => ?_) (fun hc3 => ?_)
      · have hz := cnt_zero.1 (of_decide_eq_true hc3)
        refine ⟨hcap, ?_⟩
        have e1 := hb1 true (by unfold byte1; rw [if_pos hz, hz])
        refine Told.callT (ref_value_ct (byte1 m) (byte1_length m)) rfl rfl (congrArg (fun l => some [T.sl 1 l]) e1) rfl ?_
        refine ⟨hcap2, ?_⟩
        exact ⟨(p + 7, out ++ [byte1 m]), ⟨by show p + 7 ≤ _; omega, hinv _ (by rw [hdd]; unfold left1; rw [if_pos (.inl hz)])⟩, Le.of [(1, 75)] ⟨rfl, rfl, congrArg (AV.int .i64) ep7, trivial⟩ ⟨congrArg (fun l => (false, Blk.row 5 1 l)) hrow, trivial⟩ rfl, by show L.length - (p + 7) < L.length - p; omega⟩
      · have hnz : seven m ≠ zeros := fun e => of_decide_eq_false hc3 (cnt_zero.2 e)
        refine brB (fun hc4 => ?_) (fun hc4 => ?_)
        · have hz := cnt_seven.1 (of_decide_eq_true hc4)
          refine ⟨hcap, ?_⟩
          have e1 := hb1 false (by unfold byte1; rw [if_neg hnz, if_pos hz, hz])
          refine Told.callT (ref_value_ct (byte1 m) (byte1_length m)) rfl rfl (congrArg (fun l => some [T.sl 1 l]) e1) rfl ?_
          refine ⟨hcap2, ?_⟩
          exact ⟨(p + 7, out ++ [byte1 m]), ⟨by show p + 7 ≤ _; omega, hinv _ (by rw [hdd]; unfold left1; rw [if_pos (.inr hz)])⟩, Le.of [(1, 75)] ⟨rfl, rfl, congrArg (AV.int .i64) ep7, trivial⟩ ⟨congrArg (fun l => (false, Blk.row 5 1 l)) hrow, trivial⟩ rfl, by show L.length - (p + 7) < L.length - p; omega⟩
        · have hno : seven m ≠ ones := fun e => of_decide_eq_false hc4 (cnt_seven.2 e)
          have hl8 : left1 m = m.drop 8 := by unfold left1; rw [if_neg (fun x => x.elim hnz hno)]
          refine brB (fun hc5 => ?_) (fun hc5 => ?_)
          · have hc5 : IntKind.i64.wrap ((p : Int) + 7) < ((bys (L.map bi)).length : Int) := of_decide_eq_true hc5
            rw [hbl, ep7] at hc5
            obtain ⟨b, hb2, hb3⟩ := hmat 7 (by omega)
            have hbV : (L.map bi)[p + 7]? = some (bi b) := by rw [List.getElem?_map, hb2]; rfl
            refine ⟨by rw [ep7]; omega, .int .u8 (bi b), by rw [ep7]; exact bys_get hbV, hcap, ?_⟩
            have e1 := hb1 b (by unfold byte1; rw [if_neg hnz, if_neg hno]; obtain ⟨q1, q2⟩ := List.getElem?_eq_some_iff.1 hb3; rw [List.drop_eq_getElem_cons q1, q2]; rfl)
            refine Told.callT (ref_value_ct (byte1 m) (byte1_length m)) rfl rfl (congrArg (fun l => some [T.sl 1 l]) e1) rfl ?_
            refine ⟨hcap2, ?_⟩
            have ep8 : IntKind.i64.wrap (IntKind.i64.wrap ((p : Int) + 7) + 1) = ((p + 8 : Nat) : Int) := by rw [ep7, wi (by omega) (by omega)]; rfl
            exact ⟨(p + 8, out ++ [byte1 m]), ⟨by show p + 8 ≤ _; omega, hinv _ (by rw [hdd, hl8])⟩, Le.of [(1, 75)] ⟨rfl, rfl, congrArg (AV.int .i64) ep8, trivial⟩ ⟨congrArg (fun l => (false, Blk.row 5 1 l)) hrow, trivial⟩ rfl, by show L.length - (p + 8) < L.length - p; omega⟩
          · have hc5 : ¬ IntKind.i64.wrap ((p : Int) + 7) < ((bys (L.map bi)).length : Int) := of_decide_eq_false hc5
            rw [hbl, ep7] at hc5
            refine ⟨hcap, ?_⟩
            have e1 := hb1 true (by unfold byte1; rw [if_neg hnz, if_neg hno, List.drop_eq_nil_of_le (by omega)]; rfl)
            refine Told.callT (ref_value_ct (byte1 m) (byte1_length m)) rfl rfl (congrArg (fun l => some [T.sl 1 l]) e1) rfl ?_
            refine ⟨hcap2, ?_⟩
            exact ⟨(p + 7, out ++ [byte1 m]), ⟨by show p + 7 ≤ _; omega, hinv _ (by rw [hdd, hl8, List.drop_eq_nil_of_le (by omega), List.drop_eq_nil_of_le (by omega)])⟩, Le.of [(1, 75)] ⟨rfl, rfl, congrArg (AV.int .i64) ep7, trivial⟩ ⟨congrArg (fun l => (false, Blk.row 5 1 l)) hrow, trivial⟩ rfl, by show L.length - (p + 7) < L.length - p; omega⟩
  · have hc : ¬ (p : Int) < ((bys (L.map bi)).length : Int) := of_decide_eq_false hc
    rw [hbl] at hc
    refine ⟨[(0, 1)], _, _, ⟨rfl, rfl⟩, rfl, ⟨?_, trivial⟩, rfl⟩
    rw [List.drop_eq_nil_of_le (by omega), E_nil, List.append_nil] at h3
    exact congrArg (fun l => (false, Blk.row 5 1 (bys (l.map V)))) h3
end Go.Proofs.YtbmljgahpicmbaaSt
