-- Written by hand for this claim's session.
import Derived.Test.YtbmljgahpicmbaaStPut
import Derived.Test.YtbmljgahpicmbaaStEq
import Derived.Test.YtbmljgahpicmbaaStGp
open Go Go.YtbmljgahpicmbaaE Go.Proofs
set_option maxRecDepth 100000
set_option autoImplicit false
namespace Go.Proofs.YtbmljgahpicmbaaSt
theorem V_bits {a b : List Bool} (h : a.length = b.length) : V a = V b ↔ a = b := ⟨V_inj h, fun e => by rw [e]⟩
theorem bys_map (g : List (List Bool)) : bys (g.map V) = (g.map V).map (T.int .u8) := rfl
theorem stuff_Get_ct (s : List (List Bool)) (h8 : ∀ x ∈ s, x.length = 8) (hl : s.length < 1000000000) (ok : Bool) (hok : decide ((E (got s).flatten).map V = s.map V) = ok) :
    CtT Try.prog 7 [.sl 1 (bys (s.map V))] (Ret (.tuple [bif ok then .own 0 else .t (.v (.slice none 0 0)), .int .i64 (bif ok then 0 else 3)]) (bif ok then [(0, true, .row 5 1 (bys ((got s).map V)))] else [])) := by
  have hdl := dec2_len s h8
  have htot : (got s).length * 8 ≤ 8 * s.length := Nat.le_trans (chop_count _ _ (Nat.le_refl _)) hdl
  have hgm : ∀ x ∈ got s, x.length = 8 := chop_mem _ _ (Nat.le_refl _)
  refine Ct.of Try.func7 (by rfl) rfl (n := 57) rfl (by simp [ids]) ?_
  refine ⟨Nat × List Bool × List (List Bool), fun y => [(0, .t (.sl 1 (bys (s.map V)))), (4, .own 1), (5, .int .u32 (V y.2.1)), (6, .int .i64 y.2.1.length), (10, .t (.sl 1 (bys (s.map V)))), (11, .int .i64 s.length), (12, .int .i64 y.1)],
    fun y => [(1, false, .row 5 1 (bys (y.2.2.map V)))], fun y => y.1 ≤ s.length ∧ y.2.1.length ≤ 7 ∧ y.2.2 ++ chop (y.2.1 ++ dec2 (s.drop y.1)) = got s, fun y => s.length - y.1, (0, [], []), ⟨by simp, by simp, by simp [got]⟩, ?_, ?_⟩
  · refine Le.trans (Le.nil 4 1 5 1 rfl rfl) (Le.of [] ⟨rfl, rfl, rfl, rfl, rfl, ?_, rfl, trivial⟩ ⟨rfl, trivial⟩ rfl)
    exact congrArg (AV.int .i64) (by rw [bys_length, List.length_map])
  rintro ⟨i, h, out⟩ ⟨h1, h2, h3⟩
  simp only at h1 h2 h3 ⊢
  have hout : out.length ≤ (got s).length := by rw [← h3, List.length_append]; omega
  refine brB (fun hc => ?_) (fun hc => ?_)
  · have hc := of_decide_eq_true hc
    have hi : i < s.length := by omega
    obtain ⟨x, hx⟩ : ∃ x, s[i]? = some x := ⟨_, List.getElem?_eq_getElem hi⟩
    have hx8 := h8 x (List.mem_of_getElem? hx)
    have hxV : (s.map V)[i]? = some (V x) := by rw [List.getElem?_map, hx]; rfl
    refine ⟨by omega, .int .u8 (V x), bys_get hxV, ?_⟩
    refine brB (fun hc => ?_) (fun hc => brB (fun hc2 => ?_) (fun hc2 => ?_))
    · have hc : V x = 1 := of_decide_eq_true hc
      have hx1 : x = zeros ++ [true] := V_inj (hx8.trans rfl) hc
      have en : (bits2 x).length = 7 := by rw [hx1]; rfl
      have ev : (V x).fdiv (2 ^ (min (IntKind.i64.wrap (8 - 7)).toNat 8)) = V (bits2 x) := by rw [hx1]; rfl
      refine ⟨by decide, by decide, ?_⟩
      have eor := or_put h (bits2 x) 7 (by rw [en]; rfl) (by omega)
      have emany : IntKind.i64.wrap (h.length + 7) = h.length + 7 := wi (by omega) (by omega)
      have ebb : Go.bits .or .u32 (IntKind.u32.wrap (V h * 2 ^ (min ((7 : Int)).toNat 32))) (IntKind.u32.wrap ((V x).fdiv (2 ^ (min (IntKind.i64.wrap (8 - 7)).toNat 8)))) = V (h ++ bits2 x) := by
        have ew : IntKind.u32.wrap (V (bits2 x)) = V (bits2 x) := wu32_of (n := 8) (by omega) (by have := val_lt (bits2 x); have h7 := (bits2_len hx8).1; exact Nat.lt_of_lt_of_le this (Nat.pow_le_pow_right (by decide) h7))
        rw [ev, ew]
        exact eor
      have hlen : (h ++ bits2 x).length = h.length + 7 := by rw [List.length_append, en]
      refine brB (fun hc3 => ?_) (fun hc3 => ?_)
      · have hc3 := of_decide_eq_true hc3
        rw [emany] at hc3
        have em2 : IntKind.i64.wrap (IntKind.i64.wrap (h.length + 7) - 8) = h.length + 7 - 8 := by rw [emany]; exact wi (by omega) (by omega)
        refine ⟨by rw [em2]; omega, by show ((bys (out.map V)).length + 1) * 1 ≤ _; rw [bys_length, List.length_map]; omega, by rw [em2]; omega, ?_⟩
        refine ⟨(i + 1, (h ++ bits2 x).drop 8, out ++ [(h ++ bits2 x).take 8]), ⟨by show i + 1 ≤ _; omega, by show ((h ++ bits2 x).drop 8).length ≤ 7; rw [List.length_drop]; omega, ?_⟩, Le.of [(1, 44)] ⟨rfl, rfl, ?_, ?_, rfl, rfl, ?_, trivial⟩ ⟨?_, trivial⟩ rfl, by show s.length - (i + 1) < s.length - i; omega⟩
        · show (out ++ [(h ++ bits2 x).take 8]) ++ chop ((h ++ bits2 x).drop 8 ++ dec2 (s.drop (i + 1))) = _
          rw [List.append_assoc, List.singleton_append, ← chop_app (b := (h ++ bits2 x).drop 8 ++ dec2 (s.drop (i + 1))) (a := (h ++ bits2 x).take 8) (by rw [List.length_take]; omega), ← List.append_assoc, List.take_append_drop, List.append_assoc, ← dec2_drop hx, h3]
        · have e := mask_bits (h ++ bits2 x) 8 (by omega) (by omega) (IntKind.i64.wrap (IntKind.i64.wrap (h.length + 7) - 8)) (by rw [em2]; omega)
          rw [← ebb] at e
          exact congrArg (AV.int .u32) (e.trans rfl)
        · have e : IntKind.i64.wrap (IntKind.i64.wrap (h.length + 7) - 8) = (((h ++ bits2 x).drop 8).length : Int) := by rw [em2, List.length_drop]; omega
          exact congrArg (AV.int .i64) e
        · have e : IntKind.i64.wrap (i + 1) = ((i + 1 : Nat) : Int) := by rw [wi (by omega) (by omega)]; rfl
          exact congrArg (AV.int .i64) e
        · have e := shr_take (h ++ bits2 x) (IntKind.i64.wrap (IntKind.i64.wrap (h.length + 7) - 8)) (by rw [em2]; omega) (by rw [em2]; omega) (by rw [em2]; omega)
          rw [em2, show (h ++ bits2 x).length - ((h.length : Int) + 7 - 8).toNat = 8 by omega] at e
          have e2 : IntKind.u8.wrap ((V (h ++ bits2 x)).fdiv (2 ^ (min (IntKind.i64.wrap (IntKind.i64.wrap (h.length + 7) - 8)).toNat 32))) = V ((h ++ bits2 x).take 8) := by
            rw [em2, e, wb' (V_nonneg _) (V_lt8 (by rw [List.length_take]; omega))]
          rw [← ebb] at e2
          have e3 : bys ((out ++ [(h ++ bits2 x).take 8]).map V) = bys (out.map V) ++ [T.int .u8 (V ((h ++ bits2 x).take 8))] := by rw [List.map_append, bys_append]; rfl
          rw [e3, ← e2]
          rfl
      · have hc3 := of_decide_eq_false hc3
        rw [emany] at hc3
        refine ⟨by rw [emany]; omega, ?_⟩
        refine ⟨(i + 1, h ++ bits2 x, out), ⟨by show i + 1 ≤ _; omega, by show (h ++ bits2 x).length ≤ 7; omega, ?_⟩, Le.of [] ⟨rfl, rfl, ?_, ?_, rfl, rfl, ?_, trivial⟩ ⟨rfl, trivial⟩ rfl, by show s.length - (i + 1) < s.length - i; omega⟩
        · show out ++ chop (h ++ bits2 x ++ dec2 (s.drop (i + 1))) = _
          rw [List.append_assoc, ← dec2_drop hx, h3]
        · have e := mask_bits (h ++ bits2 x) 0 (by omega) (by omega) (IntKind.i64.wrap (h.length + 7)) (by rw [emany]; omega)
          rw [List.drop_zero] at e
          conv at e => lhs; rw [← ebb]
          exact congrArg (AV.int .u32) (e.trans rfl)
        · have e : IntKind.i64.wrap (h.length + 7) = ((h ++ bits2 x).length : Int) := by rw [emany]; omega
          exact congrArg (AV.int .i64) e
        · have e : IntKind.i64.wrap (i + 1) = ((i + 1 : Nat) : Int) := by rw [wi (by omega) (by omega)]; rfl
          exact congrArg (AV.int .i64) e
    · have hc2 : V x = 254 := of_decide_eq_true hc2
      have hx1 : x = ones ++ [false] := V_inj (hx8.trans rfl) hc2
      have en : (bits2 x).length = 7 := by rw [hx1]; rfl
      have ev : (V x).fdiv (2 ^ (min (IntKind.i64.wrap (8 - 7)).toNat 8)) = V (bits2 x) := by rw [hx1]; rfl
      refine ⟨by decide, by decide, ?_⟩
      have eor := or_put h (bits2 x) 7 (by rw [en]; rfl) (by omega)
      have emany : IntKind.i64.wrap (h.length + 7) = h.length + 7 := wi (by omega) (by omega)
      have ebb : Go.bits .or .u32 (IntKind.u32.wrap (V h * 2 ^ (min ((7 : Int)).toNat 32))) (IntKind.u32.wrap ((V x).fdiv (2 ^ (min (IntKind.i64.wrap (8 - 7)).toNat 8)))) = V (h ++ bits2 x) := by
        have ew : IntKind.u32.wrap (V (bits2 x)) = V (bits2 x) := wu32_of (n := 8) (by omega) (by have := val_lt (bits2 x); have h7 := (bits2_len hx8).1; exact Nat.lt_of_lt_of_le this (Nat.pow_le_pow_right (by decide) h7))
        rw [ev, ew]
        exact eor
      have hlen : (h ++ bits2 x).length = h.length + 7 := by rw [List.length_append, en]
      refine brB (fun hc3 => ?_) (fun hc3 => ?_)
      · have hc3 := of_decide_eq_true hc3
        rw [emany] at hc3
        have em2 : IntKind.i64.wrap (IntKind.i64.wrap (h.length + 7) - 8) = h.length + 7 - 8 := by rw [emany]; exact wi (by omega) (by omega)
        refine ⟨by rw [em2]; omega, by show ((bys (out.map V)).length + 1) * 1 ≤ _; rw [bys_length, List.length_map]; omega, by rw [em2]; omega, ?_⟩
        refine ⟨(i + 1, (h ++ bits2 x).drop 8, out ++ [(h ++ bits2 x).take 8]), ⟨by show i + 1 ≤ _; omega, by show ((h ++ bits2 x).drop 8).length ≤ 7; rw [List.length_drop]; omega, ?_⟩, Le.of [(1, 44)] ⟨rfl, rfl, ?_, ?_, rfl, rfl, ?_, trivial⟩ ⟨?_, trivial⟩ rfl, by show s.length - (i + 1) < s.length - i; omega⟩
        · show (out ++ [(h ++ bits2 x).take 8]) ++ chop ((h ++ bits2 x).drop 8 ++ dec2 (s.drop (i + 1))) = _
          rw [List.append_assoc, List.singleton_append, ← chop_app (b := (h ++ bits2 x).drop 8 ++ dec2 (s.drop (i + 1))) (a := (h ++ bits2 x).take 8) (by rw [List.length_take]; omega), ← List.append_assoc, List.take_append_drop, List.append_assoc, ← dec2_drop hx, h3]
        · have e := mask_bits (h ++ bits2 x) 8 (by omega) (by omega) (IntKind.i64.wrap (IntKind.i64.wrap (h.length + 7) - 8)) (by rw [em2]; omega)
          rw [← ebb] at e
          exact congrArg (AV.int .u32) (e.trans rfl)
        · have e : IntKind.i64.wrap (IntKind.i64.wrap (h.length + 7) - 8) = (((h ++ bits2 x).drop 8).length : Int) := by rw [em2, List.length_drop]; omega
          exact congrArg (AV.int .i64) e
        · have e : IntKind.i64.wrap (i + 1) = ((i + 1 : Nat) : Int) := by rw [wi (by omega) (by omega)]; rfl
          exact congrArg (AV.int .i64) e
        · have e := shr_take (h ++ bits2 x) (IntKind.i64.wrap (IntKind.i64.wrap (h.length + 7) - 8)) (by rw [em2]; omega) (by rw [em2]; omega) (by rw [em2]; omega)
          rw [em2, show (h ++ bits2 x).length - ((h.length : Int) + 7 - 8).toNat = 8 by omega] at e
          have e2 : IntKind.u8.wrap ((V (h ++ bits2 x)).fdiv (2 ^ (min (IntKind.i64.wrap (IntKind.i64.wrap (h.length + 7) - 8)).toNat 32))) = V ((h ++ bits2 x).take 8) := by
            rw [em2, e, wb' (V_nonneg _) (V_lt8 (by rw [List.length_take]; omega))]
          rw [← ebb] at e2
          have e3 : bys ((out ++ [(h ++ bits2 x).take 8]).map V) = bys (out.map V) ++ [T.int .u8 (V ((h ++ bits2 x).take 8))] := by rw [List.map_append, bys_append]; rfl
          rw [e3, ← e2]
          rfl
      · have hc3 := of_decide_eq_false hc3
        rw [emany] at hc3
        refine ⟨by rw [emany]; omega, ?_⟩
        refine ⟨(i + 1, h ++ bits2 x, out), ⟨by show i + 1 ≤ _; omega, by show (h ++ bits2 x).length ≤ 7; omega, ?_⟩, Le.of [] ⟨rfl, rfl, ?_, ?_, rfl, rfl, ?_, trivial⟩ ⟨rfl, trivial⟩ rfl, by show s.length - (i + 1) < s.length - i; omega⟩
        · show out ++ chop (h ++ bits2 x ++ dec2 (s.drop (i + 1))) = _
          rw [List.append_assoc, ← dec2_drop hx, h3]
        · have e := mask_bits (h ++ bits2 x) 0 (by omega) (by omega) (IntKind.i64.wrap (h.length + 7)) (by rw [emany]; omega)
          rw [List.drop_zero] at e
          conv at e => lhs; rw [← ebb]
          exact congrArg (AV.int .u32) (e.trans rfl)
        · have e : IntKind.i64.wrap (h.length + 7) = ((h ++ bits2 x).length : Int) := by rw [emany]; omega
          exact congrArg (AV.int .i64) e
        · have e : IntKind.i64.wrap (i + 1) = ((i + 1 : Nat) : Int) := by rw [wi (by omega) (by omega)]; rfl
          exact congrArg (AV.int .i64) e
    · have hc : ¬ V x = 1 := of_decide_eq_false hc
      have hc2 : ¬ V x = 254 := of_decide_eq_false hc2
      have hb : bits2 x = x := by
        unfold bits2
        rw [if_neg]
        rintro (e | e)
        · exact hc (by rw [e]; rfl)
        · exact hc2 (by rw [e]; rfl)
      have en : (bits2 x).length = 8 := by rw [hb, hx8]
      have ev : (V x).fdiv (2 ^ (min (IntKind.i64.wrap (8 - 8)).toNat 8)) = V (bits2 x) := by
        rw [hb, wi (by omega) (by omega), shr_take8 x _ (by omega) (by omega) (by omega)]
        simp
      refine ⟨by decide, by decide, ?_⟩
      have eor := or_put h (bits2 x) 8 (by rw [en]; rfl) (by omega)
      have emany : IntKind.i64.wrap (h.length + 8) = h.length + 8 := wi (by omega) (by omega)
      have ebb : Go.bits .or .u32 (IntKind.u32.wrap (V h * 2 ^ (min ((8 : Int)).toNat 32))) (IntKind.u32.wrap ((V x).fdiv (2 ^ (min (IntKind.i64.wrap (8 - 8)).toNat 8)))) = V (h ++ bits2 x) := by
        have ew : IntKind.u32.wrap (V (bits2 x)) = V (bits2 x) := wu32_of (n := 8) (by omega) (by have := val_lt (bits2 x); have h7 := (bits2_len hx8).1; exact Nat.lt_of_lt_of_le this (Nat.pow_le_pow_right (by decide) h7))
        rw [ev, ew]
        exact eor
      have hlen : (h ++ bits2 x).length = h.length + 8 := by rw [List.length_append, en]
      refine brB (fun hc3 => ?_) (fun hc3 => ?_)
      · have hc3 := of_decide_eq_true hc3
        rw [emany] at hc3
        have em2 : IntKind.i64.wrap (IntKind.i64.wrap (h.length + 8) - 8) = h.length + 8 - 8 := by rw [emany]; exact wi (by omega) (by omega)
        refine ⟨by rw [em2]; omega, by show ((bys (out.map V)).length + 1) * 1 ≤ _; rw [bys_length, List.length_map]; omega, by rw [em2]; omega, ?_⟩
        refine ⟨(i + 1, (h ++ bits2 x).drop 8, out ++ [(h ++ bits2 x).take 8]), ⟨by show i + 1 ≤ _; omega, by show ((h ++ bits2 x).drop 8).length ≤ 7; rw [List.length_drop]; omega, ?_⟩, Le.of [(1, 44)] ⟨rfl, rfl, ?_, ?_, rfl, rfl, ?_, trivial⟩ ⟨?_, trivial⟩ rfl, by show s.length - (i + 1) < s.length - i; omega⟩
        · show (out ++ [(h ++ bits2 x).take 8]) ++ chop ((h ++ bits2 x).drop 8 ++ dec2 (s.drop (i + 1))) = _
          rw [List.append_assoc, List.singleton_append, ← chop_app (b := (h ++ bits2 x).drop 8 ++ dec2 (s.drop (i + 1))) (a := (h ++ bits2 x).take 8) (by rw [List.length_take]; omega), ← List.append_assoc, List.take_append_drop, List.append_assoc, ← dec2_drop hx, h3]
        · have e := mask_bits (h ++ bits2 x) 8 (by omega) (by omega) (IntKind.i64.wrap (IntKind.i64.wrap (h.length + 8) - 8)) (by rw [em2]; omega)
          rw [← ebb] at e
          exact congrArg (AV.int .u32) (e.trans rfl)
        · have e : IntKind.i64.wrap (IntKind.i64.wrap (h.length + 8) - 8) = (((h ++ bits2 x).drop 8).length : Int) := by rw [em2, List.length_drop]; omega
          exact congrArg (AV.int .i64) e
        · have e : IntKind.i64.wrap (i + 1) = ((i + 1 : Nat) : Int) := by rw [wi (by omega) (by omega)]; rfl
          exact congrArg (AV.int .i64) e
        · have e := shr_take (h ++ bits2 x) (IntKind.i64.wrap (IntKind.i64.wrap (h.length + 8) - 8)) (by rw [em2]; omega) (by rw [em2]; omega) (by rw [em2]; omega)
          rw [em2, show (h ++ bits2 x).length - ((h.length : Int) + 8 - 8).toNat = 8 by omega] at e
          have e2 : IntKind.u8.wrap ((V (h ++ bits2 x)).fdiv (2 ^ (min (IntKind.i64.wrap (IntKind.i64.wrap (h.length + 8) - 8)).toNat 32))) = V ((h ++ bits2 x).take 8) := by
            rw [em2, e, wb' (V_nonneg _) (V_lt8 (by rw [List.length_take]; omega))]
          rw [← ebb] at e2
          have e3 : bys ((out ++ [(h ++ bits2 x).take 8]).map V) = bys (out.map V) ++ [T.int .u8 (V ((h ++ bits2 x).take 8))] := by rw [List.map_append, bys_append]; rfl
          rw [e3, ← e2]
          rfl
      · have hc3 := of_decide_eq_false hc3
        rw [emany] at hc3
        refine ⟨by rw [emany]; omega, ?_⟩
        refine ⟨(i + 1, h ++ bits2 x, out), ⟨by show i + 1 ≤ _; omega, by show (h ++ bits2 x).length ≤ 7; omega, ?_⟩, Le.of [] ⟨rfl, rfl, ?_, ?_, rfl, rfl, ?_, trivial⟩ ⟨rfl, trivial⟩ rfl, by show s.length - (i + 1) < s.length - i; omega⟩
        · show out ++ chop (h ++ bits2 x ++ dec2 (s.drop (i + 1))) = _
          rw [List.append_assoc, ← dec2_drop hx, h3]
        · have e := mask_bits (h ++ bits2 x) 0 (by omega) (by omega) (IntKind.i64.wrap (h.length + 8)) (by rw [emany]; omega)
          rw [List.drop_zero] at e
          conv at e => lhs; rw [← ebb]
          exact congrArg (AV.int .u32) (e.trans rfl)
        · have e : IntKind.i64.wrap (h.length + 8) = ((h ++ bits2 x).length : Int) := by rw [emany]; omega
          exact congrArg (AV.int .i64) e
        · have e : IntKind.i64.wrap (i + 1) = ((i + 1 : Nat) : Int) := by rw [wi (by omega) (by omega)]; rfl
          exact congrArg (AV.int .i64) e
  · have hc := of_decide_eq_false hc
    have hi : i = s.length := by omega
    subst hi
    have hout2 : out = got s := by
      rw [List.drop_length] at h3
      rw [← h3]
      show out = out ++ chop (h ++ [])
      rw [List.append_nil, chop_short (by omega), List.append_nil]
    subst hout2
    refine Told.callT (stuff_Put_ct (got s) hgm (by omega)) rfl rfl rfl rfl ?_
    have hE := (E_count (got s).flatten).1
    have hfl : (got s).flatten.length = 8 * (got s).length := by
      have : ∀ l : List (List Bool), (∀ x ∈ l, x.length = 8) → l.flatten.length = 8 * l.length := by
        intro l
        induction l with
        | nil => intro _; rfl
        | cons x l ih => intro h; rw [List.flatten_cons, List.length_append, ih (fun y hy => h y (List.mem_cons_of_mem _ hy)), h x (List.mem_cons_self ..), List.length_cons]; omega
      exact this _ hgm
    refine Told.callT (slices_Equal_ct ((E (got s).flatten).map V) (s.map V) (by rw [List.length_map]; omega)) rfl rfl rfl rfl ?_
    cases ok with
    | true =>
      refine brF (by rw [hok]; rfl) ?_
      exact ⟨[(0, 1)], _, _, ⟨rfl, rfl⟩, rfl, ⟨rfl, trivial⟩, rfl⟩
    | false =>
      refine brT (by rw [hok]; rfl) ?_
      exact ⟨[], _, _, ⟨rfl, rfl⟩, rfl, trivial, rfl⟩
end Go.Proofs.YtbmljgahpicmbaaSt
