-- Written by hand for this claim's session.
import Derived.Test.YtbmljgahpicmbaaStB
import Derived.Test.YtbmljgahpicmbaaProg
open Go Go.YtbmljgahpicmbaaE Go.Proofs
set_option maxRecDepth 100000
set_option autoImplicit false
namespace Go.Proofs.YtbmljgahpicmbaaSt
theorem pen_bits_ct (out : List T) (a b : List Bool) (n : Int) (hn : n = b.length) (h : a.length + b.length ≤ 32) :
    Ct Try.prog 15 [.ptr 0 0, .int .u32 (V b), .int .i64 n] [(0, false, .box 38 [.own 1, .int .u32 (V a), .int .i64 a.length]), (1, false, .row 5 1 out)]
      (Ret (.tuple []) [(0, false, .box 38 [.own 1, .int .u32 (V (a ++ b)), .int .i64 (a ++ b).length]), (1, false, .row 5 1 out)]) := by
  refine Ct.of Try.func15 (by rfl) rfl (n := 26) rfl (by simp [ids]; exact ⟨rfl, rfl⟩) ?_
  refine ⟨by omega, ?_⟩
  refine ⟨[], _, _, ⟨rfl, rfl⟩, rfl, ⟨?_, rfl, trivial⟩, rfl⟩
  have e1 := or_put a b n hn h
  have e2 : IntKind.i64.wrap (a.length + n) = ((a ++ b).length : Int) := by
    subst hn
    simp [IntKind.wrap, IntKind.signed, IntKind.bits]
    omega
  rw [← e1, ← e2]
  rfl
theorem seven_bits (h : List Bool) (h8 : 7 ≤ h.length) (h31 : h.length ≤ 31) : Go.bits .and .u32 ((V h).fdiv (2 ^ (min (IntKind.i64.wrap (h.length - 7)).toNat 32))) 127 = V (seven h) := by
  rw [wi (by omega) (by omega), shr_take h _ (by omega) (by omega) (by omega), seven_long h8]
  have e := and_drop (h.take (h.length - ((h.length : Int) - 7).toNat)) 7 (by omega) (by rw [List.length_take]; omega) (by rw [List.length_take]; omega)
  rw [show h.length - ((h.length : Int) - 7).toNat = 7 by omega] at e ⊢
  have e2 : (h.take 7).length = 7 := by rw [List.length_take]; omega
  rw [e2] at e
  exact e
theorem byte1_long (h : List Bool) (h8 : 8 ≤ h.length) (h0 : seven h ≠ zeros) (h1 : seven h ≠ ones) : byte1 h = h.take 8 ∧ left1 h = h.drop 8 := by
  unfold byte1 left1
  rw [if_neg h0, if_neg h1, if_neg (fun x => x.elim h0 h1)]
  refine ⟨?_, rfl⟩
  rw [seven_long (by omega), List.drop_eq_getElem_cons (show 7 < h.length by omega)]
  simp only [List.headD_cons]
  rw [← List.take_succ_eq_append_getElem (show 7 < h.length by omega)]
theorem mask_bits (h : List Bool) (k : Nat) (hk : k ≤ h.length) (hl : h.length ≤ 31) (n : Int) (hn : n = h.length - k) : Go.bits .and .u32 (V h) (IntKind.u32.wrap (IntKind.u32.wrap (1 * 2 ^ (min n.toNat 32)) - 1)) = V (h.drop k) := by
  subst hn
  rw [and_drop h _ (by omega) (by omega) hl, show h.length - ((h.length : Int) - k).toNat = k by omega]
theorem V_zeros : V zeros = 0 := by decide
theorem V_ones : V ones = 127 := by decide
theorem pen_group_ct (l : List T) (h : List Bool) (h8 : 8 ≤ h.length) (h31 : h.length ≤ 31) (hl : l.length < 140737488355328) :
    Ct Try.prog 16 [.ptr 0 0] [(0, false, .box 38 [.own 1, .int .u32 (V h), .int .i64 h.length]), (1, false, .row 5 1 l)]
      (Ret (.tuple []) [(0, false, .box 38 [.own 2, .int .u32 (V (left1 h)), .int .i64 (left1 h).length]), (2, false, .row 5 1 (l ++ [.int .u8 (V (byte1 h))])), (1, false, .dead)]) := by
  have es := seven_bits h (by omega) h31
  refine Ct.of Try.func16 (by rfl) rfl (n := 90) rfl (by simp [ids]; exact ⟨rfl, rfl⟩) ?_
  have e7 : IntKind.i64.wrap (h.length - 7) = h.length - 7 := wi (by omega) (by omega)
  have e8 : IntKind.i64.wrap (h.length - 8) = h.length - 8 := wi (by omega) (by omega)
  refine ⟨by rw [e7]; omega, ?_⟩
  refine brB (fun hc => ?_) (fun hc => ?_)
  · have hc := of_decide_eq_true hc
    rw [show (Go.bits .and .u32 ((V h).fdiv (2 ^ (min (IntKind.i64.wrap (h.length - 7)).toNat IntKind.u32.bits))) 127) = V (seven h) from es, ← V_zeros] at hc
    have hz := V_inj (seven_length h) hc
    refine ⟨by show (l.length + 1) * 1 ≤ _; omega, by rw [e7]; omega, ?_⟩
    refine ⟨[(2, 49)], _, _, ⟨rfl, rfl⟩, rfl, ⟨?_, ?_, rfl, trivial⟩, rfl⟩
    · have e1 : left1 h = h.drop 7 := by unfold left1; rw [if_pos (.inl hz)]
      have e2 := mask_bits h 7 (by omega) h31 (IntKind.i64.wrap (h.length - 7)) e7
      have e3 : ((left1 h).length : Int) = IntKind.i64.wrap (h.length - 7) := by rw [e7, e1, List.length_drop]; omega
      rw [e3, e1, ← e2]
      rfl
    · have e1 : byte1 h = zeros ++ [true] := by unfold byte1; rw [if_pos hz]
      rw [e1]; rfl
  · have hc := of_decide_eq_false hc
    rw [show (Go.bits .and .u32 ((V h).fdiv (2 ^ (min (IntKind.i64.wrap (h.length - 7)).toNat IntKind.u32.bits))) 127) = V (seven h) from es, ← V_zeros] at hc
    have hnz : seven h ≠ zeros := fun e => hc (by rw [e])
    refine brB (fun hc => ?_) (fun hc => ?_)
    · have hc := of_decide_eq_true hc
      rw [show (Go.bits .and .u32 ((V h).fdiv (2 ^ (min (IntKind.i64.wrap (h.length - 7)).toNat IntKind.u32.bits))) 127) = V (seven h) from es, ← V_ones] at hc
      have hz := V_inj (seven_length h) hc
      refine ⟨by show (l.length + 1) * 1 ≤ _; omega, by rw [e7]; omega, ?_⟩
      refine ⟨[(2, 67)], _, _, ⟨rfl, rfl⟩, rfl, ⟨?_, ?_, rfl, trivial⟩, rfl⟩
      · have e1 : left1 h = h.drop 7 := by unfold left1; rw [if_pos (.inr hz)]
        have e2 := mask_bits h 7 (by omega) h31 (IntKind.i64.wrap (h.length - 7)) e7
        have e3 : ((left1 h).length : Int) = IntKind.i64.wrap (h.length - 7) := by rw [e7, e1, List.length_drop]; omega
        rw [e3, e1, ← e2]
        rfl
      · have e1 : byte1 h = ones ++ [false] := by unfold byte1; rw [if_neg hnz, if_pos hz]
        rw [e1]; rfl
    · have hc := of_decide_eq_false hc
      rw [show (Go.bits .and .u32 ((V h).fdiv (2 ^ (min (IntKind.i64.wrap (h.length - 7)).toNat IntKind.u32.bits))) 127) = V (seven h) from es, ← V_ones] at hc
      have hno : seven h ≠ ones := fun e => hc (by rw [e])
      obtain ⟨e1, e2⟩ := byte1_long h h8 hnz hno
      refine ⟨by rw [e8]; omega, by show (l.length + 1) * 1 ≤ _; omega, by rw [e8]; omega, ?_⟩
      refine ⟨[(2, 38)], _, _, ⟨rfl, rfl⟩, rfl, ⟨?_, ?_, rfl, trivial⟩, rfl⟩
      · have e4 := mask_bits h 8 (by omega) h31 (IntKind.i64.wrap (h.length - 8)) e8
        have e3 : ((left1 h).length : Int) = IntKind.i64.wrap (h.length - 8) := by rw [e8, e2, List.length_drop]; omega
        rw [e3, e2, ← e4]
        rfl
      · have e5 : V (byte1 h) = IntKind.u8.wrap ((V h).fdiv (2 ^ (min (IntKind.i64.wrap (h.length - 8)).toNat 32))) := by
          rw [e8, shr_take h _ (by omega) (by omega) (by omega), show h.length - ((h.length : Int) - 8).toNat = 8 by omega, ← e1, wb' (V_nonneg _) (V_lt8 (by rw [byte1_length]; omega))]
        rw [e5]
        rfl
end Go.Proofs.YtbmljgahpicmbaaSt
