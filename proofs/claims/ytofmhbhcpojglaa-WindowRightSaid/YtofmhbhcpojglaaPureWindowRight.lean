/- WindowRight is proved: for every counter, clock and skew the window package answers what the reference answers. No conditions. -/
import Derived.Test.YtofmhbhcpojglaaPWindowRightx2
import Derived.Test.YtofmhbhcpojglaaAr
namespace Go.Proofs.Ytofmhbhcpojglaa.Pure
open Go Go.RowKit Go.Proofs.Ytofmhbhcpojglaa.PWindowRight Go.Proofs.YtofmhbhcpojglaaW.PrintWords Go.Proofs.YtofmhbhcpojglaaW.PrintLast Go.Proofs.YtofmhbhcpojglaaW.PrintMore
open Go.Ar
namespace WindowRightLaw
theorem awake : wristbandlaw21_awake.f = some true := by decide +kernel
theorem may (s : Int) : window_May.f s = some (decide (0 ≤ s ∧ s ≤ 10)) := by
  unfold window_May.f; split <;> simp [*] <;> omega
theorem counter (c : Int) (h : 0 ≤ c ∧ c ≤ 18446744073709551615) : window_Counter.f c = some (c / 30) := by
  unfold window_Counter.f; rw [tdivp _ _ h.1, wu64]; congr 1; omega
/-- the window -/
def low (c s : Int) : Int := max (c / 30 - s) 0
def high (c s : Int) : Int := min (c / 30 + s) 18446744073709551615
theorem bounds (c s : Int) (h : 0 ≤ c ∧ c ≤ 18446744073709551615) : window_Bounds.f c s = some (if 0 ≤ s ∧ s ≤ 10 then (low c s, high c s) else (0, 0)) := by
  unfold window_Bounds.f low high
  rw [may, counter _ h]
  simp only [Option.bind_some, wu64, mn, decide_eq_true_eq]
  by_cases hs : 0 ≤ s ∧ s ≤ 10
  · rw [if_pos hs, if_pos hs]
    rw [if_pos (by omega)]
    congr 2
    · split <;> omega
    · omega
  · rw [if_neg hs, if_neg hs]
theorem rcounter (c : Int) (h : 0 ≤ c ∧ c ≤ 18446744073709551615) : wristbandref21_Counter.f c = some (c / 30) := by
  unfold wristbandref21_Counter.f
  rw [tmodp _ _ h.1, wu64, wu64, show (c - c % 30) % 18446744073709551616 = c - c % 30 by omega, tdivp _ _ (by omega)]
  congr 1; omega
theorem rloop (c s : Int) (hc : 0 ≤ c ∧ c ≤ 18446744073709551615) (hs : 0 ≤ s ∧ s ≤ 10) (d : Nat) :
    ∀ (k : Nat) (i : Int), 0 ≤ i → i + d = s → 2 * d + 2 ≤ k → wristbandref21_Bounds.l0 k s (low c i) (high c i) i = some (low c s, high c s) := by
  induction d with
  | zero =>
    intro k i h0 hi hk
    obtain ⟨k, rfl⟩ : ∃ m, k = m + 2 := ⟨k - 2, by omega⟩
    obtain rfl : i = s := by omega
    simp only [wristbandref21_Bounds.l0]
    rw [if_neg (by omega)]; simp only [wristbandref21_Bounds.j1]
    rw [if_neg (by simp)]
  | succ d ih =>
    intro k i h0 hi hk
    obtain ⟨k, rfl⟩ : ∃ m, k = m + 2 := ⟨k - 2, by omega⟩
    simp only [wristbandref21_Bounds.l0]
    rw [if_pos (by omega)]; simp only [wristbandref21_Bounds.j1]
    rw [if_pos (by simp; omega)]
    have e := ih k (i + 1) (by omega) (by omega) (by omega)
    have ew : wrap64 (i + 1) = i + 1 := w64 (by omega) (by omega)
    rw [ew]
    have : low c i = 0 ∨ 0 < low c i := by unfold low; omega
    have : high c i < 18446744073709551615 ∨ high c i = 18446744073709551615 := by unfold high; omega
    simp only [wu64]
    rw [← e]
    split
    · rw [show (low c i - 1) % 18446744073709551616 = low c (i + 1) by unfold low at *; omega]
      split
      · rw [show (high c i + 1) % 18446744073709551616 = high c (i + 1) by unfold high at *; omega]
      · rw [show high c i = high c (i + 1) by unfold high at *; omega]
    · rw [show low c i = low c (i + 1) by unfold low at *; omega]
      split
      · rw [show (high c i + 1) % 18446744073709551616 = high c (i + 1) by unfold high at *; omega]
      · rw [show high c i = high c (i + 1) by unfold high at *; omega]
theorem rbounds (c s : Int) (h : 0 ≤ c ∧ c ≤ 18446744073709551615) (hs : 0 ≤ s ∧ s ≤ 10) (k : Nat) (hk : 22 ≤ k) :
    wristbandref21_Bounds.f k c s = some (low c s, high c s) := by
  unfold wristbandref21_Bounds.f
  rw [rcounter _ h]; simp only [Option.bind_some]
  have e := rloop c s h hs s.toNat k 0 (by omega) (by omega) (by omega)
  rw [show low c 0 = c / 30 by unfold low; omega, show high c 0 = c / 30 by unfold high; omega] at e
  exact e
theorem inn (x c s : Int) (h : 0 ≤ c ∧ c ≤ 18446744073709551615) : window_In.f x c s = some (decide ((0 ≤ s ∧ s ≤ 10) ∧ low c s ≤ x ∧ x ≤ high c s)) := by
  unfold window_In.f
  rw [bounds _ _ h, may]; simp only [Option.bind_some, decide_eq_true_eq]
  by_cases hs : 0 ≤ s ∧ s ≤ 10
  · rw [if_pos hs]; simp only [hs, true_and, if_true, ge_iff_le]
    by_cases h1 : low c s ≤ x <;> simp [h1]
  · rw [if_neg hs]; simp [hs]
theorem rinn (x c s : Int) (h : 0 ≤ c ∧ c ≤ 18446744073709551615) (hs : 0 ≤ s ∧ s ≤ 10) (k : Nat) (hk : 22 ≤ k) :
    wristbandref21_In.f k x c s = some (decide (low c s ≤ x ∧ x ≤ high c s)) := by
  unfold wristbandref21_In.f
  rw [if_neg (by omega), if_neg (by omega), rbounds _ _ h hs k hk]; simp only [Option.bind_some, ge_iff_le]
  by_cases h1 : low c s ≤ x <;> simp [h1]
end WindowRightLaw
open WindowRightLaw
theorem WindowRight : wristbandlaw21_WindowRight.Pure := by
  intro x c s hx hc hs
  have hc := bounds_u64 hc
  refine ⟨30, ?_⟩
  unfold wristbandlaw21_WindowRight.f
  rw [awake]; simp only [Option.bind_some, if_true]
  by_cases h : 0 ≤ s ∧ s ≤ 10
  · rw [if_pos (by omega), show decide (s ≤ 10) = true by simp; omega]
    simp only [wristbandlaw21_WindowRight.j0, wristbandlaw21_WindowRight.j1, if_true]
    rw [bounds _ _ hc, rbounds _ _ hc h _ (by omega), inn _ _ _ hc, rinn _ _ _ hc h _ (by omega), may, counter _ hc, rcounter _ hc]
    simp [h]
  · have e : ∀ k, wristbandlaw21_WindowRight.j0 (k + 2) x c s false = some true := by
      intro k
      simp only [wristbandlaw21_WindowRight.j0, wristbandlaw21_WindowRight.j2]
      rw [bounds _ _ hc, inn _ _ _ hc, may, counter _ hc, rcounter _ hc]
      simp [h]
    split
    · rw [show decide (s ≤ 10) = false by simp; omega]; exact e _
    · exact e _
end Go.Proofs.Ytofmhbhcpojglaa.Pure
