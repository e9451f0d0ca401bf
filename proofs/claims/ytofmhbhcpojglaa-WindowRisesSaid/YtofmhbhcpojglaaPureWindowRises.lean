/- WindowRises is proved: for all clocks and skews the window's ends rise with the clock and widen with the skew. No conditions. -/
import Derived.Test.YtofmhbhcpojglaaPWindowRisesx1
import Derived.Test.YtofmhbhcpojglaaAr
namespace Go.Proofs.Ytofmhbhcpojglaa.Pure
open Go Go.RowKit Go.Proofs.Ytofmhbhcpojglaa.PWindowRises Go.Proofs.YtofmhbhcpojglaaW.PrintWords Go.Proofs.YtofmhbhcpojglaaW.PrintLast Go.Proofs.YtofmhbhcpojglaaW.PrintMore
open Go.Ar
namespace WindowRisesLaw
theorem awake : wristbandlaw21_awake.f = some true := by decide +kernel
theorem may (s : Int) : window_May.f s = some (decide (0 ≤ s ∧ s ≤ 10)) := by
  unfold window_May.f; split <;> simp [*] <;> omega
theorem counter (c : Int) (h : 0 ≤ c ∧ c ≤ 18446744073709551615) : window_Counter.f c = some (c / 30) := by
  unfold window_Counter.f; rw [tdivp _ _ h.1, wu64]; congr 1; omega
/-- the window -/
def low (c s : Int) : Int := max (c / 30 - s) 0
def high (c s : Int) : Int := min (c / 30 + s) 18446744073709551615
theorem bounds (c s : Int) (h : 0 ≤ c ∧ c ≤ 18446744073709551615) : window_Bounds.f c s = some (if 0 ≤ s ∧ s ≤ 10 then (low c s, high c s) else (0, 0)) := by
  unfold window_Bounds.f low high
  rw [may, counter _ h]
  simp only [Option.bind_some, wu64, mn, decide_eq_true_eq]
  by_cases hs : 0 ≤ s ∧ s ≤ 10
  · rw [if_pos hs, if_pos hs]
    rw [if_pos (by omega)]
    congr 2
    · split <;> omega
    · omega
  · rw [if_neg hs, if_neg hs]
theorem inn (x c s : Int) (h : 0 ≤ c ∧ c ≤ 18446744073709551615) : window_In.f x c s = some (decide ((0 ≤ s ∧ s ≤ 10) ∧ low c s ≤ x ∧ x ≤ high c s)) := by
  unfold window_In.f
  rw [bounds _ _ h, may]; simp only [Option.bind_some, decide_eq_true_eq]
  by_cases hs : 0 ≤ s ∧ s ≤ 10
  · rw [if_pos hs]; simp only [hs, true_and, if_true, ge_iff_le]
    by_cases h1 : low c s ≤ x <;> simp [h1]
  · rw [if_neg hs]; simp [hs]
end WindowRisesLaw
open WindowRisesLaw
theorem WindowRises : wristbandlaw21_WindowRises.Pure := by
  intro a b m n ha hb hm hn
  have ha := bounds_u64 ha
  have hb := bounds_u64 hb
  have hm := bounds_u8 hm
  have hn := bounds_u8 hn
  refine ⟨30, ?_⟩
  unfold wristbandlaw21_WindowRises.f
  rw [awake]; simp only [Option.bind_some, if_true]
  have core : ∀ a b, 0 ≤ a → a ≤ b → b ≤ 18446744073709551615 → wristbandlaw21_WindowRises.j0 30 a b m n = some true := by
    intro a b h0 h1 h2
    simp only [wristbandlaw21_WindowRises.j0]
    rw [w64 (by omega) (by omega), w64 (by omega) (by omega), tmodp _ _ hm.1, tmodp _ _ hn.1]
    have hs : 0 ≤ m % 11 ∧ m % 11 ≤ 10 := by omega
    have ht : 0 ≤ n % 11 ∧ n % 11 ≤ 10 := by omega
    generalize m % 11 = s at *
    generalize n % 11 = t at *
    have hx : 0 ≤ mx s t ∧ mx s t ≤ 10 ∧ s ≤ mx s t := by unfold mx; split <;> omega
    rw [bounds _ _ ⟨h0, by omega⟩, bounds _ _ ⟨by omega, h2⟩, if_pos hs, if_pos hs]
    simp only [Option.bind_some]
    rw [if_neg (by unfold low; omega), if_neg (by unfold high; omega), show decide (low a s > high a s) = false by simp [low, high]; omega]
    simp only [wristbandlaw21_WindowRises.j1]
    rw [if_neg (by simp), bounds _ _ ⟨h0, by omega⟩, if_pos ⟨hx.1, hx.2.1⟩, counter _ ⟨h0, by omega⟩, counter _ ⟨by omega, h2⟩]
    simp only [Option.bind_some]
    generalize mx s t = x at *
    rw [wu64, wu64, wu64]
    rw [show a / 30 * 30 % 18446744073709551616 = a / 30 * 30 by omega, show (a - a / 30 * 30) % 18446744073709551616 = a - a / 30 * 30 by omega, show (b - a / 30 * 30) % 18446744073709551616 = b - a / 30 * 30 by omega]
    rw [if_pos (by unfold low; omega), if_pos (by unfold high; omega), if_pos (by omega), if_pos (by omega)]
    congr 1
    rw [beq_iff_eq, Bool.eq_iff_iff]; simp only [beq_iff_eq, decide_eq_true_eq]; omega
  split
  · exact core _ _ (by omega) (by omega) (by omega)
  · exact core _ _ (by omega) (by omega) (by omega)
end Go.Proofs.Ytofmhbhcpojglaa.Pure
