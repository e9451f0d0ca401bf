/- WindowMeets is proved: for every clock, distance, direction and skew the counter lies in the window as the statement says. No conditions. -/
import Derived.Test.YtofmhbhcpojglaaPWindowMeetsx1
import Derived.Test.YtofmhbhcpojglaaAr
namespace Go.Proofs.Ytofmhbhcpojglaa.Pure
open Go Go.RowKit Go.Proofs.Ytofmhbhcpojglaa.PWindowMeets Go.Proofs.YtofmhbhcpojglaaW.PrintWords Go.Proofs.YtofmhbhcpojglaaW.PrintLast Go.Proofs.YtofmhbhcpojglaaW.PrintMore
open Go.Ar
namespace WindowMeetsLaw
theorem awake : wristbandlaw21_awake.f = some true := by decide +kernel
theorem may (s : Int) : window_May.f s = some (decide (0 ≤ s ∧ s ≤ 10)) := by
  unfold window_May.f; split <;> simp [*] <;> omega
theorem counter (c : Int) (h : 0 ≤ c ∧ c ≤ 18446744073709551615) : window_Counter.f c = some (c / 30) := by
  unfold window_Counter.f; rw [tdivp _ _ h.1, wu64]; congr 1; omega
/-- the window -/
def low (c s : Int) : Int := max (c / 30 - s) 0
def high (c s : Int) : Int := min (c / 30 + s) 18446744073709551615
theorem bounds (c s : Int) (h : 0 ≤ c ∧ c ≤ 18446744073709551615) : window_Bounds.f c s = some (if 0 ≤ s ∧ s ≤ 10 then (low c s, high c s) else (0, 0)) := by
  unfold window_Bounds.f low high
  rw [may, counter _ h]
  simp only [Option.bind_some, wu64, mn, decide_eq_true_eq]
  by_cases hs : 0 ≤ s ∧ s ≤ 10
  · rw [if_pos hs, if_pos hs]
    rw [if_pos (by omega)]
    congr 2
    · split <;> omega
    · omega
  · rw [if_neg hs, if_neg hs]
theorem inn (x c s : Int) (h : 0 ≤ c ∧ c ≤ 18446744073709551615) : window_In.f x c s = some (decide ((0 ≤ s ∧ s ≤ 10) ∧ low c s ≤ x ∧ x ≤ high c s)) := by
  unfold window_In.f
  rw [bounds _ _ h, may]; simp only [Option.bind_some, decide_eq_true_eq]
  by_cases hs : 0 ≤ s ∧ s ≤ 10
  · rw [if_pos hs]; simp only [hs, true_and, if_true, ge_iff_le]
    by_cases h1 : low c s ≤ x <;> simp [h1]
  · rw [if_neg hs]; simp [hs]
end WindowMeetsLaw
open WindowMeetsLaw
theorem WindowMeets : wristbandlaw21_WindowMeets.Pure := by
  intro c d back m hc hd hm
  have hc := bounds_u64 hc
  have hd := bounds_u16 hd
  have hm := bounds_u8 hm
  refine ⟨30, ?_⟩
  unfold wristbandlaw21_WindowMeets.f
  rw [awake]; simp only [Option.bind_some, if_true]
  rw [w64 (by omega) (by omega), wu64, wu64, tmodp _ _ hm.1, tmodp _ _ (by omega)]
  have core : ∀ (k : Nat) (s e o : Int), 0 ≤ s → s ≤ 10 → 0 ≤ o → o ≤ 18446744073709551615 → (o - c = e ∨ c - o = e) → 0 ≤ e → e < 400 →
      wristbandlaw21_WindowMeets.j1 (k + 1) c s e o = some true := by
    intro k s e o h1 h2 h3 h4 h5 h6 h7
    simp only [wristbandlaw21_WindowMeets.j1]
    rw [counter _ hc]; simp only [Option.bind_some]
    rw [inn _ _ _ ⟨h3, h4⟩]; simp only [Option.bind_some]
    rw [w64 (n := 30 * s) (by omega) (by omega), w64 (n := s + 1) (by omega) (by omega), w64 (n := 30 * (s + 1)) (by omega) (by omega), wu64, wu64, show 30 * s % 18446744073709551616 = 30 * s by omega, show 30 * (s + 1) % 18446744073709551616 = 30 * (s + 1) by omega]
    unfold low high
    split
    · congr 1; simp only [decide_eq_true_eq]; omega
    · split
      · rfl
      · congr 1; simp only [Bool.not_eq_true', decide_eq_false_iff_not]; omega
  have hs : 0 ≤ m % 11 ∧ m % 11 ≤ 10 := by omega
  have he : 0 ≤ d % 18446744073709551616 % 400 ∧ d % 18446744073709551616 % 400 < 400 := by omega
  generalize m % 11 = s at *
  generalize d % 18446744073709551616 % 400 = e at *
  have bk : ∀ o, wristbandlaw21_WindowMeets.j0 30 c s e o true = some true := by
    intro o
    simp only [wristbandlaw21_WindowMeets.j0, if_true]
    have h : 0 ≤ mn e c ∧ mn e c ≤ c ∧ mn e c ≤ e := by unfold mn; split <;> omega
    rw [wu64, wu64, show (c - mn e c) % 18446744073709551616 = c - mn e c by omega, show (c - (c - mn e c)) % 18446744073709551616 = mn e c by omega]
    exact core _ _ _ _ hs.1 hs.2 (by omega) (by omega) (by omega) (by omega) (by omega)
  cases back with
  | true => rw [if_pos rfl]; exact bk _
  | false =>
    rw [if_neg (by simp)]
    by_cases h : (c + e) % 18446744073709551616 < c
    · rw [show decide ((c + e) % 18446744073709551616 < c) = true by simpa using h]; exact bk _
    · rw [show decide ((c + e) % 18446744073709551616 < c) = false by simpa using h]
      simp only [wristbandlaw21_WindowMeets.j0]
      rw [if_neg (by simp)]
      exact core _ _ _ _ hs.1 hs.2 (by omega) (by omega) (by omega) (by omega) (by omega)
end Go.Proofs.Ytofmhbhcpojglaa.Pure
