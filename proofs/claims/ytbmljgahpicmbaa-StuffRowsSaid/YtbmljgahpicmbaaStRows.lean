-- Written by hand for this claim's session.
import Derived.Test.YtbmljgahpicmbaaStAwake
import Derived.Test.YtbmljgahpicmbaaStLp
open Go Go.YtbmljgahpicmbaaE Go.Proofs
set_option maxRecDepth 100000
set_option autoImplicit false
namespace Go.Proofs.YtbmljgahpicmbaaSt
theorem bi_inj {a b : Bool} : bi a = bi b ↔ a = b := by cases a <;> cases b <;> decide
/-- No fifteen bits in a row are alike. -/
theorem no_run {s : List (List Bool)} (hs : Mixed s) (p : Nat) (hp : p + 15 ≤ s.flatten.length) (c : Bool) (h : ∀ j, j < 15 → s.flatten[p + j]? = some c) : False := by
  have hfl := flat8 s hs.1
  have hk : (p + 7) / 8 < s.length := by omega
  have hx := List.getElem?_eq_getElem hk
  generalize hxx : s[(p + 7) / 8] = x at hx
  have hm := List.mem_of_getElem? hx
  have hx8 := hs.1 x hm
  have hsl := flat_slice hs.1 hx
  refine hs.2 x hm c (List.eq_replicate_iff.2 ⟨hx8, fun b hb => ?_⟩)
  obtain ⟨j, hj⟩ := List.mem_iff_getElem?.1 hb
  have hj8 : j < 8 := by have := (List.getElem?_eq_some_iff.1 hj).1; omega
  rw [← hsl, List.getElem?_drop, List.getElem?_take, if_pos (by omega)] at hj
  have h2 := h (8 * ((p + 7) / 8) + j - p) (by omega)
  rw [show p + (8 * ((p + 7) / 8) + j - p) = 8 * ((p + 7) / 8) + j by omega] at h2
  rw [h2] at hj
  cases hj; rfl
theorem StuffRows_g (g : List (List Bool)) (h8 : ∀ x ∈ g, x.length = 8) : CtT Try.prog 5 [.sl 1 (bys (g.map V))] (Ret (.bool true) []) := by
  refine Ct.of Try.func5 (by rfl) rfl (n := 38) rfl (by simp [ids]) ?_
  refine Told.callT awake_ct rfl rfl rfl rfl ?_
  have hgl : (bys (g.map V)).length = g.length := by rw [bys_length, List.length_map]
  refine brB (fun hc => ?_) (fun hc => ?_)
  · exact ⟨[], _, _, ⟨rfl, rfl⟩, rfl, trivial, rfl⟩
  have hc : ¬ ((bys (g.map V)).length : Int) > 3000 := of_decide_eq_false hc
  rw [hgl] at hc
  have hE := E_count g.flatten
  have hf := flat8 g h8
  have hM := E_Mixed g.flatten
  have cB := ref_Bits_ct (E g.flatten) hM.1 (by omega)
  refine Told.callT (stuff_Put_ct g h8 (by omega)) rfl rfl rfl rfl ?_
  refine Told.callT cB rfl rfl rfl rfl ?_
  have hfl := flat8 _ hM.1
  have hrun := no_run hM
  generalize (E g.flatten).flatten = L at *
  have hLl : (bys (L.map bi)).length = L.length := by rw [bys_length, List.length_map]
  refine ⟨Nat × Nat, fun y => [(3, .t (.sl 1 (bys (L.map bi)))), (4, .int .i64 y.2), (5, .int .i64 y.1)], fun _ => [], fun y => y.1 ≤ L.length ∧ y.2 ≤ y.1 ∧ y.2 ≤ 14 ∧ (∀ j, j < y.2 → L[y.1 - 1 - j]? = L[y.1 - 1]?), fun y => L.length - y.1, (0, 0), ⟨by simp, by simp, by simp, by simp⟩, ?_, ?_⟩
  · exact Le.trans (Le.flat 3 (.sl 1 (bys (L.map bi))) rfl) (Le.of [] ⟨rfl, rfl, rfl, trivial⟩ trivial rfl)
  rintro ⟨i, r⟩ ⟨h1, h2, h3, h4⟩
  simp only at h1 h2 h3 h4 ⊢
  have ei : IntKind.i64.wrap ((i : Int) + 1) = ((i + 1 : Nat) : Int) := by rw [wi (by omega) (by omega)]; rfl
  have er : IntKind.i64.wrap ((r : Int) + 1) = ((r + 1 : Nat) : Int) := by rw [wi (by omega) (by omega)]; rfl
  refine brB (fun hc3 => ?_) (fun hc3 => ?_)
  · have hc3 : (i : Int) < (bys (L.map bi)).length := of_decide_eq_true hc3
    rw [hLl] at hc3
    obtain ⟨b, hb⟩ : ∃ b, L[i]? = some b := ⟨_, List.getElem?_eq_getElem (by omega)⟩
    have hbV : (L.map bi)[i]? = some (bi b) := by rw [List.getElem?_map, hb]; rfl
    -- what is left where the row goes on
    have on : ∀ r' : Nat, r' ≤ i → r' ≤ 14 → (∀ j, j < r' → L[i - 1 - j]? = some b) → r' + 1 ≤ 14 ∧ ∀ j, j < r' + 1 → L[i + 1 - 1 - j]? = L[i + 1 - 1]? := by
      intro r' hr1 hr2 hr3
      have hall : ∀ j, j < r' + 1 → L[i + 1 - 1 - j]? = some b := by
        intro j hj
        rcases Nat.eq_zero_or_pos j with rfl | hj0
        · exact hb
        · have := hr3 (j - 1) (by omega)
          rw [show i + 1 - 1 - j = i - 1 - (j - 1) by omega]; exact this
      refine ⟨?_, fun j hj => (hall j hj).trans (by rw [show i + 1 - 1 = i by omega]; exact hb.symm)⟩
      rcases Nat.lt_or_ge r' 14 with h | h
      · omega
      · exfalso
        have : r' = 14 := by omega
        subst this
        refine hrun (i - 14) (by omega) b (fun j hj => ?_)
        have := hall (14 - j) (by omega)
        rw [show i - 14 + j = i + 1 - 1 - (14 - j) by omega]
        exact this
    refine brB (fun hc4 => ?_) (fun hc4 => ?_)
    · have hc4 : (i : Int) > 0 := of_decide_eq_true hc4
      have ei1 : IntKind.i64.wrap ((i : Int) - 1) = ((i - 1 : Nat) : Int) := by rw [wi (by omega) (by omega)]; omega
      obtain ⟨b', hb'⟩ : ∃ b, L[i - 1]? = some b := ⟨_, List.getElem?_eq_getElem (by omega)⟩
      have hbV' : (L.map bi)[i - 1]? = some (bi b') := by rw [List.getElem?_map, hb']; rfl
      refine ⟨by omega, .int .u8 (bi b), bys_get hbV, by rw [ei1]; omega, .int .u8 (bi b'), by rw [ei1]; exact bys_get hbV', ?_⟩
      refine brB (fun hc5 => ?_) (fun hc5 => ?_)
      · obtain ⟨k1, k2⟩ := on 0 (by omega) (by omega) (fun j hj => by omega)
        exact ⟨(i + 1, 1), ⟨by show i + 1 ≤ _; omega, by show 1 ≤ i + 1; omega, by show (1 : Nat) ≤ 14; decide, k2⟩, Le.of [] ⟨rfl, rfl, congrArg (AV.int .i64) ei, trivial⟩ trivial rfl, by show L.length - (i + 1) < L.length - i; omega⟩
      · have hc5 : bi b = bi b' := of_decide_eq_true (Bool.not_eq_false' _ ▸ hc5)
        have hbb := bi_inj.1 hc5
        subst hbb
        obtain ⟨k1, k2⟩ := on r h2 h3 (fun j hj => (h4 j hj).trans hb')
        refine brF (decide_eq_false (by rw [er]; omega)) ?_
        exact ⟨(i + 1, r + 1), ⟨by show i + 1 ≤ _; omega, by show r + 1 ≤ i + 1; omega, k1, k2⟩, Le.of [] ⟨rfl, congrArg (AV.int .i64) er, congrArg (AV.int .i64) ei, trivial⟩ trivial rfl, by show L.length - (i + 1) < L.length - i; omega⟩
    · have hc4 : ¬ (i : Int) > 0 := of_decide_eq_false hc4
      obtain ⟨k1, k2⟩ := on r h2 h3 (fun j hj => by omega)
      refine brF (decide_eq_false (by rw [er]; omega)) ?_
      exact ⟨(i + 1, r + 1), ⟨by show i + 1 ≤ _; omega, by show r + 1 ≤ i + 1; omega, k1, k2⟩, Le.of [] ⟨rfl, congrArg (AV.int .i64) er, congrArg (AV.int .i64) ei, trivial⟩ trivial rfl, by show L.length - (i + 1) < L.length - i; omega⟩
  · exact ⟨[], _, _, ⟨rfl, rfl⟩, rfl, trivial, rfl⟩
end Go.Proofs.YtbmljgahpicmbaaSt
