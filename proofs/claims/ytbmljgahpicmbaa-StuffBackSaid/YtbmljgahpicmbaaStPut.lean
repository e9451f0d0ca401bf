-- Written by hand for this claim's session.
import Derived.Test.YtbmljgahpicmbaaStC
open Go Go.YtbmljgahpicmbaaE Go.Proofs
set_option maxRecDepth 100000
set_option autoImplicit false
namespace Go.Proofs.YtbmljgahpicmbaaSt
theorem drop_flat {g : List (List Bool)} {i : Nat} {x : List Bool} (h : g[i]? = some x) : (g.drop i).flatten = x ++ (g.drop (i + 1)).flatten := by
  obtain ⟨h1, h2⟩ := List.getElem?_eq_some_iff.1 h
  rw [List.drop_eq_getElem_cons h1, h2, List.flatten_cons]
theorem stuff_Put_ct (g : List (List Bool)) (h8 : ∀ x ∈ g, x.length = 8) (hl : g.length < 1000000000000) : CtT Try.prog 9 [.sl 1 (bys (g.map V))] (Ret (.own 0) [(0, false, .row 5 1 (bys ((E g.flatten).map V)))]) := by
  have hfl : ∀ i, (g.drop i).flatten.length = 8 * (g.length - i) := by
    intro i
    have : ∀ l : List (List Bool), (∀ x ∈ l, x.length = 8) → l.flatten.length = 8 * l.length := by
      intro l
      induction l with
      | nil => intro _; rfl
      | cons x l ih => intro h; rw [List.flatten_cons, List.length_append, ih (fun y hy => h y (List.mem_cons_of_mem _ hy)), h x (List.mem_cons_self ..), List.length_cons]; omega
    rw [this _ (fun x hx => h8 x (List.mem_of_mem_drop hx)), List.length_drop]
  have htot : (E g.flatten).length < 140737488355328 := by
    have h1 := (E_count g.flatten).1
    have h2 := hfl 0
    simp only [List.drop_zero] at h2
    omega
  refine Ct.of Try.func9 (by rfl) rfl (n := 49) rfl (by simp [ids]) ?_
  refine ⟨Nat × List Bool × List (List Bool), fun y => [(0, .t (.sl 1 (bys (g.map V)))), (3, .ptr 8 0), (9, .t (.sl 1 (bys (g.map V)))), (10, .int .i64 g.length), (11, .int .i64 y.1)],
    fun y => [(8, false, .box 38 [.own 1, .int .u32 (V y.2.1), .int .i64 y.2.1.length]), (1, false, .row 5 1 (bys (y.2.2.map V)))],
    fun y => y.1 ≤ g.length ∧ y.2.1.length ≤ 7 ∧ y.2.2 ++ E (y.2.1 ++ (g.drop y.1).flatten) = E g.flatten, fun y => g.length - y.1, (0, [], []), ⟨by simp, by simp, by simp⟩, ?_, ?_⟩
  · refine Le.trans (Le.nilBox 8 0 1 38 5 1 _ rfl rfl rfl) (Le.of [] ⟨rfl, rfl, rfl, ?_, rfl, trivial⟩ ⟨rfl, rfl, trivial⟩ rfl)
    show AV.int .i64 ((bys (g.map V)).length) = _
    rw [bys_length, List.length_map]
    rfl
  rintro ⟨i, h, out⟩ ⟨h1, h2, h3⟩
  simp only at h1 h2 h3 ⊢
  have hout : out.length ≤ (E g.flatten).length := by rw [← h3, List.length_append]; omega
  refine brB (fun hc => ?_) (fun hc => ?_)
  · have hc := of_decide_eq_true hc
    have hi : i < g.length := by omega
    obtain ⟨x, hx⟩ : ∃ x, g[i]? = some x := ⟨_, List.getElem?_eq_getElem hi⟩
    have hx8 := h8 x (List.mem_of_getElem? hx)
    have hxV : (g.map V)[i]? = some (V x) := by rw [List.getElem?_map, hx]; rfl
    refine ⟨by omega, .int .u8 (V x), bys_get (by simpa using hxV), ?_⟩
    have ew : IntKind.u32.wrap (V x) = V x := wu32_of (n := 8) (by omega) (hx8 ▸ val_lt x)
    refine Told.callR [(0, 8), (1, 1)] (pen_bits_ct (bys (out.map V)) h x 8 (by rw [hx8]; rfl) (by omega)) rfl rfl ?_ ⟨rfl, rfl, trivial⟩ rfl ?_
    · show [AV.ptr 8 0, AV.int .u32 (IntKind.u32.wrap (V x)), AV.int .i64 8] = _
      rw [ew]; rfl
    refine ⟨List Bool × List (List Bool), fun y => [(0, .t (.sl 1 (bys (g.map V)))), (3, .ptr 8 0), (9, .t (.sl 1 (bys (g.map V)))), (10, .int .i64 g.length), (11, .int .i64 i)],
      fun y => [(8, false, .box 38 [.own 1, .int .u32 (V y.1), .int .i64 y.1.length]), (1, false, .row 5 1 (bys (y.2.map V)))],
      fun y => y.1.length ≤ 15 ∧ y.2 ++ E (y.1 ++ (g.drop (i + 1)).flatten) = E g.flatten, fun y => y.1.length, (h ++ x, out), ⟨by simp; omega, by rw [← h3, drop_flat hx, List.append_assoc]⟩, Le.of [] ⟨rfl, rfl, rfl, rfl, rfl, trivial⟩ ⟨rfl, rfl, trivial⟩ rfl, ?_⟩
    rintro ⟨h', out'⟩ ⟨h4, h5⟩
    simp only at h4 h5 ⊢
    have hout' : out'.length ≤ (E g.flatten).length := by rw [← h5, List.length_append]; omega
    refine brB (fun hc2 => ?_) (fun hc2 => ?_)
    · have hc2 := of_decide_eq_true hc2
      have hh8 : 8 ≤ h'.length := by omega
      have hlt : out'.length < 140737488355328 := by omega
      refine Told.callR [(0, 8), (1, 1)] (pen_group_ct (bys (out'.map V)) h' hh8 (by omega) (by rw [bys_length, List.length_map]; exact hlt)) rfl rfl rfl ⟨rfl, rfl, trivial⟩ rfl ?_
      refine ⟨(left1 h', out' ++ [byte1 h']), ⟨?_, ?_⟩, Le.of [(1, 25)] ⟨rfl, rfl, rfl, rfl, rfl, trivial⟩ ⟨rfl, ?_, trivial⟩ rfl, ?_⟩
      · have := left1_len hh8
        show (left1 h').length ≤ 15
        omega
      · rw [E_app hh8] at h5
        rw [← h5, List.append_assoc]
        rfl
      · rw [List.map_append, bys_append]; rfl
      · have := left1_len hh8
        show (left1 h').length < h'.length
        omega
    · have hc2 := of_decide_eq_false hc2
      refine ⟨(i + 1, h', out'), ⟨by show i + 1 ≤ _; omega, by show h'.length ≤ 7; omega, h5⟩, Le.of [] ⟨rfl, rfl, rfl, rfl, ?_, trivial⟩ ⟨rfl, rfl, trivial⟩ rfl, by show g.length - (i + 1) < g.length - i; omega⟩
      show AV.int .i64 (IntKind.i64.wrap (i + 1)) = _
      rw [wi (by omega) (by omega)]; rfl
  · have hc := of_decide_eq_false hc
    have hi : i = g.length := by omega
    subst hi
    rw [List.drop_length] at h3
    simp only [List.flatten_nil, List.append_nil] at h3
    refine brB (fun hc2 => ?_) (fun hc2 => ?_)
    · have hc2 := of_decide_eq_true hc2
      have hne : h ≠ [] := fun e => by rw [e] at hc2; simp at hc2
      have e8 : IntKind.i64.wrap (8 - h.length) = 8 - h.length := wi (by omega) (by omega)
      refine ⟨by rw [e8]; omega, ?_⟩
      have ep := V_ones_of (8 - h.length) (by omega)
      refine Told.callR [(0, 8), (1, 1)] (pen_bits_ct (bys (out.map V)) h (List.replicate (8 - h.length) true) (8 - h.length) (by rw [List.length_replicate]; omega) (by rw [List.length_replicate]; omega)) rfl rfl ?_ ⟨rfl, rfl, trivial⟩ rfl ?_
      · show [AV.ptr 8 0, AV.int .u32 (IntKind.u32.wrap (IntKind.u32.wrap (1 * 2 ^ (min (IntKind.i64.wrap (8 - h.length)).toNat 32)) - 1)), AV.int .i64 (IntKind.i64.wrap (8 - h.length))] = _
        rw [e8, show ((8 : Int) - h.length).toNat = 8 - h.length by omega, ep]; rfl
      have hl8 : (h ++ List.replicate (8 - h.length) true).length = 8 := by rw [List.length_append, List.length_replicate]; omega
      have hE := E_short hne h2
      rw [hE] at h3
      have hlen : out.length + 1 = (E g.flatten).length := by rw [← h3, List.length_append]; rfl
      refine Told.callR [(0, 8), (1, 1)] (pen_group_ct (bys (out.map V)) (h ++ List.replicate (8 - h.length) true) (by omega) (by omega) (by rw [bys_length, List.length_map]; omega)) rfl rfl rfl ⟨rfl, rfl, trivial⟩ rfl ?_
      refine ⟨[(0, 44)], _, _, ⟨rfl, rfl⟩, rfl, ⟨?_, trivial⟩, rfl⟩
      rw [← h3, List.map_append, bys_append]
      rfl
    · have hc2 := of_decide_eq_false hc2
      have he : h = [] := List.length_eq_zero_iff.1 (by omega)
      subst he
      rw [E_nil, List.append_nil] at h3
      refine ⟨[(0, 1)], _, _, ⟨rfl, rfl⟩, rfl, ⟨?_, trivial⟩, rfl⟩
      rw [← h3]
      rfl
end Go.Proofs.YtbmljgahpicmbaaSt
