/-
  Appending; rows written out; strings and rows of bytes.
  Written by hand for this claim's session.
-/
import Derived.Test.YtbbcnmfmncgffaaEvStore
import Derived.Laws.BytesString
namespace Go.YtbbcnmfmncgffaaE
open Go.RowKit
set_option linter.unusedVariables false
set_option linter.unusedSimpArgs false
/-- What is read of a row: its elements' cells, in memory. -/
structure Src (w : World) (O : Nat → Prop) (sz : Nat) (l : List T) (v : Value) (news : List Value) : Prop where
  len : news.length = l.length * sz
  form : ∃ A c, v = .slice A l.length c ∧ (l = [] ∨ ∃ b o, A = some ⟨b, o, none⟩ ∧ ∀ j u, news[j]? = some u → w.cell? ⟨b, o + j, none⟩ = some u)
  fits : ∀ x ∈ l, x.fits sz
  told : ∀ (i j : Nat) (x y : T), l[i]? = some x → x.cells[j]? = some y → ∃ u, news[i * sz + j]? = some u ∧ HT w O y u
theorem idx_lt {i j n sz : Nat} (hi : i < n) (hj : j < sz) : i * sz + j < n * sz := by
  calc i * sz + j < i * sz + sz := by omega
    _ = (i + 1) * sz := by rw [Nat.add_mul]; omega
    _ ≤ n * sz := Nat.mul_le_mul_right _ hi
theorem Src.one {w : World} {O : Nat → Prop} {sz : Nat} {l : List T} {v : Value} {news : List Value} (h : Src w O sz l v news) : ∀ u ∈ news, u.oneCell' = true := by
  intro u hu
  obtain ⟨q, hq, rfl⟩ := List.mem_iff_getElem.1 hu
  have hq' := hq
  rw [h.len] at hq'
  have hsz : 0 < sz := by rcases Nat.eq_zero_or_pos sz with e | e; (rw [e] at hq'; omega); exact e
  have hi : q / sz < l.length := Nat.div_lt_of_lt_mul (by rw [Nat.mul_comm]; exact hq')
  have hx := h.fits _ (List.getElem_mem hi)
  have hj : q % sz < (l[q / sz]).cells.length := by rw [hx.1]; exact Nat.mod_lt _ hsz
  obtain ⟨u, h1, h2⟩ := h.told (q / sz) (q % sz) _ _ (List.getElem?_eq_getElem hi) (List.getElem?_eq_getElem hj)
  rw [show q / sz * sz + q % sz = q by rw [Nat.mul_comm]; exact Nat.div_add_mod _ _, List.getElem?_eq_getElem hq] at h1
  simp at h1
  subst h1
  exact h2.one_cell (hx.2 _ (List.getElem_mem hj))
theorem src_sl {m : Nat → Option Value} {w : World} {O : Nat → Prop} {sz : Nat} {l : List T} {v : Value} (h : HA m w O (.t (.sl sz l)) v) : ∃ news, Src w O sz l v news := by
  cases h.t_ht with
  | nil _ A c => exact ⟨[], by simp, ⟨A, c, rfl, .inl rfl⟩, by simp, fun i j x y hx => by simp at hx⟩
  | sl _ _ b o c f hO hb hc hf hm ht =>
    refine ⟨(List.range (l.length * sz)).map f, by simp, ⟨_, c, rfl, .inr ⟨b, o, rfl, fun j u hu => ?_⟩⟩, hf, fun i j x y hx hy => ?_⟩
    · rw [List.getElem?_map] at hu
      by_cases hj : j < l.length * sz
      · rw [List.getElem?_range hj] at hu
        simp at hu
        subst hu
        have hsz : 0 < sz := by rcases Nat.eq_zero_or_pos sz with e | e; (rw [e] at hj; omega); exact e
        have := hm (j / sz) (j % sz) (Nat.div_lt_of_lt_mul (by rw [Nat.mul_comm]; exact hj)) (Nat.mod_lt _ hsz)
        have e : j / sz * sz + j % sz = j := by rw [Nat.mul_comm]; exact Nat.div_add_mod _ _
        rw [Nat.add_assoc, e] at this
        exact this
      · rw [List.getElem?_eq_none (by simpa using hj)] at hu; cases hu
    · have hi := (List.getElem?_eq_some_iff.1 hx).1
      have hfit := hf x (List.mem_of_getElem? hx)
      have hj := (List.getElem?_eq_some_iff.1 hy).1
      rw [hfit.1] at hj
      exact ⟨f (i * sz + j), by rw [List.getElem?_map, List.getElem?_range (idx_lt hi hj)]; rfl, ht i j x y hx hy⟩
theorem src_row {m : Nat → Option Value} {w : World} {O : Nat → Prop} {b ty sz : Nat} {l : List T} {v : Value} (h : HB m w O b (.row ty sz l)) (hm : m b = some v) : ∃ news, Src w O sz l v news ∧ w.ownsRow 0 ty sz v l.length news := by
  obtain ⟨v', xs, hm', how, hf, hc⟩ := h
  rw [hm] at hm'
  simp at hm'
  subst hm'
  refine ⟨xs, ⟨how.1, ?_, hf, hc⟩, how⟩
  rcases how.2 with ⟨rfl, hn⟩ | ⟨g, cap, cur, rfl, _, hg, hcap, _, _, _⟩
  · exact ⟨none, 0, by rw [hn], .inl (List.eq_nil_of_length_eq_zero hn)⟩
  · refine ⟨_, cap, rfl, .inr ⟨g, 0, rfl, fun j u hu => ?_⟩⟩
    have hj : j < l.length * sz := by have := (List.getElem?_eq_some_iff.1 hu).1; rw [how.1] at this; exact this
    rw [Nat.zero_add, how.cellAt j hj, hu]
/-- Bytes of a string. -/
def bytesT (s : ByteArray) : List T := s.data.toList.map fun b => T.int .u8 b.toNat
section
variable {P : Program} {o : Oper} {tf : Nat → AV} {hf : Hp}
theorem run_append_empty {w : World} {t ty e : TypeId} {i : TypeInfo} {sz n c : Nat} {v : Value} {xs : List Value} {A : Option Addr} (ht : P.underlying t = some (.slice e)) (hi : P.info? e = some i) (hown : w.ownsRow 0 e sz v n xs) :
    (Builtin.append_ #[t, t] ty #[v, .slice A 0 c]).run P w = .ok v w := by
  have hf : (Builtin.firstCells i.size 0 (.slice A 0 c)).run P w = .ok #[] w := by
    cases A with
    | none => simp [Builtin.firstCells]
    | some a => simp [Builtin.firstCells, loadCells, loadCellsFrom]
  rcases hown.2 with ⟨rfl, rfl⟩ | ⟨g, cap, cur, rfl, _, _, hnc, _⟩
  · simp [Builtin.append_, run_underlying ht, sizeOf, typeInfo, hi, Builtin.lenOf, hf]
  · simp [Builtin.append_, run_underlying ht, sizeOf, typeInfo, hi, Builtin.lenOf, hnc, hf, storeCells]
theorem run_append {w : World} {O : Nat → Prop} {t ty e : TypeId} {i : TypeInfo} {z : Value} {sz n : Nat} {v vx : Value} {xs news : List Value} {l : List T} (ht : P.underlying t = some (.slice e)) (hi : P.info? e = some i) (hz : i.zero = some z) (hsz : i.size = sz) (hzs : z.cells.size = sz) (h0 : 0 < sz) (hb0 : 0 < i.bytes)
    (hown : w.ownsRow 0 e sz v n xs) (hs : Src w O sz l vx news) (hb : (n + l.length) * i.bytes ≤ 140737488355328) :
    ∃ v' w', (Builtin.append_ #[t, t] ty #[v, vx]).run P w = .ok v' w' ∧ w'.ownsRow 0 e sz v' (n + l.length) (xs ++ news) ∧ w.grownBy w' v.ownBlock ∧ (∀ c, blockOf v' = some c → v.ownBlock = some c ∨ w.heap.size ≤ c) := by
  obtain ⟨A, c, rfl, hA⟩ := hs.form
  have key : ∀ v' (w' : World), w'.ownsRow 0 e sz v' (n + l.length) (xs ++ news) → True := fun _ _ _ => trivial
  rcases hA with rfl | ⟨b, o', rfl, hc⟩
  · have hn0 : news = [] := List.eq_nil_of_length_eq_zero (by rw [hs.len]; simp)
    subst hn0
    refine ⟨v, w, run_append_empty ht hi hown, by simpa using hown, ⟨rfl, rfl, rfl, Nat.le_refl _, fun _ _ _ => rfl⟩, fun c hc => .inl ?_⟩
    rcases hown.2 with ⟨rfl, _⟩ | ⟨g, cap, cur, rfl, _⟩
    · cases hc
    · exact hc
  · have hle : n + l.length ≤ maxLen := by
      have : n + l.length ≤ (n + l.length) * i.bytes := Nat.le_mul_of_pos_right _ hb0
      unfold maxLen; omega
    by_cases hroom : ∃ g cap, v = .slice (some ⟨g, 0, none⟩) n cap ∧ n + l.length ≤ cap
    · obtain ⟨g, cap, rfl, hr⟩ := hroom
      obtain ⟨w', h1, h2, h3⟩ := run_append_fits (P := P) w 0 t ty e i sz ht hi hsz g n cap xs hown ⟨b, o', none⟩ l.length c news hs.len (fun j u hu => by rw [add_plain]; exact hc j u hu) hs.one hr
      exact ⟨_, w', h1, h2, h3, fun c hc => .inl hc⟩
    · have hxl : (xs ++ news).length = (n + l.length) * sz := by rw [List.length_append, hown.1, hs.len, Nat.add_mul]
      rcases hown.2 with ⟨rfl, rfl⟩ | ⟨g, cap, cur, rfl, _, hg, hnc, hcm, hcs, htake⟩
      · have hx0 : xs = [] := List.eq_nil_of_length_eq_zero (by simpa using hown.1)
        subst hx0
        obtain ⟨v', w', h1, h2, h3, h4⟩ := run_append_own (P := P) w w.heap.size t ty e i z sz i.bytes ht hi hz hsz rfl hzs h0 (.slice none 0 0) 0 [] (World.ownsRow_nil w _ e sz) ⟨b, o', none⟩ l.length c news hs.len (fun j u hu => by rw [add_plain]; exact hc j u hu) hs.one hle hb (Nat.le_refl _)
        refine ⟨v', w', h1, ⟨h2.1, ?_⟩, h3, fun c hc => ?_⟩
        · rcases h2.2 with h | ⟨g, cap, cur, h, hg, rest⟩
          · exact .inl h
          · exact .inr ⟨g, cap, cur, h, Nat.zero_le _, rest⟩
        · rcases h2.2 with ⟨rfl, _⟩ | ⟨g, cap, cur, rfl, hg, _⟩
          · cases hc
          · simp [blockOf] at hc
            exact .inr (by omega)
      · have hr : ¬ n + l.length ≤ cap := fun h => hroom ⟨g, cap, rfl, h⟩
        subst hsz
        have holds : ∀ j u, xs[j]? = some u → w.cell? ((⟨g, 0, none⟩ : Addr).add j) = some u := hown.cells (g := g) rfl
        have hrun := run_append_grow (P := P) w t ty e i z ht hi hz ⟨g, 0, none⟩ n cap xs hown.1 holds ⟨b, o', none⟩ l.length c news hs.len (fun j u hu => by rw [add_plain]; exact hc j u hu) (by omega) (by unfold maxLen at hle; omega) (growslice_fits (by omega) hb)
        have hge := grownCap_ge w (n + l.length) cap e
        have hcm := grownCap_le_maxLen w (n + l.length) cap e hle
        refine ⟨_, _, hrun, ⟨hxl, .inr ⟨w.heap.size, _, _, rfl, Nat.zero_le _, heap_alloc_new w.drew _, hge, hcm, ?_, ?_⟩⟩, ⟨rfl, rfl, rfl, by simp, fun k hk _ => heap_alloc_old w.drew _ k hk⟩, fun c hc => .inr ?_⟩
        · simp only [Array.size_append, List.size_toArray, size_zeroCells, hzs, hown.1, hs.len, ← Nat.add_mul]
          congr 1
          omega
        · simp only [Array.toList_append, List.append_assoc]
          rw [← List.append_assoc, ← hxl]
          exact List.take_left
        · simp [blockOf] at hc
          subst hc
          exact Nat.le_refl _
/-- Cells that are data, of one cell each. -/
def allT : List AV → Option (List T)
  | [] => some []
  | .t x :: l => match x.one with
    | true => match allT l with
      | some r => some (x :: r)
      | none => none
    | false => none
  | _ => none
theorem allT_spec : ∀ {l : List AV} {r : List T}, allT l = some r → l = r.map .t ∧ ∀ x ∈ r, x.one = true
  | [], r, h => by simp [allT] at h; subst h; simp
  | x :: l, r, h => by
    cases x with
    | t x =>
      unfold allT at h
      split at h
      · rename_i h1
        split at h
        · rename_i r' hr
          simp at h
          subst h
          obtain ⟨e, hf⟩ := allT_spec hr
          refine ⟨by rw [e]; rfl, fun y hy => ?_⟩
          rcases List.mem_cons.1 hy with rfl | hy
          · exact h1
          · exact hf y hy
        · cases h
      · cases h
    | _ => cases h
theorem one_cells {x : T} (h : x.one = true) : x.cells = [x] := by cases x <;> first | rfl | cases h
theorem one_fits {x : T} (h : x.one = true) : x.fits 1 := by rw [T.fits, one_cells h]; exact ⟨rfl, fun y hy => by rcases List.mem_singleton.1 hy with rfl; exact h⟩
/-- What is appended: its elements, and what is read for it. -/
def srcOf (H : Heap) (sz : Nat) (x : AV) : Option (List T × List Nat) :=
  match x with
  | .t (.sl sz' l) => match Nat.beq sz' sz with
    | true => some (l, [])
    | false => none
  | .t (.v (.slice none 0 _)) => some ([], [])
  | .own b => match lookH H b with
    | (_, .row _ sz' l) => match Nat.beq sz' sz with
      | true => some (l, [b])
      | false => none
    | _ => none
  | .sub b sz' i n => match lookH H b with
    | (_, .row _ sz'' l) => match Nat.beq sz' sz && Nat.beq sz'' sz with
      | true => some ((l.drop i).take n, [b])
      | false => none
    | (_, .box _ cells) => match Nat.beq sz' 1 && Nat.beq sz 1 && Nat.ble (i + n) cells.length with
      | true => match allT ((cells.drop i).take n) with
        | some l => some (l, [b])
        | none => none
      | false => none
    | _ => none
  | _ => none
theorem src_told {hf' : Hp} {H : Heap} {sz : Nat} {x : AV} {l : List T} {R : List Nat} (h : srcOf H sz x = some (l, R)) {w0 : Bse} {X O0 D : Nat → Prop} {m : Nat → Option Value} {tf' : Nat → AV} {a : Act} {w : World} (hR : Rel w0 X O0 D m tf' hf' a w) (hh : ∀ b ∈ R, hf' b = lookH H b) {v : Value} (hv : HA m w (Own X m hf') x v) : ∃ news, Src w (Own X m hf') sz l v news := by
  unfold srcOf at h
  split at h
  · split at h
    · rename_i hb
      have := Nat.eq_of_beq_eq_true hb
      simp at h
      obtain ⟨rfl, rfl⟩ := h
      subst this
      exact src_sl hv
    · cases h
  · simp at h
    obtain ⟨rfl, rfl⟩ := h
    rw [hv.v_eq]
    exact ⟨[], by simp, ⟨none, _, rfl, .inl rfl⟩, by simp, fun i j x y hx => by simp at hx⟩
  · rename_i b
    split at h
    · rename_i fz ty sz' l' hb
      split at h
      · rename_i hbe
        have := Nat.eq_of_beq_eq_true hbe
        simp at h
        obtain ⟨rfl, rfl⟩ := h
        subst this
        have h3 := hR.blk b
        rw [hh b (by simp), hb] at h3
        cases hv with
        | own _ _ hm _ =>
          obtain ⟨news, hs, _⟩ := src_row h3 hm
          exact ⟨news, hs⟩
      · cases h
    · cases h
  · rename_i b sz' i n
    cases hv with
    | sub _ _ _ _ _ hx =>
    split at h
    · rename_i fz ty sz'' l' hb
      split at h
      · rename_i hbe
        simp only [Bool.and_eq_true] at hbe
        have e1 := Nat.eq_of_beq_eq_true hbe.1
        have e2 := Nat.eq_of_beq_eq_true hbe.2
        simp at h
        obtain ⟨rfl, rfl⟩ := h
        subst e1
        subst e2
        have h3 := hR.blk b
        rw [hh b (by simp), hb] at h3
        obtain ⟨v', xs, hm, how, hfit, hcl⟩ := h3
        rcases hx with ⟨rfl, ⟨A, c', rfl⟩, hnil⟩ | ⟨g, c', hc, rfl, hm' | ⟨n', c2, hm', hin, hcc⟩⟩
        · rw [List.take_zero]; exact ⟨[], by simp, ⟨A, c', rfl, .inl rfl⟩, by simp, fun i j x y hx => by simp at hx⟩
        · rw [hm] at hm'
          simp at hm'
          subst hm'
          rcases how.2 with ⟨e, _⟩ | ⟨_, _, _, e, _⟩ <;> cases e
        · rw [hm] at hm'
          simp at hm'
          subst hm'
          rcases how.2 with ⟨e, _⟩ | ⟨g', cap, cur, e, _, hg, hcap, _⟩
          · cases e
          simp only [Value.slice.injEq, Option.some.injEq, Addr.mk.injEq, and_true] at e
          obtain ⟨rfl, hn', _⟩ := e
          subst hn'
          have hlen : ((l'.drop i).take n).length = n := by rw [List.length_take, List.length_drop]; omega
          have hb1 : i * sz'' + n * sz'' ≤ l'.length * sz'' := by rw [← Nat.add_mul]; exact Nat.mul_le_mul_right _ hin
          have hx1 := how.1
          refine ⟨(xs.drop (i * sz'')).take (n * sz''), ⟨by rw [List.length_take, List.length_drop, hlen]; omega, ⟨_, c', by rw [hlen], .inr ⟨g, i * sz'', rfl, fun j u hu => ?_⟩⟩, fun x hx => hfit x (List.mem_of_mem_drop (List.mem_of_mem_take hx)), fun p q x y hx hy => ?_⟩⟩
          · rw [List.getElem?_take] at hu
            split at hu
            · rename_i hj
              rw [List.getElem?_drop] at hu
              rw [how.cellAt (i * sz'' + j) (by omega), hu]
            · cases hu
          · rw [List.getElem?_take] at hx
            split at hx
            · rename_i hp
              rw [List.getElem?_drop] at hx
              obtain ⟨u, hu, ht⟩ := hcl (i + p) q x y hx hy
              have hq : q < sz'' := by have := (List.getElem?_eq_some_iff.1 hy).1; have := (hfit x (List.mem_of_getElem? hx)).1; omega
              refine ⟨u, ?_, ht⟩
              rw [List.getElem?_take, if_pos (idx_lt hp hq), List.getElem?_drop, ← Nat.add_assoc, ← Nat.add_mul]
              exact hu
            · cases hx
      · cases h
    · rename_i fz ty cells hb
      split at h
      · rename_i hbe
        simp only [Bool.and_eq_true] at hbe
        have e1 := Nat.eq_of_beq_eq_true hbe.1.1
        have e2 := Nat.eq_of_beq_eq_true hbe.1.2
        have e3 := Nat.le_of_ble_eq_true hbe.2
        split at h
        · rename_i l' hl
          simp at h
          obtain ⟨rfl, rfl⟩ := h
          subst e1
          subst e2
          obtain ⟨h5, h6⟩ := allT_spec hl
          have hcl : ((cells.drop i).take n).length = n := by rw [List.length_take, List.length_drop]; omega
          have hll : l'.length = n := by rw [h5, List.length_map] at hcl; exact hcl
          have h3 := hR.blk b
          rw [hh b (by simp), hb] at h3
          obtain ⟨g, vs, hm, hg, hlen, h1, hvv⟩ := h3
          rcases hx with ⟨rfl, ⟨A, c', rfl⟩, hnil⟩ | ⟨g', c', hc, rfl, hm' | ⟨n', c2, hm', hin, hcc⟩⟩
          · have : l' = [] := List.eq_nil_of_length_eq_zero hll
            subst this
            exact ⟨[], by simp, ⟨A, c', rfl, .inl rfl⟩, by simp, fun i j x y hx => by simp at hx⟩
          · rw [hm] at hm'
            simp at hm'
            subst hm'
            refine ⟨(vs.drop i).take n, ⟨by rw [List.length_take, List.length_drop]; omega, ⟨_, c', by rw [hll], .inr ⟨g, i * 1, rfl, fun j u hu => ?_⟩⟩, fun x hx => one_fits (h6 x hx), fun p q x y hx hy => ?_⟩⟩
            · rw [List.getElem?_take] at hu
              split at hu
              · rw [List.getElem?_drop] at hu
                unfold World.cell?
                simp only [hg, Nat.mul_one]
                simpa using hu
              · cases hu
            · have hp : p < n := by have := (List.getElem?_eq_some_iff.1 hx).1; omega
              rw [one_cells (h6 x (List.mem_of_getElem? hx))] at hy
              cases q with
              | succ q => simp at hy
              | zero =>
                simp at hy
                subst hy
                have hlt : i + p < vs.length := by omega
                refine ⟨vs[i + p], by rw [List.getElem?_take, if_pos (by omega), List.getElem?_drop, Nat.mul_one, Nat.add_zero]; exact List.getElem?_eq_getElem hlt, ?_⟩
                have hc : cells[i + p]? = some (.t x) := by
                  have h7 : ((cells.drop i).take n)[p]? = some (.t x) := by rw [h5, List.getElem?_map, hx]; rfl
                  rw [List.getElem?_take, if_pos hp, List.getElem?_drop] at h7
                  exact h7
                exact (hvv _ _ _ hc (List.getElem?_eq_getElem hlt)).t_ht
          · rw [hm] at hm'; cases hm'
        · cases h
      · cases h
    · cases h
  · cases h
/-- A row that is appended to: its elements, and its block. -/
def dstOf (H : Heap) (e sz : Nat) (s : AV) : Option (List T × Option Nat) :=
  match s with
  | .t (.v (.slice none 0 0)) => some ([], none)
  | .own b => match lookH H b with
    | (false, .row e' sz' l) => match Nat.beq e' e && Nat.beq sz' sz with
      | true => some (l, some b)
      | false => none
    | _ => none
  | _ => none
def evAppend (P : Program) (t t' : TypeId) (s x : AV) (H : Heap) (d : Option Tmp) (k : Kont) : Prop :=
  match P.underlying t, d with
  | some (.slice e), some d => (match P.info? e with
    | some i => match i.zero with
      | some z => match Nat.beq t t' && Nat.beq z.cells.size i.size && Nat.blt 0 i.size && Nat.blt 0 i.bytes with
        | true => match dstOf H e i.size s, srcOf H i.size x with
          | some (l, ob), some (ys, R) => (match ob with
            | none => ys.length * i.bytes ≤ 140737488355328 ∧ k (.own d) [(d, false, .row e i.size ys)] R [d]
            | some b => match memN b R || Nat.beq b d with
              | false => (l.length + ys.length) * i.bytes ≤ 140737488355328 ∧ k (.own d) [(d, false, .row e i.size (l ++ ys)), (b, false, .dead)] (b :: R) [d]
              | true => False)
          | _, _ => False
        | false => False
      | none => False
    | none => False)
  | _, _ => False
theorem HB.row_src {m' : Nat → Option Value} {w w' : World} {O O' : Nat → Prop} {n e sz : Nat} {l ys : List T} {v vx : Value} {xs news : List Value} (hm : m' n = some v) (how : w'.ownsRow 0 e sz v (l.length + ys.length) (xs ++ news)) (hxl : xs.length = l.length * sz) (hl : ∀ x ∈ l, x.fits sz) (hlt : ∀ (i j : Nat) (x y : T), l[i]? = some x → x.cells[j]? = some y → ∃ u, xs[i * sz + j]? = some u ∧ HT w O y u)
    (hs : Src w O sz ys vx news) (mono : ∀ y u, HT w O y u → HT w' O' y u) : HB m' w' O' n (.row e sz (l ++ ys)) := by
  refine ⟨v, xs ++ news, hm, by rw [List.length_append]; exact how, fun x hx => (List.mem_append.1 hx).elim (hl x) (hs.fits x), fun i j x y hx hy => ?_⟩
  rw [List.getElem?_append] at hx
  split at hx
  · rename_i hi
    obtain ⟨u, hu, ht⟩ := hlt i j x y hx hy
    exact ⟨u, by rw [List.getElem?_append, if_pos (List.getElem?_eq_some_iff.1 hu).1]; exact hu, mono _ _ ht⟩
  · rename_i hi
    obtain ⟨u, hu, ht⟩ := hs.told (i - l.length) j x y hx hy
    refine ⟨u, ?_, mono _ _ ht⟩
    have e : i * sz + j - xs.length = (i - l.length) * sz + j := by
      rw [hxl]
      have : i * sz = (i - l.length) * sz + l.length * sz := by rw [← Nat.add_mul]; congr 1; omega
      omega
    rw [List.getElem?_append, if_neg, e]
    · exact hu
    · rw [hxl]
      have : l.length * sz ≤ i * sz := Nat.mul_le_mul_right _ (by omega)
      omega
theorem blk_own {e sz n : Nat} {v : Value} {xs : List Value} {w : World} (h : w.ownsRow 0 e sz v n xs) : blockOf v = v.ownBlock ∧ v.oneCell' = true := by
  rcases h.2 with ⟨rfl, _⟩ | ⟨g, cap, cur, rfl, _⟩ <;> exact ⟨rfl, rfl⟩
theorem ok_append {t t' : TypeId} {s x : Operand} {H : Heap} {k : Kont} (ho : o.op = .call { callee := .builtin .append, args := #[s, x], argTypes := #[t, t'] }) (h : evAppend P t t' (opd tf s) (opd tf x) H o.dst k) (hH : hf = lookH H) : ∃ v W R N, OpLoc P o R tf hf v W N ∧ k v W R N := by
  have hop : ∀ tf', (∀ t ∈ tmpsOf o, tf' t = tf t) → ∀ z, z = s ∨ z = x → opd tf' z = opd tf z := fun tf' ht z hz => tmps_same ht (by rw [ho]; simp [Op.operands, Call.operands]; exact hz)
  subst hH
  unfold evAppend at h
  split at h
  · rename_i e d hu hd
    split at h
    · rename_i i hi
      split at h
      · rename_i z hz
        split at h
        · rename_i hc
          simp only [Bool.and_eq_true] at hc
          obtain ⟨⟨⟨c1, c2⟩, c3⟩, c4⟩ := hc
          have c1 := Nat.eq_of_beq_eq_true c1
          subst c1
          have c2 := Nat.eq_of_beq_eq_true c2
          have c3 : 0 < i.size := Nat.le_of_ble_eq_true c3
          have c4 : 0 < i.bytes := Nat.le_of_ble_eq_true c4
          have hrun : ∀ (a : Act) (w w' : World) (u : Value), (Builtin.append_ #[t, t] o.type #[a.eval s, a.eval x]).run P w = .ok u w' → (execOp a.eval o).run P w = .ok (.value u) w' := by
            intro a w w' u hu
            unfold execOp
            rw [ho]
            simp [resolve, invoke, Go.builtin, hu]
          split at h
          · rename_i l ob ys R hds hsr
            split at h
            · obtain ⟨hbd, h⟩ := h
              have hs0 : opd tf s = .t (.v (.slice none 0 0)) ∧ l = [] := by
                unfold dstOf at hds
                split at hds
                · rename_i hs; simp at hds; exact ⟨hs, hds⟩
                · split at hds <;> (try split at hds) <;> simp at hds
                · cases hds
              refine ⟨_, _, R, _, loc_new fun tf' hf' ht hh w0 X O0 D m a w hR => ?_, h⟩
              have e1 := opd_told hR s
              have e2 := opd_told hR x
              rw [hop tf' ht s (by simp), hs0.1] at e1
              rw [hop tf' ht x (by simp)] at e2
              obtain ⟨news, hsrc⟩ := src_told hsr hR hh e2
              obtain ⟨v', w', h1, h2, h3, h4⟩ := run_append (P := P) (ty := o.type) hu hi hz rfl c2 c3 c4 (World.ownsRow_nil w 0 e i.size) hsrc (by simpa using hbd)
              have hbut : But w (fun _ => False) w' := But.grown h3 (fun k hk => by cases hk)
              refine ⟨v', v', w', hrun a w w' v' (by rw [e1.v_eq]; exact h1), hbut, fun c hc => (h4 c hc).resolve_left (fun h => by cases h), ?_, ?_⟩
              · intro m' O' hO hext hm
                have := HB.row_src (l := []) (xs := []) (w := w) (O := Own X m hf') hm (by simpa using h2) (by simp) (by simp) (by simp) hsrc (fun y u hy => hy.mono (hbut.keep fun _ h => h.elim) hO)
                simpa using this
              · intro m' O' hO hext hm
                exact .own _ _ hm (blk_own h2).2
            · rename_i b
              split at h
              · rename_i hmem
                have hmem : b ∉ R ∧ b ≠ d := by
                  rw [Bool.or_eq_false_iff] at hmem
                  obtain ⟨m1, m2⟩ := hmem
                  refine ⟨fun e => ?_, fun e => ?_⟩
                  · rw [memN_iff.2 e] at m1; cases m1
                  · subst e; simp at m2
                obtain ⟨hbd, h⟩ := h
                have hs0 : opd tf s = .own b ∧ lookH H b = (false, .row e i.size l) := by
                  unfold dstOf at hds
                  split at hds
                  · simp at hds
                  · rename_i b' hs
                    split at hds
                    · rename_i e' sz' l' hb
                      split at hds
                      · rename_i hbe
                        simp only [Bool.and_eq_true] at hbe
                        have q1 := Nat.eq_of_beq_eq_true hbe.1
                        have q2 := Nat.eq_of_beq_eq_true hbe.2
                        simp at hds
                        obtain ⟨rfl, rfl⟩ := hds
                        subst q1; subst q2
                        exact ⟨hs, hb⟩
                      · cases hds
                    · cases hds
                  · cases hds
                refine ⟨_, _, _, _, ⟨fun b' hb' => ?_, fun tf' hf' ht hh w0 X O0 D m a w Q hR hdd hN => ?_⟩, h⟩
                · simp [ids] at hb'
                  rcases hb' with rfl | rfl
                  · exact .inr (by simp)
                  · exact .inl (by simp)
                have e1 := opd_told hR s
                have e2 := opd_told hR x
                rw [hop tf' ht s (by simp), hs0.1] at e1
                rw [hop tf' ht x (by simp)] at e2
                have hhb : hf' b = (false, .row e i.size l) := by rw [hh b (by simp), hs0.2]
                obtain ⟨news, hsrc⟩ := src_told hsr hR (fun b' hb' => hh b' (by simp [hb'])) e2
                have h3 := hR.blk b
                rw [hhb] at h3
                have hmb := e1.own_eq
                obtain ⟨v, xs, hm', how, hfit, hcs⟩ := h3
                rw [hmb] at hm'
                simp at hm'
                obtain ⟨v', w', h1, h2, h3, h4⟩ := run_append (P := P) (ty := o.type) hu hi hz rfl c2 c3 c4 how hsrc hbd
                have hbkv : bk m b = v.ownBlock := by simp [bk, hmb, hm', (blk_own how).1]
                have hlive : (hf' b).1 = false ∧ (hf' b).2.live := by rw [hhb]; exact ⟨rfl, trivial⟩
                have hbut : But w (fun c => v.ownBlock = some c) w' := But.grown h3 (fun k hk => hk)
                unfold Oper.wp
                rw [hrun a w w' v' (by rw [hm']; exact h1)]
                refine ⟨v', upM m d v', rfl, ?_⟩
                have hfrd : ¬ D d := hN d (by simp)
                refine hR.write [(d, false, .row e i.size (l ++ ys)), (b, false, .dead)] [d] (fun c => v.ownBlock = some c) hdd hbut (fun c hc => ⟨b, by simp [ids], hlive.1, hlive.2, by rw [hbkv]; exact hc⟩) (fun b' hb' => upM_ne (by simpa using hb')) (by simp [ids]) (by simpa using hfrd) ?_ ?_ ?_
                · intro b' hb' O' hO hext _
                  have hb2 : b' = d ∨ b' = b := by simpa [ids] using hb'
                  rcases hb2 with rfl | rfl
                  · have : lookH [(b', false, .row e i.size (l ++ ys)), (b, false, .dead)] b' = (false, .row e i.size (l ++ ys)) := by unfold lookH; rw [look_cons, if_pos rfl]
                    rw [this]
                    refine HB.row_src (w := w) (O := Own X m hf') upM_self h2 how.1 hfit hcs hsrc (fun y u hy => hy.mono (hbut.keep fun c hc => .inr ⟨b, hlive.1, hlive.2, by rw [hbkv]; exact hc⟩) hO)
                  · have : lookH [(d, false, .row e i.size (l ++ ys)), (b', false, .dead)] b' = (false, .dead) := by unfold lookH; rw [look_cons, if_neg (fun e => hmem.2 e.symm), look_cons, if_pos rfl]
                    rw [this]
                    trivial
                · intro b' hb' hl c hbc
                  have hb2 : b' = d ∨ b' = b := by simpa [ids] using hb'
                  rcases hb2 with rfl | rfl
                  · have hc : blockOf v' = some c := by simpa [bk, upM_self] using hbc
                    refine ⟨(h4 c hc).elim (fun h => .inr ⟨b, by simp [ids], hlive.1, hlive.2, by rw [hbkv]; exact h⟩) .inl, fun b2 hb2 hne _ hl2 => ?_⟩
                    have : b2 = b := by simpa [ids, hne] using hb2
                    subst this
                    have : lookH [(b', false, .row e i.size (l ++ ys)), (b2, false, .dead)] b2 = (false, .dead) := by unfold lookH; rw [look_cons, if_neg (fun e => hne e.symm), look_cons, if_pos rfl]
                    rw [this] at hl2
                    exact hl2.elim
                  · have : lookH [(d, false, .row e i.size (l ++ ys)), (b', false, .dead)] b' = (false, .dead) := by unfold lookH; rw [look_cons, if_neg (fun e => hmem.2 e.symm), look_cons, if_pos rfl]
                    rw [this] at hl
                    exact hl.elim
                · intro O' hO hext _
                  exact .own _ _ upM_self (blk_own h2).2
              · exact h.elim
          · exact h.elim
        · exact h.elim
      · exact h.elim
    · exact h.elim
  · exact h.elim
end
end Go.YtbbcnmfmncgffaaE
