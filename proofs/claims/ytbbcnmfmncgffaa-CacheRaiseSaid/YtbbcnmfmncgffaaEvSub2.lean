/-
  Parts of rows and of a variable's cells: copied to, cleared.
  Written by hand for this claim's session.
-/
import Derived.Test.YtbbcnmfmncgffaaEvSub
import Derived.Laws.StructEq
namespace Go.YtbbcnmfmncgffaaE
open Go.RowKit
set_option linter.unusedVariables false
set_option linter.unusedSimpArgs false
/-- Elements, and their cells. -/
structure Tld (w : World) (O : Nat → Prop) (sz : Nat) (l : List T) (news : List Value) : Prop where
  len : news.length = l.length * sz
  fits : ∀ x ∈ l, x.fits sz
  told : ∀ (i j : Nat) (x y : T), l[i]? = some x → x.cells[j]? = some y → ∃ u, news[i * sz + j]? = some u ∧ HT w O y u
theorem Src.tld {w : World} {O : Nat → Prop} {sz : Nat} {l : List T} {v : Value} {news : List Value} (h : Src w O sz l v news) : Tld w O sz l news := ⟨h.len, h.fits, h.told⟩
theorem Tld.one {w : World} {O : Nat → Prop} {sz : Nat} {l : List T} {news : List Value} (h : Tld w O sz l news) : ∀ u ∈ news, u.oneCell' = true := by
  intro u hu
  obtain ⟨q, hq, rfl⟩ := List.mem_iff_getElem.1 hu
  have hq' := hq
  rw [h.len] at hq'
  have hsz : 0 < sz := by rcases Nat.eq_zero_or_pos sz with e | e; (rw [e] at hq'; omega); exact e
  have hi : q / sz < l.length := Nat.div_lt_of_lt_mul (by rw [Nat.mul_comm]; exact hq')
  have hx := h.fits _ (List.getElem_mem hi)
  have hj : q % sz < (l[q / sz]).cells.length := by rw [hx.1]; exact Nat.mod_lt _ hsz
  obtain ⟨u, h1, h2⟩ := h.told (q / sz) (q % sz) _ _ (List.getElem?_eq_getElem hi) (List.getElem?_eq_getElem hj)
  rw [show q / sz * sz + q % sz = q by rw [Nat.mul_comm]; exact Nat.div_add_mod _ _, List.getElem?_eq_getElem hq] at h1
  simp at h1
  subst h1
  exact h2.one_cell (hx.2 _ (List.getElem_mem hj))
theorem Tld.take {w : World} {O : Nat → Prop} {sz : Nat} {l : List T} {news : List Value} (h : Tld w O sz l news) {q : Nat} (hq : q ≤ l.length) : Tld w O sz (l.take q) (news.take (q * sz)) := by
  have h1 : q * sz ≤ l.length * sz := Nat.mul_le_mul_right _ hq
  refine ⟨by rw [List.length_take, List.length_take, h.len, Nat.min_eq_left h1, Nat.min_eq_left hq], fun x hx => h.fits x (List.mem_of_mem_take hx), fun i j x y hx hy => ?_⟩
  rw [List.getElem?_take] at hx
  split at hx
  · rename_i hi
    obtain ⟨u, hu, ht⟩ := h.told i j x y hx hy
    refine ⟨u, ?_, ht⟩
    have hj : j < sz := by have := (List.getElem?_eq_some_iff.1 hy).1; have := (h.fits x (List.mem_of_getElem? hx)).1; omega
    rw [List.getElem?_take, if_pos (idx_lt hi hj)]
    exact hu
  · cases hx
section
variable {P : Program} {o : Oper} {tf : Nat → AV} {hf : Hp}
theorem slice_self {α : Type} (l : List α) (i : Nat) : l.take i ++ [] ++ l.drop (i + 0) = l := by simp
/-- Elements of a row written anew. -/
theorem Rel.splice {w0 : Bse} {X O0 D : Nat → Prop} {m : Nat → Option Value} {a : Act} {w : World} (hR : Rel w0 X O0 D m tf hf a w) {b ty sz g n0 c0 i : Nat} {l ys : List T} {news : List Value} (hb : hf b = (false, .row ty sz l)) (hm : m b = some (.slice (some ⟨g, 0, none⟩) n0 c0)) (hy : Tld w (Own X m hf) sz ys news) (hi : i + ys.length ≤ l.length) {dst : Option Tmp} (hd : ∀ x, dst = some x → x < a.tmps.size) (val : Value) :
    ∃ w', (storeCells ⟨g, i * sz, none⟩ news 0).run P w = .ok () w' ∧ Rel w0 X O0 (fun b => D b ∨ b ∈ ([] : List Nat)) m (upT tf dst (.t (.v val))) (upH hf [(b, false, .row ty sz (l.take i ++ ys ++ l.drop (i + ys.length)))]) (a.put dst val) w' := by
  have h3 := hR.blk b
  rw [hb] at h3
  obtain ⟨v, xs, hm', how, hfits, hcs⟩ := h3
  rw [hm] at hm'
  simp at hm'
  subst hm'
  rcases how.2 with ⟨hno, _⟩ | ⟨g', cap, cur, hv', _, hg, hcap, hcm, hcsz, htake⟩
  · cases hno
  simp only [Value.slice.injEq, Option.some.injEq, Addr.mk.injEq, and_true, true_and] at hv'
  obtain ⟨rfl, hn', hcc⟩ := hv'
  have hxl : xs.length = l.length * sz := how.1
  have hnl := hy.len
  have hoff : i * sz + news.length ≤ l.length * sz := by rw [hnl, ← Nat.add_mul]; exact Nat.mul_le_mul_right _ hi
  have hcurl : l.length * sz ≤ cur.toList.length := by
    have e1 : cur.toList.length = cap * sz := by simpa using hcsz
    have e2 : l.length * sz ≤ cap * sz := Nat.mul_le_mul_right _ hcap
    omega
  have hrun := run_storeCells_at P g (i * sz) ty news 0 cur w hg (by simpa using Nat.le_trans hoff hcurl) hy.one
  rw [Nat.add_zero] at hrun
  refine ⟨_, hrun, ?_⟩
  have hbk : bk m b = some g := by simp [bk, hm, blockOf]
  have hbut := setRow_but w g (cur.toList.take (i * sz) ++ news ++ cur.toList.drop (i * sz + news.length)).toArray
  have hOg : ∀ c, c = g → Own X m hf c := fun c hc => .inr ⟨b, by rw [hb], by rw [hb]; trivial, by rw [hc]; exact hbk⟩
  have hll : (l.take i ++ ys ++ l.drop (i + ys.length)).length = l.length := splice_len l ys i ys.length rfl hi
  refine hR.write _ [] (fun c => c = g) (m' := m) hd hbut (fun c hc => ⟨b, by simp [ids], by rw [hb], by rw [hb]; trivial, by rw [hc]; exact hbk⟩) (fun _ _ => rfl) (by simp) (by simp) ?_ ?_ ?_
  · intro b' hb' O' hO hext _
    obtain rfl := ids1.1 hb'
    rw [lookH1]
    have mono : ∀ y u, HT w (Own X m hf) y u → HT (w.setRow g (cur.toList.take (i * sz) ++ news ++ cur.toList.drop (i * sz + news.length)).toArray) O' y u := fun y u hh => hh.mono (hbut.keep hOg) hO
    refine ⟨.slice (some ⟨g, 0, none⟩) n0 c0, xs.take (i * sz) ++ news ++ xs.drop (i * sz + news.length), hm, ?_, ?_, ?_⟩
    · refine ⟨by rw [splice_len _ _ _ _ rfl (by omega), hll]; exact hxl, .inr ⟨g, c0, _, by rw [hll, hn'], Nat.zero_le _, setRow_heap w g cur _ ty (0, 0) hg, by rw [hll]; omega, by omega, ?_, ?_⟩⟩
      · have := splice_len cur.toList news (i * sz) news.length rfl (by omega)
        simp only [List.size_toArray]
        rw [this, hcc]
        simpa using hcsz
      · apply List.ext_getElem?
        intro q
        rw [hll]
        simp only
        rw [List.getElem?_take, splice_get _ _ _ _ _ rfl (by omega)]
        have hq0 : (if q < l.length * sz then cur.toList[q]? else none) = xs[q]? := by rw [← htake, List.getElem?_take]
        by_cases q1 : q < l.length * sz
        · rw [if_pos q1] at hq0 ⊢
          rw [splice_get _ _ _ _ _ rfl (by omega), hq0]
        · rw [if_neg q1]
          rw [List.getElem?_eq_none (by rw [splice_len _ _ _ _ rfl (by omega)]; omega)]
    · intro y hy'
      simp only [List.mem_append] at hy'
      rcases hy' with (h | h) | h
      · exact hfits y (List.mem_of_mem_take h)
      · exact hy.fits y h
      · exact hfits y (List.mem_of_mem_drop h)
    · intro p q y z hp hz
      have hyf : y.fits sz := by
        have h := List.mem_of_getElem? hp
        simp only [List.mem_append] at h
        rcases h with (h | h) | h
        · exact hfits y (List.mem_of_mem_take h)
        · exact hy.fits y h
        · exact hfits y (List.mem_of_mem_drop h)
      have hq : q < sz := by have h1 := (List.getElem?_eq_some_iff.1 hz).1; have := hyf.1; omega
      rw [splice_get _ _ _ _ _ rfl hi] at hp
      rw [splice_get _ _ _ _ _ rfl (by omega)]
      by_cases r1 : p < i
      · rw [if_pos r1] at hp
        rw [if_pos (idx_lt r1 hq)]
        obtain ⟨u, hu, ht⟩ := hcs p q y z hp hz
        exact ⟨u, hu, mono _ _ ht⟩
      · have e1 : i * sz ≤ p * sz := Nat.mul_le_mul_right _ (by omega)
        rw [if_neg r1] at hp
        rw [if_neg (by omega)]
        by_cases r2 : p < i + ys.length
        · rw [if_pos r2] at hp
          obtain ⟨u, hu, ht⟩ := hy.told (p - i) q y z hp hz
          have e2 : p * sz = i * sz + (p - i) * sz := by rw [← Nat.add_mul]; congr 1; omega
          have e3 : (p - i) * sz + q < news.length := by rw [hnl]; exact idx_lt (by omega) hq
          rw [if_pos (by omega), show p * sz + q - i * sz = (p - i) * sz + q by omega]
          exact ⟨u, hu, mono _ _ ht⟩
        · rw [if_neg r2] at hp
          have e2 : (i + ys.length) * sz ≤ p * sz := Nat.mul_le_mul_right _ (by omega)
          rw [Nat.add_mul, ← hnl] at e2
          rw [if_neg (by omega)]
          obtain ⟨u, hu, ht⟩ := hcs p q y z hp hz
          exact ⟨u, hu, mono _ _ ht⟩
  · intro b' hb' hl c hbc
    obtain rfl := ids1.1 hb'
    exact ⟨.inr ⟨b', by simp [ids], by rw [hb], by rw [hb]; trivial, hbc⟩, fun b2 hb2 hne => absurd (ids1.1 hb2) hne⟩
  · intro O' hO hext _
    exact .t _ _ (.v _)
/-- Cells of a variable written anew. -/
theorem Rel.spliceBox {w0 : Bse} {X O0 D : Nat → Prop} {m : Nat → Option Value} {a : Act} {w : World} (hR : Rel w0 X O0 D m tf hf a w) {b ty g i : Nat} {cells ys : List AV} {news : List Value} (hb : hf b = (false, .box ty cells)) (hm : m b = some (.pointer (some ⟨g, 0, none⟩))) (h1 : ∀ y ∈ ys, y.one = true) (hn : news.length = ys.length) (hy : ∀ (i : Nat) y u, ys[i]? = some y → news[i]? = some u → HA m w (Own X m hf) y u) (hi : i + ys.length ≤ cells.length) {dst : Option Tmp} (hd : ∀ x, dst = some x → x < a.tmps.size) (val : Value) :
    ∃ w', (storeCells ⟨g, i, none⟩ news 0).run P w = .ok () w' ∧ Rel w0 X O0 (fun b => D b ∨ b ∈ ([] : List Nat)) m (upT tf dst (.t (.v val))) (upH hf [(b, false, .box ty (cells.take i ++ ys ++ cells.drop (i + ys.length)))]) (a.put dst val) w' := by
  have h3 := hR.blk b
  rw [hb] at h3
  obtain ⟨g', cur, hm', hg, hlen, ho, hv⟩ := h3
  rw [hm] at hm'
  simp at hm'
  subst hm'
  have hone : ∀ u ∈ news, u.oneCell' = true := by
    intro u hu
    obtain ⟨q, hq, rfl⟩ := List.mem_iff_getElem.1 hu
    exact (hy q _ _ (List.getElem?_eq_getElem (by omega)) (List.getElem?_eq_getElem hq)).one_cell (h1 _ (List.getElem_mem (by omega)))
  have hrun := run_storeCells_at P g i ty news 0 cur.toArray w hg (by simp; omega) hone
  rw [Nat.add_zero] at hrun
  refine ⟨_, hrun, ?_⟩
  have hbk : bk m b = some g := by simp [bk, hm, blockOf]
  have hbut := setRow_but w g (cur.toArray.toList.take i ++ news ++ cur.toArray.toList.drop (i + news.length)).toArray
  refine hR.write _ [] (fun c => c = g) (m' := m) hd hbut (fun c hc => ⟨b, by simp [ids], by rw [hb], by rw [hb]; trivial, by rw [hc]; exact hbk⟩) (fun _ _ => rfl) (by simp) (by simp) ?_ ?_ ?_
  · intro b' hb' O' hO hext _
    obtain rfl := ids1.1 hb'
    rw [lookH1]
    refine ⟨g, cur.take i ++ news ++ cur.drop (i + news.length), hm, setRow_heap w g _ _ ty (0, 0) hg, ?_, ?_, ?_⟩
    · rw [splice_len _ _ _ _ rfl (by omega), splice_len _ _ _ _ rfl (by omega)]; exact hlen
    · intro y hy'
      simp only [List.mem_append] at hy'
      rcases hy' with (h | h) | h
      · exact ho y (List.mem_of_mem_take h)
      · exact h1 y h
      · exact ho y (List.mem_of_mem_drop h)
    · intro p y u hp hu
      have mono : ∀ y u, HA m w (Own X m hf) y u → HA m (w.setRow g (cur.toArray.toList.take i ++ news ++ cur.toArray.toList.drop (i + news.length)).toArray) O' y u := fun y u hh => hh.mono (hbut.keep fun c hc => .inr ⟨b', by rw [hb], by rw [hb]; trivial, by rw [hc]; exact hbk⟩) hO hext
      refine mono y u ?_
      rw [splice_get _ _ _ _ _ rfl (by omega)] at hp hu
      by_cases r1 : p < i
      · rw [if_pos r1] at hp hu; exact hv p y u hp hu
      · rw [if_neg r1] at hp hu
        by_cases r2 : p < i + ys.length
        · rw [if_pos r2] at hp
          rw [if_pos (by omega)] at hu
          exact hy _ y u hp hu
        · rw [if_neg r2] at hp
          rw [if_neg (by omega)] at hu
          exact hv p y u hp hu
  · intro b' hb' hl c hbc
    obtain rfl := ids1.1 hb'
    exact ⟨.inr ⟨b', by simp [ids], by rw [hb], by rw [hb]; trivial, hbc⟩, fun b2 hb2 hne => absurd (ids1.1 hb2) hne⟩
  · intro O' hO hext _
    exact .t _ _ (.v _)
/-- The same row, told again. -/
theorem Rel.again {w0 : Bse} {X O0 D : Nat → Prop} {m : Nat → Option Value} {a : Act} {w : World} (hR : Rel w0 X O0 D m tf hf a w) {b : Nat} {k : Bool × Blk} (hb : hf b = k) {dst : Option Tmp} (hd : ∀ x, dst = some x → x < a.tmps.size) (val : Value) :
    Rel w0 X O0 (fun b => D b ∨ b ∈ ([] : List Nat)) m (upT tf dst (.t (.v val))) (upH hf [(b, k)]) (a.put dst val) w := by
  have e : upH hf [(b, k)] = hf := by
    funext b'
    by_cases h : b' = b
    · subst h; rw [upH_in (by simp [ids]), lookH1, hb]
    · rw [upH_out (by simpa [ids] using h)]
  rw [e]
  have := hR.put dst (.t (.v val)) val hd (But.refl w _) (.t _ _ (.v _))
  simpa using this
/-- A row's told beginning written anew, or made longer within its room. -/
theorem Rel.spliceArr {w0 : Bse} {X O0 D : Nat → Prop} {m : Nat → Option Value} {a : Act} {w : World} (hR : Rel w0 X O0 D m tf hf a w) {b ty sz g i N : Nat} {l ys : List T} {news : List Value} (hb : hf b = (false, .arr ty sz l N)) (hm : m b = some (.pointer (some ⟨g, 0, none⟩))) (hy : Tld w (Own X m hf) sz ys news) (hi : i ≤ l.length) (hN : i + ys.length ≤ N) {dst : Option Tmp} (hd : ∀ x, dst = some x → x < a.tmps.size) (val : Value) :
    ∃ w', (storeCells ⟨g, i * sz, none⟩ news 0).run P w = .ok () w' ∧ Rel w0 X O0 (fun b => D b ∨ b ∈ ([] : List Nat)) m (upT tf dst (.t (.v val))) (upH hf [(b, false, .arr ty sz (l.take i ++ ys ++ l.drop (i + ys.length)) N)]) (a.put dst val) w' := by
  have h3 := hR.blk b
  rw [hb] at h3
  obtain ⟨g', cur, hm', hg, hcs, hlN, hNm, hfits, hcl⟩ := h3
  rw [hm] at hm'
  simp at hm'
  subst hm'
  have hnl := hy.len
  have hoff : i * sz + news.length ≤ N * sz := by rw [hnl, ← Nat.add_mul]; exact Nat.mul_le_mul_right _ hN
  have hcl' : cur.toList.length = N * sz := by simpa using hcs
  have hrun := run_storeCells_at P g (i * sz) ty news 0 cur w hg (by simpa [hcs] using hoff) hy.one
  rw [Nat.add_zero] at hrun
  refine ⟨_, hrun, ?_⟩
  have hbk : bk m b = some g := by simp [bk, hm, blockOf]
  have hbut := setRow_but w g (cur.toList.take (i * sz) ++ news ++ cur.toList.drop (i * sz + news.length)).toArray
  have hOg : ∀ c, c = g → Own X m hf c := fun c hc => .inr ⟨b, by rw [hb], by rw [hb]; trivial, by rw [hc]; exact hbk⟩
  have fits : ∀ y ∈ l.take i ++ ys ++ l.drop (i + ys.length), y.fits sz := by
    intro y hy'
    simp only [List.mem_append] at hy'
    rcases hy' with (h | h) | h
    · exact hfits y (List.mem_of_mem_take h)
    · exact hy.fits y h
    · exact hfits y (List.mem_of_mem_drop h)
  refine hR.write _ [] (fun c => c = g) (m' := m) hd hbut (fun c hc => ⟨b, by simp [ids], by rw [hb], by rw [hb]; trivial, by rw [hc]; exact hbk⟩) (fun _ _ => rfl) (by simp) (by simp) ?_ ?_ ?_
  · intro b' hb' O' hO hext _
    obtain rfl := ids1.1 hb'
    rw [lookH1]
    have mono : ∀ y u, HT w (Own X m hf) y u → HT (w.setRow g (cur.toList.take (i * sz) ++ news ++ cur.toList.drop (i * sz + news.length)).toArray) O' y u := fun y u hh => hh.mono (hbut.keep hOg) hO
    refine ⟨g, _, hm, setRow_heap w g cur _ ty (0, 0) hg, ?_, ?_, hNm, fits, ?_⟩
    · simp only [List.size_toArray]
      rw [splice_len _ _ _ _ rfl (by omega)]
      exact hcl'
    · simp; omega
    · intro p q y z hp hz
      have hyf := fits y (List.mem_of_getElem? hp)
      have hq : q < sz := by have h1 := (List.getElem?_eq_some_iff.1 hz).1; have := hyf.1; omega
      simp only
      rw [splice_get _ _ _ _ _ rfl (by omega)]
      rw [List.append_assoc, List.getElem?_append, List.length_take, Nat.min_eq_left hi] at hp
      by_cases r1 : p < i
      · rw [if_pos r1, List.getElem?_take, if_pos r1] at hp
        rw [if_pos (idx_lt r1 hq)]
        obtain ⟨u, hu, ht⟩ := hcl p q y z hp hz
        exact ⟨u, hu, mono _ _ ht⟩
      · have e1 : i * sz ≤ p * sz := Nat.mul_le_mul_right _ (by omega)
        rw [if_neg r1, List.getElem?_append] at hp
        rw [if_neg (by omega)]
        by_cases r2 : p - i < ys.length
        · rw [if_pos r2] at hp
          obtain ⟨u, hu, ht⟩ := hy.told (p - i) q y z hp hz
          have e2 : p * sz = i * sz + (p - i) * sz := by rw [← Nat.add_mul]; congr 1; omega
          have e3 : (p - i) * sz + q < news.length := by rw [hnl]; exact idx_lt r2 hq
          rw [if_pos (by omega), show p * sz + q - i * sz = (p - i) * sz + q by omega]
          exact ⟨u, hu, mono _ _ ht⟩
        · rw [if_neg r2, List.getElem?_drop, show i + ys.length + (p - i - ys.length) = p by omega] at hp
          have e2 : (i + ys.length) * sz ≤ p * sz := Nat.mul_le_mul_right _ (by omega)
          rw [Nat.add_mul, ← hnl] at e2
          rw [if_neg (by omega)]
          obtain ⟨u, hu, ht⟩ := hcl p q y z hp hz
          exact ⟨u, hu, mono _ _ ht⟩
  · intro b' hb' hl c hbc
    obtain rfl := ids1.1 hb'
    exact ⟨.inr ⟨b', by simp [ids], by rw [hb], by rw [hb]; trivial, hbc⟩, fun b2 hb2 hne => absurd (ids1.1 hb2) hne⟩
  · intro O' hO hext _
    exact .t _ _ (.v _)
/-! ### copy -/
/-- What is copied: elements, how many there are, what is read; and when so many of them are told. -/
def srcA (H : Heap) (sz : Nat) (s : AV) : Option (List T × Nat × List Nat × (Nat → Prop)) :=
  match srcOf H sz s with
  | some (ys, R) => some (ys, ys.length, R, fun _ => True)
  | none => match s with
    | .sub b sz' i n => match lookH H b with
      | (_, .arr _ sz'' l _) => match Nat.beq sz' sz && Nat.beq sz'' sz with
        | true => some (l.drop i, n, [b], fun q => i + q ≤ l.length)
        | false => none
      | _ => none
    | _ => none
def evCopy (P : Program) (t : TypeId) (d s : AV) (H : Heap) (k : Kont) : Prop :=
  match P.underlying t with
  | some (.slice e) => (match sizN P e with
    | some sz => (match srcA H sz s with
      | some (ys, len, R, cond) => (match d with
        | .own b => match lookH H b with
          | (false, .row ty sz' l) => match Nat.beq sz' sz with
            | true => ∃ q : Nat, q = Nat.min len l.length ∧ cond q ∧ k (.int .i64 q) [(b, false, .row ty sz' (ys.take q ++ l.drop q))] (b :: R) []
            | false => False
          | _ => False
        | .sub b sz'' i n => match lookH H b with
          | (false, .row ty sz' l) => match Nat.beq sz' sz && Nat.beq sz'' sz with
            | true => ∃ q : Nat, q = Nat.min len n ∧ cond q ∧ k (.int .i64 q) [(b, false, .row ty sz' (l.take i ++ ys.take q ++ l.drop (i + q)))] (b :: R) []
            | false => False
          | (false, .arr ty sz' l N) => match Nat.beq sz' sz && Nat.beq sz'' sz with
            | true => ∃ q : Nat, q = Nat.min len n ∧ cond q ∧ i ≤ l.length ∧ i + q ≤ N ∧ k (.int .i64 q) [(b, false, .arr ty sz' (l.take i ++ ys.take q ++ l.drop (i + q)) N)] (b :: R) []
            | false => False
          | (false, .box ty cells) => match Nat.beq sz 1 && Nat.beq sz'' 1 && Nat.ble (i + n) cells.length with
            | true => (∀ y ∈ ys, y.one = true) ∧ ∃ q : Nat, q = Nat.min len n ∧ cond q ∧ plainL (cells.take i ++ (ys.take q).map .t ++ cells.drop (i + q)) fun cells => k (.int .i64 q) [(b, false, .box ty cells)] (b :: R) []
            | false => False
          | _ => False
        | _ => False)
      | none => False)
    | none => False)
  | _ => False
theorem cell_heap {w w' : World} (h : w'.heap = w.heap) (a : Addr) : w'.cell? a = w.cell? a := by unfold World.cell?; rw [h]
theorem firstCells_src {w : World} {O : Nat → Prop} {sz : Nat} {l : List T} {v : Value} {news : List Value} (h : Src w O sz l v news) {q : Nat} (hq : q ≤ l.length) : (∀ w' : World, w'.heap = w.heap → (Builtin.firstCells sz q v).run P w' = .ok (news.take (q * sz)).toArray w') ∧ (Builtin.lenOf v).run P w = .ok l.length w := by
  obtain ⟨A, c, rfl, hA⟩ := h.form
  refine ⟨fun w' hw => ?_, by simp [Builtin.lenOf]⟩
  have h1 : q * sz ≤ l.length * sz := Nat.mul_le_mul_right _ hq
  rcases hA with rfl | ⟨b, o', rfl, hc⟩
  · have hq0 : q = 0 := by simpa using hq
    subst hq0
    rw [Nat.zero_mul, List.take_zero]
    cases A with
    | none => simp [Builtin.firstCells]
    | some a => simpa using run_firstCells_some (P := P) w' sz 0 a _ c [] (by simp) (by simp)
  · refine run_firstCells_some w' sz q _ _ c _ (by rw [List.length_take, h.len]; omega) (fun j u hu => ?_)
    rw [add_plain, cell_heap hw]
    rw [List.getElem?_take] at hu
    split at hu
    · exact hc j u hu
    · cases hu
/-- What so many of them are. -/
structure SrcQ (P : Program) (w : World) (O : Nat → Prop) (sz q : Nat) (ys : List T) (len : Nat) (v : Value) (news : List Value) : Prop where
  tld : Tld w O sz ys news
  cnt : ys.length = q
  first : ∀ w' : World, w'.heap = w.heap → (Builtin.firstCells sz q v).run P w' = .ok news.toArray w'
  len : (Builtin.lenOf v).run P w = .ok len w
theorem srcA_told {H : Heap} {hf' : Hp} {sz : Nat} {x : AV} {ys : List T} {len : Nat} {R : List Nat} {cond : Nat → Prop} (h : srcA H sz x = some (ys, len, R, cond)) {q : Nat} (hq : q ≤ len) (hcond : cond q) {w0 : Bse} {X O0 D : Nat → Prop} {m : Nat → Option Value} {tf' : Nat → AV} {a : Act} {w : World} (hR : Rel w0 X O0 D m tf' hf' a w) (hh : ∀ b ∈ R, hf' b = lookH H b) {v : Value} (hv : HA m w (Own X m hf') x v) :
    ∃ news, SrcQ P w (Own X m hf') sz q (ys.take q) len v news := by
  unfold srcA at h
  split at h
  · rename_i ys' R' hs
    simp at h
    obtain ⟨rfl, rfl, rfl, rfl⟩ := h
    obtain ⟨news, hsrc⟩ := src_told hs hR hh hv
    obtain ⟨h1, h2⟩ := firstCells_src (P := P) hsrc hq
    exact ⟨_, hsrc.tld.take hq, by rw [List.length_take, Nat.min_eq_left hq], h1, h2⟩
  · split at h
    · rename_i b sz' i n _
      split at h
      · rename_i fz ty sz'' l N hb
        split at h
        · rename_i hbe
          simp only [Bool.and_eq_true] at hbe
          have e1 := Nat.eq_of_beq_eq_true hbe.1
          have e2 := Nat.eq_of_beq_eq_true hbe.2
          simp at h
          obtain ⟨rfl, rfl, rfl, rfl⟩ := h
          subst e1
          subst e2
          have h3 := hR.blk b
          rw [hh b (by simp), hb] at h3
          obtain ⟨g, cur, hm, hg, hcs, hlN, hNm, hfits, hcl⟩ := h3
          have hin : i + q ≤ l.length := hcond
          have hlen : ((l.drop i).take q).length = q := by rw [List.length_take, List.length_drop]; omega
          have hb1 : i * sz'' + q * sz'' ≤ N * sz'' := by rw [← Nat.add_mul]; exact Nat.mul_le_mul_right _ (by omega)
          have hcl' : cur.toList.length = N * sz'' := by simpa using hcs
          cases hv with
          | sub _ _ _ _ _ hx =>
          have tld : Tld w (Own X m hf') sz'' ((l.drop i).take q) ((cur.toList.drop (i * sz'')).take (q * sz'')) := by
            refine ⟨by rw [List.length_take, List.length_drop, hlen]; omega, fun x hx => hfits x (List.mem_of_mem_drop (List.mem_of_mem_take hx)), fun p r x y hx hy => ?_⟩
            rw [List.getElem?_take] at hx
            split at hx
            · rename_i hp
              rw [List.getElem?_drop] at hx
              obtain ⟨u, hu, ht⟩ := hcl (i + p) r x y hx hy
              have hr : r < sz'' := by have := (List.getElem?_eq_some_iff.1 hy).1; have := (hfits x (List.mem_of_getElem? hx)).1; omega
              refine ⟨u, ?_, ht⟩
              rw [List.getElem?_take, if_pos (idx_lt hp hr), List.getElem?_drop, ← Nat.add_assoc, ← Nat.add_mul]
              exact hu
            · cases hx
          rcases hx with ⟨rfl, ⟨A, c', rfl⟩, hnil⟩ | ⟨g', c', hc, rfl, hm' | ⟨n', c2, hm', hin', hcc⟩⟩
          · have q0 : q = 0 := by omega
            subst q0
            refine ⟨[], by simpa using tld, by simp, fun w' hw => ?_, by simp [Builtin.lenOf]⟩
            cases A with
            | none => simp [Builtin.firstCells]
            | some a => simpa using run_firstCells_some (P := P) w' sz'' 0 a _ c' [] (by simp) (by simp)
          · rw [hm] at hm'
            simp at hm'
            subst hm'
            refine ⟨_, tld, hlen, fun w' hw => run_firstCells_some w' sz'' q _ _ c' _ (by rw [List.length_take, List.length_drop]; omega) (fun j u hu => ?_), by simp [Builtin.lenOf]⟩
            rw [add_plain, cell_heap hw]
            rw [List.getElem?_take] at hu
            split at hu
            · rw [List.getElem?_drop] at hu
              unfold World.cell?
              simp only [hg]
              simpa using hu
            · cases hu
          · rw [hm] at hm'; cases hm'
        · cases h
      · cases h
    · cases h
theorem ok_copy {t t' : TypeId} {d s : Operand} {H : Heap} {k : Kont} (ho : o.op = .call { callee := .builtin .copy, args := #[d, s], argTypes := #[t, t'] }) {dA sA : AV} (h : evCopy P t dA sA H k) (hdA : ∀ (m : Nat → Option Value) (w : World) (O : Nat → Prop) (v : Value), HA m w O (opd tf d) v → HA m w O dA v) (hsA : ∀ (m : Nat → Option Value) (w : World) (O : Nat → Prop) (v : Value), HA m w O (opd tf s) v → HA m w O sA v) (hH : hf = lookH H) : ∃ v W R, OpLoc P o R tf hf v W [] ∧ k v W R [] := by
  have hop : ∀ tf', (∀ t ∈ tmpsOf o, tf' t = tf t) → ∀ z, z = d ∨ z = s → opd tf' z = opd tf z := fun tf' ht z hz => tmps_same ht (by rw [ho]; simp [Op.operands, Call.operands]; exact hz)
  subst hH
  unfold evCopy at h
  split at h
  · rename_i e hu
    split at h
    · rename_i sz he
      have hrun : ∀ (a : Act) (w w' : World) (A : Option Addr) (n c q : Nat) (vs : List Value) (ls : Nat), a.eval d = .slice A n c → (Builtin.lenOf (a.eval s)).run P w = .ok ls w → q = Nat.min ls n → (Builtin.firstCells sz q (a.eval s)).run P w = .ok vs.toArray w → (match A with | some x => (storeCells x vs).run P w = .ok () w' | none => w' = w) → (execOp a.eval o).run P w = .ok (.value (.int .i64 q)) w' := by
        intro a w w' A n c q vs ls hd hl hq hf hst
        subst hq
        unfold execOp
        rw [ho]
        cases A with
        | none => subst hst; simp [resolve, invoke, Go.builtin, Builtin.copy_, run_underlying hu, hd, hl, sizN_run he, hf]; rfl
        | some x => simp [resolve, invoke, Go.builtin, Builtin.copy_, run_underlying hu, hd, hl, sizN_run he, hf, hst]; rfl
      split at h
      · rename_i ys len R cond hsr
        -- a block's part: nothing is written, or what stands there is
        have part : ∀ (b i n q : Nat) (K K' : Blk) (hb : lookH H b = (false, K)) (hq : q = Nat.min len n) (hcond : cond q) (hsame : q = 0 → K' = K)
            (hsub : ∀ (m : Nat → Option Value) (w : World) (X : Nat → Prop) (hf' : Hp) (z : Value), HB m w (Own X m hf') b K → HA m w (Own X m hf') dA z → SubV m b sz i n z)
            (hwr : ∀ (tf' : Nat → AV) (hf' : Hp) (w0 : Bse) (X O0 D : Nat → Prop) (m : Nat → Option Value) (a : Act) (w : World) (g : Nat) (news : List Value), Rel w0 X O0 D m tf' hf' a w → hf' b = (false, K) → 0 < q → (m b = some (.pointer (some ⟨g, 0, none⟩)) ∨ ∃ n' c, m b = some (.slice (some ⟨g, 0, none⟩) n' c) ∧ i + n ≤ n') → Tld w (Own X m hf') sz (ys.take q) news → (ys.take q).length = q → (∀ x, o.dst = some x → x < a.tmps.size) →
              ∃ w', (storeCells ⟨g, i * sz, none⟩ news 0).run P w = .ok () w' ∧ Rel w0 X O0 (fun b => D b ∨ b ∈ ([] : List Nat)) m (upT tf' o.dst (.int .i64 q)) (upH hf' [(b, false, K')]) (a.put o.dst (.int .i64 q)) w'),
            OpLoc P o (b :: R) tf (lookH H) (.int .i64 q) [(b, false, K')] [] := by
          intro b i n q K K' hb hq hcond hsame hsub hwr
          refine ⟨fun b' hb' => .inl (by simp [ids] at hb'; simp [hb']), fun tf' hf' ht hh w0 X O0 D m a w Q hR hdd hN => ?_⟩
          have e1 := opd_told hR d
          have e2 := opd_told hR s
          rw [hop tf' ht d (by simp)] at e1
          rw [hop tf' ht s (by simp)] at e2
          replace e1 := hdA _ _ _ _ e1
          replace e2 := hsA _ _ _ _ e2
          have hhb : hf' b = (false, K) := by rw [hh b (by simp), hb]
          obtain ⟨news, hsq⟩ := srcA_told (P := P) hsr (q := q) (by rw [hq]; exact Nat.min_le_left _ _) hcond hR (fun b' hb' => hh b' (by simp [hb'])) e2
          have h3 := hR.blk b
          rw [hhb] at h3
          have hs := hsub m w X hf' _ h3 e1
          have none : q = 0 → ∀ A c, a.eval d = .slice A n c → o.wp P a w (fun a' w' => ∃ u m', a' = a.put o.dst u ∧ Rel w0 X O0 (fun b => D b ∨ b ∈ ([] : List Nat)) m' (upT tf' o.dst (.int .i64 q)) (upH hf' [(b, false, K')]) a' w') Q := by
            intro q0 A c hz
            have hn0 : news = [] := List.eq_nil_of_length_eq_zero (by rw [hsq.tld.len, hsq.cnt, q0, Nat.zero_mul])
            have hr := hrun a w w A n c q news len hz hsq.len hq (hsq.first w rfl) (by rw [hn0]; cases A <;> rfl)
            unfold Oper.wp
            rw [hr]
            refine ⟨_, m, rfl, ?_⟩
            rw [hsame q0]
            exact hR.again hhb hdd _
          rcases Nat.eq_zero_or_pos q with q0 | qp
          · rcases hs with ⟨hn0, ⟨A, c, hz⟩, _⟩ | ⟨g, c, hc, hz, hm⟩
            · exact none q0 A c (by rw [hn0]; exact hz)
            · exact none q0 _ c hz
          · rcases hs with ⟨hn0, _⟩ | ⟨g, c, hc, hz, hm⟩
            · have : q = 0 := by rw [hq, hn0]; exact Nat.min_eq_right (Nat.zero_le _)
              omega
            · obtain ⟨w', hst, hR'⟩ := hwr tf' hf' w0 X O0 D m a w g news hR hhb qp (hm.imp id fun ⟨n', c', h1, h2, _⟩ => ⟨n', c', h1, h2⟩) hsq.tld hsq.cnt hdd
              have hr := hrun a w w' _ n c q _ len hz hsq.len hq (hsq.first w rfl) hst
              unfold Oper.wp
              rw [hr]
              exact ⟨_, m, rfl, hR'⟩
        have rowc : ∀ (b ty i n q : Nat) (l : List T) (hb : lookH H b = (false, .row ty sz l)) (hq : q = Nat.min len n) (hcond : cond q), (∀ (m : Nat → Option Value) (w : World) (X : Nat → Prop) (hf' : Hp) (z : Value), HB m w (Own X m hf') b (.row ty sz l) → HA m w (Own X m hf') dA z → SubV m b sz i n z) → OpLoc P o (b :: R) tf (lookH H) (.int .i64 q) [(b, false, .row ty sz (l.take i ++ ys.take q ++ l.drop (i + q)))] [] := by
          intro b ty i n q l hb hq hcond hsub
          refine part b i n q _ _ hb hq hcond (fun q0 => by rw [q0]; simp) hsub ?_
          intro tf' hf' w0 X O0 D m a w g news hR hhb qp hm htl hql hdd
          have h3 := hR.blk b
          rw [hhb] at h3
          obtain ⟨v', xs, hm', how, _⟩ := h3
          rcases hm with hm | ⟨n', c2, hm, hin⟩
          · rw [hm] at hm'
            simp at hm'
            subst hm'
            rcases how.2 with ⟨e, _⟩ | ⟨_, _, _, e, _⟩ <;> cases e
          · rw [hm] at hm'
            simp at hm'
            have hnl : n' = l.length := by
              rcases how.2 with ⟨e, _⟩ | ⟨_, _, _, e, _⟩
              · rw [← hm'] at e; cases e
              · rw [← hm'] at e; simp at e; exact e.2.1
            have hqn : q ≤ n := by rw [hq]; exact Nat.min_le_right _ _
            obtain ⟨w', hst, hR'⟩ := hR.splice (P := P) (i := i) hhb hm htl (by rw [hql]; omega) hdd (.int .i64 q)
            rw [hql] at hR'
            exact ⟨w', hst, hR'⟩
        split at h
        · rename_i b
          split at h
          · rename_i ty sz' l hb
            split at h
            · rename_i hbe
              have := Nat.eq_of_beq_eq_true hbe
              subst this
              obtain ⟨q, hq, hcond, h⟩ := h
              have key := rowc b ty 0 l.length q l hb hq hcond (fun m w X hf' z h3 hz => by
                have hm := hz.own_eq
                obtain ⟨v, xs, hv, how, _⟩ := h3
                rw [hm] at hv
                simp at hv
                rcases how.2 with ⟨h5, h6⟩ | ⟨g, cap, cur, h5, _, _, hcap, _⟩
                · exact .inl ⟨h6, ⟨none, 0, by rw [hv, h5]⟩, fun _ => by rw [hv, h5]⟩
                · exact .inr ⟨g, cap, hcap, by rw [hv, h5, Nat.zero_mul], .inr ⟨_, _, by rw [hm, hv, h5], by omega, by omega⟩⟩)
              rw [List.take_zero, List.nil_append, Nat.zero_add] at key
              exact ⟨_, _, _, key, h⟩
            · exact h.elim
          · exact h.elim
        · rename_i b sz'' i n
          split at h
          · rename_i ty sz' l hb
            split at h
            · rename_i hbe
              simp only [Bool.and_eq_true] at hbe
              have e1 := Nat.eq_of_beq_eq_true hbe.1
              have e2 := Nat.eq_of_beq_eq_true hbe.2
              subst e1
              subst e2
              obtain ⟨q, hq, hcond, h⟩ := h
              refine ⟨_, _, _, rowc b ty i n q l hb hq hcond (fun m w X hf' z h3 hz => ?_), h⟩
              cases hz with
              | sub _ _ _ _ _ hz => exact hz
            · exact h.elim
          · rename_i ty sz' l N hb
            split at h
            · rename_i hbe
              simp only [Bool.and_eq_true] at hbe
              have e1 := Nat.eq_of_beq_eq_true hbe.1
              have e2 := Nat.eq_of_beq_eq_true hbe.2
              subst e1
              subst e2
              obtain ⟨q, hq, hcond, hi, hiN, h⟩ := h
              refine ⟨_, _, _, part b i n q _ _ hb hq hcond (fun q0 => by rw [q0]; simp) (fun m w X hf' z h3 hz => ?_) ?_, h⟩
              · cases hz with
                | sub _ _ _ _ _ hz => exact hz
              · intro tf' hf' w0 X O0 D m a w g news hR hhb qp hm htl hql hdd
                rcases hm with hm | ⟨n', c2, hm, hin⟩
                · obtain ⟨w', hst, hR'⟩ := hR.spliceArr (P := P) (i := i) hhb hm htl hi (by rw [hql]; exact hiN) hdd (.int .i64 q)
                  rw [hql] at hR'
                  exact ⟨w', hst, hR'⟩
                · have h3 := hR.blk b
                  rw [hhb] at h3
                  obtain ⟨g', cur, hm', _⟩ := h3
                  rw [hm] at hm'; cases hm'
            · exact h.elim
          · rename_i ty cells hb
            split at h
            · rename_i hbe
              simp only [Bool.and_eq_true] at hbe
              have e1 := Nat.eq_of_beq_eq_true hbe.1.1
              have e2 := Nat.eq_of_beq_eq_true hbe.1.2
              have e3 := Nat.le_of_ble_eq_true hbe.2
              subst e1
              subst e2
              obtain ⟨hys, q, hq, hcond, h⟩ := h
              rw [plainL_iff] at h
              refine ⟨_, _, _, part b i n q _ _ hb hq hcond (fun q0 => by rw [q0]; simp) (fun m w X hf' z h3 hz => ?_) ?_, h⟩
              · cases hz with
                | sub _ _ _ _ _ hz => exact hz
              · intro tf' hf' w0 X O0 D m a w g news hR hhb qp hm htl hql hdd
                have hqn : q ≤ n := by rw [hq]; exact Nat.min_le_right _ _
                rcases hm with hm | ⟨n', c2, hm, _⟩
                · have hones : ∀ y ∈ (ys.take q).map AV.t, y.one = true := by
                    intro y hy
                    obtain ⟨z, hz, rfl⟩ := List.mem_map.1 hy
                    exact hys z (List.mem_of_mem_take hz)
                  obtain ⟨w', hst, hR'⟩ := hR.spliceBox (P := P) (ys := (ys.take q).map .t) (news := news) (i := i) hhb hm hones (by rw [htl.len, List.length_map]; omega) (fun p y u hy hu => by
                    rw [List.getElem?_map] at hy
                    obtain ⟨z, hz, rfl⟩ := Option.map_eq_some_iff.1 hy
                    obtain ⟨u', hu', ht⟩ := htl.told p 0 z z hz (by rw [one_cells (hys z (List.mem_of_mem_take (List.mem_of_getElem? hz)))]; rfl)
                    rw [Nat.add_zero, Nat.mul_one p, hu] at hu'
                    simp at hu'
                    subst hu'
                    exact .t _ _ ht) (by rw [List.length_map, hql]; omega) hdd (.int .i64 q)
                  rw [List.length_map, hql] at hR'
                  exact ⟨w', by rw [Nat.mul_one]; exact hst, hR'⟩
                · have h3 := hR.blk b
                  rw [hhb] at h3
                  obtain ⟨g', vs, hm', _⟩ := h3
                  rw [hm] at hm'; cases hm'
            · exact h.elim
          · exact h.elim
        · exact h.elim
      · exact h.elim
    · exact h.elim
  · exact h.elim
/-! ### clear -/
def zeroT (z : Value) : T := mkT (z.cells.toList.map .v)
def evClear (P : Program) (t : TypeId) (d : AV) (H : Heap) (k : Kont) : Prop :=
  match P.underlying t with
  | some (.slice e) => (match P.info? e with
    | some i => match i.zero with
      | some z => match Nat.beq z.cells.size i.size && Nat.blt 0 i.size && z.cells.toList.all Value.oneCell' with
        | true => (match d with
          | .sub b sz i' n => match lookH H b with
            | (false, .row ty sz' l) => match Nat.beq sz' i.size && Nat.beq sz i.size with
              | true => k (.t (.v (.tuple #[]))) [(b, false, .row ty sz' (l.take i' ++ List.replicate n (zeroT z) ++ l.drop (i' + n)))] [b] []
              | false => False
            | _ => False
          | _ => False)
        | false => False
      | none => False
    | none => False)
  | _ => False
theorem zero_get {z : Value} {sz n i j : Nat} {y : Value} (hz : z.cells.size = sz) (hi : i < n) (hy : z.cells.toList[j]? = some y) : (Builtin.zeroCells z.cells n).toList[i * sz + j]? = some y := by
  have hj : j < sz := by have := (List.getElem?_eq_some_iff.1 hy).1; simp at this; omega
  have h1 : i * sz + j < n * sz := idx_lt hi hj
  simp only [Builtin.zeroCells, hz, Array.toList_map, Array.toList_range, List.getElem?_map, List.getElem?_range h1, Option.map_some]
  have h2 : (i * sz + j) % sz = j := by rw [Nat.mul_comm, Nat.mul_add_mod, Nat.mod_eq_of_lt hj]
  rw [h2]
  have h3 : j < z.cells.size := by omega
  rw [getElem!_pos z.cells j h3]
  simp only [Array.getElem?_toList] at hy
  rw [Array.getElem?_eq_getElem h3] at hy
  exact hy
theorem zero_tld {w : World} {O : Nat → Prop} {z : Value} {sz n : Nat} (hz : z.cells.size = sz) (h1 : ∀ y ∈ z.cells.toList, y.oneCell' = true) : Tld w O sz (List.replicate n (zeroT z)) (Builtin.zeroCells z.cells n).toList := by
  have hc : (zeroT z).cells = z.cells.toList.map .v := mkT_cells (fun y hy => by
    obtain ⟨u, hu, rfl⟩ := List.mem_map.1 hy
    exact h1 u hu)
  refine ⟨by simp [Builtin.zeroCells, hz], fun x hx => ?_, fun i j x y hx hy => ?_⟩
  · rw [List.eq_of_mem_replicate hx, T.fits, hc]
    exact ⟨by simpa using hz, fun y hy => by obtain ⟨u, hu, rfl⟩ := List.mem_map.1 hy; exact h1 u hu⟩
  · rw [List.getElem?_replicate] at hx
    split at hx
    · rename_i hi
      simp at hx
      subst hx
      rw [hc, List.getElem?_map] at hy
      obtain ⟨u, hu, rfl⟩ := Option.map_eq_some_iff.1 hy
      exact ⟨u, zero_get hz hi hu, .v _⟩
    · cases hx
theorem ok_clear {t : TypeId} {d : Operand} {H : Heap} {k : Kont} (ho : o.op = .call { callee := .builtin .clear, args := #[d], argTypes := #[t] }) (h : evClear P t (opd tf d) H k) (hH : hf = lookH H) : ∃ v W R, OpLoc P o R tf hf v W [] ∧ k v W R [] := by
  have hop : ∀ tf', (∀ t ∈ tmpsOf o, tf' t = tf t) → opd tf' d = opd tf d := fun tf' ht => tmps_same ht (by rw [ho]; simp [Op.operands, Call.operands])
  subst hH
  unfold evClear at h
  split at h
  · rename_i e hu
    split at h
    · rename_i i hi
      split at h
      · rename_i z hz
        split at h
        · rename_i hc
          simp only [Bool.and_eq_true] at hc
          obtain ⟨⟨c1, c2⟩, c3⟩ := hc
          have c1 := Nat.eq_of_beq_eq_true c1
          have c2 : 0 < i.size := Nat.le_of_ble_eq_true c2
          have c3 := List.all_eq_true.1 c3
          split at h
          · rename_i b sz i' n hx
            split at h
            · rename_i ty sz' l hb
              split at h
              · rename_i hbe
                simp only [Bool.and_eq_true] at hbe
                have e1 := Nat.eq_of_beq_eq_true hbe.1
                have e2 := Nat.eq_of_beq_eq_true hbe.2
                subst e1
                subst e2
                refine ⟨_, _, _, ⟨fun b' hb' => .inl (by simpa [ids] using hb'), fun tf' hf' ht hh w0 X O0 D m a w Q hR hdd hN => ?_⟩, h⟩
                have e1 := opd_told hR d
                rw [hop tf' ht, hx] at e1
                have hhb : hf' b = (false, .row ty i.size l) := by rw [hh b (by simp), hb]
                have h3 := hR.blk b
                rw [hhb] at h3
                generalize hzz : a.eval d = zz at e1
                cases e1 with
                | sub _ _ _ _ _ e1 =>
                rcases e1 with ⟨rfl, ⟨A, c, rfl⟩, hnil⟩ | ⟨g, c, hc, rfl, hm⟩
                · have hr : (execOp a.eval o).run P w = .ok (.value (.tuple #[])) w := by
                    unfold execOp
                    rw [ho]
                    cases A <;> simp [resolve, invoke, Go.builtin, Builtin.clear_, run_underlying hu, hzz]
                  unfold Oper.wp
                  rw [hr]
                  refine ⟨_, m, rfl, ?_⟩
                  have e : l.take i' ++ List.replicate 0 (zeroT z) ++ l.drop (i' + 0) = l := by simp
                  rw [e]
                  exact hR.again hhb hdd _
                · rcases hm with hm | ⟨n', c2', hm, hin, hcc⟩
                  · obtain ⟨v', xs, hm', how, _⟩ := h3
                    rw [hm] at hm'
                    simp at hm'
                    subst hm'
                    rcases how.2 with ⟨e, _⟩ | ⟨_, _, _, e, _⟩ <;> cases e
                  · have hnl : n' = l.length := by
                      obtain ⟨v', xs, hm', how, _⟩ := h3
                      rw [hm] at hm'
                      simp at hm'
                      rcases how.2 with ⟨e, _⟩ | ⟨_, _, _, e, _⟩
                      · rw [← hm'] at e; cases e
                      · rw [← hm'] at e; simp at e; exact e.2.1
                    obtain ⟨w', hst, hR'⟩ := hR.splice (P := P) (i := i') hhb hm (zero_tld (n := n) c1 c3) (by rw [List.length_replicate]; omega) hdd (.tuple #[])
                    rw [List.length_replicate] at hR'
                    have hr : (execOp a.eval o).run P w = .ok (.value (.tuple #[])) w' := by
                      unfold execOp
                      rw [ho]
                      cases n with
                      | zero =>
                        have h0 : (Builtin.zeroCells z.cells 0).toList = [] := by simp [Builtin.zeroCells]
                        rw [h0] at hst
                        have hw : w = w' := by simpa [storeCells] using hst
                        subst hw
                        simp [resolve, invoke, Go.builtin, Builtin.clear_, run_underlying hu, hzz]
                      | succ n =>
                        simp [resolve, invoke, Go.builtin, Builtin.clear_, run_underlying hu, hzz, zeroValue, typeInfo, hi, hz, hst]
                    unfold Oper.wp
                    rw [hr]
                    exact ⟨_, m, rfl, hR'⟩
              · exact h.elim
            · exact h.elim
          · exact h.elim
        · exact h.elim
      · exact h.elim
    · exact h.elim
  · exact h.elim
/-! ### records of whole numbers held together -/
def intsT : List T → Option (List Int × List IntKind)
  | [] => some ([], [])
  | .v (.int κ n) :: l => match intsT l with
    | some (r, s) => some (n :: r, κ :: s)
    | none => none
  | _ => none
def intsA : List AV → Option (List Int × List IntKind)
  | [] => some ([], [])
  | .t (.v (.int κ n)) :: l => match intsA l with
    | some (r, s) => some (n :: r, κ :: s)
    | none => none
  | _ => none
def intsOf : AV → Option (List Int × List IntKind)
  | .t (.agg l) => intsT l
  | .agg l => intsA l
  | _ => none
def mkInts : List Int → List IntKind → List Value
  | n :: r, κ :: s => .int κ n :: mkInts r s
  | _, _ => []
theorem intsT_told {w : World} {O : Nat → Prop} : ∀ {l : List T} {r : List Int} {s : List IntKind} {vs : List Value}, intsT l = some (r, s) → vs.length = l.length → (∀ (i : Nat) x y, l[i]? = some x → vs[i]? = some y → HT w O x y) → vs = mkInts r s ∧ r.length = l.length ∧ s.length = l.length
  | [], r, s, vs, h, hl, hv => by simp [intsT] at h; obtain ⟨rfl, rfl⟩ := h; simp at hl; subst hl; exact ⟨rfl, rfl, rfl⟩
  | x :: l, r, s, [], h, hl, hv => by cases hl
  | x :: l, r, s, v :: vs, h, hl, hv => by
    have h0 := hv 0 x v rfl rfl
    cases x with
    | v xv =>
      cases xv with
      | int κ n =>
        unfold intsT at h
        split at h
        · rename_i r' s' hs
          simp at h
          obtain ⟨rfl, rfl⟩ := h
          obtain ⟨e1, e2, e3⟩ := intsT_told hs (by simpa using hl) (fun i x y hx hy => hv (i + 1) x y (by simpa using hx) (by simpa using hy))
          cases h0
          exact ⟨by rw [e1]; rfl, by simp [e2], by simp [e3]⟩
        · cases h
      | _ => cases h
    | _ => cases h
theorem intsA_told {m : Nat → Option Value} {w : World} {O : Nat → Prop} : ∀ {l : List AV} {r : List Int} {s : List IntKind} {vs : List Value}, intsA l = some (r, s) → vs.length = l.length → (∀ (i : Nat) x y, l[i]? = some x → vs[i]? = some y → HA m w O x y) → vs = mkInts r s ∧ r.length = l.length ∧ s.length = l.length
  | [], r, s, vs, h, hl, hv => by simp [intsA] at h; obtain ⟨rfl, rfl⟩ := h; simp at hl; subst hl; exact ⟨rfl, rfl, rfl⟩
  | x :: l, r, s, [], h, hl, hv => by cases hl
  | x :: l, r, s, v :: vs, h, hl, hv => by
    have h0 := hv 0 x v rfl rfl
    cases x with
    | t xt =>
      cases xt with
      | v xv =>
        cases xv with
        | int κ n =>
          unfold intsA at h
          split at h
          · rename_i r' s' hs
            simp at h
            obtain ⟨rfl, rfl⟩ := h
            obtain ⟨e1, e2, e3⟩ := intsA_told hs (by simpa using hl) (fun i x y hx hy => hv (i + 1) x y (by simpa using hx) (by simpa using hy))
            have := h0.v_eq
            subst this
            exact ⟨by rw [e1]; rfl, by simp [e2], by simp [e3]⟩
          · cases h
        | _ => cases h
      | _ => cases h
    | _ => cases h
theorem intsOf_told {m : Nat → Option Value} {w : World} {O : Nat → Prop} {x : AV} {v : Value} {r : List Int} {s : List IntKind} (h : intsOf x = some (r, s)) (hv : HA m w O x v) : v = .agg (mkInts r s).toArray ∧ r.length = s.length := by
  unfold intsOf at h
  split at h
  · obtain ⟨vs, rfl, hl, hh⟩ := hv.t_ht.list_of_agg
    obtain ⟨e1, e2, e3⟩ := intsT_told h hl hh
    exact ⟨by rw [e1], by omega⟩
  · obtain ⟨vs, rfl, hl, hh⟩ := hv.list_of_agg
    obtain ⟨e1, e2, e3⟩ := intsA_told h hl hh
    exact ⟨by rw [e1], by omega⟩
  · cases h
def isIntD : Option TypeDesc → Bool
  | some (.int _) => true
  | _ => false
def intFields (P : Program) : List Field → Nat → Bool
  | [], _ => true
  | f :: fs, i => !(f.name == "_") && Nat.beq f.offset i && isIntD (P.underlying f.type) && intFields P fs (i + 1)
def sameKs : List IntKind → List IntKind → Bool
  | [], [] => true
  | a :: l, b :: m => decide (a = b) && sameKs l m
  | _, _ => false
theorem sameKs_eq : ∀ {l m : List IntKind}, sameKs l m = true → l = m
  | [], [], _ => rfl
  | a :: l, b :: m, h => by unfold sameKs at h; simp only [Bool.and_eq_true, decide_eq_true_eq] at h; rw [h.1, sameKs_eq h.2]
  | [], _ :: _, h => by cases h
  | _ :: _, [], h => by cases h
/-- == of two records of whole numbers. -/
def evEqR (P : Program) (op : BinOp) (t : TypeId) (x y : AV) (k : Kont) : Prop :=
  match P.underlying t with
  | some (.struct fs) => (match intsOf x, intsOf y with
    | some (a, s), some (b, s') => (match sameKs s s' && Nat.beq fs.toList.length s.length && intFields P fs.toList 0 && !(P.stoodInHeld t) with
      | true => P.eqGuardType P.depth t = false ∧ (match op with
        | .eql => ∀ c, c = decide (a = b) → k (.bool c) [] [] []
        | .neq => ∀ c, c = (!decide (a = b)) → k (.bool c) [] [] []
        | _ => False)
      | false => False)
    | _, _ => False)
  | _ => False
theorem mkInts_get {a : List Int} {s : List IntKind} {i : Nat} {n : Int} {κ : IntKind} (h1 : a[i]? = some n) (h2 : s[i]? = some κ) : (mkInts a s)[i]? = some (.int κ n) := by
  induction a generalizing s i with
  | nil => simp at h1
  | cons x a ih =>
    cases s with
    | nil => simp at h2
    | cons y s =>
      cases i with
      | zero => simp at h1 h2; subst h1; subst h2; rfl
      | succ i => simpa [mkInts] using ih (by simpa using h1) (by simpa using h2)
theorem eqFields_run {w : World} {a b : List Int} {s : List IntKind} {d : Nat} (hab : a.length = b.length) (has : a.length = s.length) : ∀ (fs : List Field) (i : Nat), intFields P fs i = true → i + fs.length = a.length → (Op.eqFields (d + 1) (mkInts a s).toArray (mkInts b s).toArray fs).run P w = .ok (decide (a.drop i = b.drop i)) w
  | [], i, _, h => by
    rw [List.drop_of_length_le (by simp at h; omega), List.drop_of_length_le (by simp at h; omega)]
    simp [Op.eqFields]
  | f :: fs, i, hf, h => by
    unfold intFields at hf
    simp only [Bool.and_eq_true, Bool.not_eq_true'] at hf
    obtain ⟨⟨⟨h1, h2⟩, h3⟩, h4⟩ := hf
    have h2 := Nat.eq_of_beq_eq_true h2
    have hn : f.name ≠ "_" := fun e => by rw [e] at h1; simp at h1
    obtain ⟨κ', hu⟩ : ∃ κ, P.underlying f.type = some (.int κ) := by
      unfold isIntD at h3
      split at h3
      · rename_i κ hk; exact ⟨κ, hk⟩
      · cases h3
    have hi : i < a.length := by simp at h; omega
    have hib : i < b.length := by omega
    have his : i < s.length := by omega
    have ih := eqFields_run (w := w) (d := d) hab has fs (i + 1) h4 (by simp at h; omega)
    have part : ∀ (c : List Int) (hc : i < c.length), (Go.part f.type (mkInts c s).toArray f.offset).run P w = .ok (.int s[i] c[i]) w := fun c hc => by
      have hag : (isAgg f.type).run P w = .ok false w := by simp [isAgg, run_underlying hu]
      have hg := mkInts_get (List.getElem?_eq_getElem hc) (List.getElem?_eq_getElem his)
      simp [Go.part, hag, h2, hg]
    simp only [Op.eqFields, if_pos hn, Sem.run_bind, part a hi, part b hib, Result.andThen_ok, run_equalIn_int w d f.type s[i] κ' a[i] b[i] hu]
    rw [List.drop_eq_getElem_cons hi, List.drop_eq_getElem_cons hib]
    by_cases e : a[i] = b[i]
    · have : (a[i] == b[i]) = true := by simpa using e
      rw [this]
      simp only [Bool.not_true, Bool.false_eq_true, if_false, ih, List.cons.injEq, e, true_and]
    · have : (a[i] == b[i]) = false := by simpa using e
      rw [this]
      simp only [Bool.not_false, if_true, Sem.run_pure, List.cons.injEq, e, false_and, decide_false]
theorem ok_eqR {op : BinOp} {t t' : TypeId} {x y : Operand} {k : Kont} (ho : o.op = .binOp op t x y t') (h : evEqR P op t (opd tf x) (opd tf y) k) : ∃ v, OpLoc P o [] tf hf v [] [] ∧ k v [] [] [] := by
  have hop : ∀ tf', (∀ t ∈ tmpsOf o, tf' t = tf t) → ∀ z, z = x ∨ z = y → opd tf' z = opd tf z := fun tf' ht z hz => tmps_same ht (by rw [ho]; simp [Op.operands]; exact hz)
  unfold evEqR at h
  split at h
  · rename_i fs hu
    split at h
    · rename_i a s b s' ha hb
      split at h
      · rename_i hc
        simp only [Bool.and_eq_true, Bool.not_eq_true'] at hc
        obtain ⟨⟨⟨c1, c2⟩, c3⟩, c4⟩ := hc
        obtain ⟨c5, h⟩ := h
        have c1 := sameKs_eq c1
        subst c1
        have c2 := Nat.eq_of_beq_eq_true c2
        have main : ∀ (u : Value), (op = .eql ∧ u = .bool (decide (a = b)) ∨ op = .neq ∧ u = .bool (!decide (a = b))) → OpLoc P o [] tf hf (.t (.v u)) [] [] := by
          intro u hu'
          refine loc_val fun tf' hf' ht => .val fun w0 X O0 D m aa w hR => ⟨u, ?_, .t _ _ (.v u)⟩
          have h1 := opd_told hR x
          have h2 := opd_told hR y
          rw [hop tf' ht x (by simp)] at h1
          rw [hop tf' ht y (by simp)] at h2
          obtain ⟨e1, l1⟩ := intsOf_told ha h1
          obtain ⟨e2, l2⟩ := intsOf_told hb h2
          have hfo : P.fieldsOf t = fs := by unfold Program.fieldsOf; rw [hu]
          have he : (Op.equalIn 10000 t (.agg (mkInts a s).toArray) (.agg (mkInts b s).toArray)).run P w = .ok (decide (a = b)) w := by
            have := run_equalIn_struct (P := P) w 9999 t (mkInts a s).toArray (mkInts b s).toArray (by rw [hfo]; exact hu) c4
            rw [this, hfo]
            have := eqFields_run (P := P) (w := w) (a := a) (b := b) (s := s) (d := 9998) (by omega) l1 fs.toList 0 c3 (by omega)
            simpa using this
          unfold execOp
          rw [ho]
          simp only
          have hg := fun op => run_eqGuard_agg (P := P) w op t x y (mkInts a s).toArray (mkInts b s).toArray c5
          rcases hu' with ⟨rfl, rfl⟩ | ⟨rfl, rfl⟩
          · simp [e1, e2, hg, run_eql_struct, he]
          · simp [e1, e2, hg, run_neq_struct, he]
        split at h
        · exact ⟨_, main _ (.inl ⟨rfl, rfl⟩), h _ rfl⟩
        · exact ⟨_, main _ (.inr ⟨rfl, rfl⟩), h _ rfl⟩
        · exact h.elim
      · exact h.elim
    · exact h.elim
  · exact h.elim
end
end Go.YtbbcnmfmncgffaaE
