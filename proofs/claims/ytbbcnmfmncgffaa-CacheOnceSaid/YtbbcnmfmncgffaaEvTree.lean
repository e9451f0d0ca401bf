/-
  Values as data: what lies in blocks of one's own is told, and may not be written any more.
  Written by hand for this claim's session.
-/
import Derived.Test.YtbbcnmfmncgffaaEvMake
namespace Go.YtbbcnmfmncgffaaE
open Go.RowKit
set_option linter.unusedVariables false
set_option linter.unusedSimpArgs false
def mapO {α β : Type} (f : α → Option β) : List α → Option (List β)
  | [] => some []
  | x :: l => match f x with
    | some y => match mapO f l with
      | some ys => some (y :: ys)
      | none => none
    | none => none
theorem mapO_spec {α β : Type} {f : α → Option β} : ∀ {l : List α} {l' : List β}, mapO f l = some l' → l'.length = l.length ∧ ∀ (i : Nat) x y, l[i]? = some x → l'[i]? = some y → f x = some y
  | [], l', h => by simp [mapO] at h; subst h; exact ⟨rfl, fun i x y hx => by simp at hx⟩
  | x :: l, l', h => by
    unfold mapO at h
    split at h
    · rename_i y hy
      split at h
      · rename_i ys hys
        simp at h
        subst h
        obtain ⟨h1, h2⟩ := mapO_spec hys
        refine ⟨by simp [h1], fun i a b ha hb => ?_⟩
        cases i with
        | zero => simp at ha hb; subst ha; subst hb; exact hy
        | succ i => exact h2 i a b (by simpa using ha) (by simpa using hb)
      · cases h
    · cases h
def toT (hf : Hp) : Nat → AV → Option T
  | 0, _ => none
  | n + 1, x => match x with
    | .t x => some x
    | .own b => match hf b with
      | (_, .row _ sz l) => some (.sl sz l)
      | _ => none
    | .ptr b off => match hf b with
      | (_, .box _ cells) => match mapO (toT hf n) (cells.drop off) with
        | some l => some (.pt l)
        | none => none
      | _ => none
    | .sub b sz i c => match hf b with
      | (_, .row _ sz' l) => match Nat.beq sz' sz with
        | true => some (.sl sz ((l.drop i).take c))
        | false => none
      | (_, .box _ cells) => match Nat.beq sz 1 && Nat.ble (i + c) cells.length with
        | true => match mapO (toT hf n) ((cells.drop i).take c) with
          | some l => some (.sl sz l)
          | none => none
        | false => none
      | _ => none
    | .agg l => match mapO (toT hf n) l with
      | some l => some (.agg l)
      | none => none
    | .tuple l => match mapO (toT hf n) l with
      | some l => some (.tuple l)
      | none => none
    | .iface t x => match toT hf n x with
      | some x => some (.iface t x)
      | none => none
    | .fn f a c => match mapO (toT hf n) a, mapO (toT hf n) c with
      | some a, some c => some (.fn f a c)
      | _, _ => none
    | _ => none
/-- The blocks that are seen. -/
def reach (hf : Hp) : Nat → AV → List Nat
  | 0, _ => []
  | n + 1, x => match x with
    | .own b => [b]
    | .ptr b off => match hf b with
      | (_, .box _ cells) => b :: (cells.drop off).flatMap (reach hf n)
      | _ => [b]
    | .sub b _ i c => match hf b with
      | (_, .box _ cells) => b :: ((cells.drop i).take c).flatMap (reach hf n)
      | _ => [b]
    | .agg l => l.flatMap (reach hf n)
    | .tuple l => l.flatMap (reach hf n)
    | .iface _ x => reach hf n x
    | .fn _ a c => a.flatMap (reach hf n) ++ c.flatMap (reach hf n)
    | _ => []
theorem toT_one {hf : Hp} {n : Nat} {x : AV} {t : T} (h : toT hf n x = some t) (h1 : x.one = true) : t.one = true := by
  cases n with
  | zero => cases h
  | succ n =>
    unfold toT at h
    cases x with
    | un => cases h1
    | t x => simp at h; subst h; exact h1
    | own b => simp only at h; split at h <;> simp at h; subst h; rfl
    | ptr b off => simp only at h; split at h <;> (try split at h) <;> simp at h; subst h; rfl
    | rp => cases h
    | ab => cases h
    | fsub => cases h
    | sub b sz i c => simp only at h; split at h <;> (try split at h) <;> (try split at h) <;> simp at h <;> (subst h; rfl)
    | agg => cases h1
    | tuple => cases h1
    | iface t x => simp only at h; split at h <;> simp at h; subst h; rfl
    | fn f a c => simp only at h; split at h <;> simp at h; subst h; rfl
theorem toT_told {hf : Hp} {m : Nat → Option Value} {w : World} {O O' : Nat → Prop} (hB : ∀ b, HB m w O b (hf b).2) (hO : ∀ c, O' c → O c) : ∀ (n : Nat) (x : AV) (t : T) (v : Value), toT hf n x = some t → (∀ b ∈ reach hf n x, ∀ c, bk m b = some c → ¬ O' c) → HA m w O x v → HT w O' t v
  | 0, x, t, v, h, _, _ => by cases h
  | n + 1, x, t, v, h, hr, hx => by
    have ih := toT_told hB hO n
    have listed : ∀ (l : List AV) (l' : List T) (vs : List Value), mapO (toT hf n) l = some l' → (∀ b ∈ l.flatMap (reach hf n), ∀ c, bk m b = some c → ¬ O' c) → vs.length = l.length → (∀ (i : Nat) x y, l[i]? = some x → vs[i]? = some y → HA m w O x y) →
        vs.length = l'.length ∧ ∀ (i : Nat) x y, l'[i]? = some x → vs[i]? = some y → HT w O' x y := by
      intro l l' vs hm hr hl hv
      obtain ⟨h1, h2⟩ := mapO_spec hm
      refine ⟨by omega, fun i x y hx hy => ?_⟩
      have hi : i < l.length := by have := (List.getElem?_eq_some_iff.1 hy).1; omega
      have hxi : l[i]? = some l[i] := List.getElem?_eq_getElem hi
      exact ih l[i] x y (h2 i _ _ hxi hx) (fun b hb => hr b (List.mem_flatMap.2 ⟨l[i], List.getElem_mem hi, hb⟩)) (hv i _ _ hxi hy)
    cases x with
    | un => cases h
    | t x => simp [toT] at h; subst h; exact hx.t_ht.mono (Keep.refl _ _) (fun c hc => .inl (hO c hc))
    | rp => cases h
    | ab => cases h
    | fsub => cases h
    | sub b sz i c =>
      unfold toT at h
      unfold reach at hr
      simp only at h hr
      cases hx with
      | sub _ _ _ _ _ hx =>
      have h2 := hB b
      split at h
      · rename_i fz ty sz' l hb
        rw [hb] at h2 hr
        simp only at hr
        split at h
        · rename_i hs
          have hs := Nat.eq_of_beq_eq_true hs
          subst hs
          simp at h
          subst h
          obtain ⟨v', xs, hm, how, hfit, hcl⟩ := h2
          rcases hx with ⟨rfl, ⟨A, c', rfl⟩, hnil⟩ | ⟨g, c', hc, rfl, hm' | ⟨n', c2, hm', hin, hcc⟩⟩
          · rw [List.take_zero]; exact .nil _ _ _
          · rw [hm] at hm'
            simp at hm'
            subst hm'
            rcases how.2 with ⟨e, _⟩ | ⟨_, _, _, e, _⟩ <;> cases e
          · rw [hm] at hm'
            simp at hm'
            subst hm'
            rcases how.2 with ⟨e, _⟩ | ⟨g', cap, cur, e, _, hg, hcap, _⟩
            · cases e
            simp only [Value.slice.injEq, Option.some.injEq, Addr.mk.injEq, and_true] at e
            obtain ⟨rfl, hn', _⟩ := e
            subst hn'
            have hO' : ¬ O' g := hr b (by simp) g (by simp [bk, hm, blockOf])
            have hlen : ((l.drop i).take c).length = c := by rw [List.length_take, List.length_drop]; omega
            have key := HT.sl (w := w) (O := O') sz' ((l.drop i).take c) g (i * sz') c' (fun q => xs.getD (i * sz' + q) undef) hO' (Array.getElem?_eq_some_iff.1 hg).1 (by rw [hlen]; exact hc) (fun x hx => hfit x (List.mem_of_mem_drop (List.mem_of_mem_take hx))) ?_ ?_
            · rw [hlen] at key; exact key
            · intro p q hp hq
              rw [hlen] at hp
              have hlt : i * sz' + (p * sz' + q) < l.length * sz' := by
                have : (i + p) * sz' + q < l.length * sz' := by
                  calc (i + p) * sz' + q < (i + p) * sz' + sz' := by omega
                    _ = (i + p + 1) * sz' := by rw [Nat.add_mul (i + p)]; omega
                    _ ≤ l.length * sz' := Nat.mul_le_mul_right _ (by omega)
                rw [Nat.add_mul] at this; omega
              have hcell := how.cellAt (i * sz' + (p * sz' + q)) hlt
              rw [← Nat.add_assoc] at hcell
              rw [hcell, ← Nat.add_assoc]
              have hx1 := how.1
              simp [List.getD, show i * sz' + p * sz' + q < xs.length by omega]
            · intro p q x y hx hy
              rw [List.getElem?_take] at hx
              split at hx
              · rw [List.getElem?_drop] at hx
                obtain ⟨u, hu, ht⟩ := hcl (i + p) q x y hx hy
                rw [Nat.add_mul, Nat.add_assoc] at hu
                rw [List.getD, hu]
                exact ht.mono (Keep.refl _ _) (fun c hc => .inl (hO c hc))
              · cases hx
        · cases h
      · rename_i fz ty cells hb
        rw [hb] at h2 hr
        simp only at hr
        split at h
        · rename_i hs
          simp only [Bool.and_eq_true] at hs
          have hs1 := Nat.eq_of_beq_eq_true hs.1
          have hs2 := Nat.le_of_ble_eq_true hs.2
          subst hs1
          split at h
          · rename_i l hl
            simp at h
            subst h
            obtain ⟨g, vs, hm, hg, hlen, h1, hv⟩ := h2
            obtain ⟨h3, h4⟩ := mapO_spec hl
            have hcl : ((cells.drop i).take c).length = c := by rw [List.length_take, List.length_drop]; omega
            rcases hx with ⟨rfl, ⟨A, c', rfl⟩, hnil⟩ | ⟨g', c', hc, rfl, hm' | ⟨n', c2, hm', hin, hcc⟩⟩
            · have : l = [] := List.eq_nil_of_length_eq_zero (by rw [h3, hcl])
              subst this
              exact .nil _ _ _
            · rw [hm] at hm'
              simp at hm'
              subst hm'
              have hO' : ¬ O' g := hr b (by simp) g (by simp [bk, hm, blockOf])
              have hll : l.length = c := by rw [h3, hcl]
              obtain ⟨h5, h6⟩ := listed _ l ((vs.drop i).take c) hl (fun b hb => hr b (List.mem_cons_of_mem _ hb)) (by simp [hlen]) (fun p x y hx hy => by
                rw [List.getElem?_take] at hx hy
                split at hx
                · rename_i hp
                  rw [if_pos hp] at hy
                  rw [List.getElem?_drop] at hx hy
                  exact hv _ x y hx hy
                · cases hx)
              have hone : ∀ y ∈ l, y.one = true := fun y hy => by
                obtain ⟨p, hp, rfl⟩ := List.mem_iff_getElem.1 hy
                have hp' : p < ((cells.drop i).take c).length := by omega
                exact toT_one (h4 p _ _ (List.getElem?_eq_getElem hp') (List.getElem?_eq_getElem hp)) (h1 _ (List.mem_of_mem_drop (List.mem_of_mem_take (List.getElem_mem hp'))))
              have hcells : ∀ y : T, y.one = true → y.cells = [y] := fun y hy => by cases y <;> first | rfl | cases hy
              have key := HT.sl (w := w) (O := O') 1 l g i c' (fun q => vs.getD (i + q) undef) hO' (Array.getElem?_eq_some_iff.1 hg).1 (by omega) (fun x hx => ?_) ?_ ?_
              · rw [hll] at key; rw [Nat.mul_one]; exact key
              · rw [T.fits, hcells x (hone x hx)]; exact ⟨rfl, fun y hy => by rcases List.mem_singleton.1 hy with rfl; exact hone _ hx⟩
              · intro p q hp hq
                have hq0 : q = 0 := by omega
                subst hq0
                unfold World.cell?
                simp only [hg, Nat.mul_one, Nat.add_zero]
                have : i + p < vs.length := by omega
                simp [List.getD, this]
              · intro p q x y hx hy
                have hp : p < l.length := (List.getElem?_eq_some_iff.1 hx).1
                rw [hcells x (hone x (List.mem_of_getElem? hx))] at hy
                cases q with
                | zero =>
                  simp at hy
                  subst hy
                  have hlt : i + p < vs.length := by omega
                  refine h6 p x _ hx ?_
                  rw [List.getElem?_take, if_pos (by omega), List.getElem?_drop]
                  simp [List.getD, hlt]
                | succ q => simp at hy
            · rw [hm] at hm'; cases hm'
          · cases h
        · cases h
      · cases h
    | own b =>
      unfold toT at h
      simp only at h
      split at h
      · rename_i fz ty sz l hb
        simp at h
        subst h
        have h2 := hB b
        rw [hb] at h2
        obtain ⟨v', xs, hm, how, hfit, hc⟩ := h2
        cases hx with
        | own _ _ hm' _ =>
          rw [hm] at hm'
          simp at hm'
          subst hm'
          rcases how.2 with ⟨e, hn⟩ | ⟨g, cap, cur, e, _, hg, hcap, _⟩
          · have : l = [] := List.eq_nil_of_length_eq_zero hn
            subst this
            rw [e]
            exact .nil _ _ _
          · subst e
            have hO' : ¬ O' g := hr b (by simp [reach]) g (by simp [bk, hm, blockOf])
            refine .sl sz l g 0 cap (fun q => xs.getD q undef) hO' (Array.getElem?_eq_some_iff.1 hg).1 hcap hfit (fun i j hi hj => ?_) (fun i j x y hx hy => ?_)
            · rw [how.cellAt _ (by calc 0 + i * sz + j < i * sz + sz := by omega
                                      _ = (i + 1) * sz := by rw [Nat.add_mul]; omega
                                      _ ≤ l.length * sz := Nat.mul_le_mul_right _ hi)]
              have hlen : i * sz + j < xs.length := by
                rw [how.1]
                calc i * sz + j < i * sz + sz := by omega
                  _ = (i + 1) * sz := by rw [Nat.add_mul]; omega
                  _ ≤ l.length * sz := Nat.mul_le_mul_right _ hi
              simp [List.getD, hlen]
            · obtain ⟨u, hu, ht⟩ := hc i j x y hx hy
              rw [List.getD, hu]
              exact ht.mono (Keep.refl _ _) (fun c hc => .inl (hO c hc))
      · cases h
    | ptr b off =>
      unfold toT at h
      unfold reach at hr
      simp only at h hr
      split at h
      · rename_i fz ty cells hb
        rw [hb] at hr
        simp only at hr
        split at h
        · rename_i l hl
          simp at h
          subst h
          have h2 := hB b
          rw [hb] at h2
          obtain ⟨g, vs, hm, hg, hlen, h1, hv⟩ := h2
          obtain ⟨g', e, hm'⟩ := hx.ptr_eq
          rw [hm] at hm'
          simp at hm'
          subst hm'
          subst e
          obtain ⟨h3, h4⟩ := mapO_spec hl
          obtain ⟨h5, h6⟩ := listed _ l (vs.drop off) hl (fun b hb => hr b (List.mem_cons_of_mem _ hb)) (by simp [hlen]) (fun i x y hx hy => by
            rw [List.getElem?_drop] at hx hy
            exact hv _ x y hx hy)
          refine .pt l g off (fun i => vs.getD (off + i) undef) (hr b (by simp) g (by simp [bk, hm, blockOf])) (Array.getElem?_eq_some_iff.1 hg).1 (fun y hy => ?_) (fun i hi => ?_) (fun i x hx => ?_)
          · obtain ⟨i, hi, rfl⟩ := List.mem_iff_getElem.1 hy
            have hi' : i < (cells.drop off).length := by omega
            exact toT_one (h4 i _ _ (List.getElem?_eq_getElem hi') (List.getElem?_eq_getElem hi)) (h1 _ (List.mem_of_mem_drop (List.getElem_mem hi')))
          · unfold World.cell?
            simp only [hg]
            have : off + i < vs.length := by rw [List.length_drop] at h5; omega
            simp [List.getD, this]
          · have hi : i < l.length := (List.getElem?_eq_some_iff.1 hx).1
            have : off + i < vs.length := by rw [List.length_drop] at h5; omega
            exact h6 i x _ hx (by rw [List.getElem?_drop]; simp [List.getD, this])
        · cases h
      · cases h
    | agg l =>
      unfold toT at h
      simp only at h
      split at h
      · rename_i l' hl
        simp at h
        subst h
        obtain ⟨vs, rfl, hlen, hv⟩ := hx.list_of_agg
        obtain ⟨h1, h2⟩ := listed l l' vs hl hr hlen hv
        exact .agg _ _ h1 h2
      · cases h
    | tuple l =>
      unfold toT at h
      simp only at h
      split at h
      · rename_i l' hl
        simp at h
        subst h
        cases hx with
        | tuple _ vs hlen hv =>
          obtain ⟨h1, h2⟩ := listed l l' vs hl hr hlen hv
          exact .tuple _ _ h1 h2
      · cases h
    | iface t x =>
      unfold toT at h
      simp only at h
      split at h
      · rename_i x' hx'
        simp at h
        subst h
        cases hx with
        | iface _ _ y hy => exact .iface _ _ _ (ih x x' y hx' hr hy)
      · cases h
    | fn f a c =>
      unfold toT at h
      simp only at h
      split at h
      · rename_i a' c' ha hc
        simp at h
        subst h
        cases hx with
        | fn _ _ _ vs us hl hv hm' hu =>
          obtain ⟨h1, h2⟩ := listed a a' vs ha (fun b hb => hr b (by unfold reach; simp only; exact List.mem_append_left _ hb)) hl hv
          obtain ⟨h3, h4⟩ := listed c c' us hc (fun b hb => hr b (by unfold reach; simp only; exact List.mem_append_right _ hb)) hm' hu
          exact .fn _ _ _ _ _ h1 h2 h3 h4
      · cases h
/-- It hangs on what is seen alone. -/
theorem toT_congr {hf hf' : Hp} : ∀ (n : Nat) (z : AV), (∀ b ∈ reach hf n z, hf' b = hf b) → toT hf' n z = toT hf n z ∧ reach hf' n z = reach hf n z
  | 0, z, _ => ⟨rfl, rfl⟩
  | n + 1, z, hz => by
    have lst : ∀ (q : List AV), (∀ b ∈ q.flatMap (reach hf n), hf' b = hf b) → mapO (toT hf' n) q = mapO (toT hf n) q ∧ q.flatMap (reach hf' n) = q.flatMap (reach hf n) := by
      intro q
      induction q with
      | nil => intro _; exact ⟨rfl, rfl⟩
      | cons y q ihq =>
        intro hq
        obtain ⟨a1, a2⟩ := toT_congr n y (fun b hb => hq b (by rw [List.flatMap_cons]; exact List.mem_append_left _ hb))
        obtain ⟨b1, b2⟩ := ihq (fun b hb => hq b (by rw [List.flatMap_cons]; exact List.mem_append_right _ hb))
        refine ⟨?_, by rw [List.flatMap_cons, List.flatMap_cons, a2, b2]⟩
        unfold mapO
        rw [a1, b1]
    cases z with
    | own b' =>
      have := hz b' (by simp [reach])
      refine ⟨?_, rfl⟩
      unfold toT; simp only; rw [this]
    | ptr b' off' =>
      have h1 : b' ∈ reach hf (n + 1) (.ptr b' off') := by
        unfold reach; simp only
        split <;> simp
      have h2 := hz b' h1
      unfold toT reach
      simp only
      rw [h2]
      rcases hk : hf b' with ⟨fz, k⟩
      cases k with
      | box ty' cs =>
        simp only
        have h3 : ∀ b ∈ (cs.drop off').flatMap (reach hf n), hf' b = hf b := fun b hb => hz b (by unfold reach; simp only; rw [hk]; exact List.mem_cons_of_mem _ hb)
        obtain ⟨h4, h5⟩ := lst _ h3
        rw [h4, h5]
        exact ⟨rfl, rfl⟩
      | _ => exact ⟨rfl, rfl⟩
    | agg q =>
      obtain ⟨h4, h5⟩ := lst q (fun b hb => hz b (by unfold reach; exact hb))
      unfold toT reach; simp only; rw [h4, h5]; exact ⟨rfl, rfl⟩
    | tuple q =>
      obtain ⟨h4, h5⟩ := lst q (fun b hb => hz b (by unfold reach; exact hb))
      unfold toT reach; simp only; rw [h4, h5]; exact ⟨rfl, rfl⟩
    | iface t' y =>
      obtain ⟨h4, h5⟩ := toT_congr n y (fun b hb => hz b (by unfold reach; exact hb))
      unfold toT reach; simp only; rw [h4, h5]; exact ⟨rfl, rfl⟩
    | fn f' q r =>
      obtain ⟨h4, h5⟩ := lst q (fun b hb => hz b (by unfold reach; simp only; exact List.mem_append_left _ hb))
      obtain ⟨h6, h7⟩ := lst r (fun b hb => hz b (by unfold reach; simp only; exact List.mem_append_right _ hb))
      unfold toT reach; simp only; rw [h4, h5, h6, h7]; exact ⟨rfl, rfl⟩
    | un => exact ⟨rfl, rfl⟩
    | t y => exact ⟨rfl, rfl⟩
    | rp => exact ⟨rfl, rfl⟩
    | ab => exact ⟨rfl, rfl⟩
    | fsub => exact ⟨rfl, rfl⟩
    | sub b' sz i c =>
      have h1 : b' ∈ reach hf (n + 1) (.sub b' sz i c) := by
        unfold reach; simp only
        split <;> simp
      have h2 := hz b' h1
      unfold toT reach
      simp only
      rw [h2]
      rcases hk : hf b' with ⟨fz, k⟩
      cases k with
      | box ty' cs =>
        simp only
        have h3 : ∀ b ∈ ((cs.drop i).take c).flatMap (reach hf n), hf' b = hf b := fun b hb => hz b (by unfold reach; simp only; rw [hk]; exact List.mem_cons_of_mem _ hb)
        obtain ⟨h4, h5⟩ := lst _ h3
        rw [h4, h5]
        exact ⟨rfl, rfl⟩
      | _ => exact ⟨rfl, rfl⟩
end Go.YtbbcnmfmncgffaaE
