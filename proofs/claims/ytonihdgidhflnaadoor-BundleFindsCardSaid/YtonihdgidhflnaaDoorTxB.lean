-- Written by hand for this claim's session.
import Derived.Test.YtonihdgidhflnaaDoorRows
import Derived.HandedShaped
import Derived.JoinedOf
import Derived.RowKit
import Derived.LaidLaws
import Derived.LaidHandle
import Derived.Stop.Joined
import Derived.Test.YtonihdgidhflnaaDoorTxA
namespace Go.Proofs.YtonihdgidhflnaaDoorX
section
open Go Go.YtonihdgidhflnaaDoorE Go.Proofs Go.RowKit
set_option maxRecDepth 100000
set_option autoImplicit false
theorem ownNone : ownKnob Tryd.prog.godebug = none := by kernel_rfl
theorem laidAt : Tryd.prog.globalNamed "errors.errorType" = some 0 := by kernel_rfl
theorem laidRt : (Tryd.prog.cutTypes.find? (·.1 == "internal/reflectlite.rtype")).map (·.2) = some 138 := by kernel_rfl
theorem oneRow : ((List.range Tryd.prog.types.size).filter fun t => Tryd.prog.rowNamed t [101, 114, 114, 111, 114]) = [32] := by kernel_rfl
abbrev LaidL : List (String × DataW Unit) := [("errors.errorType", .iface "internal/reflectlite.rtype" (.agg [.ptr (.lit (.string [101, 114, 114, 111, 114]))]))]
theorem handle_of_laid {W : World} (h : laidMetH Tryd.prog LaidL W) : W.cell? ⟨0, 0, none⟩ = some (.iface 138 (.agg #[.pointer (some ⟨3, 32, none⟩)])) := by
  have h' : laidMet Tryd.prog [] W ∧ handlesMet Tryd.prog LaidL W := h
  obtain ⟨name, u, ty, e1, e2, e3, e4, e5⟩ := h'.2 _ (List.mem_singleton.2 rfl)
  have en : name = [101, 114, 114, 111, 114] := (Option.some.inj e1).symm
  subst en
  obtain rfl := Option.some.inj (laidRt.symm.trans e2)
  have hm : ty ∈ (List.range Tryd.prog.types.size).filter fun t => Tryd.prog.rowNamed t [101, 114, 114, 111, 114] := List.mem_filter.2 ⟨List.mem_range.2 e3, e4⟩
  rw [oneRow] at hm
  obtain rfl := List.mem_singleton.1 hm
  have hh : typeHandle Tryd.prog 32 = .pointer (some ⟨3, 32, none⟩) := by kernel_rfl
  rw [hh] at e5
  simpa using World.var?_cell laidAt e5 0
noncomputable def laidWorld (os : Os) : World :=
  let w0 := World.holding Tryd.prog os ⟨#[], #[], []⟩
  { w0 with heap := w0.heap.modify 0 fun
      | .cells _ t frozen => .cells #[.iface 138 (.agg #[.pointer (some ⟨3, 32, none⟩)])] t frozen
      | o => o }
theorem laidWorld_met (os : Os) (args : Array Value) : laidMetH Tryd.prog LaidL ((laidWorld os).forCall (fun _ _ => 0) ⟨#[], args, []⟩).memory :=
  laidMetH_of_parts (laidMet_nil _ _) (by kernel_rfl)
theorem ints_of_shaped {P : Program} {w : World} {g : Nat} {t u : TypeId} {k : IntKind} (n : Nat) (h : w.ShapedOpen P) (hg : g < P.globals.size)
    (h0 : (((begin P (fun _ _ => 0) default).world.heap[g]?).bind Obj.row?).any (fun z => z.1.size == n && z.2 == t) = true)
    (hb : P.buildable t = true) (hc : P.cellTypes P.depth t = some (List.replicate n u)) (hu : P.underlying u = some (.int k)) :
    g < w.heap.size ∧ ∃ f : Nat → Int, ∀ i, i < n → w.cell? ⟨g, i, none⟩ = some (.int k (f i)) := by
  obtain ⟨⟨zero, t'⟩, e0, e1⟩ := (Option.any_eq_true _ _).1 h0
  simp only [Bool.and_eq_true, beq_iff_eq] at e1
  obtain ⟨e1, rfl⟩ := e1
  obtain ⟨cs, hh, hs, hr⟩ := h.1 g zero t' hg e0
  obtain ⟨ts, hts, _, hall⟩ := hr hb
  rw [hc] at hts
  cases hts
  have key : ∀ i, ∃ m, i < n → w.cell? ⟨g, i, none⟩ = some (.int k m) := fun i => by
    by_cases hi : i < n
    · have h1 : i < cs.size := by omega
      obtain ⟨u', hu', hok⟩ := hall i cs[i] (by simp [h1])
      have : u' = u := by
        have h2 : (List.replicate n u)[i % (List.replicate n u).length]? = some u := by rw [List.length_replicate, Nat.mod_eq_of_lt hi, List.getElem?_replicate]; simp [hi]
        exact Option.some.inj (hu'.symm.trans h2)
      subst this
      have hcell : w.cell? ⟨g, i, none⟩ = some cs[i] := by simp [World.cell?, hh, h1]
      rw [hcell]
      unfold Cell.ok at hok
      rw [hu] at hok
      cases hv : cs[i] <;> rw [hv] at hok <;> simp at hok
      case int k' m => exact ⟨m, fun _ => by rw [hok.1]⟩
    · exact ⟨0, fun h => absurd h hi⟩
  refine ⟨(Array.getElem?_eq_some_iff.1 hh).1, fun i => Classical.choose (key i), fun i hi => Classical.choose_spec (key i) hi⟩
theorem HT.tab {w : World} {g n : Nat} {k : IntKind} {f : Nat → Int} (hb : g < w.heap.size) (h : ∀ i, i < n → w.cell? ⟨g, i, none⟩ = some (.int k (f i))) (l : List T) (hl : l = (List.range n).map fun i => .v (.int k (f i))) :
    HT w (fun _ => False) (.pt l) (.pointer (some ⟨g, 0, none⟩)) := by
  subst hl
  refine .pt _ g 0 (fun i => .int k (f i)) (fun h => h) hb ?_ ?_ ?_
  · intro y hy
    obtain ⟨i, _, rfl⟩ := List.mem_map.1 hy
    rfl
  · intro i hi
    rw [List.length_map, List.length_range] at hi
    rw [Nat.zero_add]
    exact h i hi
  · intro i x hx
    rw [List.getElem?_map] at hx
    obtain ⟨j, hj, rfl⟩ := Option.map_eq_some_iff.1 hx
    obtain ⟨hi, hj⟩ := List.getElem?_eq_some_iff.1 hj
    rw [List.getElem_range] at hj
    subst hj
    exact .v _
theorem globs_of {W : World} (hL : laidMetH Tryd.prog LaidL W) (hS : W.ShapedOpen Tryd.prog) : ∃ i : Tabs, @Globs i W := by
  have h0 := handle_of_laid hL
  obtain ⟨b1, f1, h1⟩ := ints_of_shaped (g := 1) (t := 177) (u := 112) (k := .u32) 8 hS (of_decide_eq_true (by kernel_rfl)) (by kernel_rfl) (by kernel_rfl) (by kernel_rfl) (by kernel_rfl)
  obtain ⟨b2, f2, h2⟩ := ints_of_shaped (g := 2) (t := 188) (u := 112) (k := .u32) 64 hS (of_decide_eq_true (by kernel_rfl)) (by kernel_rfl) (by kernel_rfl) (by kernel_rfl) (by kernel_rfl)
  refine ⟨⟨f2, f1⟩, List.forall_mem_cons.2 ⟨?_, List.forall_mem_cons.2 ⟨HT.tab b2 h2 _ rfl, List.forall_mem_cons.2 ⟨HT.tab b1 h1 _ rfl, fun _ h => by cases h⟩⟩⟩⟩
  have hb : 0 < W.heap.size := by omega
  refine .pt _ 0 0 (fun _ => .iface 138 (.agg #[.pointer (some ⟨3, 32, none⟩)])) (fun h => h) hb (fun y hy => by rcases List.mem_singleton.1 hy with rfl; rfl) ?_ ?_
  · intro i hi
    have : i = 0 := by simp at hi; exact hi
    subst this
    exact h0
  · intro i x hx
    match i, hx with
    | 0, hx =>
      cases hx
      refine .iface _ _ _ (.agg [.v (.pointer (some ⟨3, 32, none⟩))] [.pointer (some ⟨3, 32, none⟩)] rfl (fun i x y hx hy => ?_))
      match i, hx, hy with
      | 0, hx, hy => cases hx; cases hy; exact .v _
theorem lift_shaped {H : Type} {enc : TypeId × Value → H} {a : Assume} {C : Checked} {os : Os} {f : FuncId} {fn : Func} {s : ChangeSpec} {conds : List PathCond} {apart fresh handsOn again : Bool} {X : World → Prop}
    (hX : ∀ (w w' : World), w.heap = w'.heap → X w → X w')
    (own : ownKnob C.prog.godebug = none) (started : os.Started) (noInit : C.prog.inits.idxOf? f = none) (hfn : C.prog.funcs[f]? = some fn)
    (witness : ∃ (w : World) (tape : Tape) (i : Input), w.os = os ∧ (w.forCall tape i).Shaped C.prog ∧ i.vars = [] ∧ Input.okWide C.prog (w.forCall tape i) .any w.heap.size f i ∧
      ((s.pre enc C.prog fn conds apart (w.forCall tape i).memory i.args ∧ X (w.forCall tape i).memory) ∧ sizedMet enc C.prog fn (OpenSpec.ofChange s) apart (w.forCall tape i).memory i.args) ∧ a.holds C.prog (lone (Frame.enter C.prog f i.args .normal) [] (w.forCall tape i)))
    (told : ∀ (W : World) (base : Nat) (args : Array Value) (ds gs : List (DataW H)) (before : List MemPlace),
      (∀ (j : Nat) t v, fn.params[j]? = some t → args[j]? = some v → Value.okWide C.prog W .any base t v) →
      DataW.Whole enc C.prog fn.params.toList s.vars apart W args.toList ds gs before → X W → W.ShapedOpen C.prog →
      Calls C.prog f args W fun e W' => ∃ v, e = .returned v ∧ s.post enc C.prog fn apart fresh handsOn again W args v W') :
    ReturnsInHanded a C os f .any (fun w args => (s.pre enc C.prog fn conds apart w args ∧ X w) ∧ sizedMet enc C.prog fn (OpenSpec.ofChange s) apart w args) (s.post enc C.prog fn apart fresh handsOn again) := by
  refine returnsInHanded_of_calls own started noInit witness ?_
  intro w tape i _ hsh _ hok hpre _
  obtain ⟨_, _, _, fn', hfn', _, _, _, _, hval⟩ := hok
  obtain rfl : fn' = fn := Option.some.inj (hfn'.symm.trans hfn)
  obtain ⟨⟨⟨ds, gs, before, hw, _⟩, hx⟩, _⟩ := hpre
  refine (told (w.forCall tape i) w.heap.size i.args ds gs before hval (DataW.Whole.of_heap (w' := w.forCall tape i) (by rfl) hw) (hX _ _ (by rfl) hx) hsh).mono fun e W' ⟨v, he, hp⟩ => ?_
  subst he
  exact ChangeSpec.post_blind hp
end
end Go.Proofs.YtonihdgidhflnaaDoorX
