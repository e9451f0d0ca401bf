/-
  Parts of rows whose room is known; a row made longer by zeros; whether parts overlap.
  Written by hand for this claim's session.
-/
import Derived.Test.YtbbcnmfmncgffaaEvSub2
import Derived.Lib.Overlaps
namespace Go.YtbbcnmfmncgffaaE
open Go.RowKit
set_option linter.unusedVariables false
set_option linter.unusedSimpArgs false
def asSub : AV → AV
  | .fsub b sz i n _ => .sub b sz i n
  | x => x
theorem asSub_told {m : Nat → Option Value} {w : World} {O : Nat → Prop} {x : AV} {v : Value} (h : HA m w O x v) : HA m w O (asSub x) v := by
  cases h with
  | fsub b sz i n N v h => exact .sub _ _ _ _ _ h.sub
  | un => exact .un _
  | t _ _ h => exact .t _ _ h
  | own _ _ h h1 => exact .own _ _ h h1
  | ptr _ _ _ h => exact .ptr _ _ _ h
  | rp _ _ _ _ _ _ _ h => exact .rp _ _ _ _ _ _ _ h
  | sub _ _ _ _ _ h => exact .sub _ _ _ _ _ h
  | ab _ _ _ h h' => exact .ab _ _ _ h h'
  | agg _ _ hl h => exact .agg _ _ hl h
  | tuple _ _ hl h => exact .tuple _ _ hl h
  | iface _ _ _ h => exact .iface _ _ _ h
  | fn _ _ _ _ _ hl h hm h' => exact .fn _ _ _ _ _ hl h hm h'
def isIntA : AV → Option Int
  | .t (.v (.int _ n)) => some n
  | _ => none
theorem isIntA_eq {x : AV} {n : Int} (h : isIntA x = some n) : ∃ κ, x = .t (.v (.int κ n)) := by
  unfold isIntA at h
  split at h
  · rename_i κ n' ; simp at h; subst h; exact ⟨κ, rfl⟩
  · cases h
def evCap (P : Program) (t : TypeId) (x : AV) (k : Kont) : Prop :=
  match P.underlying t with
  | some (.slice _) => (match x with
    | .fsub _ _ i _ N => k (.int .i64 ((N - i : Nat) : Int)) [] [] []
    | .t (.v (.slice _ _ c)) => k (.int .i64 c) [] [] []
    | _ => False)
  | _ => False
theorem told_of' {P : Program} {o : Oper} {tm : Tmps} {H : Heap} {k : Kont} {v : AV} {W : Heap} {R N : List Nat} (h : OpLoc P o R (lookT tm) (lookH H) v W N) (hk : k v W R N) : Told P o tm H k := ⟨v, W, R, N, h, hk⟩
section
variable {P : Program} {o : Oper} {tf : Nat → AV} {hf : Hp}
theorem ok_cap {t : TypeId} {x : Operand} {k : Kont} (ho : o.op = .call { callee := .builtin .cap, args := #[x], argTypes := #[t] }) (h : evCap P t (opd tf x) k) : ∃ v, OpLoc P o [] tf hf v [] [] ∧ k v [] [] [] := by
  have hop : ∀ tf', (∀ t ∈ tmpsOf o, tf' t = tf t) → opd tf' x = opd tf x := fun tf' ht => tmps_same ht (by rw [ho]; simp [Op.operands, Call.operands])
  have hrun : ∀ (a : Act) (w : World) (u : Value), (Builtin.cap_ #[t] o.type #[a.eval x]).run P w = .ok u w → (execOp a.eval o).run P w = .ok (.value u) w := by
    intro a w u hu
    unfold execOp
    rw [ho]
    simp [resolve, invoke, Go.builtin, hu]
  unfold evCap at h
  split at h
  · rename_i e hu
    split at h
    · rename_i b sz i n N hx
      refine ⟨_, loc_val fun tf' hf' ht => .val fun w0 X O0 D m a w hR => ⟨_, hrun a w _ ?_, .t _ _ (.v _)⟩, h⟩
      have h1 := opd_told hR x
      rw [hop tf' ht, hx] at h1
      generalize a.eval x = z at h1
      cases h1 with
      | fsub _ _ _ _ _ _ h1 =>
      obtain ⟨g, o', rfl, _⟩ := h1
      simp [Builtin.cap_, run_underlying hu]; rfl
    · rename_i A n c hx
      refine ⟨_, loc_val fun tf' hf' ht => .val fun w0 X O0 D m a w hR => ⟨_, hrun a w _ ?_, .t _ _ (.v _)⟩, h⟩
      have h1 := opd_told hR x
      rw [hop tf' ht, hx] at h1
      simp [Builtin.cap_, run_underlying hu, h1.v_eq]; rfl
    · exact h.elim
  · exact h.elim
/-! ### a row made longer by zeros -/
def isIntTy (P : Program) (t : TypeId) : Bool :=
  match P.underlying t with
  | some (.int _) => true
  | _ => false
/-- What is made longer, where it must be made anew: its elements, and what is read. -/
def dst0 (H : Heap) (e sz n : Nat) (s : AV) : Option (List T × List Nat × Nat × Prop) :=
  match s with
  | .t (.v (.slice none 0 0)) => some ([], [], 0, True)
  | .fsub b sz' i c N => match lookH H b with
    | (_, .arr e' sz'' l _) => match Nat.beq sz' sz && Nat.beq sz'' sz && Nat.beq e' e with
      | true => some ((l.drop i).take c, [b], N - i, i + c ≤ l.length)
      | false => none
    | _ => none
  | _ => none
def evAppend0 (P : Program) (t t' : TypeId) (s : AV) (n : Int) (H : Heap) (d : Option Tmp) (k : Kont) : Prop :=
  match P.underlying t, d with
  | some (.slice e), some d => (match P.info? e with
    | some i => match i.zero with
      | some z => match Nat.beq z.cells.size i.size && Nat.blt 0 i.size && Nat.blt 0 i.bytes && isIntTy P t' && z.cells.toList.all Value.oneCell' with
        | true => match dst0 H e i.size 0 s with
          | some (l, R, c, p) => ∃ n' : Nat, (n' : Int) = n ∧ p ∧ c < l.length + n' ∧ (l.length + n') * i.bytes ≤ 140737488355328 ∧ k (.own d) [(d, false, .row e i.size (l ++ List.replicate n' (zeroT z)))] R [d]
          | none => False
        | false => False
      | none => False
    | none => False)
  | _, _ => False
theorem run_append0 {w : World} {O : Nat → Prop} {t t' ty e : TypeId} {i : TypeInfo} {z : Value} {sz : Nat} {xs : List Value} {l : List T} {A : Option Addr} {c : Nat} {κ : IntKind} {n : Int} (ht : P.underlying t = some (.slice e)) (hi : P.info? e = some i) (hz : i.zero = some z) (hsz : i.size = sz) (hzs : z.cells.size = sz) (h0 : 0 < sz) (hb0 : 0 < i.bytes) (hti : isIntTy P t' = true)
    (hx : xs.length = l.length * sz) (hf : (Builtin.firstCells sz l.length (.slice A l.length c)).run P w.drew = .ok xs.toArray w.drew) (hn : 0 ≤ n) (hc : (c : Int) < l.length + n) (hlc : l.length ≤ c) (hb : (l.length + n) * i.bytes ≤ 140737488355328) :
    ∃ cap, l.length + n.toNat ≤ cap ∧ cap ≤ maxLen ∧ (Builtin.append_ #[t, t'] ty #[.slice A l.length c, .int κ n]).run P w = .ok (.slice (some ⟨w.heap.size, 0, none⟩) (l.length + n.toNat) cap) (w.drew.alloc (.cells (xs.toArray ++ Builtin.zeroCells z.cells n.toNat ++ Builtin.zeroCells z.cells (cap - (l.length + n.toNat))) e)) := by
  obtain ⟨q, rfl⟩ : ∃ q : Nat, n = q := ⟨n.toNat, by omega⟩
  simp only [Int.toNat_natCast]
  have hbn : (l.length + q) * i.bytes ≤ 140737488355328 := by
    rw [← Int.natCast_add, ← Int.natCast_mul] at hb
    omega
  have hq1 : l.length + q ≤ (l.length + q) * i.bytes := Nat.le_mul_of_pos_right _ hb0
  have hle : l.length + q ≤ maxLen := by unfold maxLen; omega
  have hcn : c < l.length + q := by omega
  refine ⟨grownCap w (l.length + q) c e, grownCap_ge w _ c e, grownCap_le_maxLen w _ c e hle, ?_⟩
  obtain ⟨kn, hkn⟩ : ∃ kn, P.underlying t' = some (.int kn) := by
    unfold isIntTy at hti
    split at hti
    · rename_i kn h; exact ⟨kn, h⟩
    · cases hti
  have hw : IntKind.i64.wrap (q : Int) = q := by rw [IntKind.wrap_i64]; omega
  have hfit := growslice_fits hcn hbn
  have hq0 : q ≠ 0 := by omega
  have h48' : q * i.bytes ≤ (l.length + q) * i.bytes := Nat.mul_le_mul_right _ (by omega)
  have h48 : ¬ (281474976710656 < (q : Int) * (i.bytes : Int)) := by
    rw [← Int.natCast_mul]; omega
  have hneg : ¬ ((q : Int) < 0) := by omega
  have hns : ¬ (q * i.size = 0) := Nat.mul_ne_zero hq0 (by omega)
  have h63' : ¬ (9223372036854775807 < (l.length : Int) + (q : Int)) := by unfold maxLen at hle; omega
  have hn1 : ¬ (l.length + q ≤ c) := by omega
  have hfit' : ¬ (281474976710656 < Builtin.nextslicecap (l.length + q) c * i.bytes) := by omega
  subst hsz
  simp [Builtin.append_, run_underlying ht, run_underlying hkn, sizeOf, typeInfo, zeroValue, hi, hz, asInt, asIntOf, hw, hneg, hns, h63', h48, hn1, hfit', hf, newRow, grownCap, Question.forced]
theorem ok_append0 {t t' : TypeId} {s x : Operand} {n : Int} {H : Heap} {k : Kont} (ho : o.op = .call { callee := .builtin .append, args := #[s, x], argTypes := #[t, t'] }) (hx : isIntA (opd tf x) = some n) (h : evAppend0 P t t' (opd tf s) n H o.dst k) (hH : hf = lookH H) : ∃ v W R N, OpLoc P o R tf hf v W N ∧ k v W R N := by
  have hop : ∀ tf', (∀ t ∈ tmpsOf o, tf' t = tf t) → ∀ z, z = s ∨ z = x → opd tf' z = opd tf z := fun tf' ht z hz => tmps_same ht (by rw [ho]; simp [Op.operands, Call.operands]; exact hz)
  subst hH
  obtain ⟨κ, hx⟩ := isIntA_eq hx
  unfold evAppend0 at h
  split at h
  · rename_i e d hu hd
    split at h
    · rename_i i hi
      split at h
      · rename_i z hz
        split at h
        · rename_i hc
          simp only [Bool.and_eq_true] at hc
          obtain ⟨⟨⟨⟨c1, c2⟩, c3⟩, c4⟩, c5⟩ := hc
          have c1 := Nat.eq_of_beq_eq_true c1
          have c2 : 0 < i.size := Nat.le_of_ble_eq_true c2
          have c3 : 0 < i.bytes := Nat.le_of_ble_eq_true c3
          have c5 := List.all_eq_true.1 c5
          split at h
          · rename_i l R c pc hds
            obtain ⟨n', hn', hpc, h1, h2, h⟩ := h
            obtain rfl : n' = n.toNat := by omega
            have h0 : 0 ≤ n := by omega
            have h1 : (c : Int) < l.length + n := by omega
            have h2 : ((l.length : Int) + n) * i.bytes ≤ 140737488355328 := by
              have e : n = (n.toNat : Int) := by omega
              rw [e, ← Int.natCast_add, ← Int.natCast_mul]; omega
            refine ⟨_, _, _, _, loc_new fun tf' hf' ht hh w0 X O0 D m a w hR => ?_, h⟩
            have e1 := opd_told hR s
            have e2 := opd_told hR x
            rw [hop tf' ht s (by simp)] at e1
            rw [hop tf' ht x (by simp), hx] at e2
            have e2 := e2.v_eq
            -- what stands there
            have old : ∃ A xs, a.eval s = .slice A l.length c ∧ l.length ≤ c ∧ Tld w (Own X m hf') i.size l xs ∧ (Builtin.firstCells i.size l.length (.slice A l.length c)).run P w.drew = .ok xs.toArray w.drew := by
              unfold dst0 at hds
              split at hds
              · rename_i hs
                simp only [Option.some.injEq, Prod.mk.injEq] at hds
                obtain ⟨rfl, rfl, rfl, rfl⟩ := hds
                rw [hs] at e1
                exact ⟨none, [], e1.v_eq, Nat.le_refl _, ⟨by simp, by simp, fun i j x y hx => by simp at hx⟩, by simp [Builtin.firstCells]⟩
              · rename_i b sz' i' n' N hs
                rw [hs] at e1
                split at hds
                · rename_i fz e' sz'' l' NN hb
                  split at hds
                  · rename_i hbe
                    simp only [Bool.and_eq_true] at hbe
                    have q1 := Nat.eq_of_beq_eq_true hbe.1.1
                    have q2 := Nat.eq_of_beq_eq_true hbe.1.2
                    simp only [Option.some.injEq, Prod.mk.injEq] at hds
                    obtain ⟨rfl, rfl, rfl, rfl⟩ := hds
                    subst q1
                    have hlen : ((l'.drop i').take n').length = n' := by rw [List.length_take, List.length_drop]; have : i' + n' ≤ l'.length := hpc; omega
                    have hsrc : srcA H i.size (.sub b i.size i' n') = some (l'.drop i', n', [b], fun q => i' + q ≤ l'.length) := by
                      unfold srcA srcOf
                      simp only [hb]
                      rw [q2]
                      simp
                    obtain ⟨news, hs'⟩ := srcA_told (P := P) hsrc (Nat.le_refl n') hpc hR (fun b' hb' => hh b' hb') (asSub_told e1)
                    generalize hzz : a.eval s = zz at e1 hs'
                    cases e1 with
                    | fsub _ _ _ _ _ _ e1 =>
                    obtain ⟨g, o', rfl, hm, hin, hN, ho'⟩ := e1
                    rw [hlen]
                    refine ⟨some ⟨g, o', none⟩, news, rfl, by omega, hs'.tld, ?_⟩
                    exact hs'.first w.drew rfl
                  · cases hds
                · cases hds
              · cases hds
            obtain ⟨A, xs, hy, hlc, htl, hfc⟩ := old
            obtain ⟨cap, hc1, hc2, hrun⟩ := run_append0 (P := P) (w := w) (O := Own X m hf') (ty := o.type) (κ := κ) (n := n) hu hi hz rfl c1 c2 c3 c4 htl.len hfc h0 h1 hlc h2
            have hzt : Tld w (Own X m hf') i.size (List.replicate n.toNat (zeroT z)) (Builtin.zeroCells z.cells n.toNat).toList := zero_tld c1 c5
            have hbut := But.alloc w.drew (.cells (xs.toArray ++ Builtin.zeroCells z.cells n.toNat ++ Builtin.zeroCells z.cells (cap - (l.length + n.toNat))) e) (fun _ => False)
            have hbut : But w (fun _ => False) (w.drew.alloc (.cells (xs.toArray ++ Builtin.zeroCells z.cells n.toNat ++ Builtin.zeroCells z.cells (cap - (l.length + n.toNat))) e)) := ⟨rfl, rfl, rfl, hbut.size, hbut.block⟩
            refine ⟨.slice (some ⟨w.heap.size, 0, none⟩) (l.length + n.toNat) cap, .slice (some ⟨w.heap.size, 0, none⟩) (l.length + n.toNat) cap, _, ?_, hbut, fun c hc => ?_, ?_, ?_⟩
            · unfold execOp
              rw [ho]
              simp [resolve, invoke, Go.builtin, hy, e2, hrun]
            · simp [blockOf] at hc; omega
            · intro m' O' hO hext hm
              have hzl : (Builtin.zeroCells z.cells n.toNat).toList.length = n.toNat * i.size := by rw [hzt.len, List.length_replicate]
              refine ⟨_, xs ++ (Builtin.zeroCells z.cells n.toNat).toList, hm, ⟨by rw [List.length_append, htl.len, hzl, List.length_append, List.length_replicate, Nat.add_mul], .inr ⟨w.heap.size, cap, _, by rw [List.length_append, List.length_replicate], Nat.zero_le _, heap_alloc_new w.drew _, by rw [List.length_append, List.length_replicate]; exact hc1, hc2, ?_, ?_⟩⟩, fun x hx => ?_, fun p q x y hx hy => ?_⟩
              · simp only [Array.size_append, List.size_toArray, size_zeroCells, c1, htl.len, ← Nat.add_mul]
                congr 1; omega
              · simp only [Array.toList_append, List.length_append, List.length_replicate]
                rw [List.take_append_of_le_length (by rw [List.length_append, hzl]; show _ ≤ xs.length + _; rw [htl.len, ← Nat.add_mul]; exact Nat.le_refl _)]
                exact List.take_of_length_le (by rw [List.length_append, hzl]; show xs.length + _ ≤ _; rw [htl.len, ← Nat.add_mul]; exact Nat.le_refl _)
              · exact (List.mem_append.1 hx).elim (htl.fits x) (hzt.fits x)
              · have mono : ∀ y u, HT w (Own X m hf') y u → HT _ O' y u := fun y u hy => hy.mono (hbut.keep fun _ h => h.elim) hO
                rw [List.getElem?_append] at hx
                split at hx
                · obtain ⟨u, hu', ht⟩ := htl.told p q x y hx hy
                  exact ⟨u, by rw [List.getElem?_append, if_pos (List.getElem?_eq_some_iff.1 hu').1]; exact hu', mono _ _ ht⟩
                · rename_i hp
                  obtain ⟨u, hu', ht⟩ := hzt.told (p - l.length) q x y hx hy
                  refine ⟨u, ?_, mono _ _ ht⟩
                  have e0 : p * i.size = (p - l.length) * i.size + l.length * i.size := by rw [← Nat.add_mul]; congr 1; omega
                  rw [List.getElem?_append, if_neg (by rw [htl.len]; omega), htl.len, show p * i.size + q - l.length * i.size = (p - l.length) * i.size + q by omega]
                  exact hu'
            · intro m' O' hO hext hm
              exact .own _ _ hm rfl
          · exact h.elim
        · exact h.elim
      · exact h.elim
    · exact h.elim
  · exact h.elim
/-- Whether two rows of one's own overlap: no. -/
theorem Told.overlaps {tm : Tmps} {H : Heap} {k : Kont} {f : FuncId} {fn : Func} {as : Array Operand} {ts : Array TypeId} {b1 b2 sz i c N ty1 ty2 sz1 sz2 N2 : Nat} {l1 l2 : List T} {tS tR e : TypeId} {esz : Nat} (ho : o.op = .call { callee := .value (.func f), args := as, argTypes := ts }) (hfn : P.funcs[f]? = some fn) (hnm : (fn.name == "runtime.NumGoroutine") = false) (hbody : fn.body.isNone = true) (hnx : Extern.findNext fn = none) (hext : Extern.find fn = some (Extern.SlicesOverlaps.overlaps #[tS, tS] #[tR]))
    (hS : P.underlying tS = some (.slice e)) (hE : sizN P e = some esz) (ha : as.toList.map (opd (lookT tm)) = [.own b1, .fsub b2 sz i c N]) (h1 : lookH H b1 = (false, .row ty1 sz1 l1)) (h2 : lookH H b2 = (false, .arr ty2 sz2 l2 N2)) (hne : Nat.beq b1 b2 = false) (hl : l1 ≠ []) (hl2 : l2 ≠ []) (hs2 : Nat.blt 0 sz2 = true)
    (hk : k (.bool false) [] [b1, b2] []) : Told P o tm H k := by
  refine told_of' ?_ hk
  refine loc_read fun tf' hf' ht hh w0 X O0 D m a w hR => ⟨.bool false, ?_, .t _ _ (.v _)⟩
  have hb12 : b1 ≠ b2 := fun e => by subst e; simp at hne
  have hvals := (opds_told hR as.toList).2
  have hmap : as.toList.map (opd tf') = [.own b1, .fsub b2 sz i c N] := by
    rw [← ha]
    exact List.map_congr_left fun x hx => tmps_same ht (by rw [ho]; simp [Op.operands, Call.operands]; exact .inr (by simpa using hx))
  have hlen : as.toList.length = 2 := by have := congrArg List.length ha; simpa using this
  obtain ⟨x, y, hxy⟩ : ∃ x y, as.toList = [x, y] := by
    match as.toList, hlen with
    | [x, y], _ => exact ⟨x, y, rfl⟩
  rw [hxy] at hmap hvals
  simp only [List.map_cons, List.map_nil, List.cons.injEq, and_true] at hmap
  have v1 := hvals 0 _ _ rfl rfl
  have v2 := hvals 1 _ _ rfl rfl
  rw [hmap.1] at v1
  rw [hmap.2] at v2
  have q1 := hR.blk b1
  rw [hh b1 (by simp), h1] at q1
  have q2 := hR.blk b2
  rw [hh b2 (by simp), h2] at q2
  have hm1 := v1.own_eq
  generalize hz : a.eval y = z at v2
  cases v2 with
  | fsub _ _ _ _ _ _ v2 =>
  obtain ⟨g2, o2, rfl, hm2, hin, hN, _⟩ := v2
  obtain ⟨u1, xs1, hu1, how1, _⟩ := q1
  obtain ⟨g2', cur2, hu2, hg2, hcs2, hlN2, _⟩ := q2
  rw [hm1] at hu1
  rw [hm2] at hu2
  simp at hu1 hu2
  subst hu2
  rcases how1.2 with ⟨_, hno⟩ | ⟨g1, cap1, cur1, e1, _, hg1, _⟩
  · exact absurd (List.eq_nil_of_length_eq_zero hno) hl
  have hgne : g1 ≠ g2 := fun e => hR.sep b1 b2 hb12 (by rw [hh b1 (by simp), h1]) (by rw [hh b1 (by simp), h1]; trivial) (by rw [hh b2 (by simp), h2]; trivial) g1 (by simp [bk, hm1, hu1, e1, blockOf]) (by simp [bk, hm2, blockOf, e])
  have hkB : cur2.size ≠ 0 := by
    rw [hcs2]
    have : 0 < sz2 := Nat.le_of_ble_eq_true hs2
    have : 0 < l2.length := List.length_pos_iff.2 hl2
    exact Nat.mul_ne_zero (by omega) (by omega)
  have hov := Lib.run_overlaps_apart (P := P) w tS tR e hS esz (fun w => sizN_run hE w) ⟨g1, 0, none⟩ ⟨g2, o2, none⟩ l1.length cap1 c (N - i) hgne ty1 ty2 cur1.size cur2.size (by simp [World.shape?, hg1]) (by simp [World.shape?, hg2]) hkB (by simp [World.frozen?, hg1]) (by simp [World.frozen?, hg1])
  have hne' : ¬ fn.name = "runtime.NumGoroutine" := by simpa using hnm
  unfold execOp
  rw [ho]
  have e1' : a.eval (.func f) = .func (.func f) #[] #[] := rfl
  have ea : as.map a.eval = #[.slice (some ⟨g1, 0, none⟩) l1.length cap1, .slice (some ⟨g2, o2, none⟩) c (N - i)] := by
    apply Array.ext'
    simp only [Array.toList_map, hxy, List.map_cons, List.map_nil, hz, hu1, e1]
  simp only [resolve, e1', Deferred.ofValue, Sem.run_bind, Sem.run_pure, Result.andThen_ok, invoke]
  rw [show (#[] ++ as.map a.eval ++ #[] : Array Value) = as.map a.eval by simp, ea]
  rw [run_callFunc_extern hfn hnm hbody hnx hext, hov]
  rfl
end
end Go.YtbbcnmfmncgffaaE
