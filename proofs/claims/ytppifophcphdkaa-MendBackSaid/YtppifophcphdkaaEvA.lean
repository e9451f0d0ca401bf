-- Written by hand for this claim's session.
import Derived.RowKit3
import Derived.Orders
import Derived.Below
import Derived.Laws.OwnMore
import Derived.Laws.Slices
import Derived.Laws.Cells
import Derived.Laws.CopyRow
import Derived.Laws.BytesString
namespace Go.YtppifophcphdkaaE
open Go.RowKit
set_option linter.unusedVariables false
set_option linter.unusedSimpArgs false
inductive T where
  | v (x : Value)
  | sl (sz : Nat) (l : List T)
  | agg (l : List T)
  | tuple (l : List T)
  | pt (l : List T)
  | iface (t : TypeId) (x : T)
  | fn (f : Fn) (first caps : List T)
  deriving Inhabited
inductive AV where
  | un
  | t (x : T)
  | own (b : Nat)
  | ptr (b off : Nat)
  | rp (b sz i j : Nat)
  | sub (b sz i n : Nat)
  | ab (p q : Prop)
  | fsub (b sz i n N : Nat)
  | agg (l : List AV)
  | tuple (l : List AV)
  | iface (t : TypeId) (x : AV)
  | fn (f : Fn) (first caps : List AV)
  deriving Inhabited
inductive Blk where
  | dead
  | box (ty : TypeId) (cells : List AV)
  | row (ty : TypeId) (sz : Nat) (l : List T)
  | arr (ty : TypeId) (sz : Nat) (l : List T) (N : Nat)
  | set (ks : List Value)
  deriving Inhabited
class Tabs where
  k : Nat → Int
  f : Nat → Int
def globs [Tabs] : List (Nat × List T) := []
@[reducible] def T.int (k : IntKind) (n : Int) : T := .v (.int k n)
@[reducible] def T.bool (b : Bool) : T := .v (.bool b)
@[reducible] def AV.int (k : IntKind) (n : Int) : AV := .t (.v (.int k n))
@[reducible] def AV.bool (b : Bool) : AV := .t (.v (.bool b))
def T.cells : T → List T
  | .agg l => l
  | x => [x]
def T.one : T → Bool
  | .v x => x.oneCell'
  | .agg _ => false
  | .tuple _ => false
  | _ => true
def AV.one : AV → Bool
  | .t x => x.one
  | .un => false
  | .agg _ => false
  | .tuple _ => false
  | _ => true
def T.fits (sz : Nat) (x : T) : Prop := x.cells.length = sz ∧ ∀ y ∈ x.cells, y.one = true
inductive HT (w : World) (O : Nat → Prop) : T → Value → Prop
  | v (x : Value) : HT w O (.v x) x
  | nil (sz : Nat) (A : Option Addr) (c : Nat) : HT w O (.sl sz []) (.slice A 0 c)
  | sl (sz : Nat) (l : List T) (b o c : Nat) (f : Nat → Value) (hO : ¬ O b) (hb : b < w.heap.size) (hc : l.length ≤ c) (hf : ∀ x ∈ l, x.fits sz)
      (hm : ∀ i j, i < l.length → j < sz → w.cell? ⟨b, o + i * sz + j, none⟩ = some (f (i * sz + j)))
      (ht : ∀ (i j : Nat) (x y : T), l[i]? = some x → x.cells[j]? = some y → HT w O y (f (i * sz + j))) : HT w O (.sl sz l) (.slice (some ⟨b, o, none⟩) l.length c)
  | agg (l : List T) (vs : List Value) (hl : vs.length = l.length) (h : ∀ (i : Nat) (x : T) (y : Value), l[i]? = some x → vs[i]? = some y → HT w O x y) : HT w O (.agg l) (.agg vs.toArray)
  | tuple (l : List T) (vs : List Value) (hl : vs.length = l.length) (h : ∀ (i : Nat) (x : T) (y : Value), l[i]? = some x → vs[i]? = some y → HT w O x y) : HT w O (.tuple l) (.tuple vs.toArray)
  | pt (l : List T) (b o : Nat) (f : Nat → Value) (hO : ¬ O b) (hb : b < w.heap.size) (h1 : ∀ y ∈ l, y.one = true) (hm : ∀ i, i < l.length → w.cell? ⟨b, o + i, none⟩ = some (f i))
      (ht : ∀ (i : Nat) (x : T), l[i]? = some x → HT w O x (f i)) : HT w O (.pt l) (.pointer (some ⟨b, o, none⟩))
  | iface (t : TypeId) (x : T) (y : Value) (h : HT w O x y) : HT w O (.iface t x) (.iface t y)
  | fn (f : Fn) (l m : List T) (vs us : List Value) (hl : vs.length = l.length) (h : ∀ (i : Nat) (x : T) (y : Value), l[i]? = some x → vs[i]? = some y → HT w O x y) (hm : us.length = m.length) (h' : ∀ (i : Nat) (x : T) (y : Value), m[i]? = some x → us[i]? = some y → HT w O x y) :
      HT w O (.fn f l m) (.func f vs.toArray us.toArray)

def blockOf : Value → Option Nat
  | .slice (some a) _ _ => some a.block
  | .pointer (some a) => some a.block
  | .map (some g) => some g
  | _ => none
def SubV (m : Nat → Option Value) (b sz i n : Nat) (v : Value) : Prop :=
  (n = 0 ∧ (∃ A c, v = .slice A 0 c) ∧ (i = 0 → v = .slice none 0 0)) ∨ ∃ g c', n ≤ c' ∧ v = .slice (some ⟨g, i * sz, none⟩) n c' ∧ (m b = some (.pointer (some ⟨g, 0, none⟩)) ∨ ∃ n' c, m b = some (.slice (some ⟨g, 0, none⟩) n' c) ∧ i + n ≤ n' ∧ i + c' = c)
theorem SubV.mono {m m' : Nat → Option Value} {b b' sz i n : Nat} {v : Value} (h : SubV m b sz i n v) (hm : ∀ v, m b = some v → m' b' = some v) : SubV m' b' sz i n v := by
  rcases h with h | ⟨g, c, h1, h2, h3 | ⟨n', c', h3, h4⟩⟩
  · exact .inl h
  · exact .inr ⟨g, c, h1, h2, .inl (hm _ h3)⟩
  · exact .inr ⟨g, c, h1, h2, .inr ⟨n', c', hm _ h3, h4⟩⟩
theorem SubV.cell {m : Nat → Option Value} {b sz i n : Nat} {v : Value} (h : SubV m b sz i n v) : v.oneCell' = true := by
  rcases h with ⟨_, ⟨A, c, rfl⟩, _⟩ | ⟨g, c, h1, rfl, _⟩ <;> rfl
def FsubV (m : Nat → Option Value) (b sz i n N : Nat) (v : Value) : Prop := ∃ g o, v = .slice (some ⟨g, o, none⟩) n (N - i) ∧ m b = some (.pointer (some ⟨g, 0, none⟩)) ∧ i + n ≤ N ∧ 0 < N ∧ (i < N → o = i * sz)
theorem FsubV.mono {m m' : Nat → Option Value} {b b' sz i n N : Nat} {v : Value} (h : FsubV m b sz i n N v) (hm : ∀ v, m b = some v → m' b' = some v) : FsubV m' b' sz i n N v := by
  obtain ⟨g, o, h1, h2, h3⟩ := h
  exact ⟨g, o, h1, hm _ h2, h3⟩
theorem FsubV.sub {m : Nat → Option Value} {b sz i n N : Nat} {v : Value} (h : FsubV m b sz i n N v) : SubV m b sz i n v := by
  obtain ⟨g, o, h1, h2, h3, h4, h5⟩ := h
  by_cases e : i < N
  · have h5 := h5 e
    subst h5
    exact .inr ⟨g, N - i, by omega, h1, .inl h2⟩
  · have : n = 0 := by omega
    subst this
    exact .inl ⟨rfl, ⟨_, _, h1⟩, fun e => by omega⟩
inductive HA (m : Nat → Option Value) (w : World) (O : Nat → Prop) : AV → Value → Prop
  | un (x : Value) : HA m w O .un x
  | t (x : T) (y : Value) (h : HT w O x y) : HA m w O (.t x) y
  | own (b : Nat) (v : Value) (h : m b = some v) (h1 : v.oneCell' = true) : HA m w O (.own b) v
  | ptr (b off g : Nat) (h : m b = some (.pointer (some ⟨g, 0, none⟩))) : HA m w O (.ptr b off) (.pointer (some ⟨g, off, none⟩))
  | rp (b sz i j g n c : Nat) (h : m b = some (.slice (some ⟨g, 0, none⟩) n c)) : HA m w O (.rp b sz i j) (.pointer (some ⟨g, i * sz + j, none⟩))
  | sub (b sz i n : Nat) (v : Value) (h : SubV m b sz i n v) : HA m w O (.sub b sz i n) v
  | fsub (b sz i n N : Nat) (v : Value) (h : FsubV m b sz i n N v) : HA m w O (.fsub b sz i n N) v
  | ab (p q : Prop) (b : Bool) (h : b = true → p) (h' : b = false → q) : HA m w O (.ab p q) (.bool b)
  | agg (l : List AV) (vs : List Value) (hl : vs.length = l.length) (h : ∀ (i : Nat) (x : AV) (y : Value), l[i]? = some x → vs[i]? = some y → HA m w O x y) : HA m w O (.agg l) (.agg vs.toArray)
  | tuple (l : List AV) (vs : List Value) (hl : vs.length = l.length) (h : ∀ (i : Nat) (x : AV) (y : Value), l[i]? = some x → vs[i]? = some y → HA m w O x y) : HA m w O (.tuple l) (.tuple vs.toArray)
  | iface (t : TypeId) (x : AV) (y : Value) (h : HA m w O x y) : HA m w O (.iface t x) (.iface t y)
  | fn (f : Fn) (l k : List AV) (vs us : List Value) (hl : vs.length = l.length) (h : ∀ (i : Nat) (x : AV) (y : Value), l[i]? = some x → vs[i]? = some y → HA m w O x y) (hm : us.length = k.length) (h' : ∀ (i : Nat) (x : AV) (y : Value), k[i]? = some x → us[i]? = some y → HA m w O x y) :
      HA m w O (.fn f l k) (.func f vs.toArray us.toArray)
def HB (m : Nat → Option Value) (w : World) (O : Nat → Prop) (b : Nat) : Blk → Prop
  | .dead => True
  | .box ty cells => ∃ (g : Nat) (vs : List Value), m b = some (.pointer (some ⟨g, 0, none⟩)) ∧ w.heap[g]? = some (.cells vs.toArray ty (0, 0)) ∧ vs.length = cells.length ∧ (∀ x ∈ cells, x.one = true) ∧ ∀ (i : Nat) (x : AV) (y : Value), cells[i]? = some x → vs[i]? = some y → HA m w O x y
  | .row ty sz l => ∃ (v : Value) (xs : List Value), m b = some v ∧ w.ownsRow 0 ty sz v l.length xs ∧ (∀ x ∈ l, x.fits sz) ∧ ∀ (i j : Nat) (x y : T), l[i]? = some x → x.cells[j]? = some y → ∃ u, xs[i * sz + j]? = some u ∧ HT w O y u
  | .arr ty sz l N => ∃ (g : Nat) (cur : Array Value), m b = some (.pointer (some ⟨g, 0, none⟩)) ∧ w.heap[g]? = some (.cells cur ty (0, 0)) ∧ cur.size = N * sz ∧ l.length ≤ N ∧ N ≤ maxLen ∧ (∀ x ∈ l, x.fits sz) ∧ ∀ (i j : Nat) (x y : T), l[i]? = some x → x.cells[j]? = some y → ∃ u, cur.toList[i * sz + j]? = some u ∧ HT w O y u
  | .set ks => ∃ (g : Nat) (es : Array MapEntry) (clock : Nat), m b = some (.map (some g)) ∧ w.heap[g]? = some (.map es clock) ∧ es.toList.map (fun e => (e.key, e.val)) = ks.map (fun k => (k, Value.bool true))
structure Keep (w : World) (O : Nat → Prop) (w' : World) : Prop where
  size : w.heap.size ≤ w'.heap.size
  block : ∀ c, c < w.heap.size → ¬ O c → w'.heap[c]? = w.heap[c]?
theorem Keep.refl (w : World) (O : Nat → Prop) : Keep w O w := ⟨Nat.le_refl _, fun _ _ _ => rfl⟩
theorem Keep.cell {w w' : World} {O : Nat → Prop} (h : Keep w O w') {b o : Nat} {s : Option Nat} (hb : b < w.heap.size) (hO : ¬ O b) : w'.cell? ⟨b, o, s⟩ = w.cell? ⟨b, o, s⟩ := World.cell?_of_block (h.block b hb hO)

theorem HT.mono {w w' : World} {O O' : Nat → Prop} (hk : Keep w O w') (hO' : ∀ c, O' c → O c ∨ w.heap.size ≤ c) {x : T} {y : Value} (h : HT w O x y) : HT w' O' x y := by
  have key : ∀ b, ¬ O b → b < w.heap.size → ¬ O' b := fun b h1 h2 h3 => (hO' b h3).elim h1 (fun h => by omega)
  induction h with
  | v x => exact .v x
  | nil sz A c => exact .nil sz A c
  | sl sz l b o c f hO hb hc hf hm ht ih => exact .sl sz l b o c f (key b hO hb) (Nat.lt_of_lt_of_le hb hk.size) hc hf (fun i j hi hj => (hk.cell hb hO).trans (hm i j hi hj)) ih
  | agg l vs hl h ih => exact .agg l vs hl ih
  | tuple l vs hl h ih => exact .tuple l vs hl ih
  | pt l b o f hO hb h1 hm ht ih => exact .pt l b o f (key b hO hb) (Nat.lt_of_lt_of_le hb hk.size) h1 (fun i hi => (hk.cell hb hO).trans (hm i hi)) ih
  | iface t x y h ih => exact .iface t x y ih
  | fn f l m vs us hl h hm h' ih ih' => exact .fn f l m vs us hl ih hm ih'

theorem HA.mono {m m' : Nat → Option Value} {w w' : World} {O O' : Nat → Prop} (hk : Keep w O w') (hO' : ∀ c, O' c → O c ∨ w.heap.size ≤ c) (hm : ∀ b v, m b = some v → m' b = some v) {x : AV} {y : Value} (h : HA m w O x y) : HA m' w' O' x y := by
  induction h with
  | un x => exact .un x
  | t x y h => exact .t x y (h.mono hk hO')
  | own b v h h1 => exact .own b v (hm _ _ h) h1
  | ptr b off g h => exact .ptr b off g (hm _ _ h)
  | rp b sz i j g n c h => exact .rp b sz i j g n c (hm _ _ h)
  | sub b sz i n v h => exact .sub b sz i n v (h.mono fun v h => hm _ v h)
  | ab p q b h h' => exact .ab p q b h h'
  | fsub b sz i n N v h => exact .fsub b sz i n N v (h.mono fun v h => hm _ v h)
  | agg l vs hl h ih => exact .agg l vs hl ih
  | tuple l vs hl h ih => exact .tuple l vs hl ih
  | iface t x y h ih => exact .iface t x y ih
  | fn f l k vs us hl h hm' h' ih ih' => exact .fn f l k vs us hl ih hm' ih'
end Go.YtppifophcphdkaaE
namespace Go.YtppifophcphdkaaE
open Go.RowKit
set_option linter.unusedVariables false
set_option linter.unusedSimpArgs false
abbrev Hp := Nat → Bool × Blk
def Blk.live : Blk → Prop
  | .dead => False
  | _ => True
def bk (m : Nat → Option Value) (b : Nat) : Option Nat := (m b).bind blockOf
def Owm (m : Nat → Option Value) (hf : Hp) (c : Nat) : Prop := ∃ b, (hf b).1 = false ∧ (hf b).2.live ∧ bk m b = some c
def Own (X : Nat → Prop) (m : Nat → Option Value) (hf : Hp) (c : Nat) : Prop := X c ∨ Owm m hf c
def get (a : Act) (t : Nat) : Value := a.tmps.getD t undef
structure But (w : World) (W : Nat → Prop) (w' : World) : Prop where
  os : w'.os = w.os
  tape : w'.tape = w.tape
  output : w'.output = w.output
  size : w.heap.size ≤ w'.heap.size
  block : ∀ c, c < w.heap.size → ¬ W c → w'.heap[c]? = w.heap[c]?
theorem But.refl (w : World) (W : Nat → Prop) : But w W w := ⟨rfl, rfl, rfl, Nat.le_refl _, fun _ _ _ => rfl⟩
theorem But.drew (w : World) (W : Nat → Prop) : But w W { w with drawn := w.drawn + 1 } := ⟨rfl, rfl, rfl, Nat.le_refl _, fun _ _ _ => rfl⟩
theorem But.keep {w w' : World} {W O : Nat → Prop} (h : But w W w') (hO : ∀ c, W c → O c) : Keep w O w' := ⟨h.size, fun c hc hn => h.block c hc (fun x => hn (hO c x))⟩
theorem But.below {w w' : World} {W : Nat → Prop} {B : Nat} (h : But w W w') (hB : B ≤ w.heap.size) (hW : ∀ c, W c → B ≤ c) : Below B w w' := ⟨h.os, h.tape, h.output, h.size, fun c hc => h.block c (by omega) (fun x => by have := hW c x; omega)⟩
theorem But.grown {w w' : World} {r : Option Nat} {W : Nat → Prop} (h : w.grownBy w' r) (hr : ∀ k, r = some k → W k) : But w W w' := ⟨h.os, h.tape, h.output, h.size, fun c hc hn => h.block c hc (fun e => hn (hr c e.symm))⟩
theorem But.alloc (w : World) (o : Obj) (W : Nat → Prop) : But w W (w.alloc o) := ⟨rfl, rfl, rfl, by simp, fun c hc _ => Below.heap_alloc w o c hc⟩
structure Bse where
  w : World
  m : Nat → Option Value
structure Rel [Tabs] (w0 : Bse) (X O0 D : Nat → Prop) (m : Nat → Option Value) (tf : Nat → AV) (hf : Hp) (a : Act) (w : World) : Prop where
  tmp : ∀ t, HA m w (Own X m hf) (tf t) (get a t)
  blk : ∀ b, HB m w (Own X m hf) b (hf b).2
  dom : ∀ b, ¬ D b → m b = none
  sep : ∀ b b', b ≠ b' → (hf b).1 = false → (hf b).2.live → (hf b').2.live → ∀ c, bk m b = some c → bk m b' ≠ some c
  xsep : ∀ b c, (hf b).2.live → bk m b = some c → ¬ X c
  xold : ∀ c, X c → c < w0.w.heap.size ∧ ¬ O0 c
  old : ∀ b c, (hf b).2.live → bk m b = some c → O0 c ∨ w0.w.heap.size ≤ c
  fr : But w0.w O0 w
  base : ∀ b v, w0.m b = some v → m b = some v
  gl : ∀ p ∈ globs, HT w (Own X m hf) (.pt p.2) (.pointer (some ⟨p.1, 0, none⟩))

theorem HB.lt {m : Nat → Option Value} {w : World} {O : Nat → Prop} {b c : Nat} {k : Blk} (h : HB m w O b k) (hl : k.live) (hc : bk m b = some c) : c < w.heap.size := by
  cases k with
  | dead => exact hl.elim
  | box ty cells =>
    obtain ⟨g, vs, h1, h2, _⟩ := h
    simp [bk, h1, blockOf] at hc
    subst hc
    exact (Array.getElem?_eq_some_iff.1 h2).1
  | row ty sz l =>
    obtain ⟨v, xs, h1, h2, _⟩ := h
    have : v.ownBlock = some c := by
      simp only [bk, h1, Option.bind_some] at hc
      rcases h2.2 with ⟨rfl, _⟩ | ⟨g, cap, cur, rfl, _⟩
      · simp [blockOf] at hc
      · simpa [blockOf, Value.ownBlock] using hc
    exact (h2.lt c this).2
  | arr ty sz l N =>
    obtain ⟨g, cur, h1, h2, _⟩ := h
    simp [bk, h1, blockOf] at hc
    subst hc
    exact (Array.getElem?_eq_some_iff.1 h2).1
  | set ks =>
    obtain ⟨g, es, cl, h1, h2, _⟩ := h
    simp [bk, h1, blockOf] at hc
    subst hc
    exact (Array.getElem?_eq_some_iff.1 h2).1

theorem HB.mono {m m' : Nat → Option Value} {w w' : World} {O O' : Nat → Prop} {b : Nat} {k : Blk} (hk : Keep w O w') (hO' : ∀ c, O' c → O c ∨ w.heap.size ≤ c) (hm : ∀ b v, m b = some v → m' b = some v)
    (hc : ∀ c, k.live → bk m b = some c → w'.heap[c]? = w.heap[c]?) (h : HB m w O b k) : HB m' w' O' b k := by
  cases k with
  | dead => trivial
  | box ty cells =>
    obtain ⟨g, vs, h1, h2, h3, h4, h5⟩ := h
    exact ⟨g, vs, hm _ _ h1, (hc g trivial (by simp [bk, h1, blockOf])).trans h2, h3, h4, fun i x y hx hy => (h5 i x y hx hy).mono hk hO' hm⟩
  | row ty sz l =>
    obtain ⟨v, xs, h1, h2, h3, h4⟩ := h
    refine ⟨v, xs, hm _ _ h1, ?_, h3, fun i j x y hx hy => ?_⟩
    · refine ⟨h2.1, ?_⟩
      rcases h2.2 with hn | ⟨g, cap, cur, rfl, hb, hg, rest⟩
      · exact .inl hn
      · exact .inr ⟨g, cap, cur, rfl, hb, (hc g trivial (by simp [bk, h1, blockOf])).trans hg, rest⟩
    · obtain ⟨u, hu, ht⟩ := h4 i j x y hx hy
      exact ⟨u, hu, ht.mono hk hO'⟩
  | arr ty sz l N =>
    obtain ⟨g, cur, h1, h2, h3, h4, h5, h6, h7⟩ := h
    refine ⟨g, cur, hm _ _ h1, (hc g trivial (by simp [bk, h1, blockOf])).trans h2, h3, h4, h5, h6, fun i j x y hx hy => ?_⟩
    obtain ⟨u, hu, ht⟩ := h7 i j x y hx hy
    exact ⟨u, hu, ht.mono hk hO'⟩
  | set ks =>
    obtain ⟨g, es, cl, h1, h2, h3⟩ := h
    exact ⟨g, es, cl, hm _ _ h1, (hc g trivial (by simp [bk, h1, blockOf])).trans h2, h3⟩

section
variable {w0 : Bse} {X O0 D : Nat → Prop} {m : Nat → Option Value} {tf : Nat → AV} {hf : Hp} {a : Act} {w : World}
theorem Rel.step [Tabs] (h : Rel w0 X O0 D m tf hf a w) {w' : World} {m' : Nat → Option Value} {D' : Nat → Prop} {tf' : Nat → AV} {hf' : Hp} {a' : Act} (W : Nat → Prop) (hw : But w W w') (hW : ∀ c, W c → Owm m hf c)
    (hm : ∀ b v, m b = some v → m' b = some v) (hD : ∀ b, ¬ D' b → m' b = none)
    (hb : ∀ b, (hf' b = hf b ∧ m' b = m b ∧ ∀ c, (hf b).2.live → bk m b = some c → ¬ W c) ∨
      (((∀ c, Own X m' hf' c → Own X m hf c ∨ w.heap.size ≤ c) → HB m' w' (Own X m' hf') b (hf' b).2) ∧ ((hf' b).2.live → ∀ c, bk m' b = some c → (w.heap.size ≤ c ∨ Owm m hf c) ∧ ∀ b', b' ≠ b → ((hf' b).1 = false ∨ (hf' b').1 = false) → (hf' b').2.live → bk m' b' ≠ some c)))
    (ht : ∀ t, (tf' t = tf t ∧ get a' t = get a t) ∨ ((∀ c, Own X m' hf' c → Own X m hf c ∨ w.heap.size ≤ c) → HA m' w' (Own X m' hf') (tf' t) (get a' t))) : Rel w0 X O0 D' m' tf' hf' a' w' := by
  have hkeep : Keep w (Own X m hf) w' := hw.keep (fun c hc => .inr (hW c hc))
  have hO' : ∀ c, Own X m' hf' c → Own X m hf c ∨ w.heap.size ≤ c := by
    rintro c (hx | ⟨b, h1, h2, h3⟩)
    · exact .inl (.inl hx)
    · rcases hb b with ⟨e1, e2, _⟩ | ⟨_, hl⟩
      · exact .inl (.inr ⟨b, e1 ▸ h1, e1 ▸ h2, by unfold bk at h3 ⊢; rw [← e2]; exact h3⟩)
      · exact (hl h2 c h3).1.elim .inr (fun x => .inl (.inr x))
  refine ⟨fun t => ?_, fun b => ?_, hD, ?_, ?_, h.xold, ?_, ?_, fun b v hb => hm b v (h.base b v hb), fun p hp => (h.gl p hp).mono hkeep hO'⟩
  · rcases ht t with ⟨e1, e2⟩ | hh
    · rw [e1, e2]; exact (h.tmp t).mono hkeep hO' hm
    · exact hh hO'
  · rcases hb b with ⟨e1, e2, h3⟩ | ⟨hh, _⟩
    · rw [e1]; exact (h.blk b).mono hkeep hO' hm (fun c hl hc => hw.block c ((h.blk b).lt hl hc) (h3 c hl hc))
    · exact hh hO'
  · intro b b' hne hfz hl hl' c hc hc'
    rcases hb b with ⟨e1, e2, _⟩ | ⟨_, hu⟩
    · rcases hb b' with ⟨e1', e2', _⟩ | ⟨_, hu'⟩
      · rw [e1] at hfz hl; rw [e1'] at hl'
        unfold bk at hc hc'; rw [e2] at hc; rw [e2'] at hc'
        exact h.sep b b' hne hfz hl hl' c hc hc'
      · exact (hu' hl' c hc').2 b hne (.inr hfz) hl hc
    · exact (hu hl c hc).2 b' (fun e => hne e.symm) (.inl hfz) hl' hc'
  · intro b c hl hc hx
    rcases hb b with ⟨e1, e2, _⟩ | ⟨_, hu⟩
    · rw [e1] at hl; unfold bk at hc; rw [e2] at hc; exact h.xsep b c hl hc hx
    · rcases (hu hl c hc).1 with hh | ⟨b2, _, h2, h3⟩
      · have := (h.xold c hx).1; have := h.fr.size; omega
      · exact h.xsep b2 c h2 h3 hx
  · intro b c h2 h3
    rcases hb b with ⟨e1, e2, _⟩ | ⟨_, hu⟩
    · exact h.old b c (e1 ▸ h2) (by unfold bk at h3 ⊢; rw [← e2]; exact h3)
    · rcases (hu h2 c h3).1 with hh | ⟨b2, _, h4, h5⟩
      · exact .inr (Nat.le_trans h.fr.size hh)
      · exact h.old b2 c h4 h5
  · refine ⟨hw.os.trans h.fr.os, hw.tape.trans h.fr.tape, hw.output.trans h.fr.output, Nat.le_trans h.fr.size hw.size, fun c hc hn => ?_⟩
    rw [← h.fr.block c hc hn]
    refine hw.block c (Nat.lt_of_lt_of_le hc h.fr.size) (fun hx => ?_)
    obtain ⟨b2, _, h4, h5⟩ := hW c hx
    rcases h.old b2 c h4 h5 with hh | hh
    · exact hn hh
    · omega
theorem get_put {a : Act} {d t : Nat} {v : Value} (h : t ≠ d) : get (a.put (some d) v) t = get a t := by
  unfold get Act.put
  simp only [Array.getD_eq_getD_getElem?, Array.getElem?_setIfInBounds]
  rw [if_neg (fun e => h e.symm)]
theorem get_put_self {a : Act} {d : Nat} {v : Value} (h : d < a.tmps.size) : get (a.put (some d) v) d = v := by
  unfold get Act.put
  simp [Array.getD_eq_getD_getElem?, h]
theorem size_put {a : Act} {d : Option Tmp} {v : Value} : (a.put d v).tmps.size = a.tmps.size := by
  cases d <;> simp [Act.put]
theorem defers_put {a : Act} {d : Option Tmp} {v : Value} : (a.put d v).defers = a.defers := by
  cases d <;> rfl
def upT (tf : Nat → AV) (d : Option Tmp) (v : AV) : Nat → AV := fun t => if d = some t then v else tf t
theorem put_told [Tabs] {d : Option Tmp} {v : AV} {u : Value} {w' : World} {m' : Nat → Option Value} {O' : Nat → Prop} (hn : ∀ x, d = some x → x < a.tmps.size) (hv : HA m' w' O' v u) (t : Nat) :
    (upT tf d v t = tf t ∧ get (a.put d u) t = get a t) ∨ HA m' w' O' (upT tf d v t) (get (a.put d u) t) := by
  unfold upT
  by_cases e : d = some t
  · subst e
    rw [if_pos rfl, get_put_self (hn t rfl)]
    exact .inr hv
  · rw [if_neg e]
    refine .inl ⟨rfl, ?_⟩
    cases d with
    | none => rfl
    | some x => exact get_put (fun h => e (by rw [h]))
theorem Rel.put [Tabs] (h : Rel w0 X O0 D m tf hf a w) {w' : World} (d : Option Tmp) (v : AV) (u : Value) (hn : ∀ x, d = some x → x < a.tmps.size) (hw : But w (fun _ => False) w') (hv : HA m w (Own X m hf) v u) : Rel w0 X O0 D m (upT tf d v) hf (a.put d u) w' := by
  refine h.step (fun _ => False) hw (fun _ h => h.elim) (fun _ _ h => h) h.dom (fun b => .inl ⟨rfl, rfl, fun _ _ _ h => h⟩) (fun t => ?_)
  rcases put_told (tf := tf) (a := a) (m' := m) (w' := w') (O' := Own X m hf) hn (hv.mono (hw.keep fun _ h => h.elim) (fun c hc => .inl hc) (fun _ _ h => h)) t with hh | hh
  · exact .inl hh
  · exact .inr fun _ => hh
end
end Go.YtppifophcphdkaaE
namespace Go.YtppifophcphdkaaE
open Go.RowKit
set_option linter.unusedVariables false
set_option linter.unusedSimpArgs false
def look {α : Type} (d : α) : List (Nat × α) → Nat → α
  | [], _ => d
  | (i, x) :: l, j => bif Nat.beq i j then x else look d l j
abbrev Heap := List (Nat × Bool × Blk)
abbrev Tmps := List (Nat × AV)
def lookH (H : Heap) : Hp := look (false, .dead) H
def lookT (tm : Tmps) : Nat → AV := look .un tm
def ids {α : Type} (l : List (Nat × α)) : List Nat := l.map (·.1)
theorem look_cons {α : Type} (d x : α) (i j : Nat) (l : List (Nat × α)) : look d ((i, x) :: l) j = if i = j then x else look d l j := by
  show (bif Nat.beq i j then x else look d l j) = _
  by_cases h : i = j
  · subst h; simp
  · rw [if_neg h]
    have : Nat.beq i j = false := by rw [Bool.eq_false_iff]; exact fun e => h (Nat.eq_of_beq_eq_true e)
    rw [this]; rfl
theorem look_append [Tabs] {α : Type} (d : α) (l k : List (Nat × α)) (j : Nat) : look d (l ++ k) j = if j ∈ ids l then look d l j else look d k j := by
  induction l with
  | nil => simp [ids]
  | cons p l ih =>
    obtain ⟨i, x⟩ := p
    rw [List.cons_append, look_cons, look_cons, ih]
    by_cases h : i = j
    · simp [h, ids]
    · have : ¬ j = i := fun e => h e.symm
      have e : (j ∈ ids ((i, x) :: l)) = (j ∈ ids l) := by simp [ids, this]
      simp only [if_neg h, e]
theorem look_none [Tabs] {α : Type} (d : α) (l : List (Nat × α)) (j : Nat) (h : j ∉ ids l) : look d l j = d := by
  induction l with
  | nil => rfl
  | cons p l ih =>
    obtain ⟨i, x⟩ := p
    simp only [ids, List.map_cons, List.mem_cons, not_or] at h
    rw [look_cons, if_neg (fun e => h.1 e.symm)]
    exact ih h.2
def upH (hf : Hp) (W : Heap) : Hp := fun b => if b ∈ ids W then lookH W b else hf b
theorem upH_nil (hf : Hp) : upH hf [] = hf := by funext b; simp [upH, ids]
def glob : List (Nat × List T) → Nat → AV
  | [], g => .t (.v (.pointer (some ⟨g, 0, none⟩)))
  | p :: l, g => bif Nat.beq p.1 g then .t (.pt p.2) else glob l g
theorem glob_told {m : Nat → Option Value} {w : World} {O : Nat → Prop} : ∀ {l : List (Nat × List T)} {g : Nat}, (∀ p ∈ l, HT w O (.pt p.2) (.pointer (some ⟨p.1, 0, none⟩))) → HA m w O (glob l g) (.pointer (some ⟨g, 0, none⟩))
  | [], g, _ => .t _ _ (.v _)
  | p :: l, g, h => by
    unfold glob
    cases e : Nat.beq p.1 g with
    | true =>
      have e := Nat.eq_of_beq_eq_true e
      subst e
      exact .t _ _ (h p (List.mem_cons_self ..))
    | false => exact glob_told fun q hq => h q (List.mem_cons_of_mem _ hq)
def opd [Tabs] (tf : Nat → AV) : Operand → AV
  | .tmp t => tf t
  | .const x => .t (.v x)
  | .func f => .t (.v (.func (.func f) #[] #[]))
  | .global g => glob globs g
def OpOk [Tabs] (P : Program) (o : Oper) (tf : Nat → AV) (hf : Hp) (v : AV) (W : Heap) (N : List Nat) : Prop :=
  ∀ (w0 : Bse) (X O0 D : Nat → Prop) (m : Nat → Option Value) (a : Act) (w : World) (Q : Exit → Act → World → Prop), Rel w0 X O0 D m tf hf a w → (∀ x, o.dst = some x → x < a.tmps.size) → (∀ n ∈ N, ¬ D n) →
    o.wp P a w (fun a' w' => ∃ u m', a' = a.put o.dst u ∧ Rel w0 X O0 (fun b => D b ∨ b ∈ N) m' (upT tf o.dst v) (upH hf W) a' w') Q
def tmpsOf (o : Oper) : List Nat := o.op.operands.toList.filterMap fun | .tmp t => some t | _ => none
def OpLoc [Tabs] (P : Program) (o : Oper) (R : List Nat) (tf : Nat → AV) (hf : Hp) (v : AV) (W : Heap) (N : List Nat) : Prop :=
  (∀ b ∈ ids W, b ∈ R ∨ b ∈ N) ∧ ∀ tf' hf', (∀ t ∈ tmpsOf o, tf' t = tf t) → (∀ b ∈ R, hf' b = hf b) → OpOk P o tf' hf' v W N
abbrev Kont := AV → Heap → List Nat → List Nat → Prop
def Told [Tabs] (P : Program) (o : Oper) (tm : Tmps) (H : Heap) (k : Kont) : Prop := ∃ v W R N, OpLoc P o R (lookT tm) (lookH H) v W N ∧ k v W R N

section
variable {P : Program} {o : Oper} {tf : Nat → AV} {hf : Hp} {v : AV}
theorem OpOk.val [Tabs] (h : ∀ (w0 : Bse) (X O0 D : Nat → Prop) (m : Nat → Option Value) (a : Act) (w : World), Rel w0 X O0 D m tf hf a w → ∃ u, (execOp a.eval o).run P w = .ok (.value u) w ∧ HA m w (Own X m hf) v u) : OpOk P o tf hf v [] [] := by
  intro w0 X O0 D m a w Q hR hd _
  obtain ⟨u, hrun, hv⟩ := h w0 X O0 D m a w hR
  unfold Oper.wp
  rw [hrun]
  refine ⟨u, m, rfl, ?_⟩
  rw [upH_nil]
  have := hR.put o.dst v u hd (But.refl w _) hv
  simpa using this
theorem opd_told [Tabs] {w0 : Bse} {X O0 D : Nat → Prop} {m : Nat → Option Value} {a : Act} {w : World} (hR : Rel w0 X O0 D m tf hf a w) (x : Operand) : HA m w (Own X m hf) (opd tf x) (a.eval x) := by
  cases x with
  | tmp t => exact hR.tmp t
  | const v => exact .t _ _ (.v v)
  | global g => exact glob_told hR.gl
  | func f => exact .t _ _ (.v _)
theorem opd_same [Tabs] {tf' : Nat → AV} {x : Operand} {l : List Operand} (h : ∀ t ∈ l.filterMap (fun | .tmp t => some t | _ => none), tf' t = tf t) (hx : x ∈ l) : opd tf' x = opd tf x := by
  cases x with
  | tmp t => exact h t (List.mem_filterMap.2 ⟨.tmp t, hx, rfl⟩)
  | _ => rfl
theorem tmps_same [Tabs] {tf' : Nat → AV} {x : Operand} (h : ∀ t ∈ tmpsOf o, tf' t = tf t) (hx : x ∈ o.op.operands.toList) : opd tf' x = opd tf x := opd_same h hx
end
section
variable {m : Nat → Option Value} {w : World} {O : Nat → Prop}
theorem HA.v_eq {x y : Value} (h : HA m w O (.t (.v x)) y) : y = x := by cases h with | t _ _ h => cases h; rfl
theorem HA.t_ht {x : T} {y : Value} (h : HA m w O (.t x) y) : HT w O x y := by cases h with | t _ _ h => exact h
theorem HA.sl_eq {sz : Nat} {l : List T} {y : Value} (h : HA m w O (.t (.sl sz l)) y) : ∃ A c, y = .slice A l.length c ∧ l.length ≤ c := by
  cases h with
  | t _ _ h => cases h with
    | nil _ A c => exact ⟨A, c, rfl, Nat.zero_le _⟩
    | sl _ _ b o c f hO hb hc => exact ⟨_, c, rfl, hc⟩
theorem HA.list_of_agg {l : List AV} {y : Value} (h : HA m w O (.agg l) y) : ∃ vs : List Value, y = .agg vs.toArray ∧ vs.length = l.length ∧ ∀ (i : Nat) x z, l[i]? = some x → vs[i]? = some z → HA m w O x z := by
  cases h with | agg _ vs hl h => exact ⟨vs, rfl, hl, h⟩
theorem HT.list_of_agg {l : List T} {y : Value} (h : HT w O (.agg l) y) : ∃ vs : List Value, y = .agg vs.toArray ∧ vs.length = l.length ∧ ∀ (i : Nat) x z, l[i]? = some x → vs[i]? = some z → HT w O x z := by
  cases h with | agg _ vs hl h => exact ⟨vs, rfl, hl, h⟩
end
def evMove (x : AV) (k : Kont) : Prop :=
  match x with
  | .un => k .un [] [] []
  | .t x => k (.t x) [] [] []
  | .own b => k (.own b) [] [] []
  | .ptr b o => k (.ptr b o) [] [] []
  | .rp b sz i j => k (.rp b sz i j) [] [] []
  | .sub b sz i n => k (.sub b sz i n) [] [] []
  | .ab p q => k (.ab p q) [] [] []
  | .fsub b sz i n N => k (.fsub b sz i n N) [] [] []
  | .agg l => k (.agg l) [] [] []
  | .tuple l => k (.tuple l) [] [] []
  | .iface t x => k (.iface t x) [] [] []
  | .fn f a c => k (.fn f a c) [] [] []
theorem evMove_iff {x : AV} {k : Kont} : evMove x k ↔ k x [] [] [] := by cases x <;> rfl
section
variable {P : Program} {o : Oper} {tf : Nat → AV} {hf : Hp} {v : AV}
theorem loc_val [Tabs] (h : ∀ tf' hf', (∀ t ∈ tmpsOf o, tf' t = tf t) → OpOk P o tf' hf' v [] []) : OpLoc P o [] tf hf v [] [] := ⟨fun b hb => by simp [ids] at hb, fun tf' hf' ht _ => h tf' hf' ht⟩
theorem ok_move [Tabs] {x : Operand} (ho : o.op = .move x ∨ o.op = .assign x) : OpLoc P o [] tf hf (opd tf x) [] [] := by
  refine loc_val fun tf' hf' ht => ?_
  have hx : x ∈ o.op.operands.toList := by rcases ho with e | e <;> rw [e] <;> simp [Op.operands]
  rw [← tmps_same ht hx]
  refine .val fun w0 X O0 D m a w hR => ⟨a.eval x, ?_, opd_told hR x⟩
  unfold execOp
  rcases ho with e | e <;> rw [e] <;> rfl
theorem ok_pick [Tabs] {c x y : Operand} {b : Bool} (ho : o.op = .pick c x y) (hc : opd tf c = .t (.v (.bool b))) : OpLoc P o [] tf hf (if b then opd tf x else opd tf y) [] [] := by
  refine loc_val fun tf' hf' ht => ?_
  have hx : ∀ z, z = c ∨ z = x ∨ z = y → opd tf' z = opd tf z := fun z hz => tmps_same ht (by rw [ho]; simp [Op.operands]; exact hz)
  rw [← hx x (by simp), ← hx y (by simp)]
  rw [← hx c (by simp)] at hc
  refine .val fun w0 X O0 D m a w hR => ⟨if b then a.eval x else a.eval y, ?_, ?_⟩
  · have := opd_told hR c
    rw [hc] at this
    unfold execOp
    rw [ho]
    simp only [this.v_eq]
    cases b <;> rfl
  · cases b
    · exact opd_told hR y
    · exact opd_told hR x
end
def evBin (u : Option TypeDesc) (op : BinOp) (cx : Bool) (x y : AV) (k : Kont) : Prop :=
  match x, y with
  | .t (.v (.int κ a)), .t (.v (.int κ' b)) =>
    (match op with
    | .shl => 0 ≤ b ∧ k (.int κ (κ.wrap (a * 2 ^ (min b.toNat κ.bits)))) [] [] []
    | .shr => 0 ≤ b ∧ k (.int κ (a.fdiv (2 ^ (min b.toNat κ.bits)))) [] [] []
    | op => match decide (κ = κ') with
      | false => False
      | true => match op with
        | .add => k (.int κ (κ.wrap (a + b))) [] [] []
        | .sub => k (.int κ (κ.wrap (a - b))) [] [] []
        | .mul => k (.int κ (κ.wrap (a * b))) [] [] []
        | .quo => ¬ b = 0 ∧ k (.int κ (κ.wrap (a.tdiv b))) [] [] []
        | .rem => ¬ b = 0 ∧ k (.int κ (a.tmod b)) [] [] []
        | .and => k (.int κ (Go.bits .and κ a b)) [] [] []
        | .or => k (.int κ (Go.bits .or κ a b)) [] [] []
        | .xor => k (.int κ (Go.bits .xor κ a b)) [] [] []
        | .eql => k (.bool (decide (a = b))) [] [] []
        | .neq => k (.bool (!decide (a = b))) [] [] []
        | .lss => k (.bool (decide (a < b))) [] [] []
        | .leq => k (.bool (decide (a ≤ b))) [] [] []
        | .gtr => k (.bool (decide (a > b))) [] [] []
        | .geq => k (.bool (decide (a ≥ b))) [] [] []
        | _ => False)
  | .t (.v (.bool a)), .t (.v (.bool b)) => (match op, u with
    | .eql, some .bool => k (.bool (a == b)) [] [] []
    | .neq, some .bool => k (.bool (!(a == b))) [] [] []
    | _, _ => False)
  | .t (.v (.string a)), .t (.v (.string b)) => (match op with
    | .eql => ∀ c, c = decide (a.toList = b.toList) → k (.bool c) [] [] []
    | .neq => ∀ c, c = (!decide (a.toList = b.toList)) → k (.bool c) [] [] []
    | _ => False)
  | .t (.v .nilIface), .t (.v .nilIface) => (match op, cx, u with
    | .eql, true, some (.interface _) => k (.bool true) [] [] []
    | .neq, true, some (.interface _) => k (.bool false) [] [] []
    | _, _, _ => False)
  | .iface _ _, .t (.v .nilIface) => (match op, u with
    | .eql, some (.interface _) => k (.bool false) [] [] []
    | .neq, some (.interface _) => k (.bool true) [] [] []
    | _, _ => False)
  | .t (.iface _ _), .t (.v .nilIface) => (match op, u with
    | .eql, some (.interface _) => k (.bool false) [] [] []
    | .neq, some (.interface _) => k (.bool true) [] [] []
    | _, _ => False)
  | .t (.v (.pointer none)), .t (.v (.pointer none)) => (match op, u with
    | .eql, some (.pointer _) => k (.bool true) [] [] []
    | .neq, some (.pointer _) => k (.bool false) [] [] []
    | _, _ => False)
  | .ptr _ _, .t (.v (.pointer none)) => (match op, u with
    | .eql, some (.pointer _) => k (.bool false) [] [] []
    | .neq, some (.pointer _) => k (.bool true) [] [] []
    | _, _ => False)
  | .t (.pt _), .t (.v (.pointer none)) => (match op, u with
    | .eql, some (.pointer _) => k (.bool false) [] [] []
    | .neq, some (.pointer _) => k (.bool true) [] [] []
    | _, _ => False)
  | _, _ => False
def isConstB : Operand → Bool
  | .const _ => true
  | _ => false
def binRun (P : Program) (op : BinOp) (t : TypeId) (x y : Operand) (vx vy : Value) (u : Value) : Prop := ∀ w : World, (do eqGuard op t x y vx vy; Go.binOp op t vx vy : Sem Value).run P w = .ok u w
theorem bin_ii {P : Program} {op : BinOp} {t : TypeId} {x y : Operand} {κ κ' : IntKind} {a b : Int} {k : Kont} {cx : Bool} {ut : Option TypeDesc} (h : evBin ut op cx (.t (.v (.int κ a))) (.t (.v (.int κ' b))) k) :
    ∃ u, binRun P op t x y (.int κ a) (.int κ' b) u ∧ k (.t (.v u)) [] [] [] := by
  unfold evBin at h
  cases op with
  | shl => exact ⟨_, fun w => by have := h.1; simp [eqGuard, Go.binOp, Op.shift, show ¬ b < 0 by omega], h.2⟩
  | shr => exact ⟨_, fun w => by have := h.1; simp [eqGuard, Go.binOp, Op.shift, show ¬ b < 0 by omega], h.2⟩
  | _ =>
    by_cases e : κ = κ'
    · subst e
      simp only [decide_true] at h <;> first
        | exact h.elim
        | (refine ⟨_, fun w => ?_, h.2⟩; simp [eqGuard, Go.binOp, Op.intDiv, h.1]; done)
        | (refine ⟨_, fun w => ?_, h⟩; simp [eqGuard, Go.binOp, Op.intArith]; done)
        | (refine ⟨_, fun w => ?_, h⟩; simp [eqGuard, Go.binOp, intBits_and, intBits_or, intBits_xor]; done)
        | (refine ⟨_, fun w => ?_, h⟩; simp [eqGuard, Go.binOp, Op.intCmp]; done)
        | (refine ⟨_, fun w => ?_, h⟩; simp [eqGuard, Go.binOp, Op.intCmp]; first | done | rfl)
        | (refine ⟨_, fun w => ?_, h⟩; simp [eqGuard, Go.binOp, Op.intCmp]; rw [Bool.eq_iff_iff]; simp; done)
    · simp only [decide_eq_false e] at h
theorem run_eqs {P : Program} {t : TypeId} {x y : Operand} {vx vy : Value} {b : Bool} {w : World} (hg : ∀ op, (eqGuard op t x y vx vy).run P w = .ok () w) (h1 : Go.binOp .eql t vx vy = (do pure (.bool (← Op.equal t vx vy)))) (h2 : Go.binOp .neq t vx vy = (do pure (.bool (!(← Op.equal t vx vy))))) (he : (Op.equal t vx vy).run P w = .ok b w) :
    (do eqGuard .eql t x y vx vy; Go.binOp .eql t vx vy : Sem Value).run P w = .ok (.bool b) w ∧ (do eqGuard .neq t x y vx vy; Go.binOp .neq t vx vy : Sem Value).run P w = .ok (.bool (!b)) w := by
  constructor
  · simp only [Sem.run_bind, hg, Result.andThen_ok, h1, he, Sem.run_pure]
  · simp only [Sem.run_bind, hg, Result.andThen_ok, h2, he, Sem.run_pure]
theorem equal_step {P : Program} {t : TypeId} {vx vy : Value} {w : World} {b : Bool} (h : (Op.equalIn (9999 + 1) t vx vy).run P w = .ok b w) : (Op.equal t vx vy).run P w = .ok b w := h
theorem ok_bin [Tabs] {P : Program} {o : Oper} {tf : Nat → AV} {hf : Hp} {op : BinOp} {t t' : TypeId} {x y : Operand} {k : Kont} (ho : o.op = .binOp op t x y t') (h : evBin (P.underlying t) op (isConstB x || isConstB y) (opd tf x) (opd tf y) k) :
    ∃ v, OpLoc P o [] tf hf v [] [] ∧ k v [] [] [] := by
  have main : ∀ (u : Value), (∀ (w : World) (m : Nat → Option Value) (O : Nat → Prop) (vx vy : Value), HA m w O (opd tf x) vx → HA m w O (opd tf y) vy → (do eqGuard op t x y vx vy; Go.binOp op t vx vy : Sem Value).run P w = .ok u w) → OpLoc P o [] tf hf (.t (.v u)) [] [] := by
    intro u hu
    refine loc_val fun tf' hf' ht => ?_
    have hx : ∀ z, z = x ∨ z = y → opd tf' z = opd tf z := fun z hz => tmps_same ht (by rw [ho]; simp [Op.operands]; exact hz)
    refine .val fun w0 X O0 D m a w hR => ⟨u, ?_, .t _ _ (.v u)⟩
    have h1 := opd_told hR x
    have h2 := opd_told hR y
    rw [hx x (by simp)] at h1
    rw [hx y (by simp)] at h2
    have h3 := hu w m _ _ _ h1 h2
    unfold execOp
    rw [ho]
    show Sem.run P (do let z ← (do eqGuard op t x y (a.eval x) (a.eval y); Go.binOp op t (a.eval x) (a.eval y) : Sem Value); pure (Next.value z)) w = _
    generalize (do eqGuard op t x y (a.eval x) (a.eval y); Go.binOp op t (a.eval x) (a.eval y) : Sem Value) = s at h3 ⊢
    simp [h3]
  generalize hcx : (isConstB x || isConstB y) = cx at h
  generalize hX : opd tf x = ax at h main
  generalize hY : opd tf y = ay at h main
  have guard : cx = true → ∀ (w : World) (op : BinOp), (eqGuard op t x y .nilIface .nilIface).run P w = .ok () w := by
    intro e w op
    subst e
    cases op <;> cases x <;> cases y <;> first | rfl | simp [isConstB] at hcx
  unfold evBin at h
  split at h
  · obtain ⟨u, h1, h2⟩ := bin_ii (P := P) (t := t) (x := x) (y := y) (op := op) (cx := cx) (k := k) (ut := none) (by unfold evBin; exact h)
    exact ⟨_, main u (fun w m O vx vy hx hy => by rw [hx.v_eq, hy.v_eq]; exact h1 w), h2⟩
  · split at h
    · refine ⟨_, main (.bool _) (fun w m O vx vy hx hy => ?_), h⟩
      rw [hx.v_eq, hy.v_eq]
      exact (run_eqs (fun op => by cases op <;> rfl) rfl rfl (equal_step (by unfold Op.equalIn; simp [run_underlying (by assumption)]))).1
    · refine ⟨_, main (.bool _) (fun w m O vx vy hx hy => ?_), h⟩
      rw [hx.v_eq, hy.v_eq]
      exact (run_eqs (fun op => by cases op <;> rfl) rfl rfl (equal_step (by unfold Op.equalIn; simp [run_underlying (by assumption)]))).2
    · exact h.elim
  · split at h
    · exact ⟨_, main (.bool _) (fun w m O vx vy hx hy => by rw [hx.v_eq, hy.v_eq]; simp [eqGuard, Go.binOp, Op.stringOp]; rw [Bool.eq_iff_iff]; simp), h _ rfl⟩
    · exact ⟨_, main (.bool _) (fun w m O vx vy hx hy => by rw [hx.v_eq, hy.v_eq]; simp [eqGuard, Go.binOp, Op.stringOp]; rw [Bool.eq_iff_iff]; simp), h _ rfl⟩
    · exact h.elim
  · split at h
    · refine ⟨_, main (.bool true) (fun w m O vx vy hx hy => ?_), h⟩
      rw [hx.v_eq, hy.v_eq]
      exact (run_eqs (fun op => guard rfl w op) rfl rfl (equal_step (by unfold Op.equalIn; simp [run_underlying (by assumption)]))).1
    · refine ⟨_, main (.bool (!true)) (fun w m O vx vy hx hy => ?_), h⟩
      rw [hx.v_eq, hy.v_eq]
      exact (run_eqs (fun op => guard rfl w op) rfl rfl (equal_step (by unfold Op.equalIn; simp [run_underlying (by assumption)]))).2
    · exact h.elim
  · split at h
    · refine ⟨_, main (.bool false) (fun w m O vx vy hx hy => ?_), h⟩
      rw [hy.v_eq]; cases hx
      exact (run_eqs (fun op => by cases op <;> rfl) rfl rfl (equal_step (by unfold Op.equalIn; simp [run_underlying (by assumption)]))).1
    · refine ⟨_, main (.bool (!false)) (fun w m O vx vy hx hy => ?_), h⟩
      rw [hy.v_eq]; cases hx
      exact (run_eqs (fun op => by cases op <;> rfl) rfl rfl (equal_step (by unfold Op.equalIn; simp [run_underlying (by assumption)]))).2
    · exact h.elim
  · split at h
    · refine ⟨_, main (.bool false) (fun w m O vx vy hx hy => ?_), h⟩
      rw [hy.v_eq]; cases hx.t_ht
      exact (run_eqs (fun op => by cases op <;> rfl) rfl rfl (equal_step (by unfold Op.equalIn; simp [run_underlying (by assumption)]))).1
    · refine ⟨_, main (.bool (!false)) (fun w m O vx vy hx hy => ?_), h⟩
      rw [hy.v_eq]; cases hx.t_ht
      exact (run_eqs (fun op => by cases op <;> rfl) rfl rfl (equal_step (by unfold Op.equalIn; simp [run_underlying (by assumption)]))).2
    · exact h.elim
  · split at h
    · refine ⟨_, main (.bool true) (fun w m O vx vy hx hy => ?_), h⟩
      rw [hx.v_eq, hy.v_eq]
      exact (run_eqs (fun op => by cases op <;> rfl) rfl rfl (equal_step (by unfold Op.equalIn; simp [run_underlying (by assumption)]))).1
    · refine ⟨_, main (.bool (!true)) (fun w m O vx vy hx hy => ?_), h⟩
      rw [hx.v_eq, hy.v_eq]
      exact (run_eqs (fun op => by cases op <;> rfl) rfl rfl (equal_step (by unfold Op.equalIn; simp [run_underlying (by assumption)]))).2
    · exact h.elim
  · split at h
    · refine ⟨_, main (.bool false) (fun w m O vx vy hx hy => ?_), h⟩
      rw [hy.v_eq]; cases hx
      exact (run_eqs (fun op => by cases op <;> rfl) rfl rfl (equal_step (by unfold Op.equalIn; simp [run_underlying (by assumption)]))).1
    · refine ⟨_, main (.bool (!false)) (fun w m O vx vy hx hy => ?_), h⟩
      rw [hy.v_eq]; cases hx
      exact (run_eqs (fun op => by cases op <;> rfl) rfl rfl (equal_step (by unfold Op.equalIn; simp [run_underlying (by assumption)]))).2
    · exact h.elim
  · split at h
    · refine ⟨_, main (.bool false) (fun w m O vx vy hx hy => ?_), h⟩
      rw [hy.v_eq]; cases hx.t_ht
      exact (run_eqs (fun op => by cases op <;> rfl) rfl rfl (equal_step (by unfold Op.equalIn; simp [run_underlying (by assumption)]))).1
    · refine ⟨_, main (.bool (!false)) (fun w m O vx vy hx hy => ?_), h⟩
      rw [hy.v_eq]; cases hx.t_ht
      exact (run_eqs (fun op => by cases op <;> rfl) rfl rfl (equal_step (by unfold Op.equalIn; simp [run_underlying (by assumption)]))).2
    · exact h.elim
  · exact h.elim
end Go.YtppifophcphdkaaE
namespace Go.YtppifophcphdkaaE
open Go.RowKit
set_option linter.unusedVariables false
set_option linter.unusedSimpArgs false
def plainL (l : List AV) (k : List AV → Prop) : Prop :=
  match l with
  | [] => k []
  | x :: l => evMove x fun x _ _ _ => plainL l fun l => k (x :: l)
theorem plainL_iff [Tabs] {l : List AV} {k : List AV → Prop} : plainL l k ↔ k l := by
  induction l generalizing k with
  | nil => rfl
  | cons x l ih => unfold plainL; rw [evMove_iff]; exact ih
def dataL : List AV → Option (List T)
  | [] => some []
  | .t x :: l => (match dataL l with
    | some r => some (x :: r)
    | none => none)
  | _ => none
theorem dataL_spec : ∀ {l : List AV} {r : List T}, dataL l = some r → l = r.map .t
  | [], r, h => by simp [dataL] at h; subst h; rfl
  | x :: l, r, h => by
    cases x with
    | t x =>
      unfold dataL at h
      split at h
      · rename_i r' hr
        simp at h
        subst h
        rw [dataL_spec hr]; rfl
      · cases h
    | _ => cases h
def aggK (l : List AV) (k : AV → Prop) : Prop :=
  match dataL l with
  | some r => k (.t (.agg r))
  | none => k (.agg l)
theorem aggK_spec [Tabs] {l : List AV} {k : AV → Prop} (h : aggK l k) : k (.agg l) ∨ ∃ r, l = r.map .t ∧ k (.t (.agg r)) := by
  unfold aggK at h
  split at h
  · rename_i r hr; exact .inr ⟨r, dataL_spec hr, h⟩
  · exact .inl h
theorem HA.norm [Tabs] {m : Nat → Option Value} {w : World} {O : Nat → Prop} {r : List T} {v : Value} (h : HA m w O (.agg (r.map .t)) v) : HA m w O (.t (.agg r)) v := by
  obtain ⟨vs, rfl, hl, hv⟩ := h.list_of_agg
  refine .t _ _ (.agg _ _ (by simpa using hl) (fun i x y hx hy => ?_))
  exact (hv i (.t x) y (by rw [List.getElem?_map, hx]; rfl) hy).t_ht
def aggN (P : Program) (t : TypeId) : Option (Option Nat) :=
  match P.underlying t with
  | some (.struct _) => (P.info? t).map fun i => some i.size
  | some (.array _ _) => (P.info? t).map fun i => some i.size
  | some _ => some none
  | none => none
theorem aggN_some {P : Program} {t : TypeId} {n : Nat} (h : aggN P t = some (some n)) (w : World) : (isAgg t).run P w = .ok true w ∧ (sizeOf t).run P w = .ok n w := by
  unfold aggN at h
  split at h
  · rename_i fs hu
    obtain ⟨i, hi, h⟩ := Option.map_eq_some_iff.1 h
    simp at h
    subst h
    exact ⟨by simp [isAgg, run_underlying hu], by simp [sizeOf, typeInfo, hi]⟩
  · rename_i a b hu
    obtain ⟨i, hi, h⟩ := Option.map_eq_some_iff.1 h
    simp at h
    subst h
    exact ⟨by simp [isAgg, run_underlying hu], by simp [sizeOf, typeInfo, hi]⟩
  · cases h
  · cases h
theorem aggN_none {P : Program} {t : TypeId} (h : aggN P t = some none) (w : World) : (isAgg t).run P w = .ok false w := by
  unfold aggN at h
  split at h
  · simp at h
  · simp at h
  · rename_i hs ha hu
    rename_i d
    cases d <;> first | exact (hs _ rfl).elim | exact (ha _ _ rfl).elim | simp [isAgg, run_underlying hu]
  · cases h
def selA (P : Program) (t : TypeId) (l : List AV) (off : Nat) (R : List Nat) (k : Kont) : Prop :=
  match aggN P t with
  | some (some n) => match Nat.ble (off + n) l.length with
    | true => plainL ((l.drop off).take n) fun l => aggK l fun v => k v [] R []
    | false => False
  | some none => match l[off]? with
    | some x => evMove x fun x _ _ _ => k x [] R []
    | none => False
  | none => False
def selT (P : Program) (t : TypeId) (l : List T) (off : Nat) (R : List Nat) (k : Kont) : Prop :=
  match aggN P t with
  | some (some n) => match Nat.ble (off + n) l.length with
    | true => k (.t (.agg ((l.drop off).take n))) [] R []
    | false => False
  | some none => match l[off]? with
    | some x => k (.t x) [] R []
    | none => False
  | none => False
inductive Sel (P : Program) (t : TypeId) (l : List AV) (off : Nat) : AV → Prop
  | agg (n : Nat) (h : aggN P t = some (some n)) (hl : off + n ≤ l.length) : Sel P t l off (.agg ((l.drop off).take n))
  | one (x : AV) (h : aggN P t = some none) (hx : l[off]? = some x) : Sel P t l off x
  | norm (r : List T) (n : Nat) (h : aggN P t = some (some n)) (hl : off + n ≤ l.length) (he : (l.drop off).take n = r.map .t) : Sel P t l off (.t (.agg r))
inductive SelT (P : Program) (t : TypeId) (l : List T) (off : Nat) : T → Prop
  | agg (n : Nat) (h : aggN P t = some (some n)) (hl : off + n ≤ l.length) : SelT P t l off (.agg ((l.drop off).take n))
  | one (x : T) (h : aggN P t = some none) (hx : l[off]? = some x) : SelT P t l off x
theorem selA_sel [Tabs] {P : Program} {t : TypeId} {l : List AV} {off : Nat} {R : List Nat} {k : Kont} (h : selA P t l off R k) : ∃ v, Sel P t l off v ∧ k v [] R [] := by
  unfold selA at h
  split at h
  · rename_i n hn
    split at h
    · rename_i hb
      rw [plainL_iff] at h
      rcases aggK_spec h with h | ⟨r, he, h⟩
      · exact ⟨_, .agg n hn (Nat.le_of_ble_eq_true hb), h⟩
      · exact ⟨_, .norm r n hn (Nat.le_of_ble_eq_true hb) he, h⟩
    · exact h.elim
  · rename_i hn
    split at h
    · rw [evMove_iff] at h
      exact ⟨_, .one _ hn (by assumption), h⟩
    · exact h.elim
  · exact h.elim
theorem selT_sel {P : Program} {t : TypeId} {l : List T} {off : Nat} {R : List Nat} {k : Kont} (h : selT P t l off R k) : ∃ v, SelT P t l off v ∧ k (.t v) [] R [] := by
  unfold selT at h
  split at h
  · rename_i n hn
    split at h
    · rename_i hb
      exact ⟨_, .agg n hn (Nat.le_of_ble_eq_true hb), h⟩
    · exact h.elim
  · rename_i hn
    split at h
    · exact ⟨_, .one _ hn (by assumption), h⟩
    · exact h.elim
  · exact h.elim
theorem Sel.part [Tabs] {P : Program} {t : TypeId} {l : List AV} {off : Nat} {v : AV} (h : Sel P t l off v) {m : Nat → Option Value} {w : World} {O : Nat → Prop} {vs : List Value} (hl : vs.length = l.length) (hv : ∀ (i : Nat) x y, l[i]? = some x → vs[i]? = some y → HA m w O x y) (w' : World) :
    ∃ u, (Go.part t vs.toArray off).run P w' = .ok u w' ∧ HA m w O v u := by
  have key : ∀ n, aggN P t = some (some n) → off + n ≤ l.length → ∃ u, (Go.part t vs.toArray off).run P w' = .ok u w' ∧ HA m w O (.agg ((l.drop off).take n)) u := by
    intro n h hn
    obtain ⟨h1, h2⟩ := aggN_some h w'
    refine ⟨.agg (((vs.drop off).take n).toArray), ?_, .agg _ _ ?_ ?_⟩
    · simp [Go.part, h1, h2]
    · simp [hl]
    · intro i x y hx hy
      rw [List.getElem?_take] at hx hy
      split at hx
      · rename_i hi
        rw [if_pos hi] at hy
        rw [List.getElem?_drop] at hx hy
        exact hv _ x y hx hy
      · cases hx
  cases h with
  | agg n h hn => exact key n h hn
  | one x h hx =>
    have h1 := aggN_none h w'
    have hlt : off < l.length := (List.getElem?_eq_some_iff.1 hx).1
    obtain ⟨y, hy⟩ : ∃ y, vs[off]? = some y := ⟨vs[off], List.getElem?_eq_getElem (by omega)⟩
    refine ⟨y, ?_, hv off _ y hx hy⟩
    simp [Go.part, h1, hy]
  | norm r n h hn he =>
    obtain ⟨u, hu, hh⟩ := key n h hn
    rw [he] at hh
    exact ⟨u, hu, hh.norm⟩
theorem SelT.part [Tabs] {P : Program} {t : TypeId} {l : List T} {off : Nat} {v : T} (h : SelT P t l off v) {w : World} {O : Nat → Prop} {vs : List Value} (hl : vs.length = l.length) (hv : ∀ (i : Nat) x y, l[i]? = some x → vs[i]? = some y → HT w O x y) (w' : World) :
    ∃ u, (Go.part t vs.toArray off).run P w' = .ok u w' ∧ HT w O v u := by
  cases h with
  | agg n h hn =>
    obtain ⟨h1, h2⟩ := aggN_some h w'
    refine ⟨.agg (((vs.drop off).take n).toArray), ?_, .agg _ _ ?_ ?_⟩
    · simp [Go.part, h1, h2]
    · simp [hl]
    · intro i x y hx hy
      rw [List.getElem?_take] at hx hy
      split at hx
      · rename_i hi
        rw [if_pos hi] at hy
        rw [List.getElem?_drop] at hx hy
        exact hv _ x y hx hy
      · cases hx
  | one x h hx =>
    have h1 := aggN_none h w'
    have hlt : off < l.length := (List.getElem?_eq_some_iff.1 hx).1
    obtain ⟨y, hy⟩ : ∃ y, vs[off]? = some y := ⟨vs[off], List.getElem?_eq_getElem (by omega)⟩
    refine ⟨y, ?_, hv off _ y hx hy⟩
    simp [Go.part, h1, hy]
theorem add_plain (b o n : Nat) : (⟨b, o, none⟩ : Addr).add n = ⟨b, o + n, none⟩ := by
  unfold Addr.add
  by_cases h : n = 0
  · simp [h]
  · simp [h]
theorem Sel.load [Tabs] {P : Program} {t : TypeId} {l : List AV} {off : Nat} {v : AV} (h : Sel P t l off v) {m : Nat → Option Value} {w : World} {O : Nat → Prop} {b base : Nat} {f : Nat → Value} (hc : ∀ i, i < l.length → w.cell? ⟨b, base + i, none⟩ = some (f i)) (hv : ∀ (i : Nat) x, l[i]? = some x → HA m w O x (f i)) :
    ∃ u, (loadVar t ⟨b, base + off, none⟩).run P w = .ok u w ∧ HA m w O v u := by
  have key : ∀ n, aggN P t = some (some n) → off + n ≤ l.length → ∃ u, (loadVar t ⟨b, base + off, none⟩).run P w = .ok u w ∧ HA m w O (.agg ((l.drop off).take n)) u := by
    intro n h hn
    obtain ⟨h1, h2⟩ := aggN_some h w
    refine ⟨.agg ((List.range n).map fun j => f (off + j)).toArray, ?_, .agg _ _ ?_ ?_⟩
    · have := run_loadCells (P := P) w ⟨b, base + off, none⟩ n (fun j => f (off + j)) (fun j hj => by rw [add_plain, Nat.add_assoc]; exact hc _ (by omega))
      simp [loadVar, h1, h2, this]
    · simp; omega
    · intro i x y hx hy
      rw [List.getElem?_take] at hx
      split at hx
      · rename_i hi
        rw [List.getElem?_drop] at hx
        rw [List.getElem?_map, List.getElem?_range hi] at hy
        simp at hy
        subst hy
        exact hv _ x hx
      · cases hx
  cases h with
  | agg n h hn => exact key n h hn
  | one x h hx =>
    have h1 := aggN_none h w
    refine ⟨f off, ?_, hv off _ hx⟩
    simp [loadVar, h1, hc off (List.getElem?_eq_some_iff.1 hx).1]
  | norm r n h hn he =>
    obtain ⟨u, hu, hh⟩ := key n h hn
    rw [he] at hh
    exact ⟨u, hu, hh.norm⟩
theorem SelT.load [Tabs] {P : Program} {t : TypeId} {l : List T} {off : Nat} {v : T} (h : SelT P t l off v) {w : World} {O : Nat → Prop} {b base : Nat} {f : Nat → Value} (hc : ∀ i, i < l.length → w.cell? ⟨b, base + i, none⟩ = some (f i)) (hv : ∀ (i : Nat) x, l[i]? = some x → HT w O x (f i)) :
    ∃ u, (loadVar t ⟨b, base + off, none⟩).run P w = .ok u w ∧ HT w O v u := by
  cases h with
  | agg n h hn =>
    obtain ⟨h1, h2⟩ := aggN_some h w
    refine ⟨.agg ((List.range n).map fun j => f (off + j)).toArray, ?_, .agg _ _ ?_ ?_⟩
    · have := run_loadCells (P := P) w ⟨b, base + off, none⟩ n (fun j => f (off + j)) (fun j hj => by rw [add_plain, Nat.add_assoc]; exact hc _ (by omega))
      simp [loadVar, h1, h2, this]
    · simp; omega
    · intro i x y hx hy
      rw [List.getElem?_take] at hx
      split at hx
      · rename_i hi
        rw [List.getElem?_drop] at hx
        rw [List.getElem?_map, List.getElem?_range hi] at hy
        simp at hy
        subst hy
        exact hv _ x hx
      · cases hx
  | one x h hx =>
    have h1 := aggN_none h w
    refine ⟨f off, ?_, hv off _ hx⟩
    simp [loadVar, h1, hc off (List.getElem?_eq_some_iff.1 hx).1]

section
variable {P : Program} {o : Oper} {tf : Nat → AV} {hf : Hp}
theorem loc_read [Tabs] {R : List Nat} {v : AV} (h : ∀ tf' hf', (∀ t ∈ tmpsOf o, tf' t = tf t) → (∀ b ∈ R, hf' b = hf b) → ∀ (w0 : Bse) (X O0 D : Nat → Prop) (m : Nat → Option Value) (a : Act) (w : World), Rel w0 X O0 D m tf' hf' a w →
    ∃ u, (execOp a.eval o).run P w = .ok (.value u) w ∧ HA m w (Own X m hf') v u) : OpLoc P o R tf hf v [] [] :=
  ⟨fun b hb => by simp [ids] at hb, fun tf' hf' ht hh => .val fun w0 X O0 D m a w hR => h tf' hf' ht hh w0 X O0 D m a w hR⟩
theorem run_value {s : Sem Value} {w w' : World} {u : Value} (h : s.run P w = .ok u w') : (do pure (Next.value (← s)) : Sem Next).run P w = .ok (.value u) w' := by simp [h]
theorem HA.ptr_eq {m : Nat → Option Value} {w : World} {O : Nat → Prop} {b off : Nat} {y : Value} (h : HA m w O (.ptr b off) y) : ∃ g, y = .pointer (some ⟨g, off, none⟩) ∧ m b = some (.pointer (some ⟨g, 0, none⟩)) := by
  cases h with | ptr _ _ g hm => exact ⟨g, rfl, hm⟩
theorem HA.rp_eq {m : Nat → Option Value} {w : World} {O : Nat → Prop} {b sz i j : Nat} {y : Value} (h : HA m w O (.rp b sz i j) y) : ∃ g n c, y = .pointer (some ⟨g, i * sz + j, none⟩) ∧ m b = some (.slice (some ⟨g, 0, none⟩) n c) := by
  cases h with | rp _ _ _ _ g n c hm => exact ⟨g, n, c, rfl, hm⟩
theorem HA.own_eq {m : Nat → Option Value} {w : World} {O : Nat → Prop} {b : Nat} {y : Value} (h : HA m w O (.own b) y) : m b = some y := by
  cases h with | own _ _ hm => exact hm
theorem HA.pt_eq [Tabs] {m : Nat → Option Value} {w : World} {O : Nat → Prop} {l : List T} {y : Value} (h : HA m w O (.t (.pt l)) y) : ∃ (b o : Nat) (f : Nat → Value), y = .pointer (some ⟨b, o, none⟩) ∧ ¬ O b ∧ b < w.heap.size ∧ (∀ y ∈ l, y.one = true) ∧ (∀ i, i < l.length → w.cell? ⟨b, o + i, none⟩ = some (f i)) ∧ ∀ (i : Nat) x, l[i]? = some x → HT w O x (f i) := by
  cases h.t_ht with | pt _ b o f h1 h2 h3 h4 h5 => exact ⟨b, o, f, rfl, h1, h2, h3, h4, h5⟩
theorem HB.row_cells {m : Nat → Option Value} {w : World} {O : Nat → Prop} {b ty sz g n c i : Nat} {l : List T} {x : T} (h : HB m w O b (.row ty sz l)) (hm : m b = some (.slice (some ⟨g, 0, none⟩) n c)) (hx : l[i]? = some x) :
    x.fits sz ∧ n = l.length ∧ ∃ f : Nat → Value, (∀ j, j < x.cells.length → w.cell? ⟨g, i * sz + j, none⟩ = some (f j)) ∧ ∀ (j : Nat) y, x.cells[j]? = some y → HT w O y (f j) := by
  obtain ⟨v, xs, h1, h2, h3, h4⟩ := h
  rw [hm] at h1
  simp at h1
  subst h1
  have hfit := h3 x (List.mem_of_getElem? hx)
  have hn : n = l.length := by
    rcases h2.2 with ⟨h, _⟩ | ⟨g', cap, cur, h, _⟩
    · simp at h
    · simp at h; exact h.2.1
  refine ⟨hfit, hn, fun j => xs.getD (i * sz + j) undef, fun j hj => ?_, fun j y hy => ?_⟩
  · obtain ⟨u, hu, _⟩ := h4 i j x _ hx (List.getElem?_eq_getElem hj)
    have hi : i < l.length := (List.getElem?_eq_some_iff.1 hx).1
    rw [hn] at h2
    rw [h2.cellAt (i * sz + j) (by rw [hfit.1] at hj; calc i * sz + j < i * sz + sz := by omega
                                                          _ = (i + 1) * sz := by rw [Nat.add_mul]; omega
                                                          _ ≤ l.length * sz := Nat.mul_le_mul_right _ hi), hu]
    simp [List.getD, hu]
  · obtain ⟨u, hu, ht⟩ := h4 i j x y hx hy
    simpa [List.getD, hu] using ht
def evLoad (P : Program) (t : TypeId) (p : AV) (H : Heap) (k : Kont) : Prop :=
  match p with
  | .ptr b off => match lookH H b with
    | (_, .box _ cells) => selA P t cells off [b] k
    | _ => False
  | .rp b sz i j => match lookH H b with
    | (_, .row _ sz' l) => match Nat.beq sz sz' with
      | true => ∃ e, l[i]? = some e ∧ selT P t e.cells j [b] k
      | false => False
    | _ => False
  | .t (.pt l) => selT P t l 0 [] k
  | _ => False
theorem ok_load [Tabs] {t : TypeId} {x : Operand} {H : Heap} {k : Kont} (ho : o.op = .load t x) (h : evLoad P t (opd tf x) H k) (hH : hf = lookH H) : ∃ v R, OpLoc P o R tf hf v [] [] ∧ k v [] R [] := by
  subst hH
  have hop : ∀ tf', (∀ t ∈ tmpsOf o, tf' t = tf t) → opd tf' x = opd tf x := fun tf' ht => tmps_same ht (by rw [ho]; simp [Op.operands])
  have hrun : ∀ (a : Act) (w : World) (p : Addr) (u : Value), a.eval x = .pointer (some p) → (loadVar t p).run P w = .ok u w → (execOp a.eval o).run P w = .ok (.value u) w := by
    intro a w p u hp hu
    unfold execOp
    rw [ho]
    refine run_value ?_
    simp [Instr.loadAt, Instr.sureAddr, hp, hu]
  unfold evLoad at h
  split at h
  · rename_i b off hx
    split at h
    · rename_i fz ty cells hb
      obtain ⟨v, hs, hk⟩ := selA_sel h
      refine ⟨v, [b], loc_read fun tf' hf' ht hh w0 X O0 D m a w hR => ?_, hk⟩
      have h1 := opd_told hR x
      rw [hop tf' ht, hx] at h1
      have h2 := hR.blk b
      rw [hh b (by simp), hb] at h2
      obtain ⟨g, vs, hm, hg, hl, _, hv⟩ := h2
      obtain ⟨g', hy, hm'⟩ := h1.ptr_eq
      rw [hm] at hm'
      simp at hm'
      subst hm'
      obtain ⟨u, hu, hh⟩ := hs.load (P := P) (t := t) (w := w) (b := g) (base := 0) (f := fun i => vs.getD i undef) (m := m) (O := Own X m hf') (fun i hi => by
        unfold World.cell?
        simp only [hg]
        simp [List.getD, show i < vs.length by omega]) (fun i x hx => hv i x _ hx (by
          have : i < vs.length := by have := (List.getElem?_eq_some_iff.1 hx).1; omega
          simp [List.getD, this]))
      exact ⟨u, hrun a w _ u hy (by simpa using hu), hh⟩
    · exact h.elim
  · rename_i b sz i j hx
    split at h
    · rename_i fz ty sz' l hb
      split at h
      · rename_i hbe
        have := Nat.eq_of_beq_eq_true hbe
        subst this
        obtain ⟨e, he, h⟩ := h
        obtain ⟨v, hs, hk⟩ := selT_sel h
        refine ⟨.t v, [b], loc_read fun tf' hf' ht hh w0 X O0 D m a w hR => ?_, hk⟩
        have h1 := opd_told hR x
        rw [hop tf' ht, hx] at h1
        have h2 := hR.blk b
        rw [hh b (by simp), hb] at h2
        obtain ⟨g, n, c, hy, hm⟩ := h1.rp_eq
        obtain ⟨_, _, f, hc, hv⟩ := HB.row_cells h2 hm he
        obtain ⟨u, hu, hh⟩ := hs.load (P := P) (t := t) (w := w) (b := g) (base := i * sz) (f := f) (O := Own X m hf') hc hv
        exact ⟨u, hrun a w _ u hy hu, .t _ _ hh⟩
      · exact h.elim
    · exact h.elim
  · rename_i l hx
    obtain ⟨v, hs, hk⟩ := selT_sel h
    refine ⟨.t v, [], loc_read fun tf' hf' ht hh w0 X O0 D m a w hR => ?_, hk⟩
    have h1 := opd_told hR x
    rw [hop tf' ht, hx] at h1
    obtain ⟨b, o', f, hy, _, _, _, hc, hv⟩ := h1.pt_eq
    obtain ⟨u, hu, hh⟩ := hs.load (P := P) (t := t) (w := w) (b := b) (base := o') (f := f) (O := Own X m hf') hc hv
    exact ⟨u, hrun a w _ u hy (by simpa using hu), .t _ _ hh⟩
  · exact h.elim
def evField (P : Program) (t : TypeId) (x : AV) (f : Nat) (k : Kont) : Prop :=
  match P.underlying t with
  | some (.struct fs) => match fs[f]? with
    | some fd => match x with
      | .agg l => selA P fd.type l fd.offset [] k
      | .t (.agg l) => selT P fd.type l fd.offset [] k
      | _ => False
    | none => False
  | _ => False
theorem ok_field [Tabs] {t : TypeId} {x : Operand} {f : Nat} {k : Kont} (ho : o.op = .field t x f) (h : evField P t (opd tf x) f k) : ∃ v, OpLoc P o [] tf hf v [] [] ∧ k v [] [] [] := by
  have hop : ∀ tf', (∀ t ∈ tmpsOf o, tf' t = tf t) → opd tf' x = opd tf x := fun tf' ht => tmps_same ht (by rw [ho]; simp [Op.operands])
  unfold evField at h
  split at h
  · rename_i fs hu
    split at h
    · rename_i fd hfd
      have hrun : ∀ (a : Act) (w : World) (vs : Array Value) (u : Value), a.eval x = .agg vs → (Go.part fd.type vs fd.offset).run P w = .ok u w → (execOp a.eval o).run P w = .ok (.value u) w := by
        intro a w vs u hp hu'
        unfold execOp
        rw [ho]
        refine run_value ?_
        simp [Instr.field, run_underlying hu, hfd, asAgg, hp, hu']
      split at h
      · rename_i l hx
        obtain ⟨v, hs, hk⟩ := selA_sel h
        refine ⟨v, loc_val fun tf' hf' ht => .val fun w0 X O0 D m a w hR => ?_, hk⟩
        have h1 := opd_told hR x
        rw [hop tf' ht, hx] at h1
        obtain ⟨vs, hy, hl, hv⟩ := h1.list_of_agg
        obtain ⟨u, hu', hh⟩ := hs.part hl hv w
        exact ⟨u, hrun a w _ u hy hu', hh⟩
      · rename_i l hx
        obtain ⟨v, hs, hk⟩ := selT_sel h
        refine ⟨.t v, loc_val fun tf' hf' ht => .val fun w0 X O0 D m a w hR => ?_, hk⟩
        have h1 := opd_told hR x
        rw [hop tf' ht, hx] at h1
        obtain ⟨vs, hy, hl, hv⟩ := h1.t_ht.list_of_agg
        obtain ⟨u, hu', hh⟩ := hs.part hl hv w
        exact ⟨u, hrun a w _ u hy hu', .t _ _ hh⟩
      · exact h.elim
    · exact h.elim
  · exact h.elim
def evExtract (x : AV) (i : Nat) (k : Kont) : Prop :=
  match x with
  | .tuple l => match l[i]? with
    | some y => evMove y k
    | none => False
  | .t (.tuple l) => match l[i]? with
    | some y => k (.t y) [] [] []
    | none => False
  | _ => False
theorem ok_extract [Tabs] {x : Operand} {i : Nat} {k : Kont} (ho : o.op = .extract x i) (h : evExtract (opd tf x) i k) : ∃ v, OpLoc P o [] tf hf v [] [] ∧ k v [] [] [] := by
  have hop : ∀ tf', (∀ t ∈ tmpsOf o, tf' t = tf t) → opd tf' x = opd tf x := fun tf' ht => tmps_same ht (by rw [ho]; simp [Op.operands])
  have hrun : ∀ (a : Act) (w : World) (vs : List Value) (u : Value), a.eval x = .tuple vs.toArray → vs[i]? = some u → (execOp a.eval o).run P w = .ok (.value u) w := by
    intro a w vs u hp hu
    unfold execOp
    rw [ho]
    refine run_value ?_
    simp [Instr.extract, hp, hu]
  unfold evExtract at h
  split at h
  · rename_i l hx
    split at h
    · rename_i y hy
      rw [evMove_iff] at h
      refine ⟨y, loc_val fun tf' hf' ht => .val fun w0 X O0 D m a w hR => ?_, h⟩
      have h1 := opd_told hR x
      rw [hop tf' ht, hx] at h1
      generalize hz : a.eval x = z at h1
      cases h1 with
      | tuple _ vs hl hv =>
        have hlt : i < vs.length := by have := (List.getElem?_eq_some_iff.1 hy).1; omega
        exact ⟨vs[i], hrun a w vs _ hz (List.getElem?_eq_getElem hlt), hv i _ _ hy (List.getElem?_eq_getElem hlt)⟩
    · exact h.elim
  · rename_i l hx
    split at h
    · rename_i y hy
      refine ⟨.t y, loc_val fun tf' hf' ht => .val fun w0 X O0 D m a w hR => ?_, h⟩
      have h1 := opd_told hR x
      rw [hop tf' ht, hx] at h1
      generalize hz : a.eval x = z at h1
      cases h1.t_ht with
      | tuple _ vs hl hv =>
        have hlt : i < vs.length := by have := (List.getElem?_eq_some_iff.1 hy).1; omega
        exact ⟨vs[i], hrun a w vs _ hz (List.getElem?_eq_getElem hlt), .t _ _ (hv i _ _ hy (List.getElem?_eq_getElem hlt))⟩
    · exact h.elim
  · exact h.elim
def evNil (x : AV) (k : Kont) : Prop :=
  match x with
  | .ptr b o => k (.ptr b o) [] [] []
  | .rp b sz i j => k (.rp b sz i j) [] [] []
  | .t (.pt l) => k (.t (.pt l)) [] [] []
  | .iface t x => k (.iface t x) [] [] []
  | .t (.iface t x) => k (.t (.iface t x)) [] [] []
  | .fn (.func f) a c => k (.fn (.func f) a c) [] [] []
  | .t (.v (.func (.func f) a c)) => k (.t (.v (.func (.func f) a c))) [] [] []
  | .t (.fn (.func f) a c) => k (.t (.fn (.func f) a c)) [] [] []
  | _ => False
theorem ok_nil [Tabs] {x : Operand} {k : Kont} (ho : o.op = .nilCheck x) (h : evNil (opd tf x) k) : ∃ v, OpLoc P o [] tf hf v [] [] ∧ k v [] [] [] := by
  have hop : ∀ tf', (∀ t ∈ tmpsOf o, tf' t = tf t) → opd tf' x = opd tf x := fun tf' ht => tmps_same ht (by rw [ho]; simp [Op.operands])
  have key : ∀ k', (∀ (m : Nat → Option Value) (w : World) (O : Nat → Prop) (y : Value), HA m w O (opd tf x) y → (match y with | .pointer none | .nilIface | .nilFunc => False | .func (.method _) _ _ => False | _ => True)) → k' = opd tf x → OpLoc P o [] tf hf k' [] [] := by
    intro k' hk e
    subst e
    refine loc_val fun tf' hf' ht => .val fun w0 X O0 D m a w hR => ⟨a.eval x, ?_, by rw [← hop tf' ht]; exact opd_told hR x⟩
    have h1 := opd_told hR x
    rw [hop tf' ht] at h1
    have h2 := hk m w _ _ h1
    unfold execOp
    rw [ho]
    obtain ⟨y, hy⟩ : ∃ y, a.eval x = y := ⟨_, rfl⟩
    rw [hy] at h2
    simp only [hy]
    split <;> simp_all
  unfold evNil at h
  split at h
  · rename_i b o' hx; exact ⟨_, key _ (fun m w O y hy => by rw [hx] at hy; obtain ⟨g, rfl, _⟩ := hy.ptr_eq; trivial) hx.symm, h⟩
  · rename_i b sz i j hx; exact ⟨_, key _ (fun m w O y hy => by rw [hx] at hy; obtain ⟨g, n, c, rfl, _⟩ := hy.rp_eq; trivial) hx.symm, h⟩
  · rename_i l hx; exact ⟨_, key _ (fun m w O y hy => by rw [hx] at hy; obtain ⟨b, o', f, rfl, _⟩ := hy.pt_eq; trivial) hx.symm, h⟩
  · rename_i t x' hx; exact ⟨_, key _ (fun m w O y hy => by rw [hx] at hy; cases hy; trivial) hx.symm, h⟩
  · rename_i t x' hx; exact ⟨_, key _ (fun m w O y hy => by rw [hx] at hy; cases hy.t_ht; trivial) hx.symm, h⟩
  · rename_i f a c hx; exact ⟨_, key _ (fun m w O y hy => by rw [hx] at hy; cases hy; trivial) hx.symm, h⟩
  · rename_i f a c hx; exact ⟨_, key _ (fun m w O y hy => by rw [hx] at hy; rw [hy.v_eq]; trivial) hx.symm, h⟩
  · rename_i f a c hx; exact ⟨_, key _ (fun m w O y hy => by rw [hx] at hy; cases hy.t_ht; trivial) hx.symm, h⟩
  · exact h.elim
def evIface (P : Program) (t : TypeId) (x : AV) (k : Kont) : Prop :=
  match P.underlying t with
  | some (.interface _) => False
  | none => False
  | some _ => match x with
    | .t x => k (.t (.iface t x)) [] [] []
    | x => evMove x fun x _ _ _ => k (.iface t x) [] [] []
theorem ok_iface [Tabs] {t : TypeId} {x : Operand} {k : Kont} (ho : o.op = .makeInterface t x) (h : evIface P t (opd tf x) k) : ∃ v, OpLoc P o [] tf hf v [] [] ∧ k v [] [] [] := by
  have hop : ∀ tf', (∀ t ∈ tmpsOf o, tf' t = tf t) → opd tf' x = opd tf x := fun tf' ht => tmps_same ht (by rw [ho]; simp [Op.operands])
  unfold evIface at h
  split at h
  · exact h.elim
  · exact h.elim
  · rename_i d hd hu
    have hrun : ∀ (a : Act) (w : World), (execOp a.eval o).run P w = .ok (.value (.iface t (a.eval x))) w := by
      intro a w
      unfold execOp
      rw [ho]
      refine run_value ?_
      unfold Instr.makeInterface
      simp only [Sem.run_bind, run_underlying hu, Result.andThen_ok]
      cases d <;> first | exact (hd _ rfl).elim | rfl
    split at h
    · rename_i y hx
      refine ⟨_, loc_val fun tf' hf' ht => .val fun w0 X O0 D m a w hR => ⟨_, hrun a w, ?_⟩, h⟩
      have h1 := opd_told hR x
      rw [hop tf' ht, hx] at h1
      exact .t _ _ (.iface _ _ _ h1.t_ht)
    · rename_i hx
      rw [evMove_iff] at h
      refine ⟨_, loc_val fun tf' hf' ht => .val fun w0 X O0 D m a w hR => ⟨_, hrun a w, ?_⟩, h⟩
      have h1 := opd_told hR x
      rw [hop tf' ht] at h1
      exact .iface _ _ _ h1
theorem opds_told [Tabs] {tf : Nat → AV} {hf : Hp} {w0 : Bse} {X O0 D : Nat → Prop} {m : Nat → Option Value} {a : Act} {w : World} (hR : Rel w0 X O0 D m tf hf a w) (l : List Operand) :
    (l.map a.eval).length = (l.map (opd tf)).length ∧ ∀ (i : Nat) x y, (l.map (opd tf))[i]? = some x → (l.map a.eval)[i]? = some y → HA m w (Own X m hf) x y := by
  refine ⟨by simp, fun i x y hx hy => ?_⟩
  rw [List.getElem?_map] at hx hy
  cases h : l[i]? with
  | none => rw [h] at hx; cases hx
  | some z =>
    rw [h] at hx hy
    simp at hx hy
    subst hx; subst hy
    exact opd_told hR z
theorem ok_func [Tabs] {fn : Fn} {first caps : Array Operand} {k : Kont} (ho : o.op = .makeFunc fn first caps) (h : plainL (first.toList.map (opd tf)) fun a => plainL (caps.toList.map (opd tf)) fun c => k (.fn fn a c) [] [] []) : ∃ v, OpLoc P o [] tf hf v [] [] ∧ k v [] [] [] := by
  rw [plainL_iff, plainL_iff] at h
  refine ⟨_, loc_val fun tf' hf' ht => .val fun w0 X O0 D m a w hR => ⟨.func fn (first.toList.map a.eval).toArray (caps.toList.map a.eval).toArray, ?_, ?_⟩, h⟩
  · unfold execOp
    rw [ho]
    refine run_value ?_
    simp only [Instr.makeFunc, Sem.run_pure]
    congr 2 <;> (apply Array.ext'; simp)
  · have e : ∀ (l : List Operand), (∀ x ∈ l, x ∈ o.op.operands.toList) → l.map (opd tf) = l.map (opd tf') := fun l hl => List.map_congr_left fun x hx => (tmps_same ht (hl x hx)).symm
    rw [e _ (fun x hx => by rw [ho]; simp [Op.operands]; exact .inl (by simpa using hx)), e _ (fun x hx => by rw [ho]; simp [Op.operands]; exact .inr (by simpa using hx))]
    obtain ⟨h1, h2⟩ := opds_told hR first.toList
    obtain ⟨h3, h4⟩ := opds_told hR caps.toList
    exact .fn _ _ _ _ _ h1 h2 h3 h4
def evUn (op : UnOp) (x : AV) (k : Kont) : Prop :=
  match op, x with
  | .not, .t (.v (.bool b)) => k (.bool (!b)) [] [] []
  | .neg, .t (.v (.int κ n)) => k (.int κ (κ.wrap (0 - n))) [] [] []
  | .xor, .t (.v (.int κ n)) => k (.int κ (Go.bits .xor κ (if κ.signed then -1 else κ.max) n)) [] [] []
  | _, _ => False
theorem ok_un [Tabs] {op : UnOp} {t : TypeId} {x : Operand} {k : Kont} (ho : o.op = .unOp op t x) (h : evUn op (opd tf x) k) : ∃ v, OpLoc P o [] tf hf v [] [] ∧ k v [] [] [] := by
  have hop : ∀ tf', (∀ t ∈ tmpsOf o, tf' t = tf t) → opd tf' x = opd tf x := fun tf' ht => tmps_same ht (by rw [ho]; simp [Op.operands])
  have key : ∀ (vx u : Value), opd tf x = .t (.v vx) → (∀ w : World, (Op.unary op vx).run P w = .ok u w) → OpLoc P o [] tf hf (.t (.v u)) [] [] := by
    intro vx u hx hu
    refine loc_val fun tf' hf' ht => .val fun w0 X O0 D m a w hR => ⟨u, ?_, .t _ _ (.v u)⟩
    have h1 := opd_told hR x
    rw [hop tf' ht, hx] at h1
    unfold execOp
    rw [ho]
    refine run_value ?_
    rw [h1.v_eq]
    exact hu w
  unfold evUn at h
  split at h
  · rename_i hx; exact ⟨_, key _ _ hx (fun w => rfl), h⟩
  · rename_i hx; exact ⟨_, key _ _ hx (fun w => rfl), h⟩
  · rename_i hx; exact ⟨_, key _ _ hx (fun w => rfl), h⟩
  · exact h.elim
def evConv (P : Program) (s d : TypeId) (x : AV) (k : Kont) : Prop :=
  match P.underlying s, P.underlying d with
  | some _, some (.int κ) => match x with
    | .t (.v (.int _ n)) => k (.int κ (κ.wrap n)) [] [] []
    | _ => False
  | some _, some .string => match x with
    | .t (.v (.string s)) => k (.t (.v (.string s))) [] [] []
    | _ => False
  | _, _ => False
theorem ok_conv [Tabs] {s d : TypeId} {x : Operand} {k : Kont} (ho : o.op = .convert s d x) (h : evConv P s d (opd tf x) k) : ∃ v, OpLoc P o [] tf hf v [] [] ∧ k v [] [] [] := by
  have hop : ∀ tf', (∀ t ∈ tmpsOf o, tf' t = tf t) → opd tf' x = opd tf x := fun tf' ht => tmps_same ht (by rw [ho]; simp [Op.operands])
  have key : ∀ (vx u : Value), opd tf x = .t (.v vx) → (∀ w : World, (Go.convert s d vx).run P w = .ok u w) → OpLoc P o [] tf hf (.t (.v u)) [] [] := by
    intro vx u hx hu
    refine loc_val fun tf' hf' ht => .val fun w0 X O0 D m a w hR => ⟨u, ?_, .t _ _ (.v u)⟩
    have h1 := opd_told hR x
    rw [hop tf' ht, hx] at h1
    unfold execOp
    rw [ho]
    refine run_value ?_
    rw [h1.v_eq]
    exact hu w
  unfold evConv at h
  split at h
  · rename_i ds κ hs hd
    split at h
    · rename_i hx
      exact ⟨_, key _ _ hx (fun w => by simp [Go.convert, run_underlying hs, run_underlying hd, Conv.intToInt]), h⟩
    · exact h.elim
  · rename_i ds hs hd
    split at h
    · rename_i hx
      exact ⟨_, key _ _ hx (fun w => by simp [Go.convert, run_underlying hs, run_underlying hd]), h⟩
    · exact h.elim
  · exact h.elim
end
end Go.YtppifophcphdkaaE
namespace Go.YtppifophcphdkaaE
open Go.RowKit
set_option linter.unusedVariables false
set_option linter.unusedSimpArgs false
def sizN (P : Program) (t : TypeId) : Option Nat := (P.info? t).map (·.size)
theorem sizN_run {P : Program} {t : TypeId} {n : Nat} (h : sizN P t = some n) (w : World) : (sizeOf t).run P w = .ok n w := by
  obtain ⟨i, hi, hz⟩ := Option.map_eq_some_iff.1 h
  simp [sizeOf, typeInfo, hi, hz]
section
variable {P : Program} {o : Oper} {tf : Nat → AV} {hf : Hp}
def evFAddr (P : Program) (s : TypeId) (x : AV) (f : Nat) (k : Kont) : Prop :=
  match P.underlying s with
  | some (.struct fs) => match fs[f]? with
    | some fd => match sizN P fd.type with
      | some (_ + 1) => match x with
        | .ptr b off => k (.ptr b (off + fd.offset)) [] [] []
        | .rp b sz i j => k (.rp b sz i (j + fd.offset)) [] [] []
        | .t (.pt l) => match Nat.blt fd.offset l.length with
          | true => k (.t (.pt (l.drop fd.offset))) [] [] []
          | false => False
        | _ => False
      | _ => False
    | none => False
  | _ => False
theorem ok_faddr [Tabs] {s : TypeId} {x : Operand} {f : Nat} {k : Kont} (ho : o.op = .fieldAddr s x f) (h : evFAddr P s (opd tf x) f k) : ∃ v, OpLoc P o [] tf hf v [] [] ∧ k v [] [] [] := by
  have hop : ∀ tf', (∀ t ∈ tmpsOf o, tf' t = tf t) → opd tf' x = opd tf x := fun tf' ht => tmps_same ht (by rw [ho]; simp [Op.operands])
  unfold evFAddr at h
  split at h
  · rename_i fs hu
    split at h
    · rename_i fd hfd
      split at h
      · rename_i n hn
        have hrun : ∀ (a : Act) (w : World) (b off : Nat), a.eval x = .pointer (some ⟨b, off, none⟩) → (execOp a.eval o).run P w = .ok (.value (.pointer (some ⟨b, off + fd.offset, none⟩))) w := by
          intro a w b off hp
          unfold execOp
          rw [ho]
          refine run_value ?_
          simp [Instr.fieldAt, Instr.sureAddr, hp, run_underlying hu, hfd, fieldPlace, sizN_run hn, add_plain]
        split at h
        · rename_i b off hx
          refine ⟨_, loc_val fun tf' hf' ht => .val fun w0 X O0 D m a w hR => ?_, h⟩
          have h1 := opd_told hR x
          rw [hop tf' ht, hx] at h1
          obtain ⟨g, hy, hm⟩ := h1.ptr_eq
          exact ⟨_, hrun a w g off hy, .ptr _ _ _ hm⟩
        · rename_i b sz i j hx
          refine ⟨_, loc_val fun tf' hf' ht => .val fun w0 X O0 D m a w hR => ?_, h⟩
          have h1 := opd_told hR x
          rw [hop tf' ht, hx] at h1
          obtain ⟨g, n', c, hy, hm⟩ := h1.rp_eq
          refine ⟨_, hrun a w g _ hy, ?_⟩
          rw [Nat.add_assoc]
          exact .rp _ _ _ _ _ _ _ hm
        · rename_i l hx
          split at h
          · rename_i hlt
            have hlt' : fd.offset < l.length := Nat.le_of_ble_eq_true hlt
            refine ⟨_, loc_val fun tf' hf' ht => .val fun w0 X O0 D m a w hR => ?_, h⟩
            have h1 := opd_told hR x
            rw [hop tf' ht, hx] at h1
            obtain ⟨b, o', f', hy, hO, hb, ho1, hc, hv⟩ := h1.pt_eq
            refine ⟨_, hrun a w b o' hy, .t _ _ (.pt _ b _ (fun i => f' (fd.offset + i)) hO hb (fun y hy => ho1 y (List.mem_of_mem_drop hy)) (fun i hi => ?_) (fun i x hx => ?_))⟩
            · rw [List.length_drop] at hi
              rw [Nat.add_assoc]
              exact hc _ (by omega)
            · rw [List.getElem?_drop] at hx
              exact hv _ x hx
          · exact h.elim
        · exact h.elim
      · exact h.elim
    · exact h.elim
  · exact h.elim
theorem sl_elem [Tabs] {m : Nat → Option Value} {w : World} {O : Nat → Prop} {sz i : Nat} {l : List T} {y : Value} {x : T} (h : HA m w O (.t (.sl sz l)) y) (hx : l[i]? = some x) : ∃ (b o' c : Nat), y = .slice (some ⟨b, o', none⟩) l.length c ∧ HT w O (.pt x.cells) (.pointer (some ⟨b, o' + i * sz, none⟩)) := by
  have hi : i < l.length := (List.getElem?_eq_some_iff.1 hx).1
  cases h.t_ht with
  | nil _ A c => simp at hi
  | sl _ _ b o' c f hO hb hc hf hm ht =>
    have hfit := hf x (List.mem_of_getElem? hx)
    exact ⟨b, o', c, rfl, .pt _ b _ (fun j => f (i * sz + j)) hO hb hfit.2 (fun j hj => hm i j hi (by rw [hfit.1] at hj; exact hj)) (fun j y hy => ht i j x y hx hy)⟩
def evIAddr (P : Program) (t : TypeId) (x i : AV) (H : Heap) (k : Kont) : Prop :=
  match i with
  | .t (.v (.int _ n)) => match P.underlying t with
    | some (.slice e) => (match sizN P e with
      | some esz => match x with
        | .t (.sl sz l) => match Nat.beq sz esz with
          | true => 0 ≤ n ∧ ∃ e, l[n.toNat]? = some e ∧ k (.t (.pt e.cells)) [] [] []
          | false => False
        | .own b => match lookH H b with
          | (_, .row _ sz l) => match Nat.beq sz esz with
            | true => 0 ≤ n ∧ n < l.length ∧ k (.rp b sz n.toNat 0) [] [b] []
            | false => False
          | _ => False
        | .sub b sz o c => match lookH H b with
          | (_, .row _ sz' l) => match Nat.beq sz esz && Nat.beq sz' sz with
            | true => 0 ≤ n ∧ n < (c : Int) ∧ k (.rp b sz (o + n.toNat) 0) [] [b] []
            | false => False
          | _ => False
        | _ => False
      | none => False)
    | some (.array len e) => (match sizN P e with
      | some esz => match x with
        | .ptr b off => 0 ≤ n ∧ n < (len : Int) ∧ k (.ptr b (off + n.toNat * esz)) [] [] []
        | .t (.pt l) => 0 ≤ n ∧ n < (len : Int) ∧ n.toNat * esz + esz ≤ l.length ∧ ∃ es, (l.drop (n.toNat * esz)).take esz = es ∧ k (.t (.pt es)) [] [] []
        | _ => False
      | none => False)
    | _ => False
  | _ => False
theorem ok_iaddr [Tabs] {t : TypeId} {x i : Operand} {H : Heap} {k : Kont} (ho : o.op = .indexAddr t x i) (h : evIAddr P t (opd tf x) (opd tf i) H k) (hH : hf = lookH H) : ∃ v R, OpLoc P o R tf hf v [] [] ∧ k v [] R [] := by
  subst hH
  have hop : ∀ tf', (∀ t ∈ tmpsOf o, tf' t = tf t) → ∀ z, z = x ∨ z = i → opd tf' z = opd tf z := fun tf' ht z hz => tmps_same ht (by rw [ho]; simp [Op.operands]; exact hz)
  unfold evIAddr at h
  split at h
  · rename_i κ n hi
    split at h
    · rename_i e hu
      split at h
      · rename_i esz he
        have hrun : ∀ (a : Act) (w : World) (b o' len c : Nat), a.eval i = .int κ n → a.eval x = .slice (some ⟨b, o', none⟩) len c → 0 ≤ n → n < len → (execOp a.eval o).run P w = .ok (.value (.pointer (some ⟨b, o' + n.toNat * esz, none⟩))) w := by
          intro a w b o' len c hp hq h0 h1
          unfold execOp
          rw [ho]
          refine run_value ?_
          simp [Instr.indexAt, hp, hq, asIntOf, run_underlying hu, sizN_run he, h0, h1, add_plain]
        split at h
        · rename_i sz l hx
          split at h
          · rename_i hb
            have := Nat.eq_of_beq_eq_true hb
            subst this
            obtain ⟨h0, el, hel, hk⟩ := h
            refine ⟨_, _, loc_val fun tf' hf' ht => .val fun w0 X O0 D m a w hR => ?_, hk⟩
            have h1 := opd_told hR x
            have h2 := opd_told hR i
            rw [hop tf' ht x (by simp), hx] at h1
            rw [hop tf' ht i (by simp), hi] at h2
            obtain ⟨b, o', c, hy, hpt⟩ := sl_elem h1 hel
            have hlt : n.toNat < l.length := (List.getElem?_eq_some_iff.1 hel).1
            exact ⟨_, hrun a w b o' l.length c h2.v_eq hy h0 (by omega), .t _ _ hpt⟩
          · exact h.elim
        · rename_i b hx
          split at h
          · rename_i fz ty sz l hb
            split at h
            · rename_i hbe
              have := Nat.eq_of_beq_eq_true hbe
              subst this
              obtain ⟨h0, h1', hk⟩ := h
              refine ⟨_, [b], loc_read fun tf' hf' ht hh w0 X O0 D m a w hR => ?_, hk⟩
              have h1 := opd_told hR x
              have h2 := opd_told hR i
              rw [hop tf' ht x (by simp), hx] at h1
              rw [hop tf' ht i (by simp), hi] at h2
              have h3 := hR.blk b
              rw [hh b (by simp), hb] at h3
              have hm := h1.own_eq
              obtain ⟨v, xs, hv, how, _⟩ := h3
              rw [hm] at hv
              simp at hv
              subst hv
              rcases how.2 with ⟨_, h4⟩ | ⟨g, cap, cur, h4, _⟩
              · omega
              · refine ⟨_, hrun a w g 0 l.length cap h2.v_eq h4 h0 h1', ?_⟩
                have : 0 + n.toNat * sz = n.toNat * sz + 0 := by omega
                rw [this]
                exact .rp _ _ _ _ _ _ _ (by rw [hm, h4])
            · exact h.elim
          · exact h.elim
        · rename_i b sz o' c hx
          split at h
          · rename_i fz ty sz' l hb
            split at h
            · rename_i hbe
              simp only [Bool.and_eq_true] at hbe
              have e1 := Nat.eq_of_beq_eq_true hbe.1
              have e2 := Nat.eq_of_beq_eq_true hbe.2
              subst e1
              subst e2
              obtain ⟨h0, h1', hk⟩ := h
              refine ⟨_, [b], loc_read fun tf' hf' ht hh w0 X O0 D m a w hR => ?_, hk⟩
              have h1 := opd_told hR x
              have h2 := opd_told hR i
              rw [hop tf' ht x (by simp), hx] at h1
              rw [hop tf' ht i (by simp), hi] at h2
              have h3 := hR.blk b
              rw [hh b (by simp), hb] at h3
              obtain ⟨v, xs, hv, how, _⟩ := h3
              generalize hz : a.eval x = z at h1
              cases h1 with
              | sub _ _ _ _ _ h1 =>
              rcases h1 with ⟨rfl, ⟨A, c', rfl⟩, hnil⟩ | ⟨g, c', hc, rfl, hm' | ⟨n', c2, hm', hin, hcc⟩⟩
              · omega
              · rw [hv] at hm'
                simp at hm'
                subst hm'
                rcases how.2 with ⟨e, _⟩ | ⟨_, _, _, e, _⟩ <;> cases e
              · refine ⟨_, hrun a w g (o' * sz') c c' h2.v_eq hz h0 h1', ?_⟩
                have : o' * sz' + n.toNat * sz' = (o' + n.toNat) * sz' + 0 := by rw [Nat.add_mul]; omega
                rw [this]
                exact .rp _ _ _ _ _ _ _ hm'
            · exact h.elim
          · exact h.elim
        · exact h.elim
      · exact h.elim
    · rename_i len e hu
      split at h
      · rename_i esz he
        split at h
        · rename_i b off hx
          obtain ⟨h0, h1', hk⟩ := h
          refine ⟨_, _, loc_val fun tf' hf' ht => .val fun w0 X O0 D m a w hR => ?_, hk⟩
          have h1 := opd_told hR x
          have h2 := opd_told hR i
          rw [hop tf' ht x (by simp), hx] at h1
          rw [hop tf' ht i (by simp), hi] at h2
          obtain ⟨g, hy, hm⟩ := h1.ptr_eq
          refine ⟨_, ?_, .ptr _ _ _ hm⟩
          unfold execOp
          rw [ho]
          refine run_value ?_
          simp [Instr.indexAt, Instr.sureAddr, h2.v_eq, hy, asIntOf, run_underlying hu, sizN_run he, h0, h1', add_plain]
        · rename_i l hx
          obtain ⟨h0, h1', hle, es, hes, hk⟩ := h
          refine ⟨_, _, loc_val fun tf' hf' ht => .val fun w0 X O0 D m a w hR => ?_, hk⟩
          have h1 := opd_told hR x
          have h2 := opd_told hR i
          rw [hop tf' ht x (by simp), hx] at h1
          rw [hop tf' ht i (by simp), hi] at h2
          obtain ⟨b, o', f', hy, hO, hb, ho1, hc, hv⟩ := h1.pt_eq
          subst hes
          refine ⟨_, ?_, .t _ _ (.pt _ b (o' + n.toNat * esz) (fun i => f' (n.toNat * esz + i)) hO hb (fun y hy => ho1 y (List.mem_of_mem_drop (List.mem_of_mem_take hy))) (fun i hi => ?_) (fun i x hx => ?_))⟩
          · unfold execOp
            rw [ho]
            refine run_value ?_
            simp [Instr.indexAt, Instr.sureAddr, h2.v_eq, hy, asIntOf, run_underlying hu, sizN_run he, h0, h1', add_plain]
          · rw [List.length_take, List.length_drop] at hi
            rw [Nat.add_assoc]
            exact hc _ (by omega)
          · have hi2 := (List.getElem?_eq_some_iff.1 hx).1
            rw [List.length_take, List.length_drop] at hi2
            rw [List.getElem?_take, if_pos (by omega), List.getElem?_drop] at hx
            exact hv _ x hx
        · exact h.elim
      · exact h.elim
    · exact h.elim
  · exact h.elim
def evSlice3 [Tabs] (P : Program) (t : TypeId) (tf : Nat → AV) (x : Operand) (lo hi mx : Operand) (k : Kont) : Prop :=
  match P.underlying t with
  | some (.slice e) => (match sizN P e with
    | some esz => match opd tf x with
      | .t (.sl sz l) => match Nat.beq sz esz with
        | true => match opd tf lo, opd tf hi, opd tf mx with
          | .t (.v (.int _ a)), .t (.v (.int _ b)), .t (.v (.int _ c)) => 0 ≤ a ∧ a ≤ b ∧ b ≤ c ∧ c ≤ l.length ∧ k (.t (.sl sz ((l.take b.toNat).drop a.toNat))) [] [] []
          | _, _, _ => False
        | false => False
      | _ => False
    | none => False)
  | _ => False
def bndOf : Option AV → Nat → Option (Int)
  | none, d => some d
  | some (.t (.v (.int _ n))), _ => some n
  | _, _ => none
theorem slice_told [Tabs] {w : World} {O : Nat → Prop} {sz : Nat} {l : List T} {A : Option Addr} {c : Nat} (h : HT w O (.sl sz l) (.slice A l.length c)) {lo hi : Nat} (h1 : lo ≤ hi) (h2 : hi ≤ l.length) :
    HT w O (.sl sz ((l.take hi).drop lo)) (.slice (if c - lo = 0 then A else A.map (·.add (lo * sz))) (hi - lo) (c - lo)) := by
  have hlen : ((l.take hi).drop lo).length = hi - lo := by rw [List.length_drop, List.length_take]; omega
  by_cases e : hi - lo = 0
  · have : (l.take hi).drop lo = [] := List.eq_nil_of_length_eq_zero (by omega)
    rw [this, e]
    exact .nil _ _ _
  · generalize hn : l.length = n at h
    cases h with
    | nil _ A c => simp at h2; omega
    | sl _ _ b o' c f hO hb hc hf hm ht =>
      rw [if_neg (by omega)]
      simp only [Option.map_some, add_plain]
      rw [← hlen]
      have hget : ∀ i, i < hi - lo → ((l.take hi).drop lo)[i]? = l[lo + i]? := fun i hi' => by rw [List.getElem?_drop, List.getElem?_take, if_pos (by omega)]
      refine .sl _ _ b _ _ (fun q => f (lo * sz + q)) hO hb (by rw [hlen]; omega) (fun x hx => hf x (List.mem_of_mem_take (List.mem_of_mem_drop hx))) ?_ ?_
      · intro i j hi' hj
        have := hm (lo + i) j (by omega) hj
        rw [Nat.add_mul] at this
        rw [show o' + lo * sz + i * sz + j = o' + (lo * sz + i * sz) + j by omega, this]
        congr 2; omega
      · intro i j x z hx hz
        have hi' : i < hi - lo := by have := (List.getElem?_eq_some_iff.1 hx).1; omega
        rw [hget i hi'] at hx
        have := ht (lo + i) j x z hx hz
        rw [Nat.add_mul] at this
        rwa [show lo * sz + (i * sz + j) = lo * sz + i * sz + j by omega]
def bnd [Tabs] (tf : Nat → AV) (d : Nat) : Option Operand → Option Int
  | none => some d
  | some x => match opd tf x with
    | .t (.v (.int _ n)) => some n
    | _ => none
def evSlice [Tabs] (P : Program) (t : TypeId) (tf : Nat → AV) (x : Operand) (lo hi mx : Option Operand) (H : Heap) (k : Kont) : Prop :=
  match mx, P.underlying t with
  | none, some (.slice e) => (match sizN P e with
    | some esz => match opd tf x with
      | .t (.sl sz l) => (match Nat.beq sz esz with
        | true => match bnd tf 0 lo, bnd tf l.length hi with
          | some a, some b => 0 ≤ a ∧ a ≤ b ∧ b ≤ l.length ∧ (match lo with
            | none => k (.t (.sl sz (l.take b.toNat))) [] [] []
            | some _ => match hi with
              | none => k (.t (.sl sz (l.drop a.toNat))) [] [] []
              | some _ => k (.t (.sl sz ((l.take b.toNat).drop a.toNat))) [] [] [])
          | _, _ => False
        | false => False)
      | .t (.v (.slice none 0 0)) => match bnd tf 0 lo, bnd tf 0 hi with
        | some a, some b => a = 0 ∧ b = 0 ∧ k (.t (.v (.slice none 0 0))) [] [] []
        | _, _ => False
      | _ => False
    | none => False)
  | none, some .string => match opd tf x with
    | .t (.v (.string s)) => match bnd tf 0 lo, bnd tf s.size hi with
      | some a, some b => 0 ≤ a ∧ a ≤ b ∧ b ≤ s.size ∧ k (.t (.v (.string (s.extract a.toNat b.toNat)))) [] [] []
      | _, _ => False
    | _ => False
  | _, _ => False
theorem bnd_run [Tabs] {tf' : Nat → AV} {hf' : Hp} {w0 : Bse} {X O0 D : Nat → Prop} {m : Nat → Option Value} {a : Act} {w : World} (hR : Rel w0 X O0 D m tf' hf' a w) {d : Nat} {x : Option Operand} {n : Int} (h : bnd tf' d x = some n) :
    (x = none ∧ n = d) ∨ ∃ z κ, x = some z ∧ a.eval z = .int κ n := by
  cases x with
  | none => simp [bnd] at h; exact .inl ⟨rfl, h.symm⟩
  | some z =>
    right
    unfold bnd at h
    simp only at h
    split at h
    · rename_i κ n' hz
      simp at h
      subst h
      have := opd_told hR z
      rw [hz] at this
      exact ⟨z, κ, rfl, this.v_eq⟩
    · cases h
theorem bounds_run [Tabs] {tf' : Nat → AV} {hf' : Hp} {w0 : Bse} {X O0 D : Nat → Prop} {m : Nat → Option Value} {a : Act} {w : World} (hR : Rel w0 X O0 D m tf' hf' a w) {b : Bool} {len cap : Nat} {lo hi : Option Operand} {p q : Int} (hlc : len ≤ cap) (h1 : bnd tf' 0 lo = some p) (h2 : bnd tf' len hi = some q) (h0 : 0 ≤ p) (hpq : p ≤ q) (hq : q ≤ len) :
    (Instr.sliceBounds b len cap (lo.map a.eval) (hi.map a.eval) none).run P w = .ok (p.toNat, q.toNat, cap) w := by
  unfold Instr.sliceBounds
  rcases bnd_run hR h2 with ⟨rfl, rfl⟩ | ⟨z, κ, rfl, hz⟩
  · rcases bnd_run hR h1 with ⟨rfl, rfl⟩ | ⟨z', κ', rfl, hz'⟩
    · simp
    · simp [hz', run_sliceBound (P := P) w κ' p len _ h0 (by omega)]
  · rcases bnd_run hR h1 with ⟨rfl, rfl⟩ | ⟨z', κ', rfl, hz'⟩
    · simp [hz, run_sliceBound (P := P) w κ q cap _ (by omega) (by omega)]
    · simp [hz, hz', run_sliceBound (P := P) w κ q cap _ (by omega) (by omega), run_sliceBound (P := P) w κ' p q.toNat _ h0 (by omega)]
theorem slice_told3 {w : World} {O : Nat → Prop} {sz : Nat} {l : List T} {A : Option Addr} {c : Nat} (h : HT w O (.sl sz l) (.slice A l.length c)) {lo hi mx : Nat} (h1 : lo ≤ hi) (h2 : hi ≤ mx) (h3 : mx ≤ l.length) :
    HT w O (.sl sz ((l.take hi).drop lo)) (.slice (if mx = lo then A else A.map (·.add (lo * sz))) (hi - lo) (mx - lo)) := by
  have hlen : ((l.take hi).drop lo).length = hi - lo := by rw [List.length_drop, List.length_take]; omega
  by_cases e : hi = lo
  · have : (l.take hi).drop lo = [] := List.eq_nil_of_length_eq_zero (by omega)
    rw [this, show hi - lo = 0 by omega]
    exact .nil _ _ _
  rw [if_neg (by omega)]
  cases h with
  | nil _ A c => exact absurd h2 (by simp at h3; omega)
  | sl _ _ b o _ f hO hb hc hf hm ht =>
    have hadd : (some (⟨b, o, none⟩ : Addr)).map (·.add (lo * sz)) = some ⟨b, o + lo * sz, none⟩ := by
      simp only [Option.map_some, Option.some.injEq, Addr.add]
      split
      · rename_i h0; rw [h0]; simp
      · rfl
    rw [hadd, ← hlen]
    refine .sl sz _ b (o + lo * sz) _ (fun j => f (lo * sz + j)) hO hb (by omega) (fun x hx => hf x (List.mem_of_mem_take (List.mem_of_mem_drop hx))) (fun i j hi hj => ?_) (fun i j x y hx hy => ?_)
    · rw [hlen] at hi
      have := hm (lo + i) j (by omega) hj
      rw [Nat.add_mul] at this
      rw [show o + lo * sz + i * sz + j = o + (lo * sz + i * sz) + j by omega, this, Nat.add_assoc]
    · rw [List.getElem?_drop, List.getElem?_take] at hx
      split at hx
      · have := ht (lo + i) j x y hx hy
        rw [Nat.add_mul, Nat.add_assoc] at this
        exact this
      · cases hx
theorem ok_slice3 [Tabs] {t : TypeId} {x lo hi mx : Operand} {k : Kont} (ho : o.op = .slice t x (some lo) (some hi) (some mx)) (h : evSlice3 P t tf x lo hi mx k) : ∃ v, OpLoc P o [] tf hf v [] [] ∧ k v [] [] [] := by
  have hop : ∀ tf', (∀ t ∈ tmpsOf o, tf' t = tf t) → ∀ z, z = x ∨ z = lo ∨ z = hi ∨ z = mx → opd tf' z = opd tf z := fun tf' ht z hz => tmps_same ht (by
    rw [ho]; simp [Op.operands]; exact hz)
  unfold evSlice3 at h
  split at h
  · rename_i e hu
    split at h
    · rename_i esz he
      split at h
      · rename_i sz l hx
        split at h
        · rename_i hbe
          have := Nat.eq_of_beq_eq_true hbe
          subst this
          split at h
          · rename_i κ1 p κ2 q κ3 r hp hq hr
            obtain ⟨h0, h1, h2, h2', h⟩ := h
            refine ⟨_, loc_val fun tf' hf' ht => .val fun w0 X O0 D m a w hR => ?_, h⟩
            have h3 := opd_told hR x
            have h4 := opd_told hR lo
            have h5 := opd_told hR hi
            have h6 := opd_told hR mx
            rw [hop tf' ht x (by simp), hx] at h3
            rw [hop tf' ht lo (by simp), hp] at h4
            rw [hop tf' ht hi (by simp), hq] at h5
            rw [hop tf' ht mx (by simp), hr] at h6
            obtain ⟨A, c, hy, hc⟩ := h3.sl_eq
            rw [hy] at h3
            refine ⟨_, ?_, .t _ _ (slice_told3 h3.t_ht (lo := p.toNat) (hi := q.toNat) (mx := r.toNat) (by omega) (by omega) (by omega))⟩
            unfold execOp
            rw [ho]
            refine run_value ?_
            have hb : (Instr.sliceBounds true l.length c (some (a.eval lo)) (some (a.eval hi)) (some (a.eval mx))).run P w = .ok (p.toNat, q.toNat, r.toNat) w := by
              unfold Instr.sliceBounds
              simp [h4.v_eq, h5.v_eq, h6.v_eq, run_sliceBound (P := P) w κ3 r c _ (by omega) (by omega), run_sliceBound (P := P) w κ2 q r.toNat _ (by omega) (by omega), run_sliceBound (P := P) w κ1 p q.toNat _ (by omega) (by omega)]
            simp only [Instr.sliceAt, Sem.run_bind, run_underlying hu, Result.andThen_ok, Instr.slice, hy, Option.map_some, hb, sizN_run he, Sem.run_pure]
          · exact h.elim
        · exact h.elim
      · exact h.elim
    · exact h.elim
  · exact h.elim
theorem ok_slice [Tabs] {t : TypeId} {x : Operand} {lo hi mx : Option Operand} {H : Heap} {k : Kont} (ho : o.op = .slice t x lo hi mx) (h : evSlice P t tf x lo hi mx H k) : ∃ v, OpLoc P o [] tf hf v [] [] ∧ k v [] [] [] := by
  have hop : ∀ tf', (∀ t ∈ tmpsOf o, tf' t = tf t) → ∀ z, z = x ∨ lo = some z ∨ hi = some z → opd tf' z = opd tf z := fun tf' ht z hz => tmps_same ht (by
    rw [ho]; simp [Op.operands]
    rcases hz with h | h | h
    · exact .inl h
    · exact .inr (.inl h)
    · exact .inr (.inr (.inl h)))
  have hbn : ∀ tf', (∀ t ∈ tmpsOf o, tf' t = tf t) → ∀ d z, (z = lo ∨ z = hi) → bnd tf' d z = bnd tf d z := by
    intro tf' ht d z hz
    cases z with
    | none => rfl
    | some y => unfold bnd; simp only; rw [hop tf' ht y (by rcases hz with h | h; exact .inr (.inl h.symm); exact .inr (.inr h.symm))]
  unfold evSlice at h
  split at h
  · rename_i e hu
    split at h
    · rename_i esz he
      split at h
      · rename_i sz l hx
        split at h
        · rename_i hbe
          have := Nat.eq_of_beq_eq_true hbe
          subst this
          split at h
          · rename_i p q hp hq
            obtain ⟨h0, h1, h2, h⟩ := h
            have key : OpLoc P o [] tf hf (.t (.sl sz ((l.take q.toNat).drop p.toNat))) [] [] := by
              refine loc_val fun tf' hf' ht => .val fun w0 X O0 D m a w hR => ?_
              have h3 := opd_told hR x
              rw [hop tf' ht x (by simp), hx] at h3
              obtain ⟨A, c, hy, hc⟩ := h3.sl_eq
              rw [hy] at h3
              have hb := bounds_run (P := P) (b := true) (cap := c) hR hc (by rw [hbn tf' ht _ _ (.inl rfl)]; exact hp) (by rw [hbn tf' ht _ _ (.inr rfl)]; exact hq) h0 h1 h2
              refine ⟨_, ?_, .t _ _ (slice_told h3.t_ht (lo := p.toNat) (hi := q.toNat) (by omega) (by omega))⟩
              unfold execOp
              rw [ho]
              refine run_value ?_
              simp only [Instr.sliceAt, Sem.run_bind, run_underlying hu, Result.andThen_ok, Instr.slice, hy, Option.map_none, hb, sizN_run he, Sem.run_pure]
              congr 2
              by_cases e1 : c = p.toNat
              · rw [if_pos e1, if_pos (by omega)]
              · rw [if_neg e1, if_neg (by omega)]
            split at h
            · have e : ((l.take q.toNat).drop p.toNat) = l.take q.toNat := by
                have : p = 0 := by simp [bnd] at hp; omega
                rw [this]; simp
              rw [e] at key
              exact ⟨_, key, h⟩
            · split at h
              · have e : ((l.take q.toNat).drop p.toNat) = l.drop p.toNat := by
                  have : q = l.length := by simp [bnd] at hq; omega
                  rw [this]; simp
                rw [e] at key
                exact ⟨_, key, h⟩
              · exact ⟨_, key, h⟩
          · exact h.elim
        · exact h.elim
      · rename_i hx
        split at h
        · rename_i p q hp hq
          obtain ⟨rfl, rfl, h⟩ := h
          refine ⟨_, loc_val fun tf' hf' ht => .val fun w0 X O0 D m a w hR => ⟨_, ?_, .t _ _ (.v _)⟩, h⟩
          have h3 := opd_told hR x
          rw [hop tf' ht x (by simp), hx] at h3
          have hb := bounds_run (P := P) (b := true) (len := 0) (cap := 0) hR (Nat.le_refl _) (by rw [hbn tf' ht _ _ (.inl rfl)]; exact hp) (by rw [hbn tf' ht _ _ (.inr rfl)]; exact hq) (by omega) (by omega) (by omega)
          unfold execOp
          rw [ho]
          refine run_value ?_
          simp only [Instr.sliceAt, Sem.run_bind, run_underlying hu, Result.andThen_ok, Instr.slice, h3.v_eq, Option.map_none, hb, sizN_run he, Sem.run_pure]
          rfl
        · exact h.elim
      · exact h.elim
    · exact h.elim
  · rename_i hu
    split at h
    · rename_i s hx
      split at h
      · rename_i p q hp hq
        obtain ⟨h0, h1, h2, h⟩ := h
        refine ⟨_, loc_val fun tf' hf' ht => .val fun w0 X O0 D m a w hR => ⟨_, ?_, .t _ _ (.v _)⟩, h⟩
        have h3 := opd_told hR x
        rw [hop tf' ht x (by simp), hx] at h3
        have hb := bounds_run (P := P) (b := false) (cap := s.size) hR (Nat.le_refl _) (by rw [hbn tf' ht _ _ (.inl rfl)]; exact hp) (by rw [hbn tf' ht _ _ (.inr rfl)]; exact hq) h0 h1 h2
        unfold execOp
        rw [ho]
        refine run_value ?_
        simp [Instr.sliceAt, run_underlying hu, Instr.slice, h3.v_eq, hb]
      · exact h.elim
    · exact h.elim
  · exact h.elim
def evLen (P : Program) (t : TypeId) (x : AV) (H : Heap) (k : Kont) : Prop :=
  match P.underlying t with
  | some (.slice _) => (match x with
    | .t (.sl _ l) => k (.int .i64 l.length) [] [] []
    | .t (.v (.slice _ n _)) => k (.int .i64 n) [] [] []
    | .own b => match lookH H b with
      | (_, .row _ _ l) => k (.int .i64 l.length) [] [b] []
      | _ => False
    | .sub _ _ _ n => k (.int .i64 n) [] [] []
    | .fsub _ _ _ n _ => k (.int .i64 n) [] [] []
    | _ => False)
  | some .string => (match x with
    | .t (.v (.string s)) => k (.int .i64 s.size) [] [] []
    | _ => False)
  | some (.array n _) => k (.int .i64 n) [] [] []
  | _ => False
theorem ok_len [Tabs] {t : TypeId} {x : Operand} {H : Heap} {k : Kont} (ho : o.op = .call { callee := .builtin .len, args := #[x], argTypes := #[t] }) (h : evLen P t (opd tf x) H k) (hH : hf = lookH H) : ∃ v R, OpLoc P o R tf hf v [] [] ∧ k v [] R [] := by
  subst hH
  have hop : ∀ tf', (∀ t ∈ tmpsOf o, tf' t = tf t) → opd tf' x = opd tf x := fun tf' ht => tmps_same ht (by rw [ho]; simp [Op.operands, Call.operands])
  have hrun : ∀ (a : Act) (w : World) (u : Value), (Builtin.len_ #[t] o.type #[a.eval x]).run P w = .ok u w → (execOp a.eval o).run P w = .ok (.value u) w := by
    intro a w u hu
    unfold execOp
    rw [ho]
    simp [resolve, invoke, Go.builtin, hu]
  unfold evLen at h
  split at h
  · rename_i e hu
    split at h
    · rename_i sz l hx
      refine ⟨_, [], loc_val fun tf' hf' ht => .val fun w0 X O0 D m a w hR => ⟨_, hrun a w _ ?_, .t _ _ (.v _)⟩, h⟩
      have h1 := opd_told hR x
      rw [hop tf' ht, hx] at h1
      obtain ⟨A, c, hy, _⟩ := h1.sl_eq
      simp [Builtin.len_, run_underlying hu, hy]; rfl
    · rename_i A n c hx
      refine ⟨_, [], loc_val fun tf' hf' ht => .val fun w0 X O0 D m a w hR => ⟨_, hrun a w _ ?_, .t _ _ (.v _)⟩, h⟩
      have h1 := opd_told hR x
      rw [hop tf' ht, hx] at h1
      simp [Builtin.len_, run_underlying hu, h1.v_eq]; rfl
    · rename_i b hx
      split at h
      · rename_i fz ty sz l hb
        refine ⟨_, [b], loc_read fun tf' hf' ht hh w0 X O0 D m a w hR => ⟨_, hrun a w _ ?_, .t _ _ (.v _)⟩, h⟩
        have h1 := opd_told hR x
        rw [hop tf' ht, hx] at h1
        have h3 := hR.blk b
        rw [hh b (by simp), hb] at h3
        have hm := h1.own_eq
        obtain ⟨v, xs, hv, how, _⟩ := h3
        rw [hm] at hv
        simp at hv
        rw [hv]
        rcases how.2 with ⟨h4, h5⟩ | ⟨g, cap, cur, h4, _⟩
        · rw [h4, h5]; simp [Builtin.len_, run_underlying hu]; rfl
        · rw [h4]; simp [Builtin.len_, run_underlying hu]; rfl
      · exact h.elim
    · rename_i b sz i n hx
      refine ⟨_, [], loc_val fun tf' hf' ht => .val fun w0 X O0 D m a w hR => ⟨_, hrun a w _ ?_, .t _ _ (.v _)⟩, h⟩
      have h1 := opd_told hR x
      rw [hop tf' ht, hx] at h1
      generalize a.eval x = z at h1
      cases h1 with
      | sub _ _ _ _ _ h1 =>
      rcases h1 with ⟨rfl, ⟨A, c', rfl⟩, hnil⟩ | ⟨g, c', hc, rfl, _⟩
      · simp [Builtin.len_, run_underlying hu]; rfl
      · simp [Builtin.len_, run_underlying hu]; rfl
    · rename_i b sz i n N hx
      refine ⟨_, [], loc_val fun tf' hf' ht => .val fun w0 X O0 D m a w hR => ⟨_, hrun a w _ ?_, .t _ _ (.v _)⟩, h⟩
      have h1 := opd_told hR x
      rw [hop tf' ht, hx] at h1
      generalize a.eval x = z at h1
      cases h1 with
      | fsub _ _ _ _ _ _ h1 =>
      obtain ⟨g, o', rfl, _⟩ := h1
      simp [Builtin.len_, run_underlying hu]; rfl
    · exact h.elim
  · rename_i hu
    split at h
    · rename_i s hx
      refine ⟨_, [], loc_val fun tf' hf' ht => .val fun w0 X O0 D m a w hR => ⟨_, hrun a w _ ?_, .t _ _ (.v _)⟩, h⟩
      have h1 := opd_told hR x
      rw [hop tf' ht, hx] at h1
      simp [Builtin.len_, run_underlying hu, h1.v_eq]; rfl
    · exact h.elim
  · rename_i n e hu
    refine ⟨_, [], loc_val fun tf' hf' ht => .val fun w0 X O0 D m a w hR => ⟨_, hrun a w _ ?_, .t _ _ (.v _)⟩, h⟩
    simp [Builtin.len_, run_underlying hu]; rfl
  · exact h.elim
def evMax (mx : Bool) (x y : AV) (k : Kont) : Prop :=
  match x, y with
  | .t (.v (.int κ a)), .t (.v (.int _ b)) => match mx with
    | true => k (.int κ (if b > a then b else a)) [] [] []
    | false => k (.int κ (if b < a then b else a)) [] [] []
  | _, _ => False
theorem ok_max [Tabs] {mx : Bool} {x y : Operand} {ts : Array TypeId} {k : Kont} (ho : o.op = .call { callee := .builtin (if mx then .max else .min), args := #[x, y], argTypes := ts }) (h : evMax mx (opd tf x) (opd tf y) k) : ∃ v, OpLoc P o [] tf hf v [] [] ∧ k v [] [] [] := by
  have hop : ∀ tf', (∀ t ∈ tmpsOf o, tf' t = tf t) → ∀ z, z = x ∨ z = y → opd tf' z = opd tf z := fun tf' ht z hz => tmps_same ht (by rw [ho]; simp [Op.operands, Call.operands]; exact hz)
  unfold evMax at h
  split at h
  · rename_i κ p κ' q hx hy
    have key : ∀ u, (∀ w : World, (if mx then Builtin.max_ ts o.type #[.int κ p, .int κ' q] else Builtin.min_ ts o.type #[.int κ p, .int κ' q] : Sem Value).run P w = .ok u w) → OpLoc P o [] tf hf (.t (.v u)) [] [] := by
      intro u hu
      refine loc_val fun tf' hf' ht => .val fun w0 X O0 D m a w hR => ⟨u, ?_, .t _ _ (.v u)⟩
      have h1 := opd_told hR x
      have h2 := opd_told hR y
      rw [hop tf' ht x (by simp), hx] at h1
      rw [hop tf' ht y (by simp), hy] at h2
      have := hu w
      unfold execOp
      rw [ho]
      cases mx
      · simp only [Bool.false_eq_true, if_false] at this ⊢
        simp [resolve, invoke, Go.builtin, h1.v_eq, h2.v_eq, this]
      · simp only [if_true] at this ⊢
        simp [resolve, invoke, Go.builtin, h1.v_eq, h2.v_eq, this]
    split at h
    · exact ⟨_, key _ (fun w => by simp [Builtin.max_, Builtin.max2]), h⟩
    · exact ⟨_, key _ (fun w => by simp [Builtin.min_, Builtin.min2]), h⟩
  · exact h.elim
end
end Go.YtppifophcphdkaaE
namespace Go.YtppifophcphdkaaE
open Go.RowKit
set_option linter.unusedVariables false
set_option linter.unusedSimpArgs false
section
variable {w0 : Bse} {X O0 D : Nat → Prop} {m : Nat → Option Value} {tf : Nat → AV} {hf : Hp} {a : Act} {w : World}
theorem upH_in {hf : Hp} {W : Heap} {b : Nat} (h : b ∈ ids W) : upH hf W b = lookH W b := by unfold upH; rw [if_pos h]
theorem upH_out {hf : Hp} {W : Heap} {b : Nat} (h : b ∉ ids W) : upH hf W b = hf b := by unfold upH; rw [if_neg h]
theorem Rel.write [Tabs] (h : Rel w0 X O0 D m tf hf a w) (W : Heap) (N : List Nat) (Wr : Nat → Prop) {w' : World} {m' : Nat → Option Value} {d : Option Tmp} {v : AV} {val : Value} (hd : ∀ x, d = some x → x < a.tmps.size) (hw : But w Wr w')
    (hWr : ∀ c, Wr c → ∃ b ∈ ids W, (hf b).1 = false ∧ (hf b).2.live ∧ bk m b = some c) (hm : ∀ b, b ∉ N → m' b = m b) (hN : ∀ n ∈ N, n ∈ ids W) (hfr : ∀ n ∈ N, ¬ D n)
    (hblk : ∀ b ∈ ids W, ∀ O', (∀ c, O' c → Own X m hf c ∨ w.heap.size ≤ c) → (∀ b v, m b = some v → m' b = some v) → (∀ c, O' c ↔ Own X m' (upH hf W) c) → HB m' w' O' b (lookH W b).2)
    (hold : ∀ b ∈ ids W, (lookH W b).2.live → ∀ c, bk m' b = some c → (w.heap.size ≤ c ∨ ∃ b2 ∈ ids W, (hf b2).1 = false ∧ (hf b2).2.live ∧ bk m b2 = some c) ∧ ∀ b' ∈ ids W, b' ≠ b → ((lookH W b).1 = false ∨ (lookH W b').1 = false) → (lookH W b').2.live → bk m' b' ≠ some c)
    (hv : ∀ O', (∀ c, O' c → Own X m hf c ∨ w.heap.size ≤ c) → (∀ b v, m b = some v → m' b = some v) → (∀ c, O' c ↔ Own X m' (upH hf W) c) → HA m' w' O' v val) : Rel w0 X O0 (fun b => D b ∨ b ∈ N) m' (upT tf d v) (upH hf W) (a.put d val) w' := by
  have hext : ∀ b v, m b = some v → m' b = some v := by
    intro b v hb
    by_cases e : b ∈ N
    · rw [h.dom b (hfr b e)] at hb; cases hb
    · rw [hm b e]; exact hb
  refine h.step Wr hw (fun c hc => by obtain ⟨b, _, h1, h2, h3⟩ := hWr c hc; exact ⟨b, h1, h2, h3⟩) hext (fun b hb => ?_) (fun b => ?_) (fun t => ?_)
  · rw [hm b (fun e => hb (.inr e))]
    exact h.dom b (fun e => hb (.inl e))
  · by_cases e : b ∈ ids W
    · right
      rw [upH_in e]
      refine ⟨fun hO => hblk b e _ hO hext (fun c => Iff.rfl), fun hl c hc => ?_⟩
      obtain ⟨h1, h2⟩ := hold b e hl c hc
      refine ⟨h1.imp id (fun ⟨b2, _, h3, h4, h5⟩ => ⟨b2, h3, h4, h5⟩), fun b' hne hfz hl' hc' => ?_⟩
      by_cases e' : b' ∈ ids W
      · rw [upH_in e'] at hl' hfz
        exact h2 b' e' hne hfz hl' hc'
      · rw [upH_out e'] at hl'
        have hb' : bk m b' = some c := by
          unfold bk at hc' ⊢
          rw [hm b' (fun x => e' (hN b' x))] at hc'
          exact hc'
        rcases h1 with h1 | ⟨b2, hb2, h3, h4, h5⟩
        · have := (h.blk b').lt hl' hb'; omega
        · exact h.sep b2 b' (fun x => e' (x ▸ hb2)) h3 h4 hl' c h5 hb'
    · left
      refine ⟨upH_out e, hm b (fun x => e (hN b x)), fun c hl hc hx => ?_⟩
      obtain ⟨b2, hb2, h3, h4, h5⟩ := hWr c hx
      exact h.sep b2 b (fun x => e (x ▸ hb2)) h3 h4 hl c h5 hc
  · unfold upT
    by_cases e : d = some t
    · subst e
      rw [if_pos rfl, get_put_self (hd t rfl)]
      exact .inr fun hO => hv _ hO hext (fun c => Iff.rfl)
    · rw [if_neg e]
      refine .inl ⟨rfl, ?_⟩
      cases d with
      | none => rfl
      | some x => exact get_put (fun h => e (by rw [h]))
end
def upM (m : Nat → Option Value) (d : Nat) (v : Value) : Nat → Option Value := fun b => if b = d then some v else m b
theorem upM_self {m : Nat → Option Value} {d : Nat} {v : Value} : upM m d v d = some v := by simp [upM]
theorem upM_ne {m : Nat → Option Value} {d b : Nat} {v : Value} (h : b ≠ d) : upM m d v b = m b := by simp [upM, h]
theorem ids1 {d b : Nat} {x : Bool × Blk} : b ∈ ids [(d, x)] ↔ b = d := by simp [ids]
theorem lookH1 {d : Nat} {x : Bool × Blk} : lookH [(d, x)] d = x := by simp [lookH, look]
def cellsA : AV → List AV
  | .agg l => l
  | .t (.agg l) => l.map .t
  | x => [x]
theorem HT.one_cell {w : World} {O : Nat → Prop} {x : T} {y : Value} (h : HT w O x y) (h1 : x.one = true) : y.oneCell' = true := by
  cases h <;> first | exact h1 | rfl | cases h1
theorem HA.one_cell [Tabs] {m : Nat → Option Value} {w : World} {O : Nat → Prop} {x : AV} {y : Value} (h : HA m w O x y) (h1 : x.one = true) : y.oneCell' = true := by
  cases h with
  | un => cases h1
  | t x y h => exact h.one_cell h1
  | own b v h h2 => exact h2
  | ptr => rfl
  | rp => rfl
  | sub _ _ _ _ _ h => exact h.cell
  | ab => rfl
  | fsub _ _ _ _ _ _ h => exact h.sub.cell
  | agg => cases h1
  | tuple => cases h1
  | iface => rfl
  | fn => rfl
theorem cells_one {v : Value} (h : v.oneCell' = true) : v.cells = #[v] := by cases v <;> first | rfl | cases h
theorem cells_told [Tabs] {m : Nat → Option Value} {w : World} {O : Nat → Prop} {x : AV} {v : Value} (h : HA m w O x v) (h1 : ∀ y ∈ cellsA x, y.one = true) :
    ∃ vs : List Value, v.cells = vs.toArray ∧ vs.length = (cellsA x).length ∧ (∀ u ∈ vs, u.oneCell' = true) ∧ ∀ (i : Nat) y u, (cellsA x)[i]? = some y → vs[i]? = some u → HA m w O y u := by
  have one : ∀ z, cellsA z = [z] → HA m w O z v → (∀ y ∈ cellsA z, y.one = true) → ∃ vs : List Value, v.cells = vs.toArray ∧ vs.length = (cellsA z).length ∧ (∀ u ∈ vs, u.oneCell' = true) ∧ ∀ (i : Nat) y u, (cellsA z)[i]? = some y → vs[i]? = some u → HA m w O y u := by
    intro z hz hh h1
    rw [hz] at h1 ⊢
    have ho := hh.one_cell (h1 z (by simp))
    refine ⟨[v], by rw [cells_one ho], rfl, by simpa using ho, fun i y u hy hu => ?_⟩
    cases i with
    | zero => simp at hy hu; subst hy; subst hu; exact hh
    | succ i => simp at hy
  have listed : ∀ (l : List AV) (vs : List Value), vs.length = l.length → (∀ (i : Nat) y u, l[i]? = some y → vs[i]? = some u → HA m w O y u) → (∀ y ∈ l, y.one = true) → ∀ u ∈ vs, u.oneCell' = true := by
    intro l vs hl hv ho u hu
    obtain ⟨i, hi, rfl⟩ := List.mem_iff_getElem.1 hu
    have hi' : i < l.length := by omega
    exact (hv i l[i] vs[i] (List.getElem?_eq_getElem hi') (List.getElem?_eq_getElem hi)).one_cell (ho _ (List.getElem_mem hi'))
  cases x with
  | agg l =>
    obtain ⟨vs, rfl, hl, hv⟩ := h.list_of_agg
    exact ⟨vs, rfl, hl, listed l vs hl hv h1, hv⟩
  | t x =>
    cases x with
    | agg l =>
      obtain ⟨vs, rfl, hl, hv⟩ := h.t_ht.list_of_agg
      have hv' : ∀ (i : Nat) y u, (l.map AV.t)[i]? = some y → vs[i]? = some u → HA m w O y u := by
        intro i y u hy hu
        rw [List.getElem?_map] at hy
        cases hx : l[i]? with
        | none => rw [hx] at hy; cases hy
        | some z => rw [hx] at hy; simp at hy; subst hy; exact .t _ _ (hv i z u hx hu)
      exact ⟨vs, rfl, by simpa [cellsA] using hl, listed _ vs (by simpa using hl) hv' h1, hv'⟩
    | _ => exact one _ rfl h h1
  | _ => exact one _ rfl h h1
section
variable {P : Program} {o : Oper} {tf : Nat → AV} {hf : Hp}
theorem Rel.new [Tabs] {w0 : Bse} {X O0 D : Nat → Prop} {m : Nat → Option Value} {a : Act} {w : World} (h : Rel w0 X O0 D m tf hf a w) {w' : World} {n : Nat} {d : Option Tmp} {v : AV} {val bval : Value} {k : Blk} (hd : ∀ x, d = some x → x < a.tmps.size) (hn : ¬ D n) (hw : But w (fun _ => False) w')
    (hc : ∀ c, blockOf bval = some c → w.heap.size ≤ c)
    (hblk : ∀ m' O', (∀ c, O' c → Own X m hf c ∨ w.heap.size ≤ c) → (∀ b v, m b = some v → m' b = some v) → m' n = some bval → HB m' w' O' n k)
    (hv : ∀ m' O', (∀ c, O' c → Own X m hf c ∨ w.heap.size ≤ c) → (∀ b v, m b = some v → m' b = some v) → m' n = some bval → HA m' w' O' v val) : Rel w0 X O0 (fun b => D b ∨ b ∈ [n]) (upM m n bval) (upT tf d v) (upH hf [(n, false, k)]) (a.put d val) w' := by
  refine h.write [(n, false, k)] [n] (fun _ => False) hd hw (fun _ h => h.elim) (fun b hb => upM_ne (by simpa using hb)) (by simp [ids]) (by simpa using hn) ?_ ?_ ?_
  · intro b hb O' hO hext _
    obtain rfl := ids1.1 hb
    rw [lookH1]
    exact hblk _ O' hO hext upM_self
  · intro b hb hl c hbc
    obtain rfl := ids1.1 hb
    refine ⟨.inl (hc c ?_), fun b' hb' hne => absurd (ids1.1 hb') hne⟩
    simpa [bk, upM_self] using hbc
  · intro O' hO hext _
    exact hv _ O' hO hext upM_self
end
end Go.YtppifophcphdkaaE
namespace Go.YtppifophcphdkaaE
open Go.RowKit
set_option linter.unusedVariables false
set_option linter.unusedSimpArgs false
def allOne (l : List AV) : Bool := l.all AV.one
theorem allOne_mem {l : List AV} (h : allOne l = true) : ∀ y ∈ l, y.one = true := List.all_eq_true.1 h
section
variable {P : Program} {o : Oper} {tf : Nat → AV} {hf : Hp}
theorem loc_new [Tabs] {R : List Nat} {v : AV} {n : Nat} {k : Blk} (h : ∀ tf' hf', (∀ t ∈ tmpsOf o, tf' t = tf t) → (∀ b ∈ R, hf' b = hf b) → ∀ (w0 : Bse) (X O0 D : Nat → Prop) (m : Nat → Option Value) (a : Act) (w : World), Rel w0 X O0 D m tf' hf' a w →
    ∃ val bval w', (execOp a.eval o).run P w = .ok (.value val) w' ∧ But w (fun _ => False) w' ∧ (∀ c, blockOf bval = some c → w.heap.size ≤ c) ∧
      (∀ m' O', (∀ c, O' c → Own X m hf' c ∨ w.heap.size ≤ c) → (∀ b v, m b = some v → m' b = some v) → m' n = some bval → HB m' w' O' n k) ∧
      (∀ m' O', (∀ c, O' c → Own X m hf' c ∨ w.heap.size ≤ c) → (∀ b v, m b = some v → m' b = some v) → m' n = some bval → HA m' w' O' v val)) : OpLoc P o R tf hf v [(n, false, k)] [n] := by
  refine ⟨fun b hb => .inr (by simpa [ids] using hb), fun tf' hf' ht hh w0 X O0 D m a w Q hR hd hN => ?_⟩
  obtain ⟨val, bval, w', hrun, hw, hc, hb, hv⟩ := h tf' hf' ht hh w0 X O0 D m a w hR
  unfold Oper.wp
  rw [hrun]
  exact ⟨val, upM m n bval, rfl, hR.new hd (hN n (by simp)) hw hc hb hv⟩
theorem HB.box_new {m' : Nat → Option Value} {w' : World} {O' : Nat → Prop} {n g : Nat} {ty : TypeId} {l : List AV} {vs : List Value} (hm : m' n = some (.pointer (some ⟨g, 0, none⟩))) (hg : w'.heap[g]? = some (.cells vs.toArray ty (0, 0))) (hl : vs.length = l.length) (h1 : ∀ x ∈ l, x.one = true)
    (hv : ∀ (i : Nat) x y, l[i]? = some x → vs[i]? = some y → HA m' w' O' x y) : HB m' w' O' n (.box ty l) := ⟨g, vs, hm, hg, hl, h1, hv⟩
def evBox (t : TypeId) (l : List AV) (d : Option Tmp) (k : Kont) : Prop :=
  match d with
  | some d => plainL l fun l => match allOne l with
    | true => k (.ptr d 0) [(d, false, .box t l)] [] [d]
    | false => False
  | none => False
theorem ok_box [Tabs] {t : TypeId} {x : Operand} {k : Kont} (ho : o.op = .box t x) (h : evBox t (cellsA (opd tf x)) o.dst k) : ∃ v W N, OpLoc P o [] tf hf v W N ∧ k v W [] N := by
  have hop : ∀ tf', (∀ t ∈ tmpsOf o, tf' t = tf t) → opd tf' x = opd tf x := fun tf' ht => tmps_same ht (by rw [ho]; simp [Op.operands])
  unfold evBox at h
  split at h
  · rename_i d hd
    rw [plainL_iff] at h
    split at h
    · rename_i h1
      refine ⟨_, _, _, loc_new fun tf' hf' ht hh w0 X O0 D m a w hR => ?_, h⟩
      have h2 := opd_told hR x
      rw [hop tf' ht] at h2
      obtain ⟨vs, hvs, hl, ho1, hv⟩ := cells_told h2 (allOne_mem h1)
      refine ⟨.pointer (some ⟨w.heap.size, 0, none⟩), .pointer (some ⟨w.heap.size, 0, none⟩), w.alloc (.cells vs.toArray t), ?_, But.alloc _ _ _, by simp [blockOf], ?_, ?_⟩
      · unfold execOp
        rw [ho]
        refine run_value ?_
        simp [Instr.box, newVar, newRow, hvs]
      · intro m' O' hO hext hm
        exact .box_new hm (heap_alloc_new w _) hl (allOne_mem h1) (fun i x y hx hy => (hv i x y hx hy).mono ((But.alloc w _ (fun _ => False)).keep fun _ h => h.elim) hO hext)
      · intro m' O' hO hext hm
        exact .ptr _ _ _ hm
    · exact h.elim
  · exact h.elim
def zeroCells' (P : Program) (t : TypeId) : Option (List Value) :=
  match P.info? t with
  | some i => i.zero.map (·.cells.toList)
  | none => none
theorem zero_run {P : Program} {t : TypeId} {l : List Value} (h : zeroCells' P t = some l) (w : World) : ∃ z, (zeroValue t).run P w = .ok z w ∧ z.cells.toList = l := by
  unfold zeroCells' at h
  split at h
  · rename_i i hi
    obtain ⟨z, hz, h⟩ := Option.map_eq_some_iff.1 h
    exact ⟨z, by simp [zeroValue, typeInfo, hi, hz], h⟩
  · cases h
def evAlloc (P : Program) (t : TypeId) (d : Option Tmp) (k : Kont) : Prop :=
  match zeroCells' P t with
  | some l => evBox t (l.map fun x => .t (.v x)) d k
  | none => False
theorem ok_alloc [Tabs] {t : TypeId} {k : Kont} (ho : o.op = .alloc t) (h : evAlloc P t o.dst k) : ∃ v W N, OpLoc P o [] tf hf v W N ∧ k v W [] N := by
  unfold evAlloc at h
  split at h
  · rename_i l hz
    unfold evBox at h
    split at h
    · rename_i d hd
      rw [plainL_iff] at h
      split at h
      · rename_i h1
        refine ⟨_, _, _, loc_new fun tf' hf' ht hh w0 X O0 D m a w hR => ?_, h⟩
        obtain ⟨z, hzr, hzl⟩ := zero_run hz w
        refine ⟨.pointer (some ⟨w.heap.size, 0, none⟩), .pointer (some ⟨w.heap.size, 0, none⟩), w.alloc (.cells l.toArray t), ?_, But.alloc _ _ _, by simp [blockOf], ?_, ?_⟩
        · unfold execOp
          rw [ho]
          refine run_value ?_
          simp [Instr.alloc, newVar, newRow, hzr, ← hzl]
        · intro m' O' hO hext hm
          refine .box_new hm (heap_alloc_new w _) (by simp) (allOne_mem h1) (fun i x y hx hy => ?_)
          rw [List.getElem?_map] at hx
          rw [hy] at hx
          simp at hx
          subst hx
          exact .t _ _ (.v _)
        · intro m' O' hO hext hm
          exact .ptr _ _ _ hm
      · exact h.elim
    · exact h.elim
  · exact h.elim
theorem fold_set (off : Nat) : ∀ (vs : List Value) (k : Nat) (cs : Array Value), off + k + vs.length ≤ cs.size →
    (vs.zipIdx k).foldl (fun cs (p : Value × Nat) => cs.setIfInBounds (off + p.2) p.1) cs = (cs.toList.take (off + k) ++ vs ++ cs.toList.drop (off + k + vs.length)).toArray
  | [], k, cs, h => by simp
  | v :: vs, k, cs, h => by
    simp only [List.length_cons] at h
    rw [List.zipIdx_cons, List.foldl_cons, fold_set off vs (k + 1) _ (by simp; omega)]
    congr 1
    have hlt : off + k < cs.toList.length := by simp; omega
    simp only [Array.toList_setIfInBounds]
    apply List.ext_getElem?
    intro j
    simp only [List.append_assoc, List.getElem?_append, List.getElem?_take, List.getElem?_drop, List.getElem?_set, List.length_take, List.length_set, List.length_cons, Array.length_toList]
    have hsz : off + k < cs.size := by simpa using hlt
    by_cases h1 : j < off + k
    · simp [h1, show j < off + (k + 1) by omega, show min (off + (k + 1)) cs.size = off + (k + 1) by omega, show min (off + k) cs.size = off + k by omega, show ¬ off + k = j by omega]
    · by_cases h2 : j = off + k
      · subst h2
        simp [show min (off + (k + 1)) cs.size = off + (k + 1) by omega, show min (off + k) cs.size = off + k by omega, show off + k < off + (k + 1) by omega, hsz]
      · have e1 : min (off + (k + 1)) cs.size = off + (k + 1) := by omega
        have e2 : min (off + k) cs.size = off + k := by omega
        have h3 : ¬ j < off + (k + 1) := by omega
        rw [e1, e2]
        simp only [h1, h3, if_false]
        obtain ⟨r, hr⟩ : ∃ r, j - (off + k) = r + 1 := ⟨j - (off + k) - 1, by omega⟩
        have hr' : j - (off + (k + 1)) = r := by omega
        rw [hr, hr']
        simp only [Nat.add_lt_add_iff_right, List.getElem?_cons_succ]
        split
        · rfl
        · have : ¬ off + k = off + (k + 1) + vs.length + (r - vs.length) := by omega
          rw [if_neg this]
          congr 1
          omega
def evFill (place : Nat → Option (Nat × Nat)) (cells : List AV) (k : List AV → Prop) : List (Nat × AV) → Prop
  | [] => k cells
  | (i, x) :: r => match place i with
    | some (off, size) => match Nat.beq (cellsA x).length size && Nat.ble (off + size) cells.length && allOne (cellsA x) with
      | true => plainL (cells.take off ++ cellsA x ++ cells.drop (off + size)) fun cells => evFill place cells k r
      | false => False
    | none => False
def fillL (place : Nat → Option (Nat × Nat)) : List AV → List (Nat × AV) → Option (List AV)
  | cells, [] => some cells
  | cells, (i, x) :: r => match place i with
    | some (off, size) => match Nat.beq (cellsA x).length size && Nat.ble (off + size) cells.length && allOne (cellsA x) with
      | true => fillL place (cells.take off ++ cellsA x ++ cells.drop (off + size)) r
      | false => none
    | none => none
theorem evFill_fillL [Tabs] {place : Nat → Option (Nat × Nat)} {k : List AV → Prop} : ∀ (ps : List (Nat × AV)) (cells : List AV), evFill place cells k ps → ∃ c, fillL place cells ps = some c ∧ k c
  | [], cells, h => ⟨cells, rfl, h⟩
  | (i, x) :: r, cells, h => by
    unfold evFill at h
    unfold fillL
    split at h
    · rename_i off size hp
      split at h
      · rename_i hb
        rw [plainL_iff] at h
        obtain ⟨c, h1, h2⟩ := evFill_fillL r _ h
        exact ⟨c, h1, h2⟩
      · exact h.elim
    · exact h.elim
theorem fill_told [Tabs] {m : Nat → Option Value} {w : World} {O : Nat → Prop} (place : Nat → Option (Nat × Nat)) : ∀ (ps : List (Nat × AV)) (us : List (Nat × Value)) (cells cells' : List AV) (vs : List Value), us.map (·.1) = ps.map (·.1) → (∀ (i : Nat) x y, ps[i]? = some x → us[i]? = some y → HA m w O x.2 y.2) →
    vs.length = cells.length → (∀ (i : Nat) x y, cells[i]? = some x → vs[i]? = some y → HA m w O x y) → fillL place cells ps = some cells' → ∃ (vs' : List Value), Instr.fill place vs.toArray us = some vs'.toArray ∧ vs'.length = cells'.length ∧ (∀ (i : Nat) x y, cells'[i]? = some x → vs'[i]? = some y → HA m w O x y)
  | [], [], cells, cells', vs, _, _, hl, hv, h => by simp [fillL] at h; subst h; exact ⟨vs, rfl, hl, hv⟩
  | [], _ :: _, _, _, _, h, _, _, _, _ => by simp at h
  | _ :: _, [], _, _, _, h, _, _, _, _ => by simp at h
  | (i, x) :: ps, (j, y) :: us, cells, cells', vs, hij, hxy, hl, hv, h => by
    simp only [List.map_cons, List.cons.injEq] at hij
    obtain ⟨e, hij⟩ := hij
    subst e
    unfold fillL at h
    split at h
    · rename_i off size hp
      split at h
      · rename_i hb
        simp only [Bool.and_eq_true] at hb
        obtain ⟨⟨hb1, hb2⟩, hb3⟩ := hb
        have hb1 := Nat.eq_of_beq_eq_true hb1
        have hb2 := Nat.le_of_ble_eq_true hb2
        have hx : HA m w O x y := hxy 0 (j, x) (j, y) rfl rfl
        obtain ⟨ys, hys, hyl, _, hyv⟩ := cells_told hx (allOne_mem hb3)
        have hyl' : ys.length = size := by omega
        have hfold := fold_set off ys 0 vs.toArray (by simp; omega)
        simp only [Nat.add_zero] at hfold
        obtain ⟨vs', h1, h2, h3⟩ := fill_told place ps us _ cells' (vs.take off ++ ys ++ vs.drop (off + size)) hij (fun i x y hx hy => hxy (i + 1) x y hx hy) (by simp; omega) (by
          intro i' x' y' hx' hy'
          rw [List.append_assoc] at hx' hy'
          rw [List.getElem?_append, List.length_take] at hx' hy'
          by_cases c1 : i' < off
          · rw [if_pos (by omega), List.getElem?_take, if_pos c1] at hx' hy'
            exact hv i' x' y' hx' hy'
          · rw [if_neg (by omega), List.getElem?_append] at hx' hy'
            rw [show min off cells.length = off by omega] at hx'
            rw [show min off vs.length = off by omega] at hy'
            by_cases c2 : i' - off < size
            · rw [if_pos (by omega)] at hx' hy'
              exact hyv _ _ _ hx' hy'
            · rw [if_neg (by omega), List.getElem?_drop] at hx' hy'
              rw [hb1] at hx'
              rw [hyl'] at hy'
              exact hv _ _ _ hx' hy') h
        refine ⟨vs', ?_, h2, h3⟩
        unfold Instr.fill
        simp only [hp]
        rw [hys]
        have e1 : ((decide (ys.length ≠ size)) || decide (off + ys.length > vs.length)) = false := by simp; omega
        simp only [List.size_toArray, ne_eq, hyl', not_true_eq_false, decide_false, Bool.false_or, gt_iff_lt, decide_eq_true_eq] at e1 ⊢
        rw [if_neg (by omega)]
        have e2 : (Array.foldl (fun cs (x : Value × Nat) => cs.setIfInBounds (off + x.snd) x.fst) vs.toArray ys.toArray.zipIdx) = (vs.take off ++ ys ++ vs.drop (off + size)).toArray := by
          rw [← hyl']
          rw [← Array.foldl_toList]
          simpa using hfold
        have e3 := h1
        rw [← e2] at e3
        exact e3
      · cases h
    · cases h
def placesOf (P : Program) : List Field → Option (List (Nat × Nat))
  | [] => some []
  | f :: fs => match sizN P f.type, placesOf P fs with
    | some n, some l => some ((f.offset, n) :: l)
    | _, _ => none
def evBuild (P : Program) (t : TypeId) (ps : List (Nat × AV)) (k : Kont) : Prop :=
  match zeroCells' P t, P.underlying t with
  | some z, some (.struct fs) => (match placesOf P fs.toList with
    | some pl => evFill (fun i => pl[i]?) (z.map fun x => .t (.v x)) (fun l => aggK l fun v => k v [] [] []) ps
    | none => False)
  | some z, some (.array _ e) => (match sizN P e with
    | some n => evFill (fun i => some (i * n, n)) (z.map fun x => .t (.v x)) (fun l => aggK l fun v => k v [] [] []) ps
    | none => False)
  | _, _ => False
theorem places_run [Tabs] {P : Program} (w : World) : ∀ (fs : List Field) (pl : List (Nat × Nat)), placesOf P fs = some pl → (fs.mapM fun f => (Prod.mk f.offset <$> sizeOf f.type : Sem (Nat × Nat))).run P w = .ok pl w
  | [], pl, h => by simp [placesOf] at h; subst h; rfl
  | f :: fs, pl, h => by
    unfold placesOf at h
    split at h
    · rename_i n l hn hl
      simp at h
      subst h
      have := places_run w fs l hl
      simp [List.mapM_cons, sizN_run hn, this]
    · cases h
theorem parts_told [Tabs] {tf : Nat → AV} {hf : Hp} {w0 : Bse} {X O0 D : Nat → Prop} {m : Nat → Option Value} {a : Act} {w : World} (hR : Rel w0 X O0 D m tf hf a w) (l : List (Nat × Operand)) :
    (l.map fun p => (p.1, a.eval p.2)).map (·.1) = (l.map fun p => (p.1, opd tf p.2)).map (·.1) ∧ ∀ (i : Nat) x y, (l.map fun p => (p.1, opd tf p.2))[i]? = some x → (l.map fun p => (p.1, a.eval p.2))[i]? = some y → HA m w (Own X m hf) x.2 y.2 := by
  refine ⟨by simp, fun i x y hx hy => ?_⟩
  rw [List.getElem?_map] at hx hy
  cases h : l[i]? with
  | none => rw [h] at hx; cases hx
  | some z =>
    rw [h] at hx hy
    simp at hx hy
    subst hx; subst hy
    exact opd_told hR z.2
theorem parts_same [Tabs] {tf tf' : Nat → AV} {l : List (Nat × Operand)} (h : ∀ x ∈ l.map (·.2), opd tf' x = opd tf x) : (l.map fun p => (p.1, opd tf p.2)) = (l.map fun p => (p.1, opd tf' p.2)) :=
  List.map_congr_left fun p hp => by rw [h p.2 (List.mem_map.2 ⟨p, hp, rfl⟩)]
theorem ok_build [Tabs] {t : TypeId} {ps : Array (Nat × Operand)} {k : Kont} (ho : o.op = .build t ps) (h : evBuild P t (ps.toList.map fun p => (p.1, opd tf p.2)) k) : ∃ v, OpLoc P o [] tf hf v [] [] ∧ k v [] [] [] := by
  have hop : ∀ tf', (∀ t ∈ tmpsOf o, tf' t = tf t) → ∀ x ∈ ps.toList.map (·.2), opd tf' x = opd tf x := fun tf' ht x hx => tmps_same ht (by rw [ho]; simpa [Op.operands] using hx)
  have main : ∀ (place : Nat → Option (Nat × Nat)) (z : List Value), zeroCells' P t = some z → evFill place (z.map fun x => .t (.v x)) (fun l => aggK l fun v => k v [] [] []) (ps.toList.map fun p => (p.1, opd tf p.2)) →
      (∀ (w : World) (zv : Value) (us : Array (Nat × Value)) (cells : Array Value), (zeroValue t).run P w = .ok zv w → Instr.fill place zv.cells us.toList = some cells → (Instr.build t us).run P w = .ok (.agg cells) w) → ∃ v, OpLoc P o [] tf hf v [] [] ∧ k v [] [] [] := by
    intro place z hz hfill hrun
    obtain ⟨c, h1, h2⟩ := evFill_fillL _ _ hfill
    suffices hm : OpLoc P o [] tf hf (.agg c) [] [] ∧ ∀ r, c = r.map .t → OpLoc P o [] tf hf (.t (.agg r)) [] [] by
      rcases aggK_spec h2 with h2 | ⟨r, he, h2⟩
      · exact ⟨_, hm.1, h2⟩
      · exact ⟨_, hm.2 r he, h2⟩
    suffices hm : ∀ tf' hf', (∀ t ∈ tmpsOf o, tf' t = tf t) → ∀ (w0 : Bse) (X O0 D : Nat → Prop) (m : Nat → Option Value) (a : Act) (w : World), Rel w0 X O0 D m tf' hf' a w → ∃ u, (execOp a.eval o).run P w = .ok (.value u) w ∧ HA m w (Own X m hf') (.agg c) u by
      refine ⟨loc_val fun tf' hf' ht => .val fun w0 X O0 D m a w hR => hm tf' hf' ht w0 X O0 D m a w hR, fun r he => loc_val fun tf' hf' ht => .val fun w0 X O0 D m a w hR => ?_⟩
      obtain ⟨u, h3, h4⟩ := hm tf' hf' ht w0 X O0 D m a w hR
      rw [he] at h4
      exact ⟨u, h3, h4.norm⟩
    intro tf' hf' ht w0 X O0 D m a w hR
    rw [parts_same (hop tf' ht)] at h1
    obtain ⟨h3, h4⟩ := parts_told hR ps.toList
    obtain ⟨zv, hzr, hzl⟩ := zero_run hz w
    obtain ⟨vs', h5, h6, h7⟩ := fill_told place _ _ _ c z h3 h4 (by simp) (fun i x y hx hy => by
      rw [List.getElem?_map, hy] at hx
      simp at hx
      subst hx
      exact .t _ _ (.v _)) h1
    refine ⟨.agg vs'.toArray, ?_, .agg _ _ h6 h7⟩
    have h8 := hrun w zv (ps.map fun p => (p.1, a.eval p.2)) vs'.toArray hzr (by
      rw [show zv.cells = z.toArray by rw [← hzl]]
      simpa using h5)
    unfold execOp
    rw [ho]
    exact run_value h8
  unfold evBuild at h
  split at h
  · rename_i z fs hz hu
    split at h
    · rename_i pl hpl
      refine main _ z hz h ?_
      intro w zv us cells h1 h2
      have h3 := places_run (P := P) w fs.toList pl hpl
      unfold Instr.build
      simp only [Sem.run_bind, h1, Result.andThen_ok, run_underlying hu]
      have h4 : (fs.mapM fun f => (do pure (f.offset, ← sizeOf f.type) : Sem (Nat × Nat))).run P w = .ok pl.toArray w := by
        rw [Array.mapM_eq_mapM_toList]
        simp [h3]
      rw [h4]
      simp only [Result.andThen_ok]
      have h5 : Instr.fill (fun x => pl.toArray[x]?) zv.cells us.toList = some cells := by simpa using h2
      rw [h5]
      rfl
    · exact h.elim
  · rename_i z n e hz hu
    split at h
    · rename_i es hes
      refine main _ z hz h ?_
      intro w zv us cells h1 h2
      unfold Instr.build
      simp only [Sem.run_bind, h1, Result.andThen_ok, run_underlying hu, sizN_run hes]
      rw [h2]
      rfl
    · exact h.elim
  · exact h.elim
end
end Go.YtppifophcphdkaaE
namespace Go.YtppifophcphdkaaE
open Go.RowKit
set_option linter.unusedVariables false
set_option linter.unusedSimpArgs false
def mapO {α β : Type} (f : α → Option β) : List α → Option (List β)
  | [] => some []
  | x :: l => match f x with
    | some y => match mapO f l with
      | some ys => some (y :: ys)
      | none => none
    | none => none
theorem mapO_spec {α β : Type} {f : α → Option β} : ∀ {l : List α} {l' : List β}, mapO f l = some l' → l'.length = l.length ∧ ∀ (i : Nat) x y, l[i]? = some x → l'[i]? = some y → f x = some y
  | [], l', h => by simp [mapO] at h; subst h; exact ⟨rfl, fun i x y hx => by simp at hx⟩
  | x :: l, l', h => by
    unfold mapO at h
    split at h
    · rename_i y hy
      split at h
      · rename_i ys hys
        simp at h
        subst h
        obtain ⟨h1, h2⟩ := mapO_spec hys
        refine ⟨by simp [h1], fun i a b ha hb => ?_⟩
        cases i with
        | zero => simp at ha hb; subst ha; subst hb; exact hy
        | succ i => exact h2 i a b (by simpa using ha) (by simpa using hb)
      · cases h
    · cases h
def toT (hf : Hp) : Nat → AV → Option T
  | 0, _ => none
  | n + 1, x => match x with
    | .t x => some x
    | .own b => match hf b with
      | (_, .row _ sz l) => some (.sl sz l)
      | _ => none
    | .ptr b off => match hf b with
      | (_, .box _ cells) => match mapO (toT hf n) (cells.drop off) with
        | some l => some (.pt l)
        | none => none
      | _ => none
    | .sub b sz i c => match hf b with
      | (_, .row _ sz' l) => match Nat.beq sz' sz with
        | true => some (.sl sz ((l.drop i).take c))
        | false => none
      | (_, .box _ cells) => match Nat.beq sz 1 && Nat.ble (i + c) cells.length with
        | true => match mapO (toT hf n) ((cells.drop i).take c) with
          | some l => some (.sl sz l)
          | none => none
        | false => none
      | _ => none
    | .agg l => match mapO (toT hf n) l with
      | some l => some (.agg l)
      | none => none
    | .tuple l => match mapO (toT hf n) l with
      | some l => some (.tuple l)
      | none => none
    | .iface t x => match toT hf n x with
      | some x => some (.iface t x)
      | none => none
    | .fn f a c => match mapO (toT hf n) a, mapO (toT hf n) c with
      | some a, some c => some (.fn f a c)
      | _, _ => none
    | _ => none
def reach (hf : Hp) : Nat → AV → List Nat
  | 0, _ => []
  | n + 1, x => match x with
    | .own b => [b]
    | .ptr b off => match hf b with
      | (_, .box _ cells) => b :: (cells.drop off).flatMap (reach hf n)
      | _ => [b]
    | .sub b _ i c => match hf b with
      | (_, .box _ cells) => b :: ((cells.drop i).take c).flatMap (reach hf n)
      | _ => [b]
    | .agg l => l.flatMap (reach hf n)
    | .tuple l => l.flatMap (reach hf n)
    | .iface _ x => reach hf n x
    | .fn _ a c => a.flatMap (reach hf n) ++ c.flatMap (reach hf n)
    | _ => []
theorem toT_one {hf : Hp} {n : Nat} {x : AV} {t : T} (h : toT hf n x = some t) (h1 : x.one = true) : t.one = true := by
  cases n with
  | zero => cases h
  | succ n =>
    unfold toT at h
    cases x with
    | un => cases h1
    | t x => simp at h; subst h; exact h1
    | own b => simp only at h; split at h <;> simp at h; subst h; rfl
    | ptr b off => simp only at h; split at h <;> (try split at h) <;> simp at h; subst h; rfl
    | rp => cases h
    | ab => cases h
    | fsub => cases h
    | sub b sz i c => simp only at h; split at h <;> (try split at h) <;> (try split at h) <;> simp at h <;> (subst h; rfl)
    | agg => cases h1
    | tuple => cases h1
    | iface t x => simp only at h; split at h <;> simp at h; subst h; rfl
    | fn f a c => simp only at h; split at h <;> simp at h; subst h; rfl
theorem toT_told [Tabs] {hf : Hp} {m : Nat → Option Value} {w : World} {O O' : Nat → Prop} (hB : ∀ b, HB m w O b (hf b).2) (hO : ∀ c, O' c → O c) : ∀ (n : Nat) (x : AV) (t : T) (v : Value), toT hf n x = some t → (∀ b ∈ reach hf n x, ∀ c, bk m b = some c → ¬ O' c) → HA m w O x v → HT w O' t v
  | 0, x, t, v, h, _, _ => by cases h
  | n + 1, x, t, v, h, hr, hx => by
    have ih := toT_told hB hO n
    have listed : ∀ (l : List AV) (l' : List T) (vs : List Value), mapO (toT hf n) l = some l' → (∀ b ∈ l.flatMap (reach hf n), ∀ c, bk m b = some c → ¬ O' c) → vs.length = l.length → (∀ (i : Nat) x y, l[i]? = some x → vs[i]? = some y → HA m w O x y) →
        vs.length = l'.length ∧ ∀ (i : Nat) x y, l'[i]? = some x → vs[i]? = some y → HT w O' x y := by
      intro l l' vs hm hr hl hv
      obtain ⟨h1, h2⟩ := mapO_spec hm
      refine ⟨by omega, fun i x y hx hy => ?_⟩
      have hi : i < l.length := by have := (List.getElem?_eq_some_iff.1 hy).1; omega
      have hxi : l[i]? = some l[i] := List.getElem?_eq_getElem hi
      exact ih l[i] x y (h2 i _ _ hxi hx) (fun b hb => hr b (List.mem_flatMap.2 ⟨l[i], List.getElem_mem hi, hb⟩)) (hv i _ _ hxi hy)
    cases x with
    | un => cases h
    | t x => simp [toT] at h; subst h; exact hx.t_ht.mono (Keep.refl _ _) (fun c hc => .inl (hO c hc))
    | rp => cases h
    | ab => cases h
    | fsub => cases h
    | sub b sz i c =>
      unfold toT at h
      unfold reach at hr
      simp only at h hr
      cases hx with
      | sub _ _ _ _ _ hx =>
      have h2 := hB b
      split at h
      · rename_i fz ty sz' l hb
        rw [hb] at h2 hr
        simp only at hr
        split at h
        · rename_i hs
          have hs := Nat.eq_of_beq_eq_true hs
          subst hs
          simp at h
          subst h
          obtain ⟨v', xs, hm, how, hfit, hcl⟩ := h2
          rcases hx with ⟨rfl, ⟨A, c', rfl⟩, hnil⟩ | ⟨g, c', hc, rfl, hm' | ⟨n', c2, hm', hin, hcc⟩⟩
          · rw [List.take_zero]; exact .nil _ _ _
          · rw [hm] at hm'
            simp at hm'
            subst hm'
            rcases how.2 with ⟨e, _⟩ | ⟨_, _, _, e, _⟩ <;> cases e
          · rw [hm] at hm'
            simp at hm'
            subst hm'
            rcases how.2 with ⟨e, _⟩ | ⟨g', cap, cur, e, _, hg, hcap, _⟩
            · cases e
            simp only [Value.slice.injEq, Option.some.injEq, Addr.mk.injEq, and_true] at e
            obtain ⟨rfl, hn', _⟩ := e
            subst hn'
            have hO' : ¬ O' g := hr b (by simp) g (by simp [bk, hm, blockOf])
            have hlen : ((l.drop i).take c).length = c := by rw [List.length_take, List.length_drop]; omega
            have key := HT.sl (w := w) (O := O') sz' ((l.drop i).take c) g (i * sz') c' (fun q => xs.getD (i * sz' + q) undef) hO' (Array.getElem?_eq_some_iff.1 hg).1 (by rw [hlen]; exact hc) (fun x hx => hfit x (List.mem_of_mem_drop (List.mem_of_mem_take hx))) ?_ ?_
            · rw [hlen] at key; exact key
            · intro p q hp hq
              rw [hlen] at hp
              have hlt : i * sz' + (p * sz' + q) < l.length * sz' := by
                have : (i + p) * sz' + q < l.length * sz' := by
                  calc (i + p) * sz' + q < (i + p) * sz' + sz' := by omega
                    _ = (i + p + 1) * sz' := by rw [Nat.add_mul (i + p)]; omega
                    _ ≤ l.length * sz' := Nat.mul_le_mul_right _ (by omega)
                rw [Nat.add_mul] at this; omega
              have hcell := how.cellAt (i * sz' + (p * sz' + q)) hlt
              rw [← Nat.add_assoc] at hcell
              rw [hcell, ← Nat.add_assoc]
              have hx1 := how.1
              simp [List.getD, show i * sz' + p * sz' + q < xs.length by omega]
            · intro p q x y hx hy
              rw [List.getElem?_take] at hx
              split at hx
              · rw [List.getElem?_drop] at hx
                obtain ⟨u, hu, ht⟩ := hcl (i + p) q x y hx hy
                rw [Nat.add_mul, Nat.add_assoc] at hu
                rw [List.getD, hu]
                exact ht.mono (Keep.refl _ _) (fun c hc => .inl (hO c hc))
              · cases hx
        · cases h
      · rename_i fz ty cells hb
        rw [hb] at h2 hr
        simp only at hr
        split at h
        · rename_i hs
          simp only [Bool.and_eq_true] at hs
          have hs1 := Nat.eq_of_beq_eq_true hs.1
          have hs2 := Nat.le_of_ble_eq_true hs.2
          subst hs1
          split at h
          · rename_i l hl
            simp at h
            subst h
            obtain ⟨g, vs, hm, hg, hlen, h1, hv⟩ := h2
            obtain ⟨h3, h4⟩ := mapO_spec hl
            have hcl : ((cells.drop i).take c).length = c := by rw [List.length_take, List.length_drop]; omega
            rcases hx with ⟨rfl, ⟨A, c', rfl⟩, hnil⟩ | ⟨g', c', hc, rfl, hm' | ⟨n', c2, hm', hin, hcc⟩⟩
            · have : l = [] := List.eq_nil_of_length_eq_zero (by rw [h3, hcl])
              subst this
              exact .nil _ _ _
            · rw [hm] at hm'
              simp at hm'
              subst hm'
              have hO' : ¬ O' g := hr b (by simp) g (by simp [bk, hm, blockOf])
              have hll : l.length = c := by rw [h3, hcl]
              obtain ⟨h5, h6⟩ := listed _ l ((vs.drop i).take c) hl (fun b hb => hr b (List.mem_cons_of_mem _ hb)) (by simp [hlen]) (fun p x y hx hy => by
                rw [List.getElem?_take] at hx hy
                split at hx
                · rename_i hp
                  rw [if_pos hp] at hy
                  rw [List.getElem?_drop] at hx hy
                  exact hv _ x y hx hy
                · cases hx)
              have hone : ∀ y ∈ l, y.one = true := fun y hy => by
                obtain ⟨p, hp, rfl⟩ := List.mem_iff_getElem.1 hy
                have hp' : p < ((cells.drop i).take c).length := by omega
                exact toT_one (h4 p _ _ (List.getElem?_eq_getElem hp') (List.getElem?_eq_getElem hp)) (h1 _ (List.mem_of_mem_drop (List.mem_of_mem_take (List.getElem_mem hp'))))
              have hcells : ∀ y : T, y.one = true → y.cells = [y] := fun y hy => by cases y <;> first | rfl | cases hy
              have key := HT.sl (w := w) (O := O') 1 l g i c' (fun q => vs.getD (i + q) undef) hO' (Array.getElem?_eq_some_iff.1 hg).1 (by omega) (fun x hx => ?_) ?_ ?_
              · rw [hll] at key; rw [Nat.mul_one]; exact key
              · rw [T.fits, hcells x (hone x hx)]; exact ⟨rfl, fun y hy => by rcases List.mem_singleton.1 hy with rfl; exact hone _ hx⟩
              · intro p q hp hq
                have hq0 : q = 0 := by omega
                subst hq0
                unfold World.cell?
                simp only [hg, Nat.mul_one, Nat.add_zero]
                have : i + p < vs.length := by omega
                simp [List.getD, this]
              · intro p q x y hx hy
                have hp : p < l.length := (List.getElem?_eq_some_iff.1 hx).1
                rw [hcells x (hone x (List.mem_of_getElem? hx))] at hy
                cases q with
                | zero =>
                  simp at hy
                  subst hy
                  have hlt : i + p < vs.length := by omega
                  refine h6 p x _ hx ?_
                  rw [List.getElem?_take, if_pos (by omega), List.getElem?_drop]
                  simp [List.getD, hlt]
                | succ q => simp at hy
            · rw [hm] at hm'; cases hm'
          · cases h
        · cases h
      · cases h
    | own b =>
      unfold toT at h
      simp only at h
      split at h
      · rename_i fz ty sz l hb
        simp at h
        subst h
        have h2 := hB b
        rw [hb] at h2
        obtain ⟨v', xs, hm, how, hfit, hc⟩ := h2
        cases hx with
        | own _ _ hm' _ =>
          rw [hm] at hm'
          simp at hm'
          subst hm'
          rcases how.2 with ⟨e, hn⟩ | ⟨g, cap, cur, e, _, hg, hcap, _⟩
          · have : l = [] := List.eq_nil_of_length_eq_zero hn
            subst this
            rw [e]
            exact .nil _ _ _
          · subst e
            have hO' : ¬ O' g := hr b (by simp [reach]) g (by simp [bk, hm, blockOf])
            refine .sl sz l g 0 cap (fun q => xs.getD q undef) hO' (Array.getElem?_eq_some_iff.1 hg).1 hcap hfit (fun i j hi hj => ?_) (fun i j x y hx hy => ?_)
            · rw [how.cellAt _ (by calc 0 + i * sz + j < i * sz + sz := by omega
                                      _ = (i + 1) * sz := by rw [Nat.add_mul]; omega
                                      _ ≤ l.length * sz := Nat.mul_le_mul_right _ hi)]
              have hlen : i * sz + j < xs.length := by
                rw [how.1]
                calc i * sz + j < i * sz + sz := by omega
                  _ = (i + 1) * sz := by rw [Nat.add_mul]; omega
                  _ ≤ l.length * sz := Nat.mul_le_mul_right _ hi
              simp [List.getD, hlen]
            · obtain ⟨u, hu, ht⟩ := hc i j x y hx hy
              rw [List.getD, hu]
              exact ht.mono (Keep.refl _ _) (fun c hc => .inl (hO c hc))
      · cases h
    | ptr b off =>
      unfold toT at h
      unfold reach at hr
      simp only at h hr
      split at h
      · rename_i fz ty cells hb
        rw [hb] at hr
        simp only at hr
        split at h
        · rename_i l hl
          simp at h
          subst h
          have h2 := hB b
          rw [hb] at h2
          obtain ⟨g, vs, hm, hg, hlen, h1, hv⟩ := h2
          obtain ⟨g', e, hm'⟩ := hx.ptr_eq
          rw [hm] at hm'
          simp at hm'
          subst hm'
          subst e
          obtain ⟨h3, h4⟩ := mapO_spec hl
          obtain ⟨h5, h6⟩ := listed _ l (vs.drop off) hl (fun b hb => hr b (List.mem_cons_of_mem _ hb)) (by simp [hlen]) (fun i x y hx hy => by
            rw [List.getElem?_drop] at hx hy
            exact hv _ x y hx hy)
          refine .pt l g off (fun i => vs.getD (off + i) undef) (hr b (by simp) g (by simp [bk, hm, blockOf])) (Array.getElem?_eq_some_iff.1 hg).1 (fun y hy => ?_) (fun i hi => ?_) (fun i x hx => ?_)
          · obtain ⟨i, hi, rfl⟩ := List.mem_iff_getElem.1 hy
            have hi' : i < (cells.drop off).length := by omega
            exact toT_one (h4 i _ _ (List.getElem?_eq_getElem hi') (List.getElem?_eq_getElem hi)) (h1 _ (List.mem_of_mem_drop (List.getElem_mem hi')))
          · unfold World.cell?
            simp only [hg]
            have : off + i < vs.length := by rw [List.length_drop] at h5; omega
            simp [List.getD, this]
          · have hi : i < l.length := (List.getElem?_eq_some_iff.1 hx).1
            have : off + i < vs.length := by rw [List.length_drop] at h5; omega
            exact h6 i x _ hx (by rw [List.getElem?_drop]; simp [List.getD, this])
        · cases h
      · cases h
    | agg l =>
      unfold toT at h
      simp only at h
      split at h
      · rename_i l' hl
        simp at h
        subst h
        obtain ⟨vs, rfl, hlen, hv⟩ := hx.list_of_agg
        obtain ⟨h1, h2⟩ := listed l l' vs hl hr hlen hv
        exact .agg _ _ h1 h2
      · cases h
    | tuple l =>
      unfold toT at h
      simp only at h
      split at h
      · rename_i l' hl
        simp at h
        subst h
        cases hx with
        | tuple _ vs hlen hv =>
          obtain ⟨h1, h2⟩ := listed l l' vs hl hr hlen hv
          exact .tuple _ _ h1 h2
      · cases h
    | iface t x =>
      unfold toT at h
      simp only at h
      split at h
      · rename_i x' hx'
        simp at h
        subst h
        cases hx with
        | iface _ _ y hy => exact .iface _ _ _ (ih x x' y hx' hr hy)
      · cases h
    | fn f a c =>
      unfold toT at h
      simp only at h
      split at h
      · rename_i a' c' ha hc
        simp at h
        subst h
        cases hx with
        | fn _ _ _ vs us hl hv hm' hu =>
          obtain ⟨h1, h2⟩ := listed a a' vs ha (fun b hb => hr b (by unfold reach; simp only; exact List.mem_append_left _ hb)) hl hv
          obtain ⟨h3, h4⟩ := listed c c' us hc (fun b hb => hr b (by unfold reach; simp only; exact List.mem_append_right _ hb)) hm' hu
          exact .fn _ _ _ _ _ h1 h2 h3 h4
      · cases h
theorem toT_congr {hf hf' : Hp} : ∀ (n : Nat) (z : AV), (∀ b ∈ reach hf n z, hf' b = hf b) → toT hf' n z = toT hf n z ∧ reach hf' n z = reach hf n z
  | 0, z, _ => ⟨rfl, rfl⟩
  | n + 1, z, hz => by
    have lst : ∀ (q : List AV), (∀ b ∈ q.flatMap (reach hf n), hf' b = hf b) → mapO (toT hf' n) q = mapO (toT hf n) q ∧ q.flatMap (reach hf' n) = q.flatMap (reach hf n) := by
      intro q
      induction q with
      | nil => intro _; exact ⟨rfl, rfl⟩
      | cons y q ihq =>
        intro hq
        obtain ⟨a1, a2⟩ := toT_congr n y (fun b hb => hq b (by rw [List.flatMap_cons]; exact List.mem_append_left _ hb))
        obtain ⟨b1, b2⟩ := ihq (fun b hb => hq b (by rw [List.flatMap_cons]; exact List.mem_append_right _ hb))
        refine ⟨?_, by rw [List.flatMap_cons, List.flatMap_cons, a2, b2]⟩
        unfold mapO
        rw [a1, b1]
    cases z with
    | own b' =>
      have := hz b' (by simp [reach])
      refine ⟨?_, rfl⟩
      unfold toT; simp only; rw [this]
    | ptr b' off' =>
      have h1 : b' ∈ reach hf (n + 1) (.ptr b' off') := by
        unfold reach; simp only
        split <;> simp
      have h2 := hz b' h1
      unfold toT reach
      simp only
      rw [h2]
      rcases hk : hf b' with ⟨fz, k⟩
      cases k with
      | box ty' cs =>
        simp only
        have h3 : ∀ b ∈ (cs.drop off').flatMap (reach hf n), hf' b = hf b := fun b hb => hz b (by unfold reach; simp only; rw [hk]; exact List.mem_cons_of_mem _ hb)
        obtain ⟨h4, h5⟩ := lst _ h3
        rw [h4, h5]
        exact ⟨rfl, rfl⟩
      | _ => exact ⟨rfl, rfl⟩
    | agg q =>
      obtain ⟨h4, h5⟩ := lst q (fun b hb => hz b (by unfold reach; exact hb))
      unfold toT reach; simp only; rw [h4, h5]; exact ⟨rfl, rfl⟩
    | tuple q =>
      obtain ⟨h4, h5⟩ := lst q (fun b hb => hz b (by unfold reach; exact hb))
      unfold toT reach; simp only; rw [h4, h5]; exact ⟨rfl, rfl⟩
    | iface t' y =>
      obtain ⟨h4, h5⟩ := toT_congr n y (fun b hb => hz b (by unfold reach; exact hb))
      unfold toT reach; simp only; rw [h4, h5]; exact ⟨rfl, rfl⟩
    | fn f' q r =>
      obtain ⟨h4, h5⟩ := lst q (fun b hb => hz b (by unfold reach; simp only; exact List.mem_append_left _ hb))
      obtain ⟨h6, h7⟩ := lst r (fun b hb => hz b (by unfold reach; simp only; exact List.mem_append_right _ hb))
      unfold toT reach; simp only; rw [h4, h5, h6, h7]; exact ⟨rfl, rfl⟩
    | un => exact ⟨rfl, rfl⟩
    | t y => exact ⟨rfl, rfl⟩
    | rp => exact ⟨rfl, rfl⟩
    | ab => exact ⟨rfl, rfl⟩
    | fsub => exact ⟨rfl, rfl⟩
    | sub b' sz i c =>
      have h1 : b' ∈ reach hf (n + 1) (.sub b' sz i c) := by
        unfold reach; simp only
        split <;> simp
      have h2 := hz b' h1
      unfold toT reach
      simp only
      rw [h2]
      rcases hk : hf b' with ⟨fz, k⟩
      cases k with
      | box ty' cs =>
        simp only
        have h3 : ∀ b ∈ ((cs.drop i).take c).flatMap (reach hf n), hf' b = hf b := fun b hb => hz b (by unfold reach; simp only; rw [hk]; exact List.mem_cons_of_mem _ hb)
        obtain ⟨h4, h5⟩ := lst _ h3
        rw [h4, h5]
        exact ⟨rfl, rfl⟩
      | _ => exact ⟨rfl, rfl⟩
end Go.YtppifophcphdkaaE
namespace Go.YtppifophcphdkaaE
open Go.RowKit
set_option linter.unusedVariables false
set_option linter.unusedSimpArgs false
def memN (b : Nat) : List Nat → Bool
  | [] => false
  | x :: l => bif Nat.beq x b then true else memN b l
theorem memN_iff {b : Nat} {l : List Nat} : memN b l = true ↔ b ∈ l := by
  induction l with
  | nil => simp [memN]
  | cons x l ih =>
    unfold memN
    cases h : Nat.beq x b with
    | true => have := Nat.eq_of_beq_eq_true h; simp [this]
    | false =>
      have hne : ¬ b = x := fun e => by subst e; simp at h
      simp [ih, hne]
def frz (hf : Hp) : List Nat → List Nat → Heap
  | [], _ => []
  | b :: r, seen => match memN b seen with
    | true => frz hf r seen
    | false => match hf b with
      | (true, _) => frz hf r seen
      | (false, .dead) => frz hf r seen
      | (false, .box ty c) => (b, true, .box ty c) :: frz hf r (b :: seen)
      | (false, .row ty sz l) => (b, true, .row ty sz l) :: frz hf r (b :: seen)
      | (false, .arr ty sz l N) => (b, true, .arr ty sz l N) :: frz hf r (b :: seen)
      | (false, .set ks) => (b, true, .set ks) :: frz hf r (b :: seen)
theorem frz_spec [Tabs] {hf : Hp} : ∀ (l seen : List Nat), (∀ b ∈ ids (frz hf l seen), b ∈ l ∧ (hf b).1 = false ∧ (hf b).2.live ∧ lookH (frz hf l seen) b = (true, (hf b).2)) ∧ (∀ b ∈ l, (hf b).2.live → (hf b).1 = false → b ∈ ids (frz hf l seen) ∨ b ∈ seen)
  | [], seen => ⟨fun b hb => by simp [frz, ids] at hb, fun b hb => by simp at hb⟩
  | b :: r, seen => by
    obtain ⟨h1, h2⟩ := frz_spec (hf := hf) r seen
    obtain ⟨h3, h4⟩ := frz_spec (hf := hf) r (b :: seen)
    have skip : (∀ x ∈ ids (frz hf r seen), x ∈ b :: r ∧ (hf x).1 = false ∧ (hf x).2.live ∧ lookH (frz hf r seen) x = (true, (hf x).2)) := fun x hx => ⟨List.mem_cons_of_mem _ (h1 x hx).1, (h1 x hx).2⟩
    have put : ∀ k : Blk, k.live → hf b = (false, k) → (∀ x ∈ ids ((b, true, k) :: frz hf r (b :: seen)), x ∈ b :: r ∧ (hf x).1 = false ∧ (hf x).2.live ∧ lookH ((b, true, k) :: frz hf r (b :: seen)) x = (true, (hf x).2)) ∧
        (∀ x ∈ b :: r, (hf x).2.live → (hf x).1 = false → x ∈ ids ((b, true, k) :: frz hf r (b :: seen)) ∨ x ∈ seen) := by
      intro k hk hb
      refine ⟨fun x hx => ?_, fun x hx hl hf' => ?_⟩
      · by_cases e : x = b
        · subst e
          refine ⟨by simp, by rw [hb], by rw [hb]; exact hk, ?_⟩
          unfold lookH
          rw [look_cons, if_pos rfl, hb]
        · have hx' : x ∈ ids (frz hf r (b :: seen)) := by simpa [ids, e] using hx
          obtain ⟨p1, p2, p3, p4⟩ := h3 x hx'
          refine ⟨List.mem_cons_of_mem _ p1, p2, p3, ?_⟩
          unfold lookH at p4 ⊢
          rw [look_cons, if_neg (fun e' => e e'.symm), p4]
      · by_cases e : x = b
        · subst e; exact .inl (by simp [ids])
        · have hx' : x ∈ r := by simpa [e] using hx
          rcases h4 x hx' hl hf' with h | h
          · exact .inl (by simp [ids] at h ⊢; exact .inr h)
          · exact .inr (by simpa [e] using h)
    unfold frz
    split
    · rename_i hm
      refine ⟨skip, fun x hx hl hf' => ?_⟩
      rcases List.mem_cons.1 hx with rfl | hx
      · exact .inr (memN_iff.1 hm)
      · exact h2 x hx hl hf'
    · split
      · rename_i hb
        refine ⟨skip, fun x hx hl hf' => ?_⟩
        rcases List.mem_cons.1 hx with rfl | hx
        · rw [hb] at hf'; cases hf'
        · exact h2 x hx hl hf'
      · rename_i hb
        refine ⟨skip, fun x hx hl hf' => ?_⟩
        rcases List.mem_cons.1 hx with rfl | hx
        · rw [hb] at hl; exact hl.elim
        · exact h2 x hx hl hf'
      · rename_i ty c hb; exact put _ trivial hb
      · rename_i ty sz l hb; exact put _ trivial hb
      · rename_i ty sz l N hb; exact put _ trivial hb
      · rename_i ks hb; exact put _ trivial hb
theorem ids_append {α : Type} (W F : List (Nat × α)) (b : Nat) : b ∈ ids (W ++ F) ↔ b ∈ ids W ∨ b ∈ ids F := by
  unfold ids; rw [List.map_append, List.mem_append]
theorem upH_append [Tabs] (hf : Hp) (F W : Heap) : upH (upH hf F) W = upH hf (W ++ F) := by
  funext b
  by_cases h1 : b ∈ ids W
  · rw [upH_in h1, upH_in ((ids_append W F b).2 (.inl h1))]
    unfold lookH
    rw [look_append, if_pos h1]
  · rw [upH_out h1]
    by_cases h2 : b ∈ ids F
    · rw [upH_in h2, upH_in ((ids_append W F b).2 (.inr h2))]
      unfold lookH
      rw [look_append, if_neg h1]
    · rw [upH_out h2, upH_out (fun h => ((ids_append W F b).1 h).elim h1 h2)]
section
variable {w0 : Bse} {X O0 D : Nat → Prop} {m : Nat → Option Value} {tf : Nat → AV} {hf : Hp} {a : Act} {w : World}
theorem Rel.freeze [Tabs] (h : Rel w0 X O0 D m tf hf a w) (F : Heap) (hF : ∀ b ∈ ids F, (hf b).1 = false ∧ (hf b).2.live ∧ lookH F b = (true, (hf b).2)) : Rel w0 X O0 D m tf (upH hf F) a w := by
  refine h.step (fun _ => False) (But.refl _ _) (fun _ h => h.elim) (fun _ _ h => h) h.dom (fun b => ?_) (fun t => .inl ⟨rfl, rfl⟩)
  by_cases e : b ∈ ids F
  · right
    obtain ⟨h1, h2, h3⟩ := hF b e
    rw [upH_in e, h3]
    refine ⟨fun hO => (h.blk b).mono (Keep.refl _ _) hO (fun _ _ h => h) (fun _ _ _ => rfl), fun hl c hc => ⟨.inr ⟨b, h1, h2, hc⟩, fun b' hne _ hl' hc' => ?_⟩⟩
    have hl'' : (hf b').2.live := by
      by_cases e' : b' ∈ ids F
      · rw [upH_in e', (hF b' e').2.2] at hl'; exact hl'
      · rw [upH_out e'] at hl'; exact hl'
    exact h.sep b b' (fun e => hne e.symm) h1 h2 hl'' c hc hc'
  · exact .inl ⟨upH_out e, rfl, fun _ _ _ h => h⟩
theorem Rel.view [Tabs] (h : Rel w0 X O0 D m tf hf a w) {L : List Nat} {F : Heap} (hF : F = frz hf L []) : Rel w0 X O0 D m tf (upH hf F) a w ∧ ∀ (n : Nat) (x : AV) (t : T) (v : Value), toT hf n x = some t → (∀ b ∈ reach hf n x, b ∈ L) → HA m w (Own X m hf) x v → HT w (Own X m (upH hf F)) t v := by
  subst hF
  obtain ⟨h1, h2⟩ := frz_spec (hf := hf) L []
  have hR := h.freeze (frz hf L []) (fun b hb => (h1 b hb).2)
  refine ⟨hR, fun n x t v ht hr hv => ?_⟩
  have hsame : ∀ b, (upH hf (frz hf L []) b).2 = (hf b).2 := by
    intro b
    by_cases e : b ∈ ids (frz hf L [])
    · rw [upH_in e, (h1 b e).2.2.2]
    · rw [upH_out e]
  have hO : ∀ c, Own X m (upH hf (frz hf L [])) c → Own X m hf c := by
    rintro c (hx | ⟨b, hb1, hb2, hb3⟩)
    · exact .inl hx
    · refine .inr ⟨b, ?_, by rw [← hsame b]; exact hb2, hb3⟩
      by_cases e : b ∈ ids (frz hf L [])
      · exact (h1 b e).2.1
      · rw [upH_out e] at hb1; exact hb1
  refine toT_told h.blk hO n x t v ht (fun b hb c hc hOc => ?_) hv
  have hbL := hr b hb
  by_cases hl : (hf b).2.live
  · rcases hOc with hx | ⟨b2, hb1, hb2, hb3⟩
    · exact h.xsep b c hl hc hx
    · rw [hsame] at hb2
      have hfz : (upH hf (frz hf L []) b).1 = true := by
        by_cases e : (hf b).1 = false
        · rcases h2 b hbL hl e with h' | h'
          · rw [upH_in h', (h1 b h').2.2.2]
          · simp at h'
        · by_cases e' : b ∈ ids (frz hf L [])
          · rw [upH_in e', (h1 b e').2.2.2]
          · rw [upH_out e']; simpa using e
      have hne : b2 ≠ b := fun e => by rw [e, hfz] at hb1; cases hb1
      have hb1' : (hf b2).1 = false := by
        by_cases e : b2 ∈ ids (frz hf L [])
        · exact (h1 b2 e).2.1
        · rw [upH_out e] at hb1; exact hb1
      exact h.sep b2 b hne hb1' hb2 hl c hb3 hc
  · -- a dead block is none that is seen
    have key : ∀ (n : Nat) (x : AV) (t : T), toT hf n x = some t → ∀ b ∈ reach hf n x, (hf b).2.live := by
      intro n
      induction n with
      | zero => intro x t h; cases h
      | succ n ih =>
        have lst : ∀ (l : List AV) (l' : List T), mapO (toT hf n) l = some l' → ∀ b ∈ l.flatMap (reach hf n), (hf b).2.live := by
          intro l l' hm b hb
          obtain ⟨y, hy, hb⟩ := List.mem_flatMap.1 hb
          obtain ⟨h1, h2⟩ := mapO_spec hm
          obtain ⟨i, hi, rfl⟩ := List.mem_iff_getElem.1 hy
          exact ih _ _ (h2 i _ _ (List.getElem?_eq_getElem hi) (List.getElem?_eq_getElem (by omega))) b hb
        intro x t h b hb
        cases x with
        | own b' =>
          simp [reach] at hb; subst hb
          unfold toT at h; simp only at h
          split at h
          · rename_i heq; rw [heq]; trivial
          · cases h
        | ptr b' off =>
          unfold toT at h; unfold reach at hb; simp only at h hb
          split at h
          · rename_i heq
            rw [heq] at hb
            simp only at hb
            split at h
            · rename_i hm
              rcases List.mem_cons.1 hb with rfl | hb
              · rw [heq]; trivial
              · exact lst _ _ hm b hb
            · cases h
          · cases h
        | agg l =>
          unfold toT at h; unfold reach at hb; simp only at h hb
          split at h
          · rename_i hm; exact lst _ _ hm b hb
          · cases h
        | tuple l =>
          unfold toT at h; unfold reach at hb; simp only at h hb
          split at h
          · rename_i hm; exact lst _ _ hm b hb
          · cases h
        | iface t' x =>
          unfold toT at h; unfold reach at hb; simp only at h hb
          split at h
          · rename_i hm; exact ih _ _ hm b hb
          · cases h
        | fn f a c =>
          unfold toT at h; unfold reach at hb; simp only at h hb
          split at h
          · rename_i h1 h2
            rcases List.mem_append.1 hb with hb | hb
            · exact lst _ _ h1 b hb
            · exact lst _ _ h2 b hb
          · cases h
        | un => simp [reach] at hb
        | t x => simp [reach] at hb
        | rp => simp [reach] at hb
        | ab => simp [reach] at hb
        | fsub => simp [reach] at hb
        | sub b' sz i n' =>
          unfold toT at h; unfold reach at hb; simp only at h hb
          split at h
          · rename_i hk; rw [hk] at hb; rcases List.mem_singleton.1 hb with rfl; rw [hk]; trivial
          · rename_i hk; rw [hk] at hb
            split at h
            · split at h
              · rename_i hm
                rcases List.mem_cons.1 hb with rfl | hb
                · rw [hk]; trivial
                · exact lst _ _ hm b hb
              · cases h
            · cases h
          · cases h
    exact absurd (key n x t ht b hb) hl
end
end Go.YtppifophcphdkaaE
namespace Go.YtppifophcphdkaaE
open Go.RowKit
set_option linter.unusedVariables false
set_option linter.unusedSimpArgs false
def fitsB (sz : Nat) (x : T) : Bool := Nat.beq x.cells.length sz && x.cells.all T.one
theorem fitsB_fits {sz : Nat} {x : T} (h : fitsB sz x = true) : x.fits sz := by
  simp only [fitsB, Bool.and_eq_true] at h
  exact ⟨Nat.eq_of_beq_eq_true h.1, List.all_eq_true.1 h.2⟩
def mkT : List T → T
  | [x] => x
  | l => .agg l
theorem mkT_cells {l : List T} (h1 : ∀ y ∈ l, y.one = true) : (mkT l).cells = l := by
  match l with
  | [] => rfl
  | [x] =>
    have := h1 x (by simp)
    cases x <;> first | rfl | cases this
  | x :: y :: l => rfl
theorem cellsA_t (x : T) : cellsA (.t x) = x.cells.map .t := by cases x <;> rfl
theorem T.cells_told [Tabs] {w : World} {O : Nat → Prop} {x : T} {v : Value} (h : HT w O x v) (h1 : ∀ y ∈ x.cells, y.one = true) :
    ∃ vs : List Value, v.cells = vs.toArray ∧ vs.length = x.cells.length ∧ (∀ u ∈ vs, u.oneCell' = true) ∧ ∀ (i : Nat) y u, x.cells[i]? = some y → vs[i]? = some u → HT w O y u := by
  obtain ⟨vs, h2, h3, h4, h5⟩ := Go.YtppifophcphdkaaE.cells_told (m := fun _ => none) (HA.t x v h) (fun y hy => by
    rw [cellsA_t] at hy
    obtain ⟨z, hz, rfl⟩ := List.mem_map.1 hy
    exact h1 z hz)
  rw [cellsA_t] at h3 h5
  refine ⟨vs, h2, by simpa using h3, h4, fun i y u hy hu => (h5 i (.t y) u (by rw [List.getElem?_map, hy]; rfl) hu).t_ht⟩
theorem flat_get {α : Type} {sz : Nat} : ∀ (l : List (List α)), (∀ x ∈ l, x.length = sz) → ∀ (i j : Nat) (x : List α) (y : α), l[i]? = some x → x[j]? = some y → l.flatten[i * sz + j]? = some y
  | [], _, i, j, x, y, h, _ => by simp at h
  | a :: l, hl, i, j, x, y, hx, hy => by
    have ha : a.length = sz := hl a (by simp)
    rw [List.flatten_cons, List.getElem?_append]
    cases i with
    | zero =>
      simp at hx; subst hx
      have := (List.getElem?_eq_some_iff.1 hy).1
      rw [if_pos (by omega)]
      simpa using hy
    | succ i =>
      rw [if_neg (by rw [Nat.add_mul]; omega)]
      have := flat_get l (fun x hx => hl x (List.mem_cons_of_mem _ hx)) i j x y (by simpa using hx) hy
      rw [show (i + 1) * sz + j - a.length = i * sz + j by rw [Nat.add_mul]; omega]
      exact this
theorem flat_len {α : Type} {sz : Nat} : ∀ (l : List (List α)), (∀ x ∈ l, x.length = sz) → l.flatten.length = l.length * sz
  | [], _ => by simp
  | a :: l, hl => by
    rw [List.flatten_cons, List.length_append, flat_len l (fun x hx => hl x (List.mem_cons_of_mem _ hx)), hl a (by simp), List.length_cons, Nat.add_mul]; omega
section
variable {P : Program} {o : Oper} {tf : Nat → AV} {hf : Hp}
theorem loc_frz [Tabs] {R L : List Nat} {v : AV} {W F : Heap} {N : List Nat} (hF : F = frz hf L []) (hL : ∀ b ∈ L, b ∈ R) (hW : ∀ b ∈ ids W, b ∈ R ∨ b ∈ N)
    (h : ∀ tf' hf', (∀ t ∈ tmpsOf o, tf' t = tf t) → (∀ b ∈ R, hf' b = hf b) → ∀ (w0 : Bse) (X O0 D : Nat → Prop) (m : Nat → Option Value) (a : Act) (w : World) (Q : Exit → Act → World → Prop), Rel w0 X O0 D m tf' (upH hf' F) a w →
      (∀ (n : Nat) (x : AV) (t : T) (v : Value), toT hf n x = some t → (∀ b ∈ reach hf n x, b ∈ L) → HA m w (Own X m hf') x v → HT w (Own X m (upH hf' F)) t v) → Rel w0 X O0 D m tf' hf' a w → (∀ x, o.dst = some x → x < a.tmps.size) → (∀ n ∈ N, ¬ D n) →
      o.wp P a w (fun a' w' => ∃ u m', a' = a.put o.dst u ∧ Rel w0 X O0 (fun b => D b ∨ b ∈ N) m' (upT tf' o.dst v) (upH (upH hf' F) W) a' w') Q) : OpLoc P o R tf hf v (W ++ F) N := by
  refine ⟨fun b hb => ?_, fun tf' hf' ht hh w0 X O0 D m a w Q hR hd hN => ?_⟩
  · rcases (ids_append W F b).1 hb with hb | hb
    · exact hW b hb
    · rw [hF] at hb
      exact .inl (hL b ((frz_spec (hf := hf) L []).1 b hb).1)
  · have hF' : F = frz hf' L [] := by
      rw [hF]
      have key : ∀ (l seen : List Nat), (∀ b ∈ l, hf' b = hf b) → frz hf l seen = frz hf' l seen := by
        intro l
        induction l with
        | nil => intro seen _; rfl
        | cons b r ih =>
          intro seen hb
          unfold frz
          rw [hb b (by simp), ih seen (fun b' hb' => hb b' (by simp [hb'])), ih (b :: seen) (fun b' hb' => hb b' (by simp [hb']))]
      exact key L [] (fun b hb => hh b (hL b hb))
    obtain ⟨hR1, hv⟩ := hR.view hF'
    rw [← upH_append]
    refine h tf' hf' ht hh w0 X O0 D m a w Q hR1 (fun n x t v h1 h2 h3 => ?_) hR hd hN
    obtain ⟨h4, h5⟩ := toT_congr (hf := hf) (hf' := hf') n x (fun b hb => hh b (hL b (h2 b hb)))
    exact hv n x t v (by rw [h4]; exact h1) (by rw [h5]; exact h2) h3
theorem HB.row_new [Tabs] {m' : Nat → Option Value} {w' : World} {O' : Nat → Prop} {n e sz : Nat} {l : List T} {v : Value} {xs : List (List Value)} (hm : m' n = some v) (how : w'.ownsRow 0 e sz v l.length xs.flatten) (hf : ∀ x ∈ l, x.fits sz) (hxs : xs.length = l.length) (hl : ∀ x ∈ xs, x.length = sz)
    (hv : ∀ (i j : Nat) (x y : T) (vs : List Value) (u : Value), l[i]? = some x → x.cells[j]? = some y → xs[i]? = some vs → vs[j]? = some u → HT w' O' y u) : HB m' w' O' n (.row e sz l) := by
  refine ⟨v, xs.flatten, hm, how, hf, fun i j x y hx hy => ?_⟩
  have hi : i < xs.length := by have := (List.getElem?_eq_some_iff.1 hx).1; omega
  have hfit := hf x (List.mem_of_getElem? hx)
  have hj : j < sz := by have := (List.getElem?_eq_some_iff.1 hy).1; have := hfit.1; omega
  have hxi : xs[i]? = some xs[i] := List.getElem?_eq_getElem hi
  have hlen : (xs[i]).length = sz := hl _ (List.getElem_mem hi)
  have hju : (xs[i])[j]? = some (xs[i])[j] := List.getElem?_eq_getElem (by omega)
  exact ⟨_, flat_get xs hl i j _ _ hxi hju, hv i j x y _ _ hx hy hxi hju⟩
def evMake (P : Program) (t : TypeId) (l c : AV) (d : Option Tmp) (k : Kont) : Prop :=
  match P.underlying t with
  | some (.slice e) => match l, c, d with
    | .t (.v (.int _ n)), .t (.v (.int _ c)), some d => (match P.info? e with
      | some i => match i.zero with
        | some z => match Nat.beq z.cells.toList.length i.size && z.cells.toList.all Value.oneCell' with
          | true => 0 ≤ n ∧ n ≤ c ∧ (i.bytes : Int) * c ≤ 281474976710656 ∧ c ≤ 9223372036854775807 ∧ k (.own d) [(d, false, .row e i.size (List.replicate n.toNat (mkT (z.cells.toList.map .v))))] [] [d]
          | false => False
        | none => False
      | none => False)
    | _, _, _ => False
  | _ => False
theorem madeCells_flat [Tabs] (z : List Value) (c : Nat) : (madeCells z.toArray (c * z.length)).toList = (List.replicate c z).flatten := by
  apply List.ext_getElem?
  intro j
  have hlen : (List.replicate c z).flatten.length = c * z.length := by rw [flat_len (sz := z.length)]; simp; simp
  by_cases hj : j < c * z.length
  · have hz : 0 < z.length := by
      rcases Nat.eq_zero_or_pos z.length with h | h
      · rw [h] at hj; omega
      · exact h
    have hi : j / z.length < c := Nat.div_lt_of_lt_mul (by rw [Nat.mul_comm]; exact hj)
    have h1 : (List.replicate c z)[j / z.length]? = some z := by simp [hi]
    have h2 : z[j % z.length]? = some (z[j % z.length]'(Nat.mod_lt _ hz)) := List.getElem?_eq_getElem (Nat.mod_lt _ hz)
    have h3 := flat_get (List.replicate c z) (sz := z.length) (fun x hx => by rw [(List.mem_replicate.1 hx).2]) (j / z.length) (j % z.length) z _ h1 h2
    rw [show j / z.length * z.length + j % z.length = j by rw [Nat.mul_comm]; exact Nat.div_add_mod _ _] at h3
    rw [h3]
    unfold madeCells
    simp [hj, Nat.mod_lt _ hz]
  · rw [List.getElem?_eq_none (by simp [size_madeCells]; omega), List.getElem?_eq_none (by omega)]
theorem ok_make [Tabs] {t : TypeId} {x y : Operand} {k : Kont} (ho : o.op = .makeSlice t x y) (h : evMake P t (opd tf x) (opd tf y) o.dst k) : ∃ v W N, OpLoc P o [] tf hf v W N ∧ k v W [] N := by
  have hop : ∀ tf', (∀ t ∈ tmpsOf o, tf' t = tf t) → ∀ z, z = x ∨ z = y → opd tf' z = opd tf z := fun tf' ht z hz => tmps_same ht (by rw [ho]; simp [Op.operands]; exact hz)
  unfold evMake at h
  split at h
  · rename_i e hu
    split at h
    · rename_i κ n κ' c d hx hy hd
      split at h
      · rename_i i hi
        split at h
        · rename_i z hz
          split at h
          · rename_i hb
            simp only [Bool.and_eq_true] at hb
            have hb1 := Nat.eq_of_beq_eq_true hb.1
            have hb2 := List.all_eq_true.1 hb.2
            obtain ⟨h0, h1, h2, h3, h⟩ := h
            have hone : ∀ y ∈ z.cells.toList.map T.v, y.one = true := by
              intro y hy
              obtain ⟨u, hu, rfl⟩ := List.mem_map.1 hy
              exact hb2 u hu
            have hmk := mkT_cells hone
            refine ⟨_, _, _, loc_new fun tf' hf' ht hh w0 X O0 D m a w hR => ?_, h⟩
            have e1 := opd_told hR x
            have e2 := opd_told hR y
            rw [hop tf' ht x (by simp), hx] at e1
            rw [hop tf' ht y (by simp), hy] at e2
            have hrun := run_make (P := P) w t e i z hu hi hz κ κ' n c h0 h1 h2 h3
            have how : (w.alloc (.cells (madeCells z.cells (c.toNat * i.size)) e)).ownsRow 0 e i.size (.slice (some ⟨w.heap.size, 0, none⟩) n.toNat c.toNat) n.toNat (List.replicate n.toNat z.cells.toList).flatten := by
              refine ⟨by rw [flat_len (sz := i.size)]; simp; intro x hx; rw [(List.mem_replicate.1 hx).2, hb1], .inr ⟨w.heap.size, c.toNat, _, rfl, Nat.zero_le _, heap_alloc_new w _, by omega, by unfold maxLen; omega, by rw [size_madeCells], ?_⟩⟩
              have e3 := madeCells_flat z.cells.toList c.toNat
              rw [hb1] at e3
              have e4 : (madeCells z.cells (c.toNat * i.size)).toList = (List.replicate c.toNat z.cells.toList).flatten := by simpa using e3
              rw [e4, show c.toNat = n.toNat + (c.toNat - n.toNat) by omega, ← List.replicate_append_replicate, List.flatten_append]
              rw [List.take_left']
              rw [flat_len (sz := i.size)]
              · simp
              · intro x hx; rw [(List.mem_replicate.1 hx).2, hb1]
            refine ⟨.slice (some ⟨w.heap.size, 0, none⟩) n.toNat c.toNat, .slice (some ⟨w.heap.size, 0, none⟩) n.toNat c.toNat, w.alloc (.cells (madeCells z.cells (c.toNat * i.size)) e), ?_, But.alloc w _ _, ?_, ?_, ?_⟩
            · unfold execOp
              rw [ho]
              refine run_value ?_
              rw [e1.v_eq, e2.v_eq]
              exact hrun
            · simp [blockOf]
            · intro m' O' hO hext hm
              refine HB.row_new (xs := List.replicate n.toNat z.cells.toList) hm (by simpa using how) ?_ (by simp) ?_ ?_
              · intro x hx
                rw [(List.mem_replicate.1 hx).2]
                exact ⟨by rw [hmk]; simp [← hb1], by rw [hmk]; exact hone⟩
              · intro x hx; rw [(List.mem_replicate.1 hx).2, hb1]
              · intro p q x y vs u hx hy hvs hu
                have hx' := (List.mem_replicate.1 (List.mem_of_getElem? hx)).2
                have hv' := (List.mem_replicate.1 (List.mem_of_getElem? hvs)).2
                subst hx'; subst hv'
                rw [hmk, List.getElem?_map, hu] at hy
                simp at hy
                subst hy
                exact .v _
            · intro m' O' hO hext hm
              exact .own _ _ hm rfl
          · exact h.elim
        · exact h.elim
      · exact h.elim
    · exact h.elim
  · exact h.elim
end
end Go.YtppifophcphdkaaE
namespace Go.YtppifophcphdkaaE
open Go.RowKit
set_option linter.unusedVariables false
set_option linter.unusedSimpArgs false
def newEl (e : T) (j n sz : Nat) (x : T) : T :=
  match Nat.beq n sz with
  | true => x
  | false => .agg (e.cells.take j ++ x.cells ++ e.cells.drop (j + n))
theorem newEl_cells {e x : T} {j n sz : Nat} (he : e.fits sz) (hn : x.cells.length = n) (hj : j + n ≤ sz) : (newEl e j n sz x).cells = e.cells.take j ++ x.cells ++ e.cells.drop (j + n) := by
  unfold newEl
  split
  · rename_i h
    have h := Nat.eq_of_beq_eq_true h
    have hj0 : j = 0 := by omega
    subst hj0
    rw [List.take_zero, List.nil_append, List.drop_of_length_le (by rw [he.1]; omega), List.append_nil]
  · rfl
theorem splice_get {α : Type} (l m : List α) (o n q : Nat) (hm : m.length = n) (ho : o + n ≤ l.length) : (l.take o ++ m ++ l.drop (o + n))[q]? = if q < o then l[q]? else if q < o + n then m[q - o]? else l[q]? := by
  rw [List.append_assoc, List.getElem?_append, List.length_take, Nat.min_eq_left (by omega)]
  by_cases h1 : q < o
  · rw [if_pos h1, if_pos h1, List.getElem?_take, if_pos h1]
  · rw [if_neg h1, if_neg h1, List.getElem?_append, hm]
    by_cases h2 : q < o + n
    · rw [if_pos h2, if_pos (by omega)]
    · rw [if_neg h2, if_neg (by omega), List.getElem?_drop]
      congr 1; omega
theorem splice_len {α : Type} (l m : List α) (o n : Nat) (hm : m.length = n) (ho : o + n ≤ l.length) : (l.take o ++ m ++ l.drop (o + n)).length = l.length := by
  simp; omega
def evStore (P : Program) (t : TypeId) (p x : AV) (H : Heap) (k : Kont) : Prop :=
  match sizN P t with
  | some n => (match p with
    | .ptr b off => match lookH H b with
      | (false, .box ty cells) => match Nat.beq (cellsA x).length n && Nat.ble (off + n) cells.length && allOne (cellsA x) with
        | true => plainL (cells.take off ++ cellsA x ++ cells.drop (off + n)) fun cells => k .un [(b, false, .box ty cells)] [b] []
        | false => False
      | _ => False
    | .rp b sz i j => match lookH H b with
      | (false, .row ty sz' l) => match toT (lookH H) 30 x with
        | some tx => match Nat.beq sz sz' && fitsB n tx && Nat.ble (j + n) sz && !(memN b (reach (lookH H) 30 x)) with
          | true => ∃ e, l[i]? = some e ∧ k .un ((b, false, .row ty sz (l.set i (newEl e j n sz tx))) :: frz (lookH H) (reach (lookH H) 30 x) []) (b :: reach (lookH H) 30 x) []
          | false => False
        | none => False
      | _ => False
    | _ => False)
  | none => False
theorem setRow_but (w : World) (g : Nat) (cs : Array Value) : But w (fun c => c = g) (w.setRow g cs) :=
  ⟨rfl, rfl, rfl, by simp [World.setRow], fun c hc hn => setRow_other w g c cs hn⟩
section
variable {P : Program} {o : Oper} {tf : Nat → AV} {hf : Hp}
theorem store_run [Tabs] {w : World} {t ty : TypeId} {g off n : Nat} {cur : List Value} {v : Value} {vs : List Value} (hn : sizN P t = some n) (hv : v.cells = vs.toArray) (hl : vs.length = n) (hg : w.heap[g]? = some (.cells cur.toArray ty (0, 0))) (hle : off + n ≤ cur.length) (h1 : ∀ u ∈ vs, u.oneCell' = true) :
    (storeVar t ⟨g, off, none⟩ v).run P w = .ok () (w.setRow g (cur.take off ++ vs ++ cur.drop (off + n)).toArray) := by
  have := run_storeCells_at P g off ty vs 0 cur.toArray w hg (by simp; omega) h1
  simp only [Nat.add_zero] at this
  unfold storeVar
  simp only [Sem.run_bind, sizN_run hn, Result.andThen_ok, hv, List.size_toArray, hl, ne_eq, not_true_eq_false, if_false]
  subst hl
  simpa using this
theorem ok_store [Tabs] {t : TypeId} {p x : Operand} {H : Heap} {k : Kont} (ho : o.op = .store t p x) (h : evStore P t (opd tf p) (opd tf x) H k) (hH : hf = lookH H) : ∃ v W R, OpLoc P o R tf hf v W [] ∧ k v W R [] := by
  have hop : ∀ tf', (∀ t ∈ tmpsOf o, tf' t = tf t) → ∀ z, z = p ∨ z = x → opd tf' z = opd tf z := fun tf' ht z hz => tmps_same ht (by rw [ho]; simp [Op.operands]; exact hz)
  have hrun : ∀ (a : Act) (w w' : World) (ad : Addr), a.eval p = .pointer (some ad) → (storeVar t ad (a.eval x)).run P w = .ok () w' → (execOp a.eval o).run P w = .ok .skip w' := by
    intro a w w' ad hp hu
    unfold execOp
    rw [ho]
    simp [Instr.storeAt, Instr.sureAddr, hp, hu]
  subst hH
  unfold evStore at h
  split at h
  · rename_i n hn
    split at h
    · rename_i b off hp
      split at h
      · rename_i ty cells hb
        split at h
        · rename_i hc
          simp only [Bool.and_eq_true] at hc
          obtain ⟨⟨c1, c2⟩, c3⟩ := hc
          have c1 := Nat.eq_of_beq_eq_true c1
          have c2 := Nat.le_of_ble_eq_true c2
          rw [plainL_iff] at h
          refine ⟨_, _, _, ⟨fun b' hb' => .inl (by simpa [ids] using hb'), fun tf' hf' ht hh w0 X O0 D m a w Q hR hd hN => ?_⟩, h⟩
          have e1 := opd_told hR p
          have e2 := opd_told hR x
          rw [hop tf' ht p (by simp), hp] at e1
          rw [hop tf' ht x (by simp)] at e2
          obtain ⟨g, hy, hm⟩ := e1.ptr_eq
          have hhb := hh b (by simp)
          have h3 := hR.blk b
          rw [hhb, hb] at h3
          obtain ⟨g', cur, hm', hg, hlen, h1, hv⟩ := h3
          rw [hm] at hm'
          simp at hm'
          subst hm'
          obtain ⟨vs, hvs, hvl, hv1, hvv⟩ := cells_told e2 (allOne_mem c3)
          have hst := store_run (P := P) (t := t) (off := off) hn hvs (by omega) hg (by omega) hv1
          have hr := hrun a w _ _ hy hst
          unfold Oper.wp
          rw [hr]
          have hbk : bk m b = some g := by simp [bk, hm, blockOf]
          have hlive : (hf' b).1 = false ∧ (hf' b).2.live := by rw [hhb, hb]; exact ⟨rfl, trivial⟩
          refine ⟨undef, m, rfl, ?_⟩
          have := hR.write (w' := w.setRow g (cur.take off ++ vs ++ cur.drop (off + n)).toArray) (W := [(b, false, .box ty (cells.take off ++ cellsA (opd tf x) ++ cells.drop (off + n)))]) (N := []) (fun c => c = g) (m' := m) (d := o.dst) (v := .un) (val := undef) hd (setRow_but w g _) (fun c hc => ⟨b, by simp [ids], hlive.1, hlive.2, by rw [hc]; exact hbk⟩) (fun _ _ => rfl) (by simp) (by simp) ?_ ?_ ?_
          · simpa using this
          · intro b' hb' O' hO hext _
            obtain rfl := ids1.1 hb'
            rw [lookH1]
            refine ⟨g, cur.take off ++ vs ++ cur.drop (off + n), hm, setRow_heap w g _ _ ty (0, 0) hg, ?_, ?_, ?_⟩
            · simp; omega
            · intro y hy
              simp only [List.mem_append] at hy
              rcases hy with (hy | hy) | hy
              · exact h1 y (List.mem_of_mem_take hy)
              · exact allOne_mem c3 y hy
              · exact h1 y (List.mem_of_mem_drop hy)
            · intro i y u hy hu
              have mono : ∀ y u, HA m w (Own X m hf') y u → HA m (w.setRow g (cur.take off ++ vs ++ cur.drop (off + n)).toArray) O' y u := fun y u hh => hh.mono ((setRow_but w g _).keep fun c hc => .inr ⟨b', hlive.1, hlive.2, by rw [hc]; exact hbk⟩) hO hext
              refine mono y u ?_
              rw [List.append_assoc] at hy hu
              rw [List.getElem?_append, List.length_take] at hy hu
              by_cases q1 : i < off
              · rw [if_pos (by omega), List.getElem?_take, if_pos q1] at hy hu
                exact hv i y u hy hu
              · rw [if_neg (by omega), List.getElem?_append] at hy hu
                rw [show min off cells.length = off by omega] at hy
                rw [show min off cur.length = off by omega] at hu
                by_cases q2 : i - off < n
                · rw [if_pos (by omega)] at hy hu
                  exact hvv _ _ _ hy hu
                · rw [if_neg (by omega), List.getElem?_drop] at hy hu
                  rw [c1] at hy
                  rw [show vs.length = n by omega] at hu
                  exact hv _ _ _ hy hu
          · intro b' hb' hl c hbc
            obtain rfl := ids1.1 hb'
            exact ⟨.inr ⟨b', by simp [ids], hlive.1, hlive.2, hbc⟩, fun b2 hb2 hne => absurd (ids1.1 hb2) hne⟩
          · intro O' hO hext _
            exact .un _
        · exact h.elim
      · exact h.elim
    · rename_i b sz i j hp
      split at h
      · rename_i ty sz' l hb
        split at h
        · rename_i tx htx
          split at h
          · rename_i hc
            simp only [Bool.and_eq_true] at hc
            obtain ⟨⟨⟨c1, c2⟩, c3⟩, c4⟩ := hc
            have c1 := Nat.eq_of_beq_eq_true c1
            subst c1
            have c2 := fitsB_fits c2
            have c3 := Nat.le_of_ble_eq_true c3
            have c4 : b ∉ reach (lookH H) 30 (opd tf x) := fun e => by rw [memN_iff.2 e] at c4; cases c4
            obtain ⟨e, he, h⟩ := h
            refine ⟨_, _, _, loc_frz (W := [(b, false, .row ty sz (l.set i (newEl e j n sz tx)))]) (L := reach (lookH H) 30 (opd tf x)) rfl (fun b hb => by simp [hb]) (fun b' hb' => .inl (by simp [ids] at hb'; simp [hb'])) ?_, h⟩
            intro tf' hf' ht hh w0 X O0 D m a w Q hR1 hview hR hd hN
            have e1 := opd_told hR p
            have e2 := opd_told hR x
            rw [hop tf' ht p (by simp), hp] at e1
            rw [hop tf' ht x (by simp)] at e2
            obtain ⟨g, n', c', hy, hm⟩ := e1.rp_eq
            have hhb := hh b (by simp)
            have htt := hview 30 (opd tf x) tx _ htx (fun b hb => hb) e2
            have hbF : b ∉ ids (frz (lookH H) (reach (lookH H) 30 (opd tf x)) []) := fun hh => c4 ((frz_spec (hf := lookH H) _ []).1 b hh).1
            have hb1 : upH hf' (frz (lookH H) (reach (lookH H) 30 (opd tf x)) []) b = (false, .row ty sz l) := by rw [upH_out hbF, hhb, hb]
            have h3 := hR1.blk b
            rw [hb1] at h3
            have hfit : e.fits sz := by obtain ⟨_, _, _, _, hf', _⟩ := h3; exact hf' e (List.mem_of_getElem? he)
            have hi : i < l.length := (List.getElem?_eq_some_iff.1 he).1
            obtain ⟨v, xs, hm', how, hfits, hcs⟩ := h3
            rw [hm] at hm'
            simp at hm'
            subst hm'
            rcases how.2 with ⟨hno, _⟩ | ⟨g', cap, cur, hv', _, hg, hcap, hcm, hcsz, htake⟩
            · cases hno
            simp only [Value.slice.injEq, Option.some.injEq, Addr.mk.injEq, and_true, true_and] at hv'
            obtain ⟨rfl, hn', hcc⟩ := hv'
            obtain ⟨vs, hvs, hvl, hv1, hvv⟩ := T.cells_told htt c2.2
            have hvl : vs.length = n := by rw [hvl]; exact c2.1
            have hoff : i * sz + j + n ≤ l.length * sz := by
              calc i * sz + j + n ≤ i * sz + sz := by omega
                _ = (i + 1) * sz := by rw [Nat.add_mul]; omega
                _ ≤ l.length * sz := Nat.mul_le_mul_right _ hi
            have hcurl : l.length * sz ≤ cur.toList.length := by
              have e1 : cur.toList.length = cap * sz := by simpa using hcsz
              have e2 : l.length * sz ≤ cap * sz := Nat.mul_le_mul_right _ hcap
              omega
            have hst := store_run (P := P) (t := t) (off := i * sz + j) (cur := cur.toList) hn hvs hvl (by simpa using hg) (by omega) hv1
            have hr := hrun a w _ _ hy hst
            unfold Oper.wp
            rw [hr]
            have hbk : bk m b = some g := by simp [bk, hm, blockOf]
            refine ⟨undef, m, rfl, ?_⟩
            have hlen : xs.length = l.length * sz := how.1
            have hel : (newEl e j n sz tx).cells = e.cells.take j ++ tx.cells ++ e.cells.drop (j + n) := newEl_cells hfit c2.1 c3
            have hfit' : (newEl e j n sz tx).fits sz := by
              refine ⟨by rw [hel, splice_len _ _ _ _ c2.1 (by rw [hfit.1]; exact c3)]; exact hfit.1, fun y hy => ?_⟩
              rw [hel] at hy
              simp only [List.mem_append] at hy
              rcases hy with (hy | hy) | hy
              · exact hfit.2 y (List.mem_of_mem_take hy)
              · exact c2.2 y hy
              · exact hfit.2 y (List.mem_of_mem_drop hy)
            have hbut := setRow_but w g (cur.toList.take (i * sz + j) ++ vs ++ cur.toList.drop (i * sz + j + n)).toArray
            have := hR1.write (w' := w.setRow g (cur.toList.take (i * sz + j) ++ vs ++ cur.toList.drop (i * sz + j + n)).toArray) (W := [(b, false, .row ty sz (l.set i (newEl e j n sz tx)))]) (N := []) (fun c => c = g) (m' := m) (d := o.dst) (v := .un) (val := undef) hd hbut
              (fun c hc => ⟨b, by simp [ids], by rw [hb1], by rw [hb1]; trivial, by rw [hc]; exact hbk⟩) (fun _ _ => rfl) (by simp) (by simp) ?_ ?_ ?_
            · simpa using this
            · intro b' hb' O' hO hext _
              obtain rfl := ids1.1 hb'
              rw [lookH1]
              have hOg : ∀ c, c = g → Own X m (upH hf' (frz (lookH H) (reach (lookH H) 30 (opd tf x)) [])) c := fun c hc => .inr ⟨b', by rw [hb1], by rw [hb1]; trivial, by rw [hc]; exact hbk⟩
              have mono : ∀ y u, HT w (Own X m (upH hf' (frz (lookH H) (reach (lookH H) 30 (opd tf x)) []))) y u → HT (w.setRow g (cur.toList.take (i * sz + j) ++ vs ++ cur.toList.drop (i * sz + j + n)).toArray) O' y u := fun y u hh => hh.mono (hbut.keep hOg) hO
              refine ⟨.slice (some ⟨g, 0, none⟩) n' c', xs.take (i * sz + j) ++ vs ++ xs.drop (i * sz + j + n), hm, ?_, ?_, ?_⟩
              · refine ⟨by rw [splice_len _ _ _ _ hvl (by omega), List.length_set]; exact hlen, .inr ⟨g, c', _, by rw [List.length_set, hn'], Nat.zero_le _, setRow_heap w g cur _ ty (0, 0) hg, by rw [List.length_set]; omega, by omega, ?_, ?_⟩⟩
                · have := splice_len cur.toList vs (i * sz + j) n hvl (by omega)
                  simp only [List.size_toArray]
                  rw [this, hcc]
                  simpa using hcsz
                · apply List.ext_getElem?
                  intro q
                  simp only [List.length_set]
                  rw [List.getElem?_take, splice_get _ _ _ _ _ hvl (by omega)]
                  have hq0 : (if q < l.length * sz then cur.toList[q]? else none) = xs[q]? := by rw [← htake, List.getElem?_take]
                  by_cases q1 : q < l.length * sz
                  · rw [if_pos q1] at hq0 ⊢
                    rw [splice_get _ _ _ _ _ hvl (by omega), hq0]
                  · rw [if_neg q1]
                    rw [List.getElem?_eq_none (by rw [splice_len _ _ _ _ hvl (by omega)]; omega)]
              · intro y hy
                rcases List.mem_or_eq_of_mem_set hy with hy | rfl
                · exact hfits y hy
                · exact hfit'
              · intro p q y z hy hz
                rw [splice_get _ _ _ _ _ hvl (by omega)]
                by_cases hpi : p = i
                · subst hpi
                  rw [List.getElem?_set_self hi] at hy
                  simp at hy
                  subst hy
                  rw [hel, splice_get _ _ _ _ _ c2.1 (by rw [hfit.1]; exact c3)] at hz
                  by_cases r1 : q < j
                  · rw [if_pos r1] at hz
                    rw [if_pos (by omega)]
                    obtain ⟨u, hu, ht⟩ := hcs p q e z he hz
                    exact ⟨u, hu, mono _ _ ht⟩
                  · rw [if_neg r1] at hz
                    by_cases r2 : q < j + n
                    · rw [if_pos r2] at hz
                      rw [if_neg (by omega), if_pos (by omega), show p * sz + q - (p * sz + j) = q - j by omega]
                      have hlt : q - j < vs.length := by omega
                      exact ⟨_, List.getElem?_eq_getElem hlt, mono _ _ (hvv _ _ _ hz (List.getElem?_eq_getElem hlt))⟩
                    · rw [if_neg r2] at hz
                      rw [if_neg (by omega), if_neg (by omega)]
                      obtain ⟨u, hu, ht⟩ := hcs p q e z he hz
                      exact ⟨u, hu, mono _ _ ht⟩
                · rw [List.getElem?_set_ne (fun e => hpi e.symm)] at hy
                  have hq : q < sz := by
                    have h1 := (List.getElem?_eq_some_iff.1 hz).1
                    have h2 := (hfits y (List.mem_of_getElem? hy)).1
                    omega
                  have hout : p * sz + q < i * sz + j ∨ i * sz + j + n ≤ p * sz + q := by
                    rcases Nat.lt_or_gt_of_ne hpi with h | h
                    · left
                      calc p * sz + q < p * sz + sz := by omega
                        _ = (p + 1) * sz := by rw [Nat.add_mul]; omega
                        _ ≤ i * sz := Nat.mul_le_mul_right _ h
                        _ ≤ i * sz + j := Nat.le_add_right _ _
                    · right
                      calc i * sz + j + n ≤ i * sz + sz := by omega
                        _ = (i + 1) * sz := by rw [Nat.add_mul]; omega
                        _ ≤ p * sz := Nat.mul_le_mul_right _ h
                        _ ≤ p * sz + q := Nat.le_add_right _ _
                  obtain ⟨u, hu, ht⟩ := hcs p q y z hy hz
                  refine ⟨u, ?_, mono _ _ ht⟩
                  rcases hout with h | h
                  · rw [if_pos h]; exact hu
                  · rw [if_neg (by omega), if_neg (by omega)]; exact hu
            · intro b' hb' hl c hbc
              obtain rfl := ids1.1 hb'
              exact ⟨.inr ⟨b', by simp [ids], by rw [hb1], by rw [hb1]; trivial, hbc⟩, fun b2 hb2 hne => absurd (ids1.1 hb2) hne⟩
            · intro O' hO hext _
              exact .un _
          · exact h.elim
        · exact h.elim
      · exact h.elim
    · exact h.elim
  · exact h.elim
end
end Go.YtppifophcphdkaaE
namespace Go.YtppifophcphdkaaE
open Go.RowKit
set_option linter.unusedVariables false
set_option linter.unusedSimpArgs false
structure Src (w : World) (O : Nat → Prop) (sz : Nat) (l : List T) (v : Value) (news : List Value) : Prop where
  len : news.length = l.length * sz
  form : ∃ A c, v = .slice A l.length c ∧ (l = [] ∨ ∃ b o, A = some ⟨b, o, none⟩ ∧ ∀ j u, news[j]? = some u → w.cell? ⟨b, o + j, none⟩ = some u)
  fits : ∀ x ∈ l, x.fits sz
  told : ∀ (i j : Nat) (x y : T), l[i]? = some x → x.cells[j]? = some y → ∃ u, news[i * sz + j]? = some u ∧ HT w O y u
theorem idx_lt {i j n sz : Nat} (hi : i < n) (hj : j < sz) : i * sz + j < n * sz := by
  calc i * sz + j < i * sz + sz := by omega
    _ = (i + 1) * sz := by rw [Nat.add_mul]; omega
    _ ≤ n * sz := Nat.mul_le_mul_right _ hi
theorem Src.one [Tabs] {w : World} {O : Nat → Prop} {sz : Nat} {l : List T} {v : Value} {news : List Value} (h : Src w O sz l v news) : ∀ u ∈ news, u.oneCell' = true := by
  intro u hu
  obtain ⟨q, hq, rfl⟩ := List.mem_iff_getElem.1 hu
  have hq' := hq
  rw [h.len] at hq'
  have hsz : 0 < sz := by rcases Nat.eq_zero_or_pos sz with e | e; (rw [e] at hq'; omega); exact e
  have hi : q / sz < l.length := Nat.div_lt_of_lt_mul (by rw [Nat.mul_comm]; exact hq')
  have hx := h.fits _ (List.getElem_mem hi)
  have hj : q % sz < (l[q / sz]).cells.length := by rw [hx.1]; exact Nat.mod_lt _ hsz
  obtain ⟨u, h1, h2⟩ := h.told (q / sz) (q % sz) _ _ (List.getElem?_eq_getElem hi) (List.getElem?_eq_getElem hj)
  rw [show q / sz * sz + q % sz = q by rw [Nat.mul_comm]; exact Nat.div_add_mod _ _, List.getElem?_eq_getElem hq] at h1
  simp at h1
  subst h1
  exact h2.one_cell (hx.2 _ (List.getElem_mem hj))
theorem src_sl [Tabs] {m : Nat → Option Value} {w : World} {O : Nat → Prop} {sz : Nat} {l : List T} {v : Value} (h : HA m w O (.t (.sl sz l)) v) : ∃ news, Src w O sz l v news := by
  cases h.t_ht with
  | nil _ A c => exact ⟨[], by simp, ⟨A, c, rfl, .inl rfl⟩, by simp, fun i j x y hx => by simp at hx⟩
  | sl _ _ b o c f hO hb hc hf hm ht =>
    refine ⟨(List.range (l.length * sz)).map f, by simp, ⟨_, c, rfl, .inr ⟨b, o, rfl, fun j u hu => ?_⟩⟩, hf, fun i j x y hx hy => ?_⟩
    · rw [List.getElem?_map] at hu
      by_cases hj : j < l.length * sz
      · rw [List.getElem?_range hj] at hu
        simp at hu
        subst hu
        have hsz : 0 < sz := by rcases Nat.eq_zero_or_pos sz with e | e; (rw [e] at hj; omega); exact e
        have := hm (j / sz) (j % sz) (Nat.div_lt_of_lt_mul (by rw [Nat.mul_comm]; exact hj)) (Nat.mod_lt _ hsz)
        have e : j / sz * sz + j % sz = j := by rw [Nat.mul_comm]; exact Nat.div_add_mod _ _
        rw [Nat.add_assoc, e] at this
        exact this
      · rw [List.getElem?_eq_none (by simpa using hj)] at hu; cases hu
    · have hi := (List.getElem?_eq_some_iff.1 hx).1
      have hfit := hf x (List.mem_of_getElem? hx)
      have hj := (List.getElem?_eq_some_iff.1 hy).1
      rw [hfit.1] at hj
      exact ⟨f (i * sz + j), by rw [List.getElem?_map, List.getElem?_range (idx_lt hi hj)]; rfl, ht i j x y hx hy⟩
theorem src_row {m : Nat → Option Value} {w : World} {O : Nat → Prop} {b ty sz : Nat} {l : List T} {v : Value} (h : HB m w O b (.row ty sz l)) (hm : m b = some v) : ∃ news, Src w O sz l v news ∧ w.ownsRow 0 ty sz v l.length news := by
  obtain ⟨v', xs, hm', how, hf, hc⟩ := h
  rw [hm] at hm'
  simp at hm'
  subst hm'
  refine ⟨xs, ⟨how.1, ?_, hf, hc⟩, how⟩
  rcases how.2 with ⟨rfl, hn⟩ | ⟨g, cap, cur, rfl, _, hg, hcap, _, _, _⟩
  · exact ⟨none, 0, by rw [hn], .inl (List.eq_nil_of_length_eq_zero hn)⟩
  · refine ⟨_, cap, rfl, .inr ⟨g, 0, rfl, fun j u hu => ?_⟩⟩
    have hj : j < l.length * sz := by have := (List.getElem?_eq_some_iff.1 hu).1; rw [how.1] at this; exact this
    rw [Nat.zero_add, how.cellAt j hj, hu]
def bytesT (s : ByteArray) : List T := s.data.toList.map fun b => T.int .u8 b.toNat
section
variable {P : Program} {o : Oper} {tf : Nat → AV} {hf : Hp}
theorem run_append_empty {w : World} {t ty e : TypeId} {i : TypeInfo} {sz n c : Nat} {v : Value} {xs : List Value} {A : Option Addr} (ht : P.underlying t = some (.slice e)) (hi : P.info? e = some i) (hown : w.ownsRow 0 e sz v n xs) :
    (Builtin.append_ #[t, t] ty #[v, .slice A 0 c]).run P w = .ok v w := by
  have hf : (Builtin.firstCells i.size 0 (.slice A 0 c)).run P w = .ok #[] w := by
    cases A with
    | none => simp [Builtin.firstCells]
    | some a => simp [Builtin.firstCells, loadCells, loadCellsFrom]
  rcases hown.2 with ⟨rfl, rfl⟩ | ⟨g, cap, cur, rfl, _, _, hnc, _⟩
  · simp [Builtin.append_, run_underlying ht, sizeOf, typeInfo, hi, Builtin.lenOf, hf]
  · simp [Builtin.append_, run_underlying ht, sizeOf, typeInfo, hi, Builtin.lenOf, hnc, hf, storeCells]
theorem run_append [Tabs] {w : World} {O : Nat → Prop} {t ty e : TypeId} {i : TypeInfo} {z : Value} {sz n : Nat} {v vx : Value} {xs news : List Value} {l : List T} (ht : P.underlying t = some (.slice e)) (hi : P.info? e = some i) (hz : i.zero = some z) (hsz : i.size = sz) (hzs : z.cells.size = sz) (h0 : 0 < sz) (hb0 : 0 < i.bytes)
    (hown : w.ownsRow 0 e sz v n xs) (hs : Src w O sz l vx news) (hb : (n + l.length) * i.bytes ≤ 140737488355328) :
    ∃ v' w', (Builtin.append_ #[t, t] ty #[v, vx]).run P w = .ok v' w' ∧ w'.ownsRow 0 e sz v' (n + l.length) (xs ++ news) ∧ w.grownBy w' v.ownBlock ∧ (∀ c, blockOf v' = some c → v.ownBlock = some c ∨ w.heap.size ≤ c) := by
  obtain ⟨A, c, rfl, hA⟩ := hs.form
  have key : ∀ v' (w' : World), w'.ownsRow 0 e sz v' (n + l.length) (xs ++ news) → True := fun _ _ _ => trivial
  rcases hA with rfl | ⟨b, o', rfl, hc⟩
  · have hn0 : news = [] := List.eq_nil_of_length_eq_zero (by rw [hs.len]; simp)
    subst hn0
    refine ⟨v, w, run_append_empty ht hi hown, by simpa using hown, ⟨rfl, rfl, rfl, Nat.le_refl _, fun _ _ _ => rfl⟩, fun c hc => .inl ?_⟩
    rcases hown.2 with ⟨rfl, _⟩ | ⟨g, cap, cur, rfl, _⟩
    · cases hc
    · exact hc
  · have hle : n + l.length ≤ maxLen := by
      have : n + l.length ≤ (n + l.length) * i.bytes := Nat.le_mul_of_pos_right _ hb0
      unfold maxLen; omega
    by_cases hroom : ∃ g cap, v = .slice (some ⟨g, 0, none⟩) n cap ∧ n + l.length ≤ cap
    · obtain ⟨g, cap, rfl, hr⟩ := hroom
      obtain ⟨w', h1, h2, h3⟩ := run_append_fits (P := P) w 0 t ty e i sz ht hi hsz g n cap xs hown ⟨b, o', none⟩ l.length c news hs.len (fun j u hu => by rw [add_plain]; exact hc j u hu) hs.one hr
      exact ⟨_, w', h1, h2, h3, fun c hc => .inl hc⟩
    · have hxl : (xs ++ news).length = (n + l.length) * sz := by rw [List.length_append, hown.1, hs.len, Nat.add_mul]
      rcases hown.2 with ⟨rfl, rfl⟩ | ⟨g, cap, cur, rfl, _, hg, hnc, hcm, hcs, htake⟩
      · have hx0 : xs = [] := List.eq_nil_of_length_eq_zero (by simpa using hown.1)
        subst hx0
        obtain ⟨v', w', h1, h2, h3, h4⟩ := run_append_own (P := P) w w.heap.size t ty e i z sz i.bytes ht hi hz hsz rfl hzs h0 (.slice none 0 0) 0 [] (World.ownsRow_nil w _ e sz) ⟨b, o', none⟩ l.length c news hs.len (fun j u hu => by rw [add_plain]; exact hc j u hu) hs.one hle hb (Nat.le_refl _)
        refine ⟨v', w', h1, ⟨h2.1, ?_⟩, h3, fun c hc => ?_⟩
        · rcases h2.2 with h | ⟨g, cap, cur, h, hg, rest⟩
          · exact .inl h
          · exact .inr ⟨g, cap, cur, h, Nat.zero_le _, rest⟩
        · rcases h2.2 with ⟨rfl, _⟩ | ⟨g, cap, cur, rfl, hg, _⟩
          · cases hc
          · simp [blockOf] at hc
            exact .inr (by omega)
      · have hr : ¬ n + l.length ≤ cap := fun h => hroom ⟨g, cap, rfl, h⟩
        subst hsz
        have holds : ∀ j u, xs[j]? = some u → w.cell? ((⟨g, 0, none⟩ : Addr).add j) = some u := hown.cells (g := g) rfl
        have hrun := run_append_grow (P := P) w t ty e i z ht hi hz ⟨g, 0, none⟩ n cap xs hown.1 holds ⟨b, o', none⟩ l.length c news hs.len (fun j u hu => by rw [add_plain]; exact hc j u hu) (by omega) (by unfold maxLen at hle; omega) (growslice_fits (by omega) hb)
        have hge := grownCap_ge w (n + l.length) cap e
        have hcm := grownCap_le_maxLen w (n + l.length) cap e hle
        refine ⟨_, _, hrun, ⟨hxl, .inr ⟨w.heap.size, _, _, rfl, Nat.zero_le _, heap_alloc_new w.drew _, hge, hcm, ?_, ?_⟩⟩, ⟨rfl, rfl, rfl, by simp, fun k hk _ => heap_alloc_old w.drew _ k hk⟩, fun c hc => .inr ?_⟩
        · simp only [Array.size_append, List.size_toArray, size_zeroCells, hzs, hown.1, hs.len, ← Nat.add_mul]
          congr 1
          omega
        · simp only [Array.toList_append, List.append_assoc]
          rw [← List.append_assoc, ← hxl]
          exact List.take_left
        · simp [blockOf] at hc
          subst hc
          exact Nat.le_refl _
def allT : List AV → Option (List T)
  | [] => some []
  | .t x :: l => match x.one with
    | true => match allT l with
      | some r => some (x :: r)
      | none => none
    | false => none
  | _ => none
theorem allT_spec : ∀ {l : List AV} {r : List T}, allT l = some r → l = r.map .t ∧ ∀ x ∈ r, x.one = true
  | [], r, h => by simp [allT] at h; subst h; simp
  | x :: l, r, h => by
    cases x with
    | t x =>
      unfold allT at h
      split at h
      · rename_i h1
        split at h
        · rename_i r' hr
          simp at h
          subst h
          obtain ⟨e, hf⟩ := allT_spec hr
          refine ⟨by rw [e]; rfl, fun y hy => ?_⟩
          rcases List.mem_cons.1 hy with rfl | hy
          · exact h1
          · exact hf y hy
        · cases h
      · cases h
    | _ => cases h
theorem one_cells {x : T} (h : x.one = true) : x.cells = [x] := by cases x <;> first | rfl | cases h
theorem one_fits [Tabs] {x : T} (h : x.one = true) : x.fits 1 := by rw [T.fits, one_cells h]; exact ⟨rfl, fun y hy => by rcases List.mem_singleton.1 hy with rfl; exact h⟩
def srcOf (H : Heap) (sz : Nat) (x : AV) : Option (List T × List Nat) :=
  match x with
  | .t (.sl sz' l) => match Nat.beq sz' sz with
    | true => some (l, [])
    | false => none
  | .t (.v (.slice none 0 _)) => some ([], [])
  | .own b => match lookH H b with
    | (_, .row _ sz' l) => match Nat.beq sz' sz with
      | true => some (l, [b])
      | false => none
    | _ => none
  | .sub b sz' i n => match lookH H b with
    | (_, .row _ sz'' l) => match Nat.beq sz' sz && Nat.beq sz'' sz with
      | true => some ((l.drop i).take n, [b])
      | false => none
    | (_, .box _ cells) => match Nat.beq sz' 1 && Nat.beq sz 1 && Nat.ble (i + n) cells.length with
      | true => match allT ((cells.drop i).take n) with
        | some l => some (l, [b])
        | none => none
      | false => none
    | _ => none
  | _ => none
theorem src_told [Tabs] {hf' : Hp} {H : Heap} {sz : Nat} {x : AV} {l : List T} {R : List Nat} (h : srcOf H sz x = some (l, R)) {w0 : Bse} {X O0 D : Nat → Prop} {m : Nat → Option Value} {tf' : Nat → AV} {a : Act} {w : World} (hR : Rel w0 X O0 D m tf' hf' a w) (hh : ∀ b ∈ R, hf' b = lookH H b) {v : Value} (hv : HA m w (Own X m hf') x v) : ∃ news, Src w (Own X m hf') sz l v news := by
  unfold srcOf at h
  split at h
  · split at h
    · rename_i hb
      have := Nat.eq_of_beq_eq_true hb
      simp at h
      obtain ⟨rfl, rfl⟩ := h
      subst this
      exact src_sl hv
    · cases h
  · simp at h
    obtain ⟨rfl, rfl⟩ := h
    rw [hv.v_eq]
    exact ⟨[], by simp, ⟨none, _, rfl, .inl rfl⟩, by simp, fun i j x y hx => by simp at hx⟩
  · rename_i b
    split at h
    · rename_i fz ty sz' l' hb
      split at h
      · rename_i hbe
        have := Nat.eq_of_beq_eq_true hbe
        simp at h
        obtain ⟨rfl, rfl⟩ := h
        subst this
        have h3 := hR.blk b
        rw [hh b (by simp), hb] at h3
        cases hv with
        | own _ _ hm _ =>
          obtain ⟨news, hs, _⟩ := src_row h3 hm
          exact ⟨news, hs⟩
      · cases h
    · cases h
  · rename_i b sz' i n
    cases hv with
    | sub _ _ _ _ _ hx =>
    split at h
    · rename_i fz ty sz'' l' hb
      split at h
      · rename_i hbe
        simp only [Bool.and_eq_true] at hbe
        have e1 := Nat.eq_of_beq_eq_true hbe.1
        have e2 := Nat.eq_of_beq_eq_true hbe.2
        simp at h
        obtain ⟨rfl, rfl⟩ := h
        subst e1
        subst e2
        have h3 := hR.blk b
        rw [hh b (by simp), hb] at h3
        obtain ⟨v', xs, hm, how, hfit, hcl⟩ := h3
        rcases hx with ⟨rfl, ⟨A, c', rfl⟩, hnil⟩ | ⟨g, c', hc, rfl, hm' | ⟨n', c2, hm', hin, hcc⟩⟩
        · rw [List.take_zero]; exact ⟨[], by simp, ⟨A, c', rfl, .inl rfl⟩, by simp, fun i j x y hx => by simp at hx⟩
        · rw [hm] at hm'
          simp at hm'
          subst hm'
          rcases how.2 with ⟨e, _⟩ | ⟨_, _, _, e, _⟩ <;> cases e
        · rw [hm] at hm'
          simp at hm'
          subst hm'
          rcases how.2 with ⟨e, _⟩ | ⟨g', cap, cur, e, _, hg, hcap, _⟩
          · cases e
          simp only [Value.slice.injEq, Option.some.injEq, Addr.mk.injEq, and_true] at e
          obtain ⟨rfl, hn', _⟩ := e
          subst hn'
          have hlen : ((l'.drop i).take n).length = n := by rw [List.length_take, List.length_drop]; omega
          have hb1 : i * sz'' + n * sz'' ≤ l'.length * sz'' := by rw [← Nat.add_mul]; exact Nat.mul_le_mul_right _ hin
          have hx1 := how.1
          refine ⟨(xs.drop (i * sz'')).take (n * sz''), ⟨by rw [List.length_take, List.length_drop, hlen]; omega, ⟨_, c', by rw [hlen], .inr ⟨g, i * sz'', rfl, fun j u hu => ?_⟩⟩, fun x hx => hfit x (List.mem_of_mem_drop (List.mem_of_mem_take hx)), fun p q x y hx hy => ?_⟩⟩
          · rw [List.getElem?_take] at hu
            split at hu
            · rename_i hj
              rw [List.getElem?_drop] at hu
              rw [how.cellAt (i * sz'' + j) (by omega), hu]
            · cases hu
          · rw [List.getElem?_take] at hx
            split at hx
            · rename_i hp
              rw [List.getElem?_drop] at hx
              obtain ⟨u, hu, ht⟩ := hcl (i + p) q x y hx hy
              have hq : q < sz'' := by have := (List.getElem?_eq_some_iff.1 hy).1; have := (hfit x (List.mem_of_getElem? hx)).1; omega
              refine ⟨u, ?_, ht⟩
              rw [List.getElem?_take, if_pos (idx_lt hp hq), List.getElem?_drop, ← Nat.add_assoc, ← Nat.add_mul]
              exact hu
            · cases hx
      · cases h
    · rename_i fz ty cells hb
      split at h
      · rename_i hbe
        simp only [Bool.and_eq_true] at hbe
        have e1 := Nat.eq_of_beq_eq_true hbe.1.1
        have e2 := Nat.eq_of_beq_eq_true hbe.1.2
        have e3 := Nat.le_of_ble_eq_true hbe.2
        split at h
        · rename_i l' hl
          simp at h
          obtain ⟨rfl, rfl⟩ := h
          subst e1
          subst e2
          obtain ⟨h5, h6⟩ := allT_spec hl
          have hcl : ((cells.drop i).take n).length = n := by rw [List.length_take, List.length_drop]; omega
          have hll : l'.length = n := by rw [h5, List.length_map] at hcl; exact hcl
          have h3 := hR.blk b
          rw [hh b (by simp), hb] at h3
          obtain ⟨g, vs, hm, hg, hlen, h1, hvv⟩ := h3
          rcases hx with ⟨rfl, ⟨A, c', rfl⟩, hnil⟩ | ⟨g', c', hc, rfl, hm' | ⟨n', c2, hm', hin, hcc⟩⟩
          · have : l' = [] := List.eq_nil_of_length_eq_zero hll
            subst this
            exact ⟨[], by simp, ⟨A, c', rfl, .inl rfl⟩, by simp, fun i j x y hx => by simp at hx⟩
          · rw [hm] at hm'
            simp at hm'
            subst hm'
            refine ⟨(vs.drop i).take n, ⟨by rw [List.length_take, List.length_drop]; omega, ⟨_, c', by rw [hll], .inr ⟨g, i * 1, rfl, fun j u hu => ?_⟩⟩, fun x hx => one_fits (h6 x hx), fun p q x y hx hy => ?_⟩⟩
            · rw [List.getElem?_take] at hu
              split at hu
              · rw [List.getElem?_drop] at hu
                unfold World.cell?
                simp only [hg, Nat.mul_one]
                simpa using hu
              · cases hu
            · have hp : p < n := by have := (List.getElem?_eq_some_iff.1 hx).1; omega
              rw [one_cells (h6 x (List.mem_of_getElem? hx))] at hy
              cases q with
              | succ q => simp at hy
              | zero =>
                simp at hy
                subst hy
                have hlt : i + p < vs.length := by omega
                refine ⟨vs[i + p], by rw [List.getElem?_take, if_pos (by omega), List.getElem?_drop, Nat.mul_one, Nat.add_zero]; exact List.getElem?_eq_getElem hlt, ?_⟩
                have hc : cells[i + p]? = some (.t x) := by
                  have h7 : ((cells.drop i).take n)[p]? = some (.t x) := by rw [h5, List.getElem?_map, hx]; rfl
                  rw [List.getElem?_take, if_pos hp, List.getElem?_drop] at h7
                  exact h7
                exact (hvv _ _ _ hc (List.getElem?_eq_getElem hlt)).t_ht
          · rw [hm] at hm'; cases hm'
        · cases h
      · cases h
    · cases h
  · cases h
def dstOf (H : Heap) (e sz : Nat) (s : AV) : Option (List T × Option Nat) :=
  match s with
  | .t (.v (.slice none 0 0)) => some ([], none)
  | .own b => match lookH H b with
    | (false, .row e' sz' l) => match Nat.beq e' e && Nat.beq sz' sz with
      | true => some (l, some b)
      | false => none
    | _ => none
  | _ => none
def evAppend (P : Program) (t t' : TypeId) (s x : AV) (H : Heap) (d : Option Tmp) (k : Kont) : Prop :=
  match P.underlying t, d with
  | some (.slice e), some d => (match P.info? e with
    | some i => match i.zero with
      | some z => match Nat.beq t t' && Nat.beq z.cells.size i.size && Nat.blt 0 i.size && Nat.blt 0 i.bytes with
        | true => match dstOf H e i.size s, srcOf H i.size x with
          | some (l, ob), some (ys, R) => (match ob with
            | none => ys.length * i.bytes ≤ 140737488355328 ∧ k (.own d) [(d, false, .row e i.size ys)] R [d]
            | some b => match memN b R || Nat.beq b d with
              | false => (l.length + ys.length) * i.bytes ≤ 140737488355328 ∧ k (.own d) [(d, false, .row e i.size (l ++ ys)), (b, false, .dead)] (b :: R) [d]
              | true => False)
          | _, _ => False
        | false => False
      | none => False
    | none => False)
  | _, _ => False
theorem HB.row_src {m' : Nat → Option Value} {w w' : World} {O O' : Nat → Prop} {n e sz : Nat} {l ys : List T} {v vx : Value} {xs news : List Value} (hm : m' n = some v) (how : w'.ownsRow 0 e sz v (l.length + ys.length) (xs ++ news)) (hxl : xs.length = l.length * sz) (hl : ∀ x ∈ l, x.fits sz) (hlt : ∀ (i j : Nat) (x y : T), l[i]? = some x → x.cells[j]? = some y → ∃ u, xs[i * sz + j]? = some u ∧ HT w O y u)
    (hs : Src w O sz ys vx news) (mono : ∀ y u, HT w O y u → HT w' O' y u) : HB m' w' O' n (.row e sz (l ++ ys)) := by
  refine ⟨v, xs ++ news, hm, by rw [List.length_append]; exact how, fun x hx => (List.mem_append.1 hx).elim (hl x) (hs.fits x), fun i j x y hx hy => ?_⟩
  rw [List.getElem?_append] at hx
  split at hx
  · rename_i hi
    obtain ⟨u, hu, ht⟩ := hlt i j x y hx hy
    exact ⟨u, by rw [List.getElem?_append, if_pos (List.getElem?_eq_some_iff.1 hu).1]; exact hu, mono _ _ ht⟩
  · rename_i hi
    obtain ⟨u, hu, ht⟩ := hs.told (i - l.length) j x y hx hy
    refine ⟨u, ?_, mono _ _ ht⟩
    have e : i * sz + j - xs.length = (i - l.length) * sz + j := by
      rw [hxl]
      have : i * sz = (i - l.length) * sz + l.length * sz := by rw [← Nat.add_mul]; congr 1; omega
      omega
    rw [List.getElem?_append, if_neg, e]
    · exact hu
    · rw [hxl]
      have : l.length * sz ≤ i * sz := Nat.mul_le_mul_right _ (by omega)
      omega
theorem blk_own {e sz n : Nat} {v : Value} {xs : List Value} {w : World} (h : w.ownsRow 0 e sz v n xs) : blockOf v = v.ownBlock ∧ v.oneCell' = true := by
  rcases h.2 with ⟨rfl, _⟩ | ⟨g, cap, cur, rfl, _⟩ <;> exact ⟨rfl, rfl⟩
theorem ok_append [Tabs] {t t' : TypeId} {s x : Operand} {H : Heap} {k : Kont} (ho : o.op = .call { callee := .builtin .append, args := #[s, x], argTypes := #[t, t'] }) (h : evAppend P t t' (opd tf s) (opd tf x) H o.dst k) (hH : hf = lookH H) : ∃ v W R N, OpLoc P o R tf hf v W N ∧ k v W R N := by
  have hop : ∀ tf', (∀ t ∈ tmpsOf o, tf' t = tf t) → ∀ z, z = s ∨ z = x → opd tf' z = opd tf z := fun tf' ht z hz => tmps_same ht (by rw [ho]; simp [Op.operands, Call.operands]; exact hz)
  subst hH
  unfold evAppend at h
  split at h
  · rename_i e d hu hd
    split at h
    · rename_i i hi
      split at h
      · rename_i z hz
        split at h
        · rename_i hc
          simp only [Bool.and_eq_true] at hc
          obtain ⟨⟨⟨c1, c2⟩, c3⟩, c4⟩ := hc
          have c1 := Nat.eq_of_beq_eq_true c1
          subst c1
          have c2 := Nat.eq_of_beq_eq_true c2
          have c3 : 0 < i.size := Nat.le_of_ble_eq_true c3
          have c4 : 0 < i.bytes := Nat.le_of_ble_eq_true c4
          have hrun : ∀ (a : Act) (w w' : World) (u : Value), (Builtin.append_ #[t, t] o.type #[a.eval s, a.eval x]).run P w = .ok u w' → (execOp a.eval o).run P w = .ok (.value u) w' := by
            intro a w w' u hu
            unfold execOp
            rw [ho]
            simp [resolve, invoke, Go.builtin, hu]
          split at h
          · rename_i l ob ys R hds hsr
            split at h
            · obtain ⟨hbd, h⟩ := h
              have hs0 : opd tf s = .t (.v (.slice none 0 0)) ∧ l = [] := by
                unfold dstOf at hds
                split at hds
                · rename_i hs; simp at hds; exact ⟨hs, hds⟩
                · split at hds <;> (try split at hds) <;> simp at hds
                · cases hds
              refine ⟨_, _, R, _, loc_new fun tf' hf' ht hh w0 X O0 D m a w hR => ?_, h⟩
              have e1 := opd_told hR s
              have e2 := opd_told hR x
              rw [hop tf' ht s (by simp), hs0.1] at e1
              rw [hop tf' ht x (by simp)] at e2
              obtain ⟨news, hsrc⟩ := src_told hsr hR hh e2
              obtain ⟨v', w', h1, h2, h3, h4⟩ := run_append (P := P) (ty := o.type) hu hi hz rfl c2 c3 c4 (World.ownsRow_nil w 0 e i.size) hsrc (by simpa using hbd)
              have hbut : But w (fun _ => False) w' := But.grown h3 (fun k hk => by cases hk)
              refine ⟨v', v', w', hrun a w w' v' (by rw [e1.v_eq]; exact h1), hbut, fun c hc => (h4 c hc).resolve_left (fun h => by cases h), ?_, ?_⟩
              · intro m' O' hO hext hm
                have := HB.row_src (l := []) (xs := []) (w := w) (O := Own X m hf') hm (by simpa using h2) (by simp) (by simp) (by simp) hsrc (fun y u hy => hy.mono (hbut.keep fun _ h => h.elim) hO)
                simpa using this
              · intro m' O' hO hext hm
                exact .own _ _ hm (blk_own h2).2
            · rename_i b
              split at h
              · rename_i hmem
                have hmem : b ∉ R ∧ b ≠ d := by
                  rw [Bool.or_eq_false_iff] at hmem
                  obtain ⟨m1, m2⟩ := hmem
                  refine ⟨fun e => ?_, fun e => ?_⟩
                  · rw [memN_iff.2 e] at m1; cases m1
                  · subst e; simp at m2
                obtain ⟨hbd, h⟩ := h
                have hs0 : opd tf s = .own b ∧ lookH H b = (false, .row e i.size l) := by
                  unfold dstOf at hds
                  split at hds
                  · simp at hds
                  · rename_i b' hs
                    split at hds
                    · rename_i e' sz' l' hb
                      split at hds
                      · rename_i hbe
                        simp only [Bool.and_eq_true] at hbe
                        have q1 := Nat.eq_of_beq_eq_true hbe.1
                        have q2 := Nat.eq_of_beq_eq_true hbe.2
                        simp at hds
                        obtain ⟨rfl, rfl⟩ := hds
                        subst q1; subst q2
                        exact ⟨hs, hb⟩
                      · cases hds
                    · cases hds
                  · cases hds
                refine ⟨_, _, _, _, ⟨fun b' hb' => ?_, fun tf' hf' ht hh w0 X O0 D m a w Q hR hdd hN => ?_⟩, h⟩
                · simp [ids] at hb'
                  rcases hb' with rfl | rfl
                  · exact .inr (by simp)
                  · exact .inl (by simp)
                have e1 := opd_told hR s
                have e2 := opd_told hR x
                rw [hop tf' ht s (by simp), hs0.1] at e1
                rw [hop tf' ht x (by simp)] at e2
                have hhb : hf' b = (false, .row e i.size l) := by rw [hh b (by simp), hs0.2]
                obtain ⟨news, hsrc⟩ := src_told hsr hR (fun b' hb' => hh b' (by simp [hb'])) e2
                have h3 := hR.blk b
                rw [hhb] at h3
                have hmb := e1.own_eq
                obtain ⟨v, xs, hm', how, hfit, hcs⟩ := h3
                rw [hmb] at hm'
                simp at hm'
                obtain ⟨v', w', h1, h2, h3, h4⟩ := run_append (P := P) (ty := o.type) hu hi hz rfl c2 c3 c4 how hsrc hbd
                have hbkv : bk m b = v.ownBlock := by simp [bk, hmb, hm', (blk_own how).1]
                have hlive : (hf' b).1 = false ∧ (hf' b).2.live := by rw [hhb]; exact ⟨rfl, trivial⟩
                have hbut : But w (fun c => v.ownBlock = some c) w' := But.grown h3 (fun k hk => hk)
                unfold Oper.wp
                rw [hrun a w w' v' (by rw [hm']; exact h1)]
                refine ⟨v', upM m d v', rfl, ?_⟩
                have hfrd : ¬ D d := hN d (by simp)
                refine hR.write [(d, false, .row e i.size (l ++ ys)), (b, false, .dead)] [d] (fun c => v.ownBlock = some c) hdd hbut (fun c hc => ⟨b, by simp [ids], hlive.1, hlive.2, by rw [hbkv]; exact hc⟩) (fun b' hb' => upM_ne (by simpa using hb')) (by simp [ids]) (by simpa using hfrd) ?_ ?_ ?_
                · intro b' hb' O' hO hext _
                  have hb2 : b' = d ∨ b' = b := by simpa [ids] using hb'
                  rcases hb2 with rfl | rfl
                  · have : lookH [(b', false, .row e i.size (l ++ ys)), (b, false, .dead)] b' = (false, .row e i.size (l ++ ys)) := by unfold lookH; rw [look_cons, if_pos rfl]
                    rw [this]
                    refine HB.row_src (w := w) (O := Own X m hf') upM_self h2 how.1 hfit hcs hsrc (fun y u hy => hy.mono (hbut.keep fun c hc => .inr ⟨b, hlive.1, hlive.2, by rw [hbkv]; exact hc⟩) hO)
                  · have : lookH [(d, false, .row e i.size (l ++ ys)), (b', false, .dead)] b' = (false, .dead) := by unfold lookH; rw [look_cons, if_neg (fun e => hmem.2 e.symm), look_cons, if_pos rfl]
                    rw [this]
                    trivial
                · intro b' hb' hl c hbc
                  have hb2 : b' = d ∨ b' = b := by simpa [ids] using hb'
                  rcases hb2 with rfl | rfl
                  · have hc : blockOf v' = some c := by simpa [bk, upM_self] using hbc
                    refine ⟨(h4 c hc).elim (fun h => .inr ⟨b, by simp [ids], hlive.1, hlive.2, by rw [hbkv]; exact h⟩) .inl, fun b2 hb2 hne _ hl2 => ?_⟩
                    have : b2 = b := by simpa [ids, hne] using hb2
                    subst this
                    have : lookH [(b', false, .row e i.size (l ++ ys)), (b2, false, .dead)] b2 = (false, .dead) := by unfold lookH; rw [look_cons, if_neg (fun e => hne e.symm), look_cons, if_pos rfl]
                    rw [this] at hl2
                    exact hl2.elim
                  · have : lookH [(d, false, .row e i.size (l ++ ys)), (b', false, .dead)] b' = (false, .dead) := by unfold lookH; rw [look_cons, if_neg (fun e => hmem.2 e.symm), look_cons, if_pos rfl]
                    rw [this] at hl
                    exact hl.elim
                · intro O' hO hext _
                  exact .own _ _ upM_self (blk_own h2).2
              · exact h.elim
          · exact h.elim
        · exact h.elim
      · exact h.elim
    · exact h.elim
  · exact h.elim
end
end Go.YtppifophcphdkaaE
namespace Go.YtppifophcphdkaaE
open Go.RowKit
set_option linter.unusedVariables false
set_option linter.unusedSimpArgs false
def idxOk : Nat → List Nat → Bool
  | _, [] => true
  | k, i :: l => Nat.beq i k && idxOk (k + 1) l
theorem fill_seq [Tabs] (sz : Nat) : ∀ (us : List (Nat × Value)) (k : Nat) (cells : List Value), idxOk k (us.map (·.1)) = true → (∀ p ∈ us, p.2.cells.toList.length = sz) → cells.length = (k + us.length) * sz →
    Instr.fill (fun i => some (i * sz, sz)) cells.toArray us = some (cells.take (k * sz) ++ (us.map fun p => p.2.cells.toList).flatten).toArray
  | [], k, cells, _, _, hl => by
    simp only [List.length_nil, Nat.add_zero] at hl
    simp [Instr.fill, ← hl]
  | (i, u) :: us, k, cells, hi, hs, hl => by
    simp only [List.map_cons, idxOk, Bool.and_eq_true] at hi
    have := Nat.eq_of_beq_eq_true hi.1
    subst this
    have hu : u.cells.toList.length = sz := hs (i, u) (List.mem_cons_self ..)
    have hl' : i * sz + sz ≤ cells.length := by
      rw [hl, List.length_cons]
      calc i * sz + sz = (i + 1) * sz := by rw [Nat.add_mul]; omega
        _ ≤ (i + (us.length + 1)) * sz := Nat.mul_le_mul_right _ (by omega)
    have hf := fold_set (i * sz) u.cells.toList 0 cells.toArray (by rw [List.size_toArray, Nat.add_zero, hu]; exact hl')
    simp only [Nat.add_zero] at hf
    have ih := fill_seq sz us (i + 1) (cells.take (i * sz) ++ u.cells.toList ++ cells.drop (i * sz + sz)) hi.2 (fun p hp => hs p (List.mem_cons_of_mem _ hp)) (by
      rw [splice_len _ _ _ _ hu hl', hl, List.length_cons]; congr 1; omega)
    unfold Instr.fill
    simp only
    have hu' : u.cells.size = sz := by simpa using hu
    rw [if_neg (by rw [hu', List.size_toArray]; simp only [ne_eq, not_true_eq_false, decide_false, Bool.false_or, decide_eq_true_eq, gt_iff_lt]; omega)]
    have e2 : (Array.foldl (fun cs (x : Value × Nat) => cs.setIfInBounds (i * sz + x.snd) x.fst) cells.toArray u.cells.zipIdx) = (cells.take (i * sz) ++ u.cells.toList ++ cells.drop (i * sz + sz)).toArray := by
      rw [← Array.foldl_toList, Array.toList_zipIdx]
      rw [hf]
      simp only [hu]
    rw [e2, ih]
    congr 2
    rw [List.map_cons, List.flatten_cons, ← List.append_assoc]
    congr 1
    have : (i + 1) * sz = i * sz + sz := by rw [Nat.add_mul]; omega
    rw [this]
    rw [List.take_left']
    rw [List.length_append, List.length_take, hu]
    omega
def evBuildSlice (P : Program) (t : TypeId) (len : Nat) (ps : List (Nat × AV)) (H : Heap) (d : Option Tmp) (k : Kont) : Prop :=
  match P.underlying t, d with
  | some (.slice e), some d => (match sizN P e, zeroCells' P e, mapO (toT (lookH H) 30) (ps.map (·.2)) with
    | some sz, some _, some xs => (match idxOk 0 (ps.map (·.1)) && Nat.beq ps.length len && Nat.ble (len * sz) 16777216 && xs.all (fitsB sz) && Nat.blt 0 sz with
      | true => k (.own d) ((d, false, .row e sz xs) :: frz (lookH H) ((ps.map (·.2)).flatMap (reach (lookH H) 30)) []) ((ps.map (·.2)).flatMap (reach (lookH H) 30)) [d]
      | false => False)
    | _, _, _ => False)
  | _, _ => False
section
variable {P : Program} {o : Oper} {tf : Nat → AV} {hf : Hp}
theorem ok_buildSlice [Tabs] {t : TypeId} {len : Nat} {ps : Array (Nat × Operand)} {H : Heap} {k : Kont} (ho : o.op = .buildSlice t len ps) (h : evBuildSlice P t len (ps.toList.map fun p => (p.1, opd tf p.2)) H o.dst k) (hH : hf = lookH H) : ∃ v W R N, OpLoc P o R tf hf v W N ∧ k v W R N := by
  subst hH
  have hop : ∀ tf', (∀ t ∈ tmpsOf o, tf' t = tf t) → ∀ x ∈ ps.toList.map (·.2), opd tf' x = opd tf x := fun tf' ht x hx => tmps_same ht (by rw [ho]; simpa [Op.operands] using hx)
  unfold evBuildSlice at h
  split at h
  · rename_i e d hu hd
    split at h
    · rename_i sz zs xs hsz hzs hxs
      split at h
      · rename_i hc
        simp only [Bool.and_eq_true] at hc
        obtain ⟨⟨⟨⟨c1, c2⟩, c3⟩, c4⟩, c5⟩ := hc
        have c5 : 0 < sz := Nat.le_of_ble_eq_true c5
        have c2 := Nat.eq_of_beq_eq_true c2
        have c3 := Nat.le_of_ble_eq_true c3
        have c4 := List.all_eq_true.1 c4
        refine ⟨_, _, _, _, loc_frz (W := [(d, false, .row e sz xs)]) (L := ((ps.toList.map fun p => (p.1, opd tf p.2)).map (·.2)).flatMap (reach (lookH H) 30)) rfl (fun b hb => hb) (fun b hb => .inr (by simpa [ids] using hb)) ?_, h⟩
        intro tf' hf' ht hh w0 X O0 D m a w Q hR1 hview hR hdd hN
        obtain ⟨q1, q2⟩ := mapO_spec hxs
        obtain ⟨p1, p2⟩ := parts_told hR ps.toList
        rw [← parts_same (hop tf' ht)] at p1 p2
        -- the values, one by one
        have hval : ∀ (i : Nat) (x : T) (u : Value), xs[i]? = some x → ((ps.toList.map fun p => (p.1, a.eval p.2)).map (·.2))[i]? = some u → HT w (Own X m (upH hf' (frz (lookH H) (((ps.toList.map fun p => (p.1, opd tf p.2)).map (·.2)).flatMap (reach (lookH H) 30)) []))) x u := by
          intro i x u hx hu
          have hi : i < (ps.toList.map fun p => (p.1, opd tf p.2)).length := by have := (List.getElem?_eq_some_iff.1 hx).1; rw [q1, List.length_map] at this; exact this
          rw [List.getElem?_map] at hu
          obtain ⟨pu, hpu, rfl⟩ := Option.map_eq_some_iff.1 hu
          have hpx := List.getElem?_eq_getElem hi
          have hx2 : ((ps.toList.map fun p => (p.1, opd tf p.2)).map (·.2))[i]? = some ((ps.toList.map fun p => (p.1, opd tf p.2))[i]).2 := by rw [List.getElem?_map, hpx]; rfl
          exact hview 30 _ x _ (q2 i _ _ hx2 hx) (fun b hb => List.mem_flatMap.2 ⟨_, List.mem_of_getElem? hx2, hb⟩) (p2 i _ _ hpx hpu)
        have hlen : (ps.toList.map fun p => (p.1, a.eval p.2)).length = len := by rw [← c2]; simp
        have hxlen : xs.length = len := by rw [q1, List.length_map]; exact c2
        have hcells : ∀ (i : Nat) (x : T) (u : Value), xs[i]? = some x → ((ps.toList.map fun p => (p.1, a.eval p.2)).map (·.2))[i]? = some u → ∃ vs : List Value, u.cells = vs.toArray ∧ vs.length = sz ∧ (∀ y ∈ vs, y.oneCell' = true) ∧ ∀ (j : Nat) y z, x.cells[j]? = some y → vs[j]? = some z → HT w (Own X m (upH hf' (frz (lookH H) (((ps.toList.map fun p => (p.1, opd tf p.2)).map (·.2)).flatMap (reach (lookH H) 30)) []))) y z := by
          intro i x u hx hu
          have hfit := fitsB_fits (c4 x (List.mem_of_getElem? hx))
          obtain ⟨vs, h1, h2, h3, h4⟩ := T.cells_told (hval i x u hx hu) hfit.2
          exact ⟨vs, h1, by rw [h2]; exact hfit.1, h3, h4⟩
        have hszs : ∀ p ∈ (ps.toList.map fun p => (p.1, a.eval p.2)), p.2.cells.toList.length = sz := by
          intro p hp
          obtain ⟨i, hi, rfl⟩ := List.mem_iff_getElem.1 hp
          have hi' : i < xs.length := by omega
          obtain ⟨vs, h1, h2, _⟩ := hcells i _ _ (List.getElem?_eq_getElem hi') (by rw [List.getElem?_map, List.getElem?_eq_getElem hi]; rfl)
          rw [h1]; simpa using h2
        have hfill : ∀ cells : List Value, cells.length = len * sz → Instr.fill (fun i => some (i * sz, sz)) cells.toArray (ps.toList.map fun p => (p.1, a.eval p.2)) = some ((ps.toList.map fun p => (p.1, a.eval p.2)).map fun p => p.2.cells.toList).flatten.toArray := by
          intro cells hcl
          have := fill_seq sz (ps.toList.map fun p => (p.1, a.eval p.2)) 0 cells (by rw [p1]; exact c1) hszs (by rw [Nat.zero_add, hlen]; exact hcl)
          simpa using this
        have hrun : (execOp a.eval o).run P w = .ok (.value (.slice (some ⟨w.heap.size, 0, none⟩) len len)) (w.alloc (.cells ((ps.toList.map fun p => (p.1, a.eval p.2)).map fun p => p.2.cells.toList).flatten.toArray e)) := by
          obtain ⟨zv, hzr, hzl⟩ := zero_run hzs w
          unfold execOp
          rw [ho]
          refine run_value ?_
          have hps : (ps.map fun (i, x) => (i, a.eval x)).toList = (ps.toList.map fun p => (p.1, a.eval p.2)) := by simp
          unfold Instr.buildSlice
          simp only [Sem.run_bind, run_underlying hu, Result.andThen_ok, sizN_run hsz]
          rw [if_neg (by omega)]
          by_cases h0 : len * sz = 0
          · simp only [Sem.run_pure, Result.andThen_ok, h0, if_true, Sem.run_bind]
            have := hfill [] (by simp [h0])
            have e3 : (Array.map (fun x => (#[] : Array Value)[x % (#[] : Array Value).size]!) (Array.range 0)) = ([] : List Value).toArray := by simp
            rw [e3, hps, this]
            simp [newRow]
          · simp only [Sem.run_pure, Result.andThen_ok, h0, if_false, Sem.run_bind, hzr]
            have := hfill ((Array.range (len * sz)).map (zv.cells[· % zv.cells.size]!)).toList (by simp)
            rw [Array.toArray_toList] at this
            rw [hps, this]
            simp [newRow]
        unfold Oper.wp
        rw [hrun]
        refine ⟨_, upM m d (.slice (some ⟨w.heap.size, 0, none⟩) len len), rfl, ?_⟩
        refine hR1.new hdd (hN d (by simp)) (But.alloc w _ _) (by simp [blockOf]) ?_ ?_
        · intro m' O' hO hext hm
          have how := World.ownsRow_lit (base := 0) (e := e) (size := sz) w ((ps.toList.map fun p => (p.1, a.eval p.2)).map fun p => p.2.cells.toList).flatten.toArray len (Nat.zero_le _) (by
            have : len ≤ len * sz := Nat.le_mul_of_pos_right _ c5
            unfold maxLen; omega) (by
            simp only [List.size_toArray]
            rw [flat_len (sz := sz) _ (by intro x hx; obtain ⟨p, hp, rfl⟩ := List.mem_map.1 hx; exact hszs p hp), List.length_map, hlen])
          refine HB.row_new (xs := (ps.toList.map fun p => (p.1, a.eval p.2)).map fun p => p.2.cells.toList) hm (by rw [hxlen]; simpa using how) (fun x hx => fitsB_fits (c4 x hx)) (by simp [hxlen, ← c2]) (by intro x hx; obtain ⟨p, hp, rfl⟩ := List.mem_map.1 hx; exact hszs p hp) ?_
          intro i j x y vs u hx hy hvs hu'
          rw [List.getElem?_map] at hvs
          obtain ⟨pu, hpu, rfl⟩ := Option.map_eq_some_iff.1 hvs
          obtain ⟨vs', h1, h2, _, h4⟩ := hcells i x pu.2 hx (by rw [List.getElem?_map, hpu]; rfl)
          rw [h1] at hu'
          exact (h4 j y u hy (by simpa using hu')).mono ((But.alloc w _ (fun _ => False)).keep fun _ h => h.elim) hO
        · intro m' O' hO hext hm
          exact .own _ _ hm rfl
      · exact h.elim
    · exact h.elim
  · exact h.elim
def strOf (xs : List Int) : ByteArray := xs.foldl (fun r n => r.push (UInt8.ofNat n.toNat)) ByteArray.empty
def evStr (P : Program) (s d : TypeId) (x : AV) (H : Heap) (k : Kont) : Prop :=
  match P.underlying s, P.underlying d with
  | some (.slice e), some .string => (match P.underlying e with
    | some (.int .u8) => (match srcOf H 1 x with
      | some (l, R) => ∃ xs, l = xs.map (T.int .u8) ∧ k (.t (.v (.string (strOf xs)))) [] R []
      | none => False)
    | _ => False)
  | _, _ => False
theorem src_bytes {w : World} {O : Nat → Prop} {v : Value} {news : List Value} {xs : List Int} (h : Src w O 1 (xs.map (T.int .u8)) v news) : news = xs.map (Value.int .u8) := by
  apply List.ext_getElem?
  intro i
  rw [List.getElem?_map]
  cases hx : xs[i]? with
  | none =>
    have : news.length ≤ i := by rw [h.len]; have := List.getElem?_eq_none_iff.1 hx; simpa using this
    rw [List.getElem?_eq_none this]; rfl
  | some x =>
    obtain ⟨u, h1, h2⟩ := h.told i 0 (T.int .u8 x) (T.int .u8 x) (by rw [List.getElem?_map, hx]; rfl) rfl
    rw [Nat.mul_one, Nat.add_zero] at h1
    rw [h1]
    cases h2
    rfl
theorem run_str [Tabs] {P : Program} {w : World} {O : Nat → Prop} {v : Value} {news : List Value} {xs : List Int} (h : Src w O 1 (xs.map (T.int .u8)) v news) : (Conv.bytesToString v).run P w = .ok (.string (strOf xs)) w := by
  have hn := src_bytes h
  obtain ⟨A, c, rfl, hA⟩ := h.form
  rcases hA with h0 | ⟨b, o', rfl, hc⟩
  · have : xs = [] := by simpa using h0
    subst this
    cases A with
    | none => rfl
    | some a => exact run_bytesToString w a 0 c [] (by simp [loadCells, loadCellsFrom])
  · refine run_bytesToString w _ _ c xs ?_
    have := run_loadCells_list (P := P) w ⟨b, o', none⟩ (xs.map (Value.int .u8)) (fun j u hu => by rw [add_plain]; exact hc j u (by rw [hn]; exact hu))
    simpa using this
theorem ok_str [Tabs] {s d : TypeId} {x : Operand} {H : Heap} {k : Kont} (ho : o.op = .convert s d x) (h : evStr P s d (opd tf x) H k) (hH : hf = lookH H) : ∃ v R, OpLoc P o R tf hf v [] [] ∧ k v [] R [] := by
  subst hH
  have hop : ∀ tf', (∀ t ∈ tmpsOf o, tf' t = tf t) → opd tf' x = opd tf x := fun tf' ht => tmps_same ht (by rw [ho]; simp [Op.operands])
  unfold evStr at h
  split at h
  · rename_i e hs hd
    split at h
    · rename_i he
      split at h
      · rename_i l R hsr
        obtain ⟨xs, rfl, h⟩ := h
        refine ⟨_, R, loc_read fun tf' hf' ht hh w0 X O0 D m a w hR => ⟨.string (strOf xs), ?_, .t _ _ (.v _)⟩, h⟩
        have e2 := opd_told hR x
        rw [hop tf' ht] at e2
        obtain ⟨news, hsrc⟩ := src_told hsr hR hh e2
        have h1 := run_str (P := P) hsrc
        obtain ⟨A, c, hv, _⟩ := hsrc.form
        unfold execOp
        rw [ho]
        refine run_value ?_
        rw [hv] at h1 ⊢
        rw [List.length_map] at h1 ⊢
        simp [Go.convert, run_underlying hs, run_underlying hd, run_underlying he, h1]
      · exact h.elim
    · exact h.elim
  · exact h.elim
def evMark (P : Program) (s d : TypeId) (x : AV) (H : Heap) (k : Kont) : Prop :=
  match P.underlying s, x with
  | some (.slice e), .own b => (match P.underlying e, Nat.beq s d, lookH H b with
    | some (.int .u8), true, (false, .row _ sz l) => match l with
      | [] => False
      | y :: l => k (.t (.sl sz (y :: l))) [(b, true, .dead)] [b] []
    | _, _, _ => False)
  | _, _ => False
theorem freeze_but [Tabs] (w : World) (g o' n : Nat) : But w (fun c => c = g) (w.freeze ⟨g, o', none⟩ n) := by
  unfold World.freeze
  split
  · exact But.refl _ _
  · exact ⟨rfl, rfl, rfl, by simp, fun c hc hn => by simp only [Array.getElem?_modify]; rw [if_neg (fun e => hn e.symm)]⟩
theorem freeze_cell (w : World) (g o' n b j : Nat) : (w.freeze ⟨g, o', none⟩ n).cell? ⟨b, j, none⟩ = w.cell? ⟨b, j, none⟩ := by
  unfold World.freeze
  split
  · rfl
  · unfold World.cell?
    simp only [Array.getElem?_modify]
    by_cases hgb : g = b
    · subst hgb
      rw [if_pos rfl]
      cases w.heap[g]? with
      | none => rfl
      | some x => cases x <;> rfl
    · rw [if_neg hgb]
theorem ok_mark [Tabs] {s d : TypeId} {x : Operand} {H : Heap} {k : Kont} (ho : o.op = .convert s d x) (h : evMark P s d (opd tf x) H k) (hH : hf = lookH H) : ∃ v W R, OpLoc P o R tf hf v W [] ∧ k v W R [] := by
  subst hH
  have hop : ∀ tf', (∀ t ∈ tmpsOf o, tf' t = tf t) → opd tf' x = opd tf x := fun tf' ht => tmps_same ht (by rw [ho]; simp [Op.operands])
  unfold evMark at h
  split at h
  · rename_i e b hs hx
    split at h
    · rename_i ty sz l he hsd hb
      have := Nat.eq_of_beq_eq_true hsd
      subst this
      split at h
      · exact h.elim
      · rename_i y l
        refine ⟨_, _, _, ⟨fun b' hb' => .inl (by simpa [ids] using hb'), fun tf' hf' ht hh w0 X O0 D m a w Q hR hdd hN => ?_⟩, h⟩
        have e1 := opd_told hR x
        rw [hop tf' ht, hx] at e1
        have hhb : hf' b = (false, .row ty sz (y :: l)) := by rw [hh b (by simp), hb]
        have h3 := hR.blk b
        rw [hhb] at h3
        have hmb := e1.own_eq
        obtain ⟨v, xs, hm', how, hfit, hcs⟩ := h3
        rw [hmb] at hm'
        simp at hm'
        rcases how.2 with ⟨_, hno⟩ | ⟨g, cap, cur, hv, _, hg, hcap, _, _, _⟩
        · cases hno
        rw [hv] at hm' how
        have hbk : bk m b = some g := by simp [bk, hmb, hm', blockOf]
        have hlive : (hf' b).1 = false ∧ (hf' b).2.live := by rw [hhb]; exact ⟨rfl, trivial⟩
        have hrun : (execOp a.eval o).run P w = .ok (.value (.slice (some ⟨g, 0, none⟩) (y :: l).length cap)) (w.freeze ⟨g, cur.size, none⟩ 1) := by
          unfold execOp
          rw [ho]
          refine run_value ?_
          rw [hm']
          have q1 : (Sem.shape g Sem.pure : Sem (Option (TypeId × Nat))).run P w = .ok (some (ty, cur.size)) w := by
            show Result.ok (w.shape? g) w = _
            unfold World.shape?
            rw [hg]
          simp only [Go.convert, Sem.run_bind, run_underlying hs, Result.andThen_ok, run_underlying he, markStringish, Go.shape, Go.freeze, beq_self_eq_true, q1, Sem.run_pure]
          rfl
        unfold Oper.wp
        rw [hrun]
        refine ⟨_, m, rfl, ?_⟩
        have hbut := freeze_but w g cur.size 1
        have := hR.write (w' := w.freeze ⟨g, cur.size, none⟩ 1) (W := [(b, true, .dead)]) (N := []) (fun c => c = g) (m' := m) (d := o.dst) (v := .t (.sl sz (y :: l))) (val := .slice (some ⟨g, 0, none⟩) (y :: l).length cap) hdd hbut (fun c hc => ⟨b, by simp [ids], hlive.1, hlive.2, by rw [hc]; exact hbk⟩) (fun _ _ => rfl) (by simp) (by simp) ?_ ?_ ?_
        · simpa using this
        · intro b' hb' O' hO hext _
          obtain rfl := ids1.1 hb'
          rw [lookH1]
          trivial
        · intro b' hb' hl c hbc
          obtain rfl := ids1.1 hb'
          rw [lookH1] at hl
          exact hl.elim
        · intro O' hO hext hiff
          have hOg : ∀ c, c = g → Own X m hf' c := fun c hc => .inr ⟨b, hlive.1, hlive.2, by rw [hc]; exact hbk⟩
          have hnot : ¬ O' g := by
            intro hx
            rcases (hiff g).1 hx with h | ⟨b2, hb1, hb2, hb3⟩
            · exact hR.xsep b g hlive.2 hbk h
            · by_cases e2 : b2 = b
              · subst e2
                rw [upH_in (by simp [ids]), lookH1] at hb1
                cases hb1
              · rw [upH_out (by simpa [ids] using e2)] at hb1 hb2
                exact hR.sep b2 b e2 hb1 hb2 hlive.2 g hb3 hbk
          refine .t _ _ (.sl sz (y :: l) g 0 cap (fun q => xs.getD q undef) hnot ?_ hcap hfit (fun i j hi hj => ?_) (fun i j x z hx' hz => ?_))
          · have := hbut.size; have := (Array.getElem?_eq_some_iff.1 hg).1; omega
          · rw [freeze_cell, how.cellAt _ (by rw [Nat.zero_add]; exact idx_lt hi hj)]
            have hlen : i * sz + j < xs.length := by rw [how.1]; exact idx_lt hi hj
            simp [List.getD, hlen]
          · obtain ⟨u, hu, ht'⟩ := hcs i j x z hx' hz
            simp only [List.getD, hu, Option.getD_some]
            exact ht'.mono (hbut.keep hOg) hO
    · exact h.elim
  · exact h.elim
end
end Go.YtppifophcphdkaaE
