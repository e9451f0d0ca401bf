/-
  A walk by reckoning: what values and blocks of one's own are known to be, and what that says of memory.
  Written by hand for this claim's session.
-/
import Derived.RowKit3
import Derived.Orders
import Derived.Below
import Derived.Laws.OwnMore
namespace Go.YtbbcnmfmncgffaaE
open Go.RowKit
set_option linter.unusedVariables false
set_option linter.unusedSimpArgs false
/-- Data without places: what a value is, and what the memory behind it holds. -/
inductive T where
  | v (x : Value)
  | sl (sz : Nat) (l : List T)
  | agg (l : List T)
  | tuple (l : List T)
  | pt (l : List T)
  | iface (t : TypeId) (x : T)
  | fn (f : Fn) (first caps : List T)
  deriving Inhabited
/-- Values in a walk: data, or what leads to blocks of one's own. -/
inductive AV where
  | un
  | t (x : T)
  | own (b : Nat)
  | ptr (b off : Nat)
  | rp (b sz i j : Nat)
  | sub (b sz i n : Nat)
  | ab (p q : Prop)
  | fsub (b sz i n N : Nat)
  | agg (l : List AV)
  | tuple (l : List AV)
  | iface (t : TypeId) (x : AV)
  | fn (f : Fn) (first caps : List AV)
  deriving Inhabited
/-- Blocks: a variable's cells, or a row. -/
inductive Blk where
  | dead
  | box (ty : TypeId) (cells : List AV)
  | row (ty : TypeId) (sz : Nat) (l : List T)
  | arr (ty : TypeId) (sz : Nat) (l : List T) (N : Nat)
  deriving Inhabited
@[reducible] def T.int (k : IntKind) (n : Int) : T := .v (.int k n)
@[reducible] def T.bool (b : Bool) : T := .v (.bool b)
@[reducible] def AV.int (k : IntKind) (n : Int) : AV := .t (.v (.int k n))
@[reducible] def AV.bool (b : Bool) : AV := .t (.v (.bool b))
def T.cells : T → List T
  | .agg l => l
  | x => [x]
/-- It takes one cell. -/
def T.one : T → Bool
  | .v x => x.oneCell'
  | .agg _ => false
  | .tuple _ => false
  | _ => true
def AV.one : AV → Bool
  | .t x => x.one
  | .un => false
  | .agg _ => false
  | .tuple _ => false
  | _ => true
def T.fits (sz : Nat) (x : T) : Prop := x.cells.length = sz ∧ ∀ y ∈ x.cells, y.one = true

/-- A value is told by data; the blocks that it leads to are none of O. -/
inductive HT (w : World) (O : Nat → Prop) : T → Value → Prop
  | v (x : Value) : HT w O (.v x) x
  | nil (sz : Nat) (A : Option Addr) (c : Nat) : HT w O (.sl sz []) (.slice A 0 c)
  | sl (sz : Nat) (l : List T) (b o c : Nat) (f : Nat → Value) (hO : ¬ O b) (hb : b < w.heap.size) (hc : l.length ≤ c) (hf : ∀ x ∈ l, x.fits sz)
      (hm : ∀ i j, i < l.length → j < sz → w.cell? ⟨b, o + i * sz + j, none⟩ = some (f (i * sz + j)))
      (ht : ∀ (i j : Nat) (x y : T), l[i]? = some x → x.cells[j]? = some y → HT w O y (f (i * sz + j))) : HT w O (.sl sz l) (.slice (some ⟨b, o, none⟩) l.length c)
  | agg (l : List T) (vs : List Value) (hl : vs.length = l.length) (h : ∀ (i : Nat) (x : T) (y : Value), l[i]? = some x → vs[i]? = some y → HT w O x y) : HT w O (.agg l) (.agg vs.toArray)
  | tuple (l : List T) (vs : List Value) (hl : vs.length = l.length) (h : ∀ (i : Nat) (x : T) (y : Value), l[i]? = some x → vs[i]? = some y → HT w O x y) : HT w O (.tuple l) (.tuple vs.toArray)
  | pt (l : List T) (b o : Nat) (f : Nat → Value) (hO : ¬ O b) (hb : b < w.heap.size) (h1 : ∀ y ∈ l, y.one = true) (hm : ∀ i, i < l.length → w.cell? ⟨b, o + i, none⟩ = some (f i))
      (ht : ∀ (i : Nat) (x : T), l[i]? = some x → HT w O x (f i)) : HT w O (.pt l) (.pointer (some ⟨b, o, none⟩))
  | iface (t : TypeId) (x : T) (y : Value) (h : HT w O x y) : HT w O (.iface t x) (.iface t y)
  | fn (f : Fn) (l m : List T) (vs us : List Value) (hl : vs.length = l.length) (h : ∀ (i : Nat) (x : T) (y : Value), l[i]? = some x → vs[i]? = some y → HT w O x y) (hm : us.length = m.length) (h' : ∀ (i : Nat) (x : T) (y : Value), m[i]? = some x → us[i]? = some y → HT w O x y) :
      HT w O (.fn f l m) (.func f vs.toArray us.toArray)

def blockOf : Value → Option Nat
  | .slice (some a) _ _ => some a.block
  | .pointer (some a) => some a.block
  | _ => none

/-- A part of a row, or of a variable's cells: n elements from i on. -/
def SubV (m : Nat → Option Value) (b sz i n : Nat) (v : Value) : Prop :=
  (n = 0 ∧ (∃ A c, v = .slice A 0 c) ∧ (i = 0 → v = .slice none 0 0)) ∨ ∃ g c', n ≤ c' ∧ v = .slice (some ⟨g, i * sz, none⟩) n c' ∧ (m b = some (.pointer (some ⟨g, 0, none⟩)) ∨ ∃ n' c, m b = some (.slice (some ⟨g, 0, none⟩) n' c) ∧ i + n ≤ n' ∧ i + c' = c)
theorem SubV.mono {m m' : Nat → Option Value} {b b' sz i n : Nat} {v : Value} (h : SubV m b sz i n v) (hm : ∀ v, m b = some v → m' b' = some v) : SubV m' b' sz i n v := by
  rcases h with h | ⟨g, c, h1, h2, h3 | ⟨n', c', h3, h4⟩⟩
  · exact .inl h
  · exact .inr ⟨g, c, h1, h2, .inl (hm _ h3)⟩
  · exact .inr ⟨g, c, h1, h2, .inr ⟨n', c', hm _ h3, h4⟩⟩
theorem SubV.cell {m : Nat → Option Value} {b sz i n : Nat} {v : Value} (h : SubV m b sz i n v) : v.oneCell' = true := by
  rcases h with ⟨_, ⟨A, c, rfl⟩, _⟩ | ⟨g, c, h1, rfl, _⟩ <;> rfl
/-- A part of a row whose room is known: the row is told up to its capacity N. -/
def FsubV (m : Nat → Option Value) (b sz i n N : Nat) (v : Value) : Prop := ∃ g o, v = .slice (some ⟨g, o, none⟩) n (N - i) ∧ m b = some (.pointer (some ⟨g, 0, none⟩)) ∧ i + n ≤ N ∧ 0 < N ∧ (i < N → o = i * sz)
theorem FsubV.mono {m m' : Nat → Option Value} {b b' sz i n N : Nat} {v : Value} (h : FsubV m b sz i n N v) (hm : ∀ v, m b = some v → m' b' = some v) : FsubV m' b' sz i n N v := by
  obtain ⟨g, o, h1, h2, h3⟩ := h
  exact ⟨g, o, h1, hm _ h2, h3⟩
theorem FsubV.sub {m : Nat → Option Value} {b sz i n N : Nat} {v : Value} (h : FsubV m b sz i n N v) : SubV m b sz i n v := by
  obtain ⟨g, o, h1, h2, h3, h4, h5⟩ := h
  by_cases e : i < N
  · have h5 := h5 e
    subst h5
    exact .inr ⟨g, N - i, by omega, h1, .inl h2⟩
  · have : n = 0 := by omega
    subst this
    exact .inl ⟨rfl, ⟨_, _, h1⟩, fun e => by omega⟩
/-- The same, of what leads to blocks of one's own: m b is the value that block b is reached by. -/
inductive HA (m : Nat → Option Value) (w : World) (O : Nat → Prop) : AV → Value → Prop
  | un (x : Value) : HA m w O .un x
  | t (x : T) (y : Value) (h : HT w O x y) : HA m w O (.t x) y
  | own (b : Nat) (v : Value) (h : m b = some v) (h1 : v.oneCell' = true) : HA m w O (.own b) v
  | ptr (b off g : Nat) (h : m b = some (.pointer (some ⟨g, 0, none⟩))) : HA m w O (.ptr b off) (.pointer (some ⟨g, off, none⟩))
  | rp (b sz i j g n c : Nat) (h : m b = some (.slice (some ⟨g, 0, none⟩) n c)) : HA m w O (.rp b sz i j) (.pointer (some ⟨g, i * sz + j, none⟩))
  | sub (b sz i n : Nat) (v : Value) (h : SubV m b sz i n v) : HA m w O (.sub b sz i n) v
  | fsub (b sz i n N : Nat) (v : Value) (h : FsubV m b sz i n N v) : HA m w O (.fsub b sz i n N) v
  | ab (p q : Prop) (b : Bool) (h : b = true → p) (h' : b = false → q) : HA m w O (.ab p q) (.bool b)
  | agg (l : List AV) (vs : List Value) (hl : vs.length = l.length) (h : ∀ (i : Nat) (x : AV) (y : Value), l[i]? = some x → vs[i]? = some y → HA m w O x y) : HA m w O (.agg l) (.agg vs.toArray)
  | tuple (l : List AV) (vs : List Value) (hl : vs.length = l.length) (h : ∀ (i : Nat) (x : AV) (y : Value), l[i]? = some x → vs[i]? = some y → HA m w O x y) : HA m w O (.tuple l) (.tuple vs.toArray)
  | iface (t : TypeId) (x : AV) (y : Value) (h : HA m w O x y) : HA m w O (.iface t x) (.iface t y)
  | fn (f : Fn) (l k : List AV) (vs us : List Value) (hl : vs.length = l.length) (h : ∀ (i : Nat) (x : AV) (y : Value), l[i]? = some x → vs[i]? = some y → HA m w O x y) (hm : us.length = k.length) (h' : ∀ (i : Nat) (x : AV) (y : Value), k[i]? = some x → us[i]? = some y → HA m w O x y) :
      HA m w O (.fn f l k) (.func f vs.toArray us.toArray)

/-- What a block holds. -/
def HB (m : Nat → Option Value) (w : World) (O : Nat → Prop) (b : Nat) : Blk → Prop
  | .dead => True
  | .box ty cells => ∃ (g : Nat) (vs : List Value), m b = some (.pointer (some ⟨g, 0, none⟩)) ∧ w.heap[g]? = some (.cells vs.toArray ty (0, 0)) ∧ vs.length = cells.length ∧ (∀ x ∈ cells, x.one = true) ∧ ∀ (i : Nat) (x : AV) (y : Value), cells[i]? = some x → vs[i]? = some y → HA m w O x y
  | .row ty sz l => ∃ (v : Value) (xs : List Value), m b = some v ∧ w.ownsRow 0 ty sz v l.length xs ∧ (∀ x ∈ l, x.fits sz) ∧ ∀ (i j : Nat) (x y : T), l[i]? = some x → x.cells[j]? = some y → ∃ u, xs[i * sz + j]? = some u ∧ HT w O y u
  | .arr ty sz l N => ∃ (g : Nat) (cur : Array Value), m b = some (.pointer (some ⟨g, 0, none⟩)) ∧ w.heap[g]? = some (.cells cur ty (0, 0)) ∧ cur.size = N * sz ∧ l.length ≤ N ∧ N ≤ maxLen ∧ (∀ x ∈ l, x.fits sz) ∧ ∀ (i j : Nat) (x y : T), l[i]? = some x → x.cells[j]? = some y → ∃ u, cur.toList[i * sz + j]? = some u ∧ HT w O y u

/-- What is not of O stays. -/
structure Keep (w : World) (O : Nat → Prop) (w' : World) : Prop where
  size : w.heap.size ≤ w'.heap.size
  block : ∀ c, c < w.heap.size → ¬ O c → w'.heap[c]? = w.heap[c]?
theorem Keep.refl (w : World) (O : Nat → Prop) : Keep w O w := ⟨Nat.le_refl _, fun _ _ _ => rfl⟩
theorem Keep.cell {w w' : World} {O : Nat → Prop} (h : Keep w O w') {b o : Nat} {s : Option Nat} (hb : b < w.heap.size) (hO : ¬ O b) : w'.cell? ⟨b, o, s⟩ = w.cell? ⟨b, o, s⟩ := World.cell?_of_block (h.block b hb hO)

theorem HT.mono {w w' : World} {O O' : Nat → Prop} (hk : Keep w O w') (hO' : ∀ c, O' c → O c ∨ w.heap.size ≤ c) {x : T} {y : Value} (h : HT w O x y) : HT w' O' x y := by
  have key : ∀ b, ¬ O b → b < w.heap.size → ¬ O' b := fun b h1 h2 h3 => (hO' b h3).elim h1 (fun h => by omega)
  induction h with
  | v x => exact .v x
  | nil sz A c => exact .nil sz A c
  | sl sz l b o c f hO hb hc hf hm ht ih => exact .sl sz l b o c f (key b hO hb) (Nat.lt_of_lt_of_le hb hk.size) hc hf (fun i j hi hj => (hk.cell hb hO).trans (hm i j hi hj)) ih
  | agg l vs hl h ih => exact .agg l vs hl ih
  | tuple l vs hl h ih => exact .tuple l vs hl ih
  | pt l b o f hO hb h1 hm ht ih => exact .pt l b o f (key b hO hb) (Nat.lt_of_lt_of_le hb hk.size) h1 (fun i hi => (hk.cell hb hO).trans (hm i hi)) ih
  | iface t x y h ih => exact .iface t x y ih
  | fn f l m vs us hl h hm h' ih ih' => exact .fn f l m vs us hl ih hm ih'

theorem HA.mono {m m' : Nat → Option Value} {w w' : World} {O O' : Nat → Prop} (hk : Keep w O w') (hO' : ∀ c, O' c → O c ∨ w.heap.size ≤ c) (hm : ∀ b v, m b = some v → m' b = some v) {x : AV} {y : Value} (h : HA m w O x y) : HA m' w' O' x y := by
  induction h with
  | un x => exact .un x
  | t x y h => exact .t x y (h.mono hk hO')
  | own b v h h1 => exact .own b v (hm _ _ h) h1
  | ptr b off g h => exact .ptr b off g (hm _ _ h)
  | rp b sz i j g n c h => exact .rp b sz i j g n c (hm _ _ h)
  | sub b sz i n v h => exact .sub b sz i n v (h.mono fun v h => hm _ v h)
  | ab p q b h h' => exact .ab p q b h h'
  | fsub b sz i n N v h => exact .fsub b sz i n N v (h.mono fun v h => hm _ v h)
  | agg l vs hl h ih => exact .agg l vs hl ih
  | tuple l vs hl h ih => exact .tuple l vs hl ih
  | iface t x y h ih => exact .iface t x y ih
  | fn f l k vs us hl h hm' h' ih ih' => exact .fn f l k vs us hl ih hm' ih'
end Go.YtbbcnmfmncgffaaE
