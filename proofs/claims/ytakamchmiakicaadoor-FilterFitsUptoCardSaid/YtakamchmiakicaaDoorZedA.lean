/- ZED, first text: the ideal values of a machine without memory, and what of a world they stand for. -/
import Derived.Calls
import Derived.Laws.AppendOwn
import Derived.Laws.Sem
import Derived.Below
namespace Zed
open Go
set_option linter.unusedVariables false
set_option linter.unusedSimpArgs false

/-- DATA: what is never written any more. A slice is its elements, each a list of cells. -/
inductive D where
  | int (k : IntKind) (n : Int)
  | bool (b : Bool)
  | str (s : ByteArray)
  | nilI
  | nilP
  | nilM
  | sl (sz : Nat) (xs : List (List D))
  | ref (cs : List D)

/-- A value of the world reads as data; its cells are among the frozen ones (F: block, offset). -/
inductive RD (W : World) (F : Nat → Nat → Prop) : Value → D → Prop
  | int (k n) : RD W F (.int k n) (.int k n)
  | bool (b) : RD W F (.bool b) (.bool b)
  | str (s) : RD W F (.string s) (.str s)
  | nilI : RD W F .nilIface .nilI
  | nilP : RD W F (.pointer none) .nilP
  | nilM : RD W F (.map none) .nilM
  | slNil (sz) : RD W F (.slice none 0 0) (.sl sz [])
  | slZ (a : Addr) (sz) (hs : 0 < sz) : RD W F (.slice (some a) 0 0) (.sl sz [])
  | sl (b o len cap sz : Nat) (xs : List (List D)) (vs : Nat → Nat → Value) (hl : xs.length = len) (hc : len ≤ cap) (hs : 0 < sz)
      (hz : ∀ (i : Nat) (c : List D), xs[i]? = some c → c.length = sz)
      (h : ∀ (i : Nat) (c : List D) (j : Nat) (d : D), xs[i]? = some c → c[j]? = some d → W.cell? ⟨b, o + i * sz + j, none⟩ = some (vs i j) ∧ F b (o + i * sz + j))
      (hr : ∀ (i : Nat) (c : List D) (j : Nat) (d : D), xs[i]? = some c → c[j]? = some d → RD W F (vs i j) d) : RD W F (.slice (some ⟨b, o, none⟩) len cap) (.sl sz xs)
  | ref (b o : Nat) (cs : List D) (vs : Nat → Value) (h : ∀ (j : Nat) (d : D), cs[j]? = some d → W.cell? ⟨b, o + j, none⟩ = some (vs j) ∧ F b (o + j))
      (hr : ∀ (j : Nat) (d : D), cs[j]? = some d → RD W F (vs j) d) : RD W F (.pointer (some ⟨b, o, none⟩)) (.ref cs)

/-- What is frozen stays. -/
structure Keeps (F F' : Nat → Nat → Prop) (W W' : World) : Prop where
  sub : ∀ b o, F b o → F' b o
  same : ∀ b o, F b o → W'.cell? ⟨b, o, none⟩ = W.cell? ⟨b, o, none⟩

theorem Keeps.refl (F : Nat → Nat → Prop) (W : World) : Keeps F F W W := ⟨fun _ _ h => h, fun _ _ _ => rfl⟩
theorem Keeps.trans {F1 F2 F3 : Nat → Nat → Prop} {W1 W2 W3 : World} (h : Keeps F1 F2 W1 W2) (k : Keeps F2 F3 W2 W3) : Keeps F1 F3 W1 W3 :=
  ⟨fun b o q => k.sub b o (h.sub b o q), fun b o q => (k.same b o (h.sub b o q)).trans (h.same b o q)⟩

theorem RD.keep {W W' : World} {F F' : Nat → Nat → Prop} (k : Keeps F F' W W') {v : Value} {d : D} (h : RD W F v d) : RD W' F' v d := by
  induction h with
  | int k n => exact .int k n
  | bool b => exact .bool b
  | str s => exact .str s
  | nilI => exact .nilI
  | nilP => exact .nilP
  | nilM => exact .nilM
  | slNil sz => exact .slNil sz
  | slZ a sz hs => exact .slZ a sz hs
  | sl b o len cap sz xs vs hl hc hs hz h hr ih =>
    refine .sl b o len cap sz xs vs hl hc hs hz (fun i c j d h1 h2 => ?_) ih
    obtain ⟨h3, h4⟩ := h i c j d h1 h2
    exact ⟨(k.same _ _ h4).trans h3, k.sub _ _ h4⟩
  | ref b o cs vs h hr ih =>
    refine .ref b o cs vs (fun j d h1 => ?_) ih
    obtain ⟨h3, h4⟩ := h j d h1
    exact ⟨(k.same _ _ h4).trans h3, k.sub _ _ h4⟩

/-- A row of cells reads as a row of data. -/
def RDs (W : World) (F : Nat → Nat → Prop) (vs : List Value) (cs : List D) : Prop :=
  vs.length = cs.length ∧ ∀ (j : Nat) (v : Value) (d : D), vs[j]? = some v → cs[j]? = some d → RD W F v d

theorem RDs.keep {W W' : World} {F F' : Nat → Nat → Prop} (k : Keeps F F' W W') {vs : List Value} {cs : List D} (h : RDs W F vs cs) : RDs W' F' vs cs :=
  ⟨h.1, fun j v d h1 h2 => (h.2 j v d h1 h2).keep k⟩

/-- The value of one cell. -/
theorem RD.one {W : World} {F : Nat → Nat → Prop} {v : Value} {d : D} (h : RD W F v d) : v.oneCell' = true := by
  cases h <;> rfl

/-- TREES: a node behind a pointer, of two numbers and two pointers to such nodes. -/
inductive PT where
  | nil
  | node (op n : Int) (a b : PT)
def PT.raw : PT → D
  | .nil => .nilP
  | .node o n a b => .ref [.int .i64 o, .int .i64 n, a.raw, b.raw]
def PT.isNil : PT → Bool
  | .nil => true
  | _ => false
def PT.op : PT → Int
  | .node o _ _ _ => o
  | .nil => 0
def PT.num : PT → Int
  | .node _ n _ _ => n
  | .nil => 0
def PT.fst : PT → PT
  | .node _ _ a _ => a
  | .nil => .nil
def PT.snd : PT → PT
  | .node _ _ _ b => b
  | .nil => .nil
/-- .. and a node of two numbers and a row of such nodes. -/
inductive FT where
  | mk (op n : Int) (l : List FT)
mutual
def FT.rrow : FT → List D
  | .mk o n l => [.int .i64 o, .int .i64 n, .sl 3 (FT.rrows l)]
def FT.rrows : List FT → List (List D)
  | [] => []
  | t :: r => FT.rrow t :: FT.rrows r
end
def FT.un : FT → Int × Int × List FT
  | .mk o n l => (o, n, l)
def FT.of (p : Int × Int × List FT) : FT := .mk p.1 p.2.1 p.2.2
theorem FT.rrows_map : ∀ l : List FT, FT.rrows l = l.map FT.rrow
  | [] => rfl
  | t :: r => by rw [FT.rrows, FT.rrows_map r]; rfl

/-! KINDS: what an element of a row is, as plain Lean. -/
inductive K where
  | unit | int (k : IntKind) | bool | str | slice (T : K) | pair (A B : K) | tree | wood
  deriving DecidableEq
def K.den : K → Type
  | .unit => Unit
  | .int _ => Int
  | .bool => Bool
  | .str => ByteArray
  | .slice T => List T.den
  | .pair A B => A.den × B.den
  | .tree => PT
  | .wood => List FT
def K.size : K → Nat
  | .unit => 0
  | .pair A B => A.size + B.size
  | _ => 1
def K.dflt : (T : K) → T.den
  | .unit => ()
  | .int _ => (0 : Int)
  | .bool => false
  | .str => (ByteArray.empty : ByteArray)
  | .slice _ => []
  | .pair A B => (A.dflt, B.dflt)
  | .tree => PT.nil
  | .wood => []
/-- An element's cells, as raw data. -/
def K.rrow : (T : K) → T.den → List D
  | .unit, _ => []
  | .int k, n => [.int k n]
  | .bool, b => [.bool b]
  | .str, s => [.str s]
  | .slice T, xs => [.sl T.size (xs.map T.rrow)]
  | .pair A B, p => A.rrow p.1 ++ B.rrow p.2
  | .tree, t => [PT.raw t]
  | .wood, l => [.sl 3 (FT.rrows l)]
/-- A node of a wood as an element. -/
abbrev FK : K := .pair (.int .i64) (.pair (.int .i64) .wood)

/-- DATA of a kind: a slice is a list of its elements. -/
inductive X where
  | int (k : IntKind) (n : Int)
  | bool (b : Bool)
  | str (s : ByteArray)
  | nilI
  | nilP
  | nilM
  | sl (T : K) (xs : List T.den)
  | pt (t : PT)
def X.raw : X → D
  | .int k n => .int k n
  | .bool b => .bool b
  | .str s => .str s
  | .nilI => .nilI
  | .nilP => .nilP
  | .nilM => .nilM
  | .sl T xs => .sl T.size (xs.map T.rrow)
  | .pt t => t.raw
/-- An element's cells. -/
def K.row : (T : K) → T.den → List X
  | .unit, _ => []
  | .int k, n => [.int k n]
  | .bool, b => [.bool b]
  | .str, s => [.str s]
  | .slice T, xs => [.sl T xs]
  | .pair A B, p => A.row p.1 ++ B.row p.2
  | .tree, t => [.pt t]
  | .wood, l => [.sl FK (l.map FT.un)]
/-- A row of another kind, if it is of this one, or nil. -/
def K.cast (T T' : K) (ys : List T'.den) : Option (List T.den) :=
  if h : T' = T then some (h ▸ ys) else match T' with
    | .unit => some []
    | _ => none
/-- An element out of its cells. -/
def K.unrow : (T : K) → List X → Option (T.den × List X)
  | .unit, l => some ((), l)
  | .int k, l => match l with
    | .int k' n :: r => if k' = k then some ((n : Int), r) else none
    | _ => none
  | .bool, l => match l with
    | .bool b :: r => some ((b : Bool), r)
    | _ => none
  | .str, l => match l with
    | .str s :: r => some ((s : ByteArray), r)
    | _ => none
  | .slice T, l => match l with
    | .sl T' xs :: r => (K.cast T T' xs).map fun ys => ((ys : List T.den), r)
    | _ => none
  | .pair A B, l => match A.unrow l with
    | some (a, l') => match B.unrow l' with
      | some (b, l'') => some ((a, b), l'')
      | none => none
    | none => none
  | .tree, l => match l with
    | .pt t :: r => some (t, r)
    | .nilP :: r => some (PT.nil, r)
    | _ => none
  | .wood, l => match l with
    | .sl T' xs :: r => (K.cast FK T' xs).map fun ys => (((ys : List (Int × Int × List FT)).map FT.of : List FT), r)
    | _ => none
theorem un_raw : ∀ l : List FT, (l.map FT.un).map (K.rrow FK) = FT.rrows l
  | [] => rfl
  | .mk o n l :: r => by
    show (K.rrow FK (o, n, l)) :: (r.map FT.un).map (K.rrow FK) = FT.rrow (.mk o n l) :: FT.rrows r
    rw [un_raw r]; rfl
theorem of_raw : ∀ l : List (Int × Int × List FT), FT.rrows (l.map FT.of) = l.map (K.rrow FK)
  | [] => rfl
  | p :: r => by
    show FT.rrow (FT.of p) :: FT.rrows (r.map FT.of) = K.rrow FK p :: r.map (K.rrow FK)
    rw [of_raw r]; rfl

theorem K.row_raw : ∀ (T : K) (x : T.den), (T.row x).map X.raw = T.rrow x
  | .unit, _ => rfl
  | .int _, _ => rfl
  | .bool, _ => rfl
  | .str, _ => rfl
  | .slice _, _ => rfl
  | .pair A B, p => by simp only [K.row, K.rrow, List.map_append, K.row_raw A p.1, K.row_raw B p.2]
  | .tree, _ => rfl
  | .wood, l => congrArg (fun x => [D.sl 3 x]) (un_raw l)
theorem K.rrow_length : ∀ (T : K) (x : T.den), (T.rrow x).length = T.size
  | .unit, _ => rfl
  | .int _, _ => rfl
  | .bool, _ => rfl
  | .str, _ => rfl
  | .slice _, _ => rfl
  | .pair A B, p => by simp only [K.rrow, List.length_append, K.size, K.rrow_length A p.1, K.rrow_length B p.2]
  | .tree, _ => rfl
  | .wood, _ => rfl

/-- What stands in one cell: data; a row that the call owns (its label, its elements' cells, its elements); an address in a variable in memory; an address among what is frozen. -/
inductive Z1 where
  | d (x : X)
  | own (l : Nat) (T : K) (xs : List T.den)
  | ptr (id off : Nat)
  | el (cs : List X)
  | nn (T : K) (xs : List T.den)
  | pix (id off n i : Nat)
  | row (l : Nat) (T : K)
  | pel (l : Nat) (T : K) (i off : Nat)
  | run (T : K) (xs : List T.den)
  | mref (id : Nat)
  | mp (k k' : IntKind) (l : List (Int × Int))
/-- A value: of one cell, or a struct or an array of many. -/
inductive V1 where
  | c (z : Z1)
  | agg (cs : List Z1)
/-- What stands in a slot: a value; a call's values; nothing. -/
inductive Z where
  | one (v : V1)
  | tup (vs : List V1)
  | no

/-- Where things lie: what is frozen (block, offset); the variables' blocks; the owned rows' values. -/
structure G where
  F : Nat → Nat → Prop
  ρ : Nat → Nat
  ω : Nat → Value

/-- An owned row's type of element, and whether its block is known to be full (1). -/
structure Ow where
  e : TypeId
  k : Nat

/-- The ideal state of a call. -/
structure S where
  sl : Nat → Option Z
  live : Nat → Option Ow
  bx : Nat → Option (List Z1)
  us : Nat → Prop

/-- A value stands for what is in a cell. -/
def RC (W : World) (g : G) (v : Value) : Z1 → Prop
  | .d x => RD W g.F v x.raw
  | .own l T xs => RD W g.F v (X.sl T xs).raw ∧ g.ω l = v
  | .ptr id off => v = .pointer (some ⟨g.ρ id, off, none⟩)
  | .nn T xs => RD W g.F v (X.sl T xs).raw ∧ ∃ a n c, v = .slice (some a) n c
  | .pix id off n i => i < n ∧ v = .pointer (some ⟨g.ρ id, off + i, none⟩)
  | .row l T => g.ω l = v ∧ ∃ A n c, v = .slice A n c
  | .pel l T i off => ∃ b N cap, g.ω l = .slice (some ⟨b, 0, none⟩) N cap ∧ i < N ∧ v = .pointer (some ⟨b, i * T.size + off, none⟩)
  | .run _ _ => False
  | .mref id => v = .map (some (g.ρ id))
  | .mp _ _ _ => False
  | .el cs => ∃ b o, v = .pointer (some ⟨b, o, none⟩) ∧ ∃ vs : Nat → Value, (∀ (j : Nat) (d : X), cs[j]? = some d → W.cell? ⟨b, o + j, none⟩ = some (vs j) ∧ g.F b (o + j)) ∧ ∀ (j : Nat) (d : X), cs[j]? = some d → RD W g.F (vs j) d.raw
def RCs (W : World) (g : G) (vs : List Value) (cs : List Z1) : Prop :=
  vs.length = cs.length ∧ ∀ (j : Nat) (v : Value) (z : Z1), vs[j]? = some v → cs[j]? = some z → RC W g v z
def RV (W : World) (g : G) (v : Value) : V1 → Prop
  | .c z => RC W g v z
  | .agg cs => ∃ vs : Array Value, v = .agg vs ∧ RCs W g vs.toList cs
def RZ (W : World) (g : G) (v : Value) : Z → Prop
  | .one x => RV W g v x
  | .tup xs => ∃ vs : Array Value, v = .tuple vs ∧ vs.size = xs.length ∧ ∀ (j : Nat) (u : Value) (x : V1), vs[j]? = some u → xs[j]? = some x → RV W g u x
  | .no => v = undef

/-- Labels and numbers of variables in a value are among n. -/
def Z1.below (n : Nat → Prop) : Z1 → Prop
  | .own l _ _ => n l
  | .ptr id _ => n id
  | .pix id _ _ _ => n id
  | .row l _ => n l
  | .pel l _ _ _ => n l
  | .mref id => n id
  | _ => True
def V1.below (n : Nat → Prop) : V1 → Prop
  | .c z => z.below n
  | .agg cs => ∀ z ∈ cs, z.below n
def Z.below (n : Nat → Prop) : Z → Prop
  | .one v => v.below n
  | .tup vs => ∀ v ∈ vs, v.below n
  | .no => True

/-- A row that may be appended to: nil, or at the head of a block that nothing frozen reaches behind its length. -/
def OwnV (P : Program) (W : World) (F : Nat → Nat → Prop) (v : Value) (e : Ow) : Prop :=
  (v = .slice none 0 0 ∧ e.k ≠ 1) ∨ ∃ g n cap cur fr, v = .slice (some ⟨g, 0, none⟩) n cap ∧ W.heap[g]? = some (.cells cur e.e fr) ∧ n ≤ cap ∧ cap ≤ maxLen ∧ cur.size = cap * P.cellsOf e.e ∧ (∀ o, F g o → o < n * P.cellsOf e.e) ∧ (e.k = 1 → n = cap) ∧ (fr = (0, 0) ∨ n = cap) ∧ (e.k = 2 → fr = (0, 0) ∧ ∀ o, ¬ F g o)

/-- Rows that match, cell by cell. -/
def Rel2 {α : Type} (R : Value → α → Prop) (vs : List Value) (cs : List α) : Prop :=
  vs.length = cs.length ∧ ∀ (j : Nat) (v : Value) (d : α), vs[j]? = some v → cs[j]? = some d → R v d
/-- Contents that are no row of a label's. -/
def isRun : List Z1 → Bool
  | [.run _ _] => true
  | _ => false
def plainB : List Z1 → Bool
  | [.run _ _] => false
  | [.mp _ _ _] => false
  | _ => true
def bc (bx : Nat → Option (List Z1)) : Nat → Option (List Z1) := fun i => match bx i with
  | some cs => if isRun cs then none else some cs
  | none => none
/-- What a variable's block holds. -/
def BoxIs (W : World) (g : G) (b : Nat) (cs : List Z1) : Prop :=
  (∃ vs ty, W.heap[b]? = some (.cells vs ty (0, 0)) ∧ RCs W g vs.toList cs) ∨
    ∃ k k' l es clock, cs = [.mp k k' l] ∧ W.heap[b]? = some (.map es clock) ∧ es.toList.map (fun e => (e.key, e.val)) = l.map (fun p => (Value.int k p.1, Value.int k' p.2))
/-- What a row that may be written holds. -/
def RowIs (P : Program) (W : World) (F : Nat → Nat → Prop) (e : TypeId) (v : Value) (T : K) (xs : List T.den) : Prop :=
  (v = .slice none 0 0 ∧ xs = []) ∨ ((0 < T.size ∧ T.size = P.cellsOf e) ∧ ∃ b cap cur fr, v = .slice (some ⟨b, 0, none⟩) xs.length cap ∧ W.heap[b]? = some (.cells cur e fr) ∧ Rel2 (RD W F) (cur.toList.take (xs.length * T.size)) (xs.flatMap T.rrow))

/-- How a call began: the world, what was frozen, the blocks that it may write besides its own, how many numbers came in, where their variables lay. -/
structure Ent where
  W0 : World
  F0 : Nat → Nat → Prop
  T : Nat → Prop
  pk : Nat
  ρ0 : Nat → Nat
  ω0 : Nat → Value
  nt : Nat
  df : List Deferred
def Ent.may (E : Ent) (b : Nat) : Prop := E.T b ∨ E.W0.heap.size ≤ b

/-- The world's ground: what is frozen, and what stands as it did when the call began. -/
structure WB (E : Ent) (F : Nat → Nat → Prop) (W : World) : Prop where
  fz : ∀ b o, F b o → b < W.heap.size
  os : W.os = E.W0.os
  tape : W.tape = E.W0.tape
  output : W.output = E.W0.output
  size : E.W0.heap.size ≤ W.heap.size
  block : ∀ b, b < E.W0.heap.size → ¬ E.T b → W.heap[b]? = E.W0.heap[b]?
  keeps : Keeps E.F0 F E.W0 W
  fmay : ∀ b o, F b o → E.F0 b o ∨ E.may b

/-- The owned rows and the variables. -/
structure HI (P : Program) (E : Ent) (g : G) (live : Nat → Option Ow) (bx : Nat → Option (List Z1)) (W : World) : Prop where
  own : ∀ l e, live l = some e → OwnV P W g.F (g.ω l) e
  ownNe : ∀ l e l' e', live l = some e → live l' = some e' → l ≠ l' → ∀ b, (g.ω l).ownBlock = some b → (g.ω l').ownBlock ≠ some b
  ownMay : ∀ l e, live l = some e → ∀ b, (g.ω l).ownBlock = some b → E.may b
  box : ∀ id cs, bx id = some cs → BoxIs W g (g.ρ id) cs ∧ ∀ o, ¬ g.F (g.ρ id) o
  boxNe : ∀ id id' cs cs', bx id = some cs → bx id' = some cs' → id ≠ id' → g.ρ id ≠ g.ρ id'
  boxMay : ∀ id cs, bx id = some cs → E.may (g.ρ id)
  boxOwn : ∀ id cs l e, bx id = some cs → live l = some e → (g.ω l).ownBlock ≠ some (g.ρ id)

/-- The rows that may be written. -/
def HR (P : Program) (g : G) (live : Nat → Option Ow) (bx : Nat → Option (List Z1)) (W : World) : Prop :=
  ∀ id T xs e, bx id = some [.run T xs] → live id = some e → e.k = 2 → RowIs P W g.F e.e (g.ω id) T xs

structure AI (P : Program) (E : Ent) (g : G) (s : S) (a : Act) (W : World) : Prop where
  defers : a.defers = E.df
  tsz : E.nt ≤ a.tmps.size
  slots : ∀ t z, s.sl t = some z → ∃ v, a.tmps[t]? = some v ∧ RZ W g v z
  low : ∀ t z, s.sl t = some z → z.below s.us
  liveLow : ∀ l e, s.live l = some e → s.us l
  boxLow : ∀ id cs, s.bx id = some cs → s.us id ∧ ∀ z ∈ cs, z.below s.us
  pkLow : ∀ j, j < E.pk → s.us j
  pin : ∀ j, j < E.pk → g.ρ j = E.ρ0 j ∧ g.ω j = E.ω0 j
  b : WB E g.F W
  h : HI P E g s.live (bc s.bx) W
  r : HR P g s.live s.bx W

/-! A step of the world: more frozen, more blocks, other places for new labels and variables. -/
theorem RC.keep {W W' : World} {g g' : G} {n : Nat → Prop} {v : Value} {z : Z1}
    (k : Keeps g.F g'.F W W') (hb : z.below n) (hρ : ∀ id, n id → g'.ρ id = g.ρ id) (hω : ∀ l, n l → g'.ω l = g.ω l)
    (h : RC W g v z) : RC W' g' v z := by
  cases z with
  | d x => exact RD.keep k h
  | own l sz xs =>
    obtain ⟨h1, h2⟩ := h
    exact ⟨h1.keep k, (hω l hb).trans h2⟩
  | ptr id off => exact (show v = _ by rw [hρ id hb]; exact h)
  | nn T xs => exact ⟨h.1.keep k, h.2⟩
  | pix id off n i => exact ⟨h.1, show v = _ by rw [hρ id hb]; exact h.2⟩
  | row l T => exact ⟨(hω l hb).trans h.1, h.2⟩
  | pel l T i off => obtain ⟨b, N, cap, h1, h2⟩ := h; exact ⟨b, N, cap, (hω l hb).trans h1, h2⟩
  | run T xs => exact h
  | mref id => exact (show v = _ by rw [hρ id hb]; exact h)
  | mp k k' l => exact h
  | el cs =>
    obtain ⟨b, o, hv, vs, h1, h2⟩ := h
    refine ⟨b, o, hv, vs, fun j d hj => ?_, fun j d hj => (h2 j d hj).keep k⟩
    obtain ⟨h3, h4⟩ := h1 j d hj
    exact ⟨(k.same _ _ h4).trans h3, k.sub _ _ h4⟩

theorem RCs.keep {W W' : World} {g g' : G} {n : Nat → Prop} {vs : List Value} {cs : List Z1}
    (k : Keeps g.F g'.F W W') (hb : ∀ z ∈ cs, z.below n) (hρ : ∀ id, n id → g'.ρ id = g.ρ id) (hω : ∀ l, n l → g'.ω l = g.ω l)
    (h : RCs W g vs cs) : RCs W' g' vs cs :=
  ⟨h.1, fun j v z h1 h2 => (h.2 j v z h1 h2).keep k (hb z (List.mem_of_getElem? h2)) hρ hω⟩

theorem RV.keep {W W' : World} {g g' : G} {n : Nat → Prop} {v : Value} {z : V1}
    (k : Keeps g.F g'.F W W') (hb : z.below n) (hρ : ∀ id, n id → g'.ρ id = g.ρ id) (hω : ∀ l, n l → g'.ω l = g.ω l)
    (h : RV W g v z) : RV W' g' v z := by
  cases z with
  | c z => exact RC.keep k hb hρ hω h
  | agg cs => obtain ⟨vs, hv, hr⟩ := h; exact ⟨vs, hv, hr.keep k hb hρ hω⟩

theorem RZ.keep {W W' : World} {g g' : G} {n : Nat → Prop} {v : Value} {z : Z}
    (k : Keeps g.F g'.F W W') (hb : z.below n) (hρ : ∀ id, n id → g'.ρ id = g.ρ id) (hω : ∀ l, n l → g'.ω l = g.ω l)
    (h : RZ W g v z) : RZ W' g' v z := by
  cases z with
  | one z => exact RV.keep k hb hρ hω h
  | tup zs =>
    obtain ⟨vs, hv, hs, hr⟩ := h
    exact ⟨vs, hv, hs, fun j u z h1 h2 => RV.keep k (hb z (List.mem_of_getElem? h2)) hρ hω (hr j u z h1 h2)⟩
  | no => exact h

theorem Z1.below_mono {n m : Nat → Prop} (h : ∀ k, n k → m k) {z : Z1} (hz : z.below n) : z.below m := by
  cases z <;> first | exact h _ hz | trivial
theorem V1.below_mono {n m : Nat → Prop} (h : ∀ k, n k → m k) {z : V1} (hz : z.below n) : z.below m := by
  cases z with
  | c z => exact Z1.below_mono h hz
  | agg cs => exact fun z hz' => Z1.below_mono h (hz z hz')
theorem Z.below_mono {n m : Nat → Prop} (h : ∀ k, n k → m k) {z : Z} (hz : z.below n) : z.below m := by
  cases z with
  | one z => exact V1.below_mono h hz
  | tup zs => exact fun z hz' => V1.below_mono h (hz z hz')
  | no => trivial


theorem Rel2.mono {α : Type} {R R' : Value → α → Prop} (h : ∀ v d, R v d → R' v d) {vs : List Value} {cs : List α} (hr : Rel2 R vs cs) : Rel2 R' vs cs := ⟨hr.1, fun j v d h1 h2 => h v d (hr.2 j v d h1 h2)⟩
theorem bc_some {bx : Nat → Option (List Z1)} {i : Nat} {cs : List Z1} (h : bc bx i = some cs) : bx i = some cs ∧ isRun cs = false := by
  unfold bc at h
  split at h
  · rename_i c hc
    split at h
    · cases h
    · rename_i hn; cases h; exact ⟨hc, by simpa using hn⟩
  · cases h
theorem bc_of {bx : Nat → Option (List Z1)} {i : Nat} {cs : List Z1} (h : bx i = some cs) (hn : isRun cs = false) : bc bx i = some cs := by
  unfold bc; rw [h]; simp [hn]
theorem plain_run {cs : List Z1} (h : plainB cs = true) : isRun cs = false := by
  unfold plainB at h
  split at h
  · cases h
  · cases h
  · rename_i h1 h2
    unfold isRun
    split
    · rename_i T xs; exact absurd rfl (h1 T xs)
    · rfl
theorem BoxIs.plain {W : World} {g : G} {b : Nat} {cs : List Z1} (h : BoxIs W g b cs) (hp : plainB cs = true) : ∃ vs ty, W.heap[b]? = some (.cells vs ty (0, 0)) ∧ RCs W g vs.toList cs := by
  rcases h with h | ⟨k, k', l, _, _, rfl, _⟩
  · exact h
  · cases hp
theorem BoxIs.lt {W : World} {g : G} {b : Nat} {cs : List Z1} (h : BoxIs W g b cs) : b < W.heap.size := by
  rcases h with ⟨_, _, h, _⟩ | ⟨_, _, _, _, _, _, h, _⟩ <;> exact (Array.getElem?_eq_some_iff.1 h).1
theorem RowIs.keep {P : Program} {W W' : World} {F F' : Nat → Nat → Prop} {e : TypeId} {v : Value} {T : K} {xs : List T.den} (h : RowIs P W F e v T xs) (k : Keeps F F' W W') (hb : ∀ b, v.ownBlock = some b → W'.heap[b]? = W.heap[b]?) : RowIs P W' F' e v T xs := by
  refine h.imp id fun ⟨h0, b, cap, cur, fr, hv, hh, hr⟩ => ⟨h0, b, cap, cur, fr, hv, ?_, hr.mono fun _ _ q => q.keep k⟩
  rw [hb b (by rw [hv]; rfl)]; exact hh
end Zed
