/- ZED, fifth text: more operations that yield a value and leave the world alone. -/
import Derived.Test.YtakamchmiakicaaDoorZedD
import Derived.Laws.Strings
import Derived.Laws.Strings3
import Derived.Laws.DeepStrings4
namespace Zed
open Go
set_option linter.unusedVariables false
set_option linter.unusedSimpArgs false

/-- Cells that are numbers of one kind. -/
def intsZ : List Z1 → Option (IntKind × List Int)
  | [] => none
  | .d (.int k n) :: r => match intsZ r with
    | some (k', l) => if k = k' then some (k, n :: l) else none
    | none => if r.isEmpty then some (k, [n]) else none
  | _ => none
/-- Cells that are strings. -/
def textsZ : List Z1 → Option (List ByteArray)
  | [] => some []
  | .d (.str s) :: r => (textsZ r).map fun l => s :: l
  | _ => none
theorem textsZ_map : ∀ {cs : List Z1} {ss : List ByteArray}, textsZ cs = some ss → cs = ss.map fun s => .d (.str s)
  | [], ss, h => by cases h; rfl
  | z :: r, ss, h => by
    unfold textsZ at h
    split at h
    · rename_i e; cases e
    · rename_i s r' e
      cases e
      obtain ⟨l, h1, rfl⟩ := Option.map_eq_some_iff.1 h
      rw [textsZ_map h1]; rfl
    · cases h
def textsAt (m k : Nat) (ss : List ByteArray) : List Z1 := (List.range m).map fun j => .d (.str (ss.getD (k + j) ByteArray.empty))
theorem textsZ_take {cs : List Z1} {ss : List ByteArray} (h : textsZ cs = some ss) {m k : Nat} (hl : k + m ≤ ss.length) : (cs.drop k).take m = textsAt m k ss ∧ m ≤ (cs.drop k).length := by
  rw [textsZ_map h]
  refine ⟨?_, by simp; omega⟩
  apply List.ext_getElem?
  intro j
  unfold textsAt
  by_cases hj : j < m
  · rw [List.getElem?_take_of_lt hj, List.getElem?_drop, List.getElem?_map, List.getElem?_map, List.getElem?_range hj, List.getElem?_eq_getElem (by omega)]
    simp [List.getD, List.getElem?_eq_getElem (show k + j < ss.length by omega)]
  · rw [List.getElem?_eq_none (by simp; omega), List.getElem?_eq_none (by simp; omega)]
theorem intsZ_drop : ∀ {cs : List Z1} {k : IntKind} {ns : List Int}, intsZ cs = some (k, ns) → ∀ j, j < ns.length → ∃ t, cs.drop j = .d (.int k (ns.getD j 0)) :: t
  | [], k, ns, h => by simp [intsZ] at h
  | z :: r, k, ns, h => by
    unfold intsZ at h
    split at h
    · cases h
    · rename_i k0 n r' e
      cases e
      split at h
      · rename_i k' l h1
        split at h
        · rename_i hk
          subst hk
          cases h
          intro j hj
          cases j with
          | zero => exact ⟨r, by simp⟩
          | succ j =>
            obtain ⟨t, ht⟩ := intsZ_drop h1 j (by simpa using hj)
            exact ⟨t, by simpa using ht⟩
        · cases h
      · split at h
        · cases h
          intro j hj
          obtain rfl : j = 0 := by simpa using hj
          exact ⟨r, by simp⟩
        · cases h
    · cases h
def intZ : V1 → Option Int
  | .c (.d (.int _ n)) => some n
  | _ => none

/-- Of an operand that may be missing. -/
def optZ (g : Operand → Option V1) : Option Operand → Option (Option Int)
  | none => some none
  | some x => ((g x).bind intZ).map some

def cutOk (len : Nat) (lo hi mx : Option Int) : Prop :=
  0 ≤ lo.getD 0 ∧ lo.getD 0 ≤ hi.getD len ∧ hi.getD len ≤ len ∧ (match mx, hi with | none, _ => True | some m, some h => h ≤ m ∧ m ≤ len | some _, none => False)

instance (len : Nat) (lo hi mx : Option Int) : Decidable (cutOk len lo hi mx) := by
  unfold cutOk
  cases mx <;> cases hi <;> infer_instance

def byteAt (s : ByteArray) (i : Int) : Int := if h : i.toNat < s.size then ((s[i.toNat]'h).toNat : Int) else 0

def fieldZ (tab : Tab) (t : TypeId) (f : Nat) : Option (Nat × TyI) :=
  match look tab t with
  | some ⟨.struct fs, _, _, _, _, _⟩ => (fs[f]?).bind fun p => (look tab p.2).map fun i => (p.1, i)
  | _ => none

/-- Parts laid into cells. -/
def fillD {α : Type} (place : Nat → Option (Nat × Nat)) (cs : List α) : List (Nat × List α) → Option (List α)
  | [] => some cs
  | (i, v) :: rest =>
    match place i with
    | none => none
    | some (off, size) => if v.length = size ∧ off + size ≤ cs.length then fillD place (cs.take off ++ v ++ cs.drop (off + size)) rest else none

def places (tab : Tab) (fs : List (Nat × TypeId)) : Option (List (Nat × Nat)) := fs.mapM fun p => (look tab p.2).map fun i => (p.1, i.size)

def partsZ (g : Operand → Option V1) : List (Nat × Operand) → Option (List (Nat × List Z1))
  | [] => some []
  | (i, x) :: l => match g x, partsZ g l with
    | some v, some r => some ((i, v.cells) :: r)
    | _, _ => none

def buildZ (tab : Tab) (t : TypeId) (ps : List (Nat × List Z1)) : Option (List Z1) :=
  match look tab t with
  | some ⟨.struct fs, _, _, zero, _, _⟩ => (places tab fs).bind fun pl => fillD (pl[·]?) (zero.map Z1.d) ps
  | some ⟨.arr _ e, _, _, zero, _, _⟩ => (look tab e).bind fun i => fillD (fun q => some (q * i.size, i.size)) (zero.map Z1.d) ps
  | _ => none

def lenZ (tab : Tab) (t : TypeId) (z : V1) : Option Int :=
  match (look tab t).map TyI.ty with
  | some .str => match z with
    | .c (.d (.str s)) => some s.size
    | _ => none
  | some (.slice _) => match z.asD with
    | some (.sl _ xs) => some xs.length
    | _ => none
  | _ => none

def convZ (tab : Tab) (src dst : TypeId) (z : V1) : Option (X × Option Prop) :=
  match (look tab src).map TyI.ty, (look tab dst).map TyI.ty with
  | some (.int _), some (.int k) => match z with
    | .c (.d (.int _ n)) => some (.int k (k.wrap n), none)
    | _ => none
  | some .str, some .str => match z with
    | .c (.d (.str s)) => some (.str s, none)
    | _ => none
  | some (.slice e), some .str =>
    match (look tab e).map TyI.ty, z.asD with
    | some (.int .u8), some (.sl (.int .u8) xs) => some (.str (strOfNums xs), none)
    | some (.int .u8), some (.sl .unit _) => some (.str (strOfNums []), none)
    | _, _ => none
  | _, _ => none

def unZ (op : UnOp) (z : V1) : Option X :=
  match op, z with
  | .neg, .c (.d (.int k n)) => some (.int k (k.wrap (0 - n)))
  | .xor, .c (.d (.int k n)) => some (.int k (bits .xor k (if k.signed then -1 else k.max) n))
  | .not, .c (.d (.bool b)) => some (.bool !b)
  | _, _ => none

/-- Fields that count, one by one. -/
def eqF (tab : Tab) (f : TypeId → V1 → V1 → Option Bool) (xs ys : List Z1) : List (Nat × TypeId) → Option Bool
  | [] => some true
  | (off, t) :: r => match look tab t with
    | none => none
    | some i => match readZ i (xs.drop off), readZ i (ys.drop off) with
      | some v, some w => match f t v w, r with
        | some b, [] => some b
        | some b, _ :: _ => match eqF tab f xs ys r with
          | some c => some (b && c)
          | none => none
        | none, _ => none
      | _, _ => none
def eqZ (tab : Tab) : Nat → TypeId → V1 → V1 → Option Bool
  | 0, _, _, _ => none
  | n + 1, t, v, w => match look tab t with
    | none => none
    | some i => match i.ty, v, w with
      | .int _, .c (.d (.int k a)), .c (.d (.int k' b)) => if k = k' then some (a == b) else none
      | .bool, .c (.d (.bool a)), .c (.d (.bool b)) => some (a == b)
      | .str, .c (.d (.str a)), .c (.d (.str b)) => some (a.toList == b.toList)
      | .struct _, .agg xs, .agg ys => match i.eqf with
        | some fl => eqF tab (eqZ tab n) xs ys fl
        | none => none
      | _, _, _ => none

def ptrZ : V1 → Bool
  | .c (.ptr _ _) => true
  | .c (.el _) => true
  | .c (.pix _ _ _ _) => true
  | .c (.pel _ _ _ _) => true
  | _ => false

def valOp (tab : Tab) (bx : Nat → Option (List Z1)) (g : Operand → Option V1) : Op → Option (V1 × Option Prop)
  | .move x | .assign x => (g x).map fun v => (v, none)
  | .nilCheck x => (g x).bind fun v => match v with
    | .c (.d (.pt t)) => some (.c (.el [.int .i64 t.op, .int .i64 t.num, .pt t.fst, .pt t.snd]), some (t.isNil = false))
    | v => if ptrZ v then some (v, none) else none
  | .pick c a b => match g c with
    | some (.c (.d (.bool true))) => (g a).map fun v => (v, none)
    | some (.c (.d (.bool false))) => (g b).map fun v => (v, none)
    | _ => none
  | .unOp op _ x => (g x).bind fun z => (unZ op z).map fun d => (.c (.d d), none)
  | .binOp op t x y _ => match g x, g y with
    | some (.agg xs), some (.agg ys) => (eqZ tab 8 t (.agg xs) (.agg ys)).bind fun b => (binP op b).map fun p => (.c (.d p.1), p.2)
    | some a, some b => (binZ tab op t a b).map fun p => (.c (.d p.1), p.2)
    | _, _ => none
  | .convert src dst x => (g x).bind fun z => (convZ tab src dst z).map fun p => (.c (.d p.1), p.2)
  | .field t x f => match g x, fieldZ tab t f with
    | some (.agg cs), some (off, i) => (readZ i (cs.drop off)).map fun v => (v, none)
    | _, _ => none
  | .fieldAddr t x f => match g x, fieldZ tab t f with
    | some (.c (.ptr id o)), some (off, i) => if i.size = 0 then none else some (.c (.ptr id (o + off)), none)
    | some (.c (.el cs)), some (off, i) => if i.size = 0 then none else some (.c (.el (cs.drop off)), none)
    | some (.c (.pel l T q o)), some (off, i) => if i.size = 0 then none else some (.c (.pel l T q (o + off)), none)
    | _, _ => none
  | .indexAddr t x ix => match (look tab t).map TyI.ty, g x, (g ix).bind intZ with
    | some (.slice e), some z, some i =>
      match z.asD, look tab e with
      | some (.sl T xs), some ei => if T.size = ei.size then some (.c (.el (T.row (xs.getD i.toNat T.dflt))), some (0 ≤ i ∧ i < xs.length)) else none
      | _, _ => none
    | some (.arr n e), some (.c (.ptr id o)), some i =>
      match look tab e with
      | some ei => some (.c (.ptr id (o + i.toNat * ei.size)), some (0 ≤ i ∧ i < n))
      | none => none
    | some (.arr n e), some (.c (.el cs)), some i =>
      match look tab e with
      | some ei => some (.c (.el (cs.drop (i.toNat * ei.size))), some (0 ≤ i ∧ i < n))
      | none => none
    | _, _, _ => none
  | .index t x ix => match (look tab t).map TyI.ty, g x, (g ix).bind intZ with
    | some .str, some (.c (.d (.str s))), some i => some (.c (.d (.int .u8 (byteAt s i))), some (0 ≤ i ∧ i < s.size))
    | some (.arr n e), some (.agg cs), some i =>
      match look tab e with
      | some ei => match intsZ cs with
        | some (k, ns) => if ei.ty.isAgg = false ∧ ei.size = 1 ∧ ns.length = n then some (.c (.d (.int k (ns.getD i.toNat 0))), some (0 ≤ i ∧ i < n)) else (readZ ei (cs.drop (i.toNat * ei.size))).map fun v => (v, some (0 ≤ i ∧ i < n))
        | none => match textsZ cs with
          | some ss => if ei.ty.isAgg = true ∧ ss.length = n * ei.size then some (.agg (textsAt ei.size (i.toNat * ei.size) ss), some (0 ≤ i ∧ i < n)) else (readZ ei (cs.drop (i.toNat * ei.size))).map fun v => (v, some (0 ≤ i ∧ i < n))
          | none => (readZ ei (cs.drop (i.toNat * ei.size))).map fun v => (v, some (0 ≤ i ∧ i < n))
      | none => none
    | _, _, _ => none
  | .load t x => match look tab t, g x with
    | some i, some (.c (.el cs)) => (readZ i (cs.map Z1.d)).map fun v => (v, none)
    | some i, some (.c (.ptr id o)) => (bx id).bind fun cs => if plainB cs then (readZ i (cs.drop o)).map fun v => (v, none) else none
    | _, _ => none
  | .slice t x lo hi mx => match (look tab t).map TyI.ty, g x, optZ g lo, optZ g hi, optZ g mx with
    | some (.slice e), some z, some lo, some hi, some mx =>
      match z.asD, look tab e with
      | some (.sl T xs), some ei => if T.size = ei.size ∨ T.size = 0 then some (.c (.d (.sl T ((xs.take (hi.getD xs.length).toNat).drop (lo.getD 0).toNat))), some (cutOk xs.length lo hi mx)) else none
      | _, _ => none
    | some .str, some (.c (.d (.str s))), some lo, some hi, some none => some (.c (.d (.str (s.extract (lo.getD 0).toNat (hi.getD s.size).toNat))), some (cutOk s.size lo hi none))
    | _, _, _, _, _ => none
  | .build t ps => (partsZ g ps.toList).bind fun l => (buildZ tab t l).map fun cs => (.agg cs, none)
  | .call ⟨.builtin .len, args, ats⟩ => match args.toList, ats.toList with
    | [x], t :: _ => (g x).bind fun z => (lenZ tab t z).map fun n => (.c (.d (.int .i64 n)), none)
    | _, _ => none
  | .call ⟨.builtin .min, args, _⟩ => match args.toList.map g with
    | [some (.c (.d (.int k a))), some (.c (.d (.int k' b)))] => if k = k' then some (.c (.d (.int k (if b < a then b else a))), none) else none
    | _ => none
  | .call ⟨.builtin .max, args, _⟩ => match args.toList.map g with
    | [some (.c (.d (.int k a))), some (.c (.d (.int k' b)))] => if k = k' then some (.c (.d (.int k (if a < b then b else a))), none) else none
    | _ => none
  | _ => none

end Zed
