/- ZED, twenty-fourth text: a program's table of types. -/
import Derived.Test.YtakamchmiakicaaDoorZedW
namespace Zed
open Go
set_option linter.unusedVariables false
set_option linter.unusedSimpArgs false

def tyOf : TypeDesc → Ty
  | .int k => .int k
  | .bool => .bool
  | .string => .str
  | .slice e => .slice e
  | .array n e => .arr n e
  | .struct l => .struct (l.toList.map fun f => (f.offset, f.type))
  | .pointer e => .ptr e
  | .map k e => .map k e
  | _ => .other
def zerosD : List Value → Option (List X)
  | [] => some []
  | v :: r => match constD v, zerosD r with
    | some d, some l => some (d :: l)
    | _, _ => none
def pairK : List K → K
  | [] => .unit
  | [a] => a
  | a :: r => .pair a (pairK r)
def isI64 (P : Program) (t : TypeId) : Bool := match P.underlying t with
  | some (.int .i64) => true
  | _ => false
/-- A pointer to a node of two numbers and two such pointers. -/
def treeP (P : Program) (t : TypeId) : Bool := match P.underlying t with
  | some (.pointer e) => match P.underlying e with
    | some (.struct l) => match l.toList.map (·.type) with
      | [a, b, c, d] => isI64 P a && isI64 P b && c == t && d == t
      | _ => false
    | _ => false
  | _ => false
/-- A row of nodes of two numbers and such a row. -/
def woodP (P : Program) (t : TypeId) : Bool := match P.underlying t with
  | some (.slice e) => match P.underlying e with
    | some (.struct l) => match l.toList.map (·.type) with
      | [a, b, c] => isI64 P a && isI64 P b && c == t
      | _ => false
    | _ => false
  | _ => false
/-- A type's kind, if its values are plain data. -/
def kOf (P : Program) : Nat → TypeId → Option K
  | 0, _ => none
  | n + 1, t => if treeP P t then some .tree else if woodP P t then some .wood else match P.underlying t with
    | some (.int k) => some (.int k)
    | some .bool => some .bool
    | some .string => some .str
    | some (.slice e) => (kOf P n e).map .slice
    | some (.array m e) => (kOf P n e).map fun a => pairK (List.replicate m a)
    | some (.struct l) => (l.toList.mapM fun f => kOf P n f.type).map pairK
    | _ => none
def eqOf (P : Program) (t : TypeId) : Option (List (Nat × TypeId)) :=
  match P.underlying t with
  | some (.struct l) => if P.stoodInHeld t || P.eqGuardType P.depth t then none else some ((l.toList.filter (fun f => f.name != "_")).map (fun f => (f.offset, f.type)))
  | _ => none
theorem eqOf_spec {P : Program} {t : TypeId} {fl : List (Nat × TypeId)} (h : eqOf P t = some fl) : ∃ l : Array Field, P.underlying t = some (.struct l) ∧ fl = (l.toList.filter (fun f => f.name != "_")).map (fun f => (f.offset, f.type)) ∧ P.stoodInHeld t = false ∧ P.eqGuardType P.depth t = false := by
  unfold eqOf at h
  split at h
  · rename_i l hl
    split at h
    · cases h
    · rename_i hc
      cases h
      simp only [Bool.or_eq_true, not_or, Bool.not_eq_true] at hc
      exact ⟨l, hl, rfl, hc.1, hc.2⟩
  · cases h
def isAggV : Value → Bool
  | .agg _ => true
  | _ => false
def tyI (P : Program) (t : TypeId) : Option TyI :=
  match P.underlying t, P.info? t with
  | some d, some j => match j.zero with
    | some v => match zerosD v.cells.toList with
      | some z => if z.length = j.size ∧ ((tyOf d).isAgg || !(isAggV v)) = true then some ⟨tyOf d, j.size, j.bytes, z, kOf P 8 t, eqOf P t⟩ else none
      | none => none
    | none => none
  | _, _ => none
def tabOf (P : Program) : List TypeId → Tab
  | [] => []
  | t :: r => match tyI P t with
    | some i => (t, i) :: tabOf P r
    | none => tabOf P r

theorem zerosD_spec : ∀ {vs : List Value} {z : List X}, zerosD vs = some z → vs.length = z.length ∧ ∀ (q : Nat) (u : Value) (d : X), vs[q]? = some u → z[q]? = some d → constD u = some d
  | [], z, h => by simp [zerosD] at h; subst h; simp
  | v :: r, z, h => by
    simp only [zerosD] at h
    split at h
    · rename_i d l h1 h2
      cases h
      obtain ⟨q1, q2⟩ := zerosD_spec h2
      refine ⟨by simp [q1], fun q u c hu hc => ?_⟩
      cases q with
      | zero => simp at hu hc; subst hu; subst hc; exact h1
      | succ q => exact q2 q u c (by simpa using hu) (by simpa using hc)
    · cases h

theorem tyI_ok {P : Program} {t : TypeId} {i : TyI} (h : tyI P t = some i) : TyOk P t i := by
  unfold tyI at h
  split at h
  · rename_i d j hd hj
    split at h
    · rename_i v hv
      split at h
      · rename_i z hz
        split at h
        · rename_i hl
          obtain ⟨hl, hag⟩ := hl
          cases h
          obtain ⟨q1, q2⟩ := zerosD_spec hz
          refine ⟨⟨d, hd, ?_⟩, ⟨j, hj, rfl, rfl, v, hv, ?_, hl, q2⟩, fun hna j' v' hj' hv' cs e => ?_, fun fl h => eqOf_spec h⟩
          rotate_left 2
          · rw [hj] at hj'; cases hj'
            rw [hv] at hv'; cases hv'
            have hna : (tyOf d).isAgg = false := hna
            rw [hna, e] at hag
            simp [isAggV] at hag
          · cases d <;> simp [tyOf, Ty.fits]
          · rw [← hl, ← q1]; simp
        · cases h
      · cases h
    · cases h
  · cases h

theorem tabOf_ok (P : Program) : ∀ (ts : List TypeId), TabOk P (tabOf P ts)
  | [], t, i, h => by cases h
  | t0 :: r, t, i, h => by
    simp only [tabOf] at h
    split at h
    · rename_i i0 h0
      simp only [look] at h
      split at h
      · rename_i he; subst he; cases h; exact tyI_ok h0
      · exact tabOf_ok P r t i h
    · exact tabOf_ok P r t i h
theorem tabOk_of {P : Program} {ts : List TypeId} {tab : Tab} (h : tabOf P ts = tab) : TabOk P tab := h ▸ tabOf_ok P ts

/-! Points: the code from a region on. -/
def findR (r : Nat) : Code → List Item → Option (List Item)
  | .region id ops draw, k => if id = r then some (.code (.region id ops draw) :: k) else none
  | .seq a b, k => match findR r a (.code b :: k) with
    | some x => some x
    | none => findR r b k
  | .cond _ x y, k => match findR r x k with
    | some x => some x
    | none => findR r y k
  | .block id c, k => findR r c (.inBlock id :: k)
  | .loop c, k => findR r c (.inLoop c :: k)
  | .scope c, k => findR r c (.inScope c :: k)
  | _, _ => none
def ptOf (fn : Func) (r : Nat) : List Item := match fn.body with
  | some c => (findR r c []).getD []
  | none => []

/-- From the region r on. -/
def At (P : Program) (fn : Func) (pk r : Nat) (s : St) (o : Out) : Prop := Runs P fn.results fn.ntmps pk (ptOf fn r) s o

section
variable {P : Program} {tab : Tab}

theorem At.step {fn : Func} {pk r : Nat} (hmix : P.follows .mixedOrders = true) (ht : TabOk P tab) (h : How) (r2 : Nat) (s2 : St) (C : List Prop) {s : St} {o : Out} (hs : stepZ P tab fn.ntmps pk h (ptOf fn r) s = some (ptOf fn r2, s2, C)) (hC : AllC C) (hr : At P fn pk r2 s2 o) : At P fn pk r s o :=
  Runs.step hmix ht h hs hC hr
theorem At.fin {fn : Func} {pk r : Nat} (hmix : P.follows .mixedOrders = true) (ht : TabOk P tab) (h : How) (C : List Prop) {s : St} {o : Out} (hs : endZ P tab fn.results.toList fn.ntmps pk h (ptOf fn r) s = some (o, C)) (hC : AllC C) : At P fn pk r s o :=
  Runs.fin hmix ht h hs hC
theorem At.fn {f : FuncId} {fn : Func} {c : Code} {r : Nat} (hf : P.funcs[f]? = some fn) (hb : fn.body = some c) (hname : (fn.name == "runtime.NumGoroutine") = false) {i : Inn} {o : Out} (hi : i.ok = true) (ho : o.ok i = true)
    (ha : Zed.adm 1000 [.code c] = ptOf fn r) (hr : At P fn i.n r i.st o) : FnOK P f i o :=
  FnOK.of hf hb hname hi ho (Runs.adm (n := 1000) (ha ▸ hr))
end
end Zed
