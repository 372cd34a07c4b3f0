/- ZED, third text: the types' table, and the operations that yield a value and leave the world alone. -/
import Derived.Test.YtakamchmiakicaaDoorZedB
import Derived.Laws.Tables
import Derived.Laws.Slices
import Derived.Laws.BytesArg
import Derived.Laws.Entries
import Derived.Laws.Strings2
import Derived.Laws.IdiomStrings
namespace Zed
open Go
set_option linter.unusedVariables false
set_option linter.unusedSimpArgs false

def look {α : Type} : List (Nat × α) → Nat → Option α
  | [], _ => none
  | (i, x) :: l, t => if i = t then some x else look l t

inductive Ty where
  | int (k : IntKind) | bool | str | slice (e : TypeId) | arr (n : Nat) (e : TypeId) | struct (fs : List (Nat × TypeId)) | ptr (e : TypeId) | map (k e : TypeId) | other
structure TyI where
  ty : Ty
  size : Nat
  bytes : Nat
  zero : List X
  k : Option K
  eqf : Option (List (Nat × TypeId))

def Ty.isAgg : Ty → Bool
  | .arr _ _ | .struct _ => true
  | _ => false

def Ty.fits : Ty → TypeDesc → Prop
  | .int k, d => d = .int k
  | .bool, d => d = .bool
  | .str, d => d = .string
  | .slice e, d => d = .slice e
  | .arr n e, d => d = .array n e
  | .ptr e, d => d = .pointer e
  | .map k e, d => d = .map k e
  | .struct fs, d => ∃ l, d = .struct l ∧ l.toList.map (fun f => (f.offset, f.type)) = fs
  | .other, d => (match d with | .struct _ | .array _ _ => true | _ => false) = false

/-- A constant cell as data. -/
def constD : Value → Option X
  | .int k n => some (.int k n)
  | .bool b => some (.bool b)
  | .string s => some (.str s)
  | .nilIface => some .nilI
  | .pointer none => some .nilP
  | .map none => some .nilM
  | .slice none 0 0 => some (.sl .unit [])
  | _ => none
theorem constD_rd {W : World} {F : Nat → Nat → Prop} {v : Value} {d : X} (h : constD v = some d) : RD W F v d.raw := by
  unfold constD at h
  split at h <;> first | (cases h; constructor) | cases h

/-- The table says what the program says. -/
structure TyOk (P : Program) (t : TypeId) (i : TyI) : Prop where
  und : ∃ d, P.underlying t = some d ∧ i.ty.fits d
  info : ∃ j, P.info? t = some j ∧ j.size = i.size ∧ j.bytes = i.bytes ∧ ∃ v, j.zero = some v ∧ v.cells.size = i.size ∧ i.zero.length = i.size ∧ ∀ (q : Nat) (u : Value) (d : X), v.cells.toList[q]? = some u → i.zero[q]? = some d → constD u = some d

  plain : i.ty.isAgg = false → ∀ j v, P.info? t = some j → j.zero = some v → ∀ cs, v ≠ .agg cs
  eqf : ∀ fl, i.eqf = some fl → ∃ l : Array Field, P.underlying t = some (.struct l) ∧ fl = (l.toList.filter (fun f => f.name != "_")).map (fun f => (f.offset, f.type)) ∧ P.stoodInHeld t = false ∧ P.eqGuardType P.depth t = false

abbrev Tab := List (Nat × TyI)
def TabOk (P : Program) (tab : Tab) : Prop := ∀ t i, look tab t = some i → TyOk P t i

theorem TyOk.size {P : Program} {t : TypeId} {i : TyI} (h : TyOk P t i) (w : World) : (Go.sizeOf t).run P w = .ok i.size w := by
  obtain ⟨j, hj, hs, _⟩ := h.info
  simp [Go.sizeOf, typeInfo, hj, hs]
theorem TyOk.cells {P : Program} {t : TypeId} {i : TyI} (h : TyOk P t i) : P.cellsOf t = i.size := by
  obtain ⟨j, hj, hs, _⟩ := h.info
  simp [Program.cellsOf, hj, hs]
theorem TyOk.isAgg {P : Program} {t : TypeId} {i : TyI} (h : TyOk P t i) (w : World) : (Go.isAgg t).run P w = .ok i.ty.isAgg w := by
  obtain ⟨d, hd, hf⟩ := h.und
  cases hi : i.ty <;> rw [hi] at hf <;> simp only [Ty.fits] at hf
  case struct fs => obtain ⟨l, rfl, _⟩ := hf; simp [Go.isAgg, run_underlying hd, Ty.isAgg]
  case other => cases d <;> simp_all [Go.isAgg, run_underlying hd, Ty.isAgg]
  all_goals (subst hf; simp [Go.isAgg, run_underlying hd, Ty.isAgg])

/-- What is read at an address of a type: cells from it on. -/
def readZ (i : TyI) (cs : List Z1) : Option V1 :=
  if i.ty.isAgg then (if i.size ≤ cs.length then some (.agg (cs.take i.size)) else none)
  else match cs with
    | z :: _ => some (.c z)
    | [] => none

theorem addr_add (b o n : Nat) : (⟨b, o, none⟩ : Addr).add n = ⟨b, o + n, none⟩ := by unfold Addr.add; split <;> simp_all

section
variable {P : Program} {g : G} {W : World}

theorem readZ_run {t : TypeId} {i : TyI} (hi : TyOk P t i) {b o : Nat} {cs : List Z1} {vs : Nat → Value}
    (h : ∀ (j : Nat) (d : Z1), cs[j]? = some d → W.cell? ⟨b, o + j, none⟩ = some (vs j)) (hr : ∀ (j : Nat) (d : Z1), cs[j]? = some d → RC W g (vs j) d)
    {z : V1} (hz : readZ i cs = some z) : ∃ v, (loadVar t ⟨b, o, none⟩).run P W = .ok v W ∧ RV W g v z := by
  unfold readZ at hz
  by_cases ha : i.ty.isAgg = true
  · rw [if_pos ha] at hz
    by_cases hle : i.size ≤ cs.length
    · rw [if_pos hle] at hz
      cases hz
      have hl : (loadCells ⟨b, o, none⟩ i.size).run P W = .ok ((List.range i.size).map vs).toArray W := by
        have := run_loadCells_list (P := P) W ⟨b, o, none⟩ ((List.range i.size).map vs) (fun j v hj => by
          have hjl : j < i.size := by
            rcases Nat.lt_or_ge j i.size with h1 | h1
            · exact h1
            · simp [List.getElem?_eq_none (show (List.range i.size).length ≤ j by simpa using h1)] at hj
          rw [addr_add]
          have hc : cs[j]? = some cs[j] := List.getElem?_eq_getElem (by omega)
          rw [h j _ hc]
          simp [hjl] at hj
          rw [hj])
        simpa using this
      refine ⟨.agg ((List.range i.size).map vs).toArray, ?_, ((List.range i.size).map vs).toArray, rfl, ?_, ?_⟩
      · simp [loadVar, hi.isAgg, ha, hi.size, hl]
      · simp; omega
      · intro j v d hv hd
        have hjl : j < i.size := by
          rcases Nat.lt_or_ge j i.size with h1 | h1
          · exact h1
          · simp [List.getElem?_eq_none (show (cs.take i.size).length ≤ j by simp; omega)] at hd
        rw [List.getElem?_take_of_lt hjl] at hd
        simp [hjl] at hv
        rw [← hv]
        exact hr j d hd
    · rw [if_neg hle] at hz; cases hz
  · rw [if_neg ha] at hz
    cases cs with
    | nil => cases hz
    | cons d cs =>
      cases hz
      have h0 := h 0 d rfl
      have r0 := hr 0 d rfl
      refine ⟨vs 0, ?_, r0⟩
      have ha' : i.ty.isAgg = false := by simpa using ha
      simp only [Nat.add_zero] at h0
      simp [loadVar, hi.isAgg, ha', h0]

theorem readZ_below {i : TyI} {cs : List Z1} {z : V1} (hz : readZ i cs = some z) {n : Nat → Prop} (hc : ∀ c ∈ cs, c.below n) : z.below n := by
  unfold readZ at hz
  split at hz
  · split at hz
    · cases hz; exact fun c h => hc c (List.mem_of_mem_take h)
    · cases hz
  · split at hz
    · cases hz; exact hc _ (List.mem_cons_self)
    · cases hz
end

end Zed
