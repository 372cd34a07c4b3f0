/- Texts ZedX, ZedY, ZedZ of our own machine for the walk of WholeChallenges, one behind the other. -/
import Derived.WalkKit
import Derived.ProofKit
import Derived.OpenShut
import Derived.ShutString
import Derived.ChangeOld
import Derived.Carry
import Derived.SizedLaws
import Derived.Test.YtiammpabkpoidaaGreatW14
namespace Zed
open Go
set_option linter.unusedVariables false
set_option linter.unusedSimpArgs false

noncomputable def tyOf : TypeDesc → Ty
  | .int k => .int k
  | .bool => .bool
  | .string => .str
  | .slice e => .slice e
  | .array n e => .arr n e
  | .struct l => .struct (l.toList.map fun f => (f.offset, f.type))
  | .pointer e => .ptr e
  | .map k e => .map k e
  | _ => .other
noncomputable def zerosD : List Value → Option (List X)
  | [] => some []
  | v :: r => match constD v, zerosD r with
    | some d, some l => some (d :: l)
    | _, _ => none
noncomputable def pairK : List K → K
  | [] => .unit
  | [a] => a
  | a :: r => .pair a (pairK r)
noncomputable def isI64 (P : Program) (t : TypeId) : Bool := match P.underlying t with
  | some (.int .i64) => true
  | _ => false
/-- A pointer to a node of two numbers and two such pointers. -/
noncomputable def treeP (P : Program) (t : TypeId) : Bool := match P.underlying t with
  | some (.pointer e) => match P.underlying e with
    | some (.struct l) => match l.toList.map (·.type) with
      | [a, b, c, d] => isI64 P a && isI64 P b && c == t && d == t
      | _ => false
    | _ => false
  | _ => false
/-- A row of nodes of two numbers and such a row. -/
noncomputable def woodP (P : Program) (t : TypeId) : Bool := match P.underlying t with
  | some (.slice e) => match P.underlying e with
    | some (.struct l) => match l.toList.map (·.type) with
      | [a, b, c] => isI64 P a && isI64 P b && c == t
      | _ => false
    | _ => false
  | _ => false
/-- A type's kind, if its values are plain data. -/
noncomputable def kOf (P : Program) : Nat → TypeId → Option K
  | 0, _ => none
  | n + 1, t => if treeP P t then some .tree else if woodP P t then some .wood else match P.underlying t with
    | some (.int k) => some (.int k)
    | some .bool => some .bool
    | some .string => some .str
    | some (.slice e) => (kOf P n e).map .slice
    | some (.array m e) => (kOf P n e).map fun a => pairK (List.replicate m a)
    | some (.struct l) => (l.toList.mapM fun f => kOf P n f.type).map pairK
    | _ => none
noncomputable def eqOf (P : Program) (t : TypeId) : Option (List (Nat × TypeId)) :=
  match P.underlying t with
  | some (.struct l) => if P.stoodInHeld t || P.eqGuardType P.depth t then none else some ((l.toList.filter (fun f => f.name != "_")).map (fun f => (f.offset, f.type)))
  | _ => none
theorem eqOf_spec {P : Program} {t : TypeId} {fl : List (Nat × TypeId)} (h : eqOf P t = some fl) : ∃ l : Array Field, P.underlying t = some (.struct l) ∧ fl = (l.toList.filter (fun f => f.name != "_")).map (fun f => (f.offset, f.type)) ∧ P.stoodInHeld t = false ∧ P.eqGuardType P.depth t = false := by
  unfold eqOf at h
  split at h
  · rename_i l hl
    split at h
    · cases h
    · rename_i hc
      cases h
      simp only [Bool.or_eq_true, not_or, Bool.not_eq_true] at hc
      exact ⟨l, hl, rfl, hc.1, hc.2⟩
  · cases h
noncomputable def isAggV : Value → Bool
  | .agg _ => true
  | _ => false
noncomputable def tyI (P : Program) (t : TypeId) : Option TyI :=
  match P.underlying t, P.info? t with
  | some d, some j => match j.zero with
    | some v => match zerosD v.cells.toList with
      | some z => if z.length = j.size ∧ ((tyOf d).isAgg || !(isAggV v)) = true then some ⟨tyOf d, j.size, j.bytes, z, kOf P 8 t, eqOf P t⟩ else none
      | none => none
    | none => none
  | _, _ => none
noncomputable def tabOf (P : Program) : List TypeId → List (Nat × TyI)
  | [] => []
  | t :: r => match tyI P t with
    | some i => (t, i) :: tabOf P r
    | none => tabOf P r

theorem zerosD_spec : ∀ {vs : List Value} {z : List X}, zerosD vs = some z → vs.length = z.length ∧ ∀ (q : Nat) (u : Value) (d : X), vs[q]? = some u → z[q]? = some d → constD u = some d
  | [], z, h => by simp [zerosD] at h; subst h; simp
  | v :: r, z, h => by
    simp only [zerosD] at h
    split at h
    · rename_i d l h1 h2
      cases h
      obtain ⟨q1, q2⟩ := zerosD_spec h2
      refine ⟨by simp [q1], fun q u c hu hc => ?_⟩
      cases q with
      | zero => simp at hu hc; subst hu; subst hc; exact h1
      | succ q => exact q2 q u c (by simpa using hu) (by simpa using hc)
    · cases h

theorem tyI_ok {P : Program} {t : TypeId} {i : TyI} (h : tyI P t = some i) : TyOk P t i := by
  unfold tyI at h
  split at h
  · rename_i d j hd hj
    split at h
    · rename_i v hv
      split at h
      · rename_i z hz
        split at h
        · rename_i hl
          obtain ⟨hl, hag⟩ := hl
          cases h
          obtain ⟨q1, q2⟩ := zerosD_spec hz
          refine ⟨⟨d, hd, ?_⟩, ⟨j, hj, rfl, rfl, v, hv, ?_, hl, q2⟩, fun hna j' v' hj' hv' cs e => ?_, fun fl h => eqOf_spec h⟩
          rotate_left 2
          · rw [hj] at hj'; cases hj'
            rw [hv] at hv'; cases hv'
            have hna : (tyOf d).isAgg = false := hna
            rw [hna, e] at hag
            simp [isAggV] at hag
          · cases d <;> simp [tyOf, Ty.fits]
          · rw [← hl, ← q1]; simp
        · cases h
      · cases h
    · cases h
  · cases h

theorem tabOf_ok (P : Program) : ∀ (ts : List TypeId) (t : TypeId) (i : TyI), look (tabOf P ts) t = some i → TyOk P t i
  | [], t, i, h => by cases h
  | t0 :: r, t, i, h => by
    simp only [tabOf] at h
    split at h
    · rename_i i0 h0
      simp only [look] at h
      split at h
      · rename_i he; subst he; cases h; exact tyI_ok h0
      · exact tabOf_ok P r t i h
    · exact tabOf_ok P r t i h

/-! Points: the code from a region on. -/
noncomputable def findR (r : Nat) : Code → List Item → Option (List Item)
  | .region id ops draw, k => if id = r then some (.code (.region id ops draw) :: k) else none
  | .seq a b, k => match findR r a (.code b :: k) with
    | some x => some x
    | none => findR r b k
  | .cond _ x y, k => match findR r x k with
    | some x => some x
    | none => findR r y k
  | .block id c, k => findR r c (.inBlock id :: k)
  | .loop c, k => findR r c (.inLoop c :: k)
  | .scope c, k => findR r c (.inScope c :: k)
  | _, _ => none
noncomputable def ptOf (fn : Func) (r : Nat) : List Item := match fn.body with
  | some c => (findR r c []).getD []
  | none => []

/-- From the region r on. -/
noncomputable def At (P : Program) (fn : Func) (pk r : Nat) (s : St) (o : Out) : Prop := Runs P fn.results fn.ntmps pk (ptOf fn r) s o

section
variable {P : Program} {tab : Tab}

theorem At.step {fn : Func} {pk r : Nat} (hmix : P.follows .mixedOrders = true) (ht : TabOk P tab) (h : How) (r2 : Nat) (s2 : St) (C : List Prop) {s : St} {o : Out} (hs : stepZ P tab fn.ntmps pk h (ptOf fn r) s = some (ptOf fn r2, s2, C)) (hC : AllC C) (hr : At P fn pk r2 s2 o) : At P fn pk r s o :=
  Runs.step hmix ht h hs hC hr
theorem At.fin {fn : Func} {pk r : Nat} (hmix : P.follows .mixedOrders = true) (ht : TabOk P tab) (h : How) (C : List Prop) {s : St} {o : Out} (hs : endZ P tab fn.results.toList fn.ntmps pk h (ptOf fn r) s = some (o, C)) (hC : AllC C) : At P fn pk r s o :=
  Runs.fin hmix ht h hs hC
theorem At.fn {f : FuncId} {fn : Func} {c : Code} {r : Nat} (hf : P.funcs[f]? = some fn) (hb : fn.body = some c) (hname : (fn.name == "runtime.NumGoroutine") = false) {i : Inn} {o : Out} (hi : i.ok = true) (ho : o.ok i = true)
    (ha : Zed.adm 1000 [.code c] = ptOf fn r) (hr : At P fn i.n r i.st o) : FnOK P f i o :=
  FnOK.of hf hb hname hi ho (Runs.adm (n := 1000) (ha ▸ hr))
end
end Zed
namespace Zed
open Go
set_option linter.unusedVariables false
set_option linter.unusedSimpArgs false

theorem ifS {α : Type} {c : Prop} [Decidable c] {t : Option α} {r : α} (h : (if c then t else none) = some r) : c ∧ t = some r := by
  by_cases hc : c
  · rw [if_pos hc] at h; exact ⟨hc, h⟩
  · rw [if_neg hc] at h; cases h
theorem iteS {α : Type} {b : Bool} {t e : Option α} {r : α} (h : (if b = true then t else e) = some r) : (b = true ∧ t = some r) ∨ (b = false ∧ e = some r) := by
  cases b
  · exact .inr ⟨rfl, by simpa using h⟩
  · exact .inl ⟨rfl, by simpa using h⟩
theorem bindS {α β : Type} {o : Option α} {f : α → Option β} {r : β} (h : o.bind f = some r) : ∃ x, o = some x ∧ f x = some r := obind h
end Zed
namespace Zed
open Go Go.ChangeShapes Go.WideShapes Go.RowKit
set_option linter.unusedVariables false
set_option linter.unusedSimpArgs false

noncomputable def up (o a : Nat) : Nat := (o + a - 1) / a * a
noncomputable def ikBytes : IntKind → Nat
  | .i8 | .u8 => 1
  | .i16 | .u16 => 2
  | .i32 | .u32 => 4
  | .i64 | .u64 => 8
noncomputable def K.align : K → Nat
  | .unit => 1
  | .int k => ikBytes k
  | .bool => 1
  | .str => 8
  | .slice _ => 8
  | .pair A B => max A.align B.align
  | .tree => 8
  | .wood => 8
noncomputable def K.layAt : K → Nat → Nat
  | .unit, o => o
  | .int k, o => up o (ikBytes k) + ikBytes k
  | .bool, o => o + 1
  | .str, o => up o 8 + 16
  | .slice _, o => up o 8 + 24
  | .pair A B, o => B.layAt (A.layAt o)
  | .tree, o => up o 8 + 8
  | .wood, o => up o 8 + 24
/-- At least so many bytes has an element of the kind. -/
noncomputable def K.bytes (T : K) : Nat := up (T.layAt 0) T.align

mutual
noncomputable def FT.ok : FT → Prop
  | .mk o n l => (IntKind.i64.min ≤ o ∧ o ≤ IntKind.i64.max) ∧ (IntKind.i64.min ≤ n ∧ n ≤ IntKind.i64.max) ∧ l.length * 40 ≤ 140737488351232 ∧ FT.oks l
noncomputable def FT.oks : List FT → Prop
  | [] => True
  | t :: r => FT.ok t ∧ FT.oks r
end
/-- What any argument of the kind keeps to. -/
noncomputable def K.ok : (T : K) → T.den → Prop
  | .unit, _ => True
  | .int k, (n : Int) => k.min ≤ n ∧ n ≤ k.max
  | .bool, _ => True
  | .str, s => ByteArray.size s ≤ 140737488351232
  | .slice T, (xs : List T.den) => xs.length * T.bytes ≤ 140737488351232 ∧ ∀ x ∈ xs, T.ok x
  | .pair A B, p => A.ok p.1 ∧ B.ok p.2
  | .tree, _ => True
  | .wood, l => List.length (α := FT) l * 40 ≤ 140737488351232 ∧ FT.oks l

mutual
/-- How deep a node of a wood is. -/
noncomputable def FT.dp : FT → Nat
  | .mk o n l => FT.dps l + 1
noncomputable def FT.dps : List FT → Nat
  | [] => 0
  | t :: r => max (FT.dp t) (FT.dps r)
end
/-- .. and no wood in it deeper than so many. -/
noncomputable def K.okN (N : Nat) : (T : K) → T.den → Prop
  | .unit, _ => True
  | .int k, (n : Int) => k.min ≤ n ∧ n ≤ k.max
  | .bool, _ => True
  | .str, s => ByteArray.size s ≤ 140737488351232
  | .slice T, (xs : List T.den) => xs.length * T.bytes ≤ 140737488351232 ∧ ∀ x ∈ xs, T.okN N x
  | .pair A B, p => A.okN N p.1 ∧ B.okN N p.2
  | .tree, _ => True
  | .wood, l => (List.length (α := FT) l * 40 ≤ 140737488351232 ∧ FT.oks l) ∧ FT.dps l ≤ N
theorem K.okN.ok {N : Nat} : ∀ {T : K} {x : T.den}, K.okN N T x → K.ok T x
  | .unit, _, h => h
  | .int _, _, h => h
  | .bool, _, h => h
  | .str, _, h => h
  | .slice T, xs, h => ⟨h.1, fun x hx => (h.2 x hx).ok⟩
  | .pair A B, p, h => ⟨h.1.ok, h.2.ok⟩
  | .tree, _, h => h
  | .wood, _, h => h.1
mutual
/-- How much stands in what was read. -/
noncomputable def bk {H : Type} : DataW H → Nat
  | .slice elems spare => bks elems + bks spare + 1
  | .agg parts => bks parts + 1
  | _ => 1
noncomputable def bks {H : Type} : List (DataW H) → Nat
  | [] => 0
  | d :: r => bk d + bks r
end
theorem bk_mem {H : Type} : ∀ {l : List (DataW H)} {d : DataW H}, d ∈ l → bk d ≤ bks l
  | x :: r, d, h => by
    rw [bks]
    rcases List.mem_cons.1 h with rfl | h
    · omega
    · have := bk_mem h; omega
theorem bk_slice {H : Type} {l r : List (DataW H)} {d : DataW H} (h : d ∈ l) : bk d < bk (.slice l r) := by
  have := bk_mem h
  simp only [bk]; omega
theorem bk_agg {H : Type} {l : List (DataW H)} {d : DataW H} (h : d ∈ l) : bk d < bk (.agg l) := by
  have := bk_mem h
  simp only [bk]; omega

noncomputable def fitsB : Nat → List (Nat × Nat) → List K → Bool
  | _, [], [] => true
  | o, p :: l, T :: r => p.1 == o && p.2 == T.size && fitsB (o + T.size) l r
  | _, _, _ => false
noncomputable def rdFs (g : TypeId → Option K) : List Field → Option (List K)
  | [] => some []
  | f :: r => match g f.type, rdFs g r with
    | some T, some l => some (T :: l)
    | _, _ => none
noncomputable def sizes (l : List K) : Nat := (l.map K.size).sum
noncomputable def i64B (P : Program) (t : TypeId) : Bool := match P.underlying t with
  | some (.int .i64) => P.cellsOf t == 1
  | _ => false
/-- A row of nodes of two numbers and such a row. -/
noncomputable def woodB (P : Program) (t e : TypeId) : Bool := match P.underlying e with
  | some (.struct l) => match l.toList with
    | [a, b, c] => i64B P a.type && i64B P b.type && a.offset == 0 && b.offset == 1 && c.offset == 2 && c.type == t && P.cellsOf t == 1 && P.cellsOf e == 3 && decide (FK.bytes ≤ P.bytesOf e)
    | _ => false
  | _ => false
/-- A type's kind, if all of it can be read as data. -/
noncomputable def rdK (P : Program) : Nat → TypeId → Option K
  | 0, _ => none
  | n + 1, t => match P.underlying t with
    | some (.int k) => some (.int k)
    | some .bool => some .bool
    | some .string => some .str
    | some (.slice e) => if woodB P t e = true then some .wood else match rdK P n e with
      | some T => if P.cellsOf e = T.size ∧ 0 < T.size ∧ T.bytes ≤ P.bytesOf e then some (.slice T) else none
      | none => none
    | some (.array m e) => match rdK P n e with
      | some T => if fitsB 0 ((List.range m).map fun i => (i * P.cellsOf e, P.cellsOf e)) (List.replicate m T) = true ∧ P.cellsOf t = sizes (List.replicate m T) then some (pairK (List.replicate m T)) else none
      | none => none
    | some (.struct l) => match rdFs (rdK P n) l.toList with
      | some Ts => if fitsB 0 (l.toList.map fun f => (f.offset, P.cellsOf f.type)) Ts = true ∧ P.cellsOf t = sizes Ts then some (pairK Ts) else none
      | none => none
    | _ => none

theorem rdFs_get {g : TypeId → Option K} : ∀ {l : List Field} {r : List K}, rdFs g l = some r → r.length = l.length ∧ ∀ (i : Nat) (f : Field) (T : K), l[i]? = some f → r[i]? = some T → g f.type = some T
  | [], r, h => by cases h; simp
  | f :: l, r, h => by
    simp only [rdFs] at h
    split at h
    · rename_i T l' h1 h2
      cases h
      obtain ⟨q1, q2⟩ := rdFs_get h2
      refine ⟨by simp [q1], fun i f' T' hi hT => ?_⟩
      cases i with
      | zero => simp at hi hT; subst hi; subst hT; exact h1
      | succ i => exact q2 i f' T' (by simpa using hi) (by simpa using hT)
    · cases h

section
variable {P : Program} {W : World} {F : Nat → Nat → Prop}

theorem RDs.append {vs ws : List Value} {cs ds : List D} (h1 : RDs W F vs cs) (h2 : RDs W F ws ds) : RDs W F (vs ++ ws) (cs ++ ds) := by
  refine ⟨by simp [h1.1, h2.1], fun j v d hv hd => ?_⟩
  by_cases hj : j < vs.length
  · rw [List.getElem?_append_left hj] at hv
    rw [List.getElem?_append_left (h1.1 ▸ hj)] at hd
    exact h1.2 j v d hv hd
  · rw [List.getElem?_append_right (by omega)] at hv
    rw [List.getElem?_append_right (by have := h1.1; omega), ← h1.1] at hd
    exact h2.2 _ v d hv hd

theorem kinds_rd {N : Nat} : ∀ (Ts : List K) (pl : List (Nat × Nat)) (o : Nat) (cs : List Value), fitsB o pl Ts = true → cs.length = o + sizes Ts →
    (∀ (i : Nat) (p : Nat × Nat) (T : K), pl[i]? = some p → Ts[i]? = some T → ∃ x : T.den, T.okN N x ∧ RDs W F ((cs.drop p.1).take p.2) (T.rrow x)) → ∃ x : (pairK Ts).den, (pairK Ts).okN N x ∧ RDs W F (cs.drop o) ((pairK Ts).rrow x)
  | [], pl, o, cs, hf, hl, h => by
    refine ⟨(() : Unit), trivial, ?_⟩
    have : cs.drop o = [] := List.drop_eq_nil_of_le (by simp [sizes] at hl; omega)
    rw [this]
    exact ⟨rfl, by simp⟩
  | [T], pl, o, cs, hf, hl, h => by
    match pl, hf with
    | p :: l, hf =>
      simp only [fitsB, Bool.and_eq_true, beq_iff_eq] at hf
      obtain ⟨x, h1, h2⟩ := h 0 p T rfl rfl
      refine ⟨x, h1, ?_⟩
      rw [hf.1.1, hf.1.2, List.take_of_length_le (by simp [sizes] at hl; simp; omega)] at h2
      exact h2
  | T :: T' :: r, pl, o, cs, hf, hl, h => by
    match pl, hf with
    | p :: l, hf =>
      rw [fitsB] at hf
      simp only [Bool.and_eq_true, beq_iff_eq] at hf
      obtain ⟨x, h1, h2⟩ := h 0 p T rfl rfl
      obtain ⟨y, h3, h4⟩ := kinds_rd (T' :: r) l (o + T.size) cs hf.2 (by simp only [sizes, List.map_cons, List.sum_cons] at hl ⊢; omega) (fun i p' T'' hi hT => h (i + 1) p' T'' (by simpa using hi) (by simpa using hT))
      refine ⟨((x, y) : T.den × (pairK (T' :: r)).den), ⟨h1, h3⟩, ?_⟩
      rw [hf.1.1, hf.1.2] at h2
      show RDs W F (cs.drop o) (T.rrow x ++ (pairK (T' :: r)).rrow y)
      have e : cs.drop o = (cs.drop o).take T.size ++ cs.drop (o + T.size) := by
        rw [← List.drop_drop, List.take_append_drop]
      rw [e]
      exact h2.append h4

theorem weightsAll_mem {H : Type} {P : Program} {e : TypeId} : ∀ {l : List (DataW H)} {d : DataW H}, d ∈ l → ∀ n ∈ d.weights P e, n ∈ DataW.weightsAll P e l
  | d0 :: l, d, hd, n, hn => by
    simp only [DataW.weightsAll, List.mem_append]
    rcases List.mem_cons.1 hd with rfl | hd
    · exact .inl hn
    · exact .inr (weightsAll_mem hd n hn)

theorem choose_list {α : Type} {p : Nat → α → Prop} : ∀ {n : Nat}, (∀ i, i < n → ∃ x, p i x) → ∃ l : List α, l.length = n ∧ ∀ (i : Nat) (x : α), l[i]? = some x → p i x
  | 0, _ => ⟨[], rfl, by simp⟩
  | n + 1, h => by
    obtain ⟨l, h1, h2⟩ := choose_list (n := n) (fun i hi => h i (by omega))
    obtain ⟨x, hx⟩ := h n (by omega)
    refine ⟨l ++ [x], by simp [h1], fun i y hi => ?_⟩
    by_cases hin : i < n
    · rw [List.getElem?_append_left (by omega)] at hi; exact h2 i y hi
    · have : i = n := by
        have := (List.getElem?_eq_some_iff.1 hi).1
        simp at this; omega
      subst this
      rw [List.getElem?_append_right (by omega)] at hi
      simp [h1] at hi
      subst hi; exact hx

variable {H : Type} {enc : TypeId × Value → H}

theorem slice_rd {N : Nat} (hF : ∀ b o v, W.cell? ⟨b, o, none⟩ = some v → F b o) {t e : TypeId} {T' : K} (hu : P.underlying t = some (.slice e)) (hcs : P.cellsOf e = T'.size) (hpos : 0 < T'.size) (hby : T'.bytes ≤ P.bytesOf e) {fuel : Nat} {cs : List Value} {d : DataW H} {ps : List MemPlace}
    (h : DataW.trod enc P W 0 (fun _ => true) true fuel t cs = some (d, ps)) (hw : ∀ m ∈ d.weights P t, m ≤ reachBytes)
    (hr : ∀ (m : Nat) (ci : List Value) (d' : DataW H) (ps : List MemPlace), m < fuel → bk d' < bk d → DataW.trod enc P W 0 (fun _ => true) true m e ci = some (d', ps) → (∀ m ∈ d'.weights P e, m ≤ reachBytes) → ∃ x : T'.den, T'.okN N x ∧ RDs W F ci (T'.rrow x)) :
    ∃ xs : List T'.den, (xs.length * T'.bytes ≤ 140737488351232 ∧ ∀ x ∈ xs, T'.okN N x) ∧ RDs W F cs [.sl T'.size (xs.map T'.rrow)] := by
  have one : ∀ {v : Value} {d : D}, RD W F v d → RDs W F [v] [d] := by
    intro v d hd
    refine ⟨rfl, fun j u c hu hc => ?_⟩
    cases j with
    | zero => simp at hu hc; subst hu; subst hc; exact hd
    | succ j => simp at hu
  rcases DataW.trod_slice hu h with ⟨rfl, hx⟩ | ⟨a, len, cap, elems, rest, m, hm, rfl, hx, _, hlc, hcm, hel, he, hrest, _⟩
  · exact ⟨([] : List T'.den), ⟨by simp, by simp⟩, one (.slNil _)⟩
  · simp only [Prod.mk.injEq] at hx
    obtain ⟨hr1, hr2⟩ := hrest rfl
    have hwd : d.weights P t = (elems.length + rest.length) * P.bytesOf e :: (DataW.weightsAll P e (elems.map (·.1)) ++ DataW.weightsAll P e (rest.map (·.1))) := by
      rw [hx.1]; simp [DataW.weights, hu]
    rw [hwd] at hw
    have hw0 := hw _ List.mem_cons_self
    have hread : ∀ i, i < len → ∃ (ci : List Value) (di : DataW H × List MemPlace), elems[i]? = some di ∧ W.cells? 0 (a.add (i * P.cellsOf e)) (P.cellsOf e) = some ci ∧ DataW.trod enc P W 0 (fun _ => true) true m e ci = some di := by
      intro i hi
      have h1 := he i hi
      rw [List.getElem?_eq_getElem (by omega)] at h1
      obtain ⟨ci, h2, h3⟩ := Option.bind_eq_some_iff.1 h1
      exact ⟨ci, _, List.getElem?_eq_getElem (by omega), h2, h3⟩
    have hwl : ∀ y : T'.den, True := fun _ => trivial
    by_cases hcap : cap = 0
    · have hl0 : len = 0 := by omega
      subst hcap; subst hl0
      exact ⟨([] : List T'.den), ⟨by simp, by simp⟩, one (.slZ a _ hpos)⟩
    · have hspot : a.spot = none := by
        have hcell : ∃ c, W.cells? 0 (a.add 0) (P.cellsOf e) = some c := by
          by_cases hl : len = 0
          · have h1 := hr2 0 (by omega)
            rw [List.getElem?_eq_getElem (by omega)] at h1
            obtain ⟨ci, h2, _⟩ := Option.bind_eq_some_iff.1 h1
            rw [hl] at h2
            simp only [Nat.add_zero, Nat.zero_mul] at h2
            exact ⟨ci, h2⟩
          · obtain ⟨ci, _, _, h2, _⟩ := hread 0 (by omega)
            rw [Nat.zero_mul] at h2
            exact ⟨ci, h2⟩
        obtain ⟨c, hc⟩ := hcell
        obtain ⟨_, h1, h2⟩ := World.cells?_some hc
        have h3 := h2 0 (by omega)
        rw [List.getElem?_eq_getElem (by omega)] at h3
        unfold World.cell? at h3
        split at h3
        · split at h3
          · cases h3
          · rename_i hsp
            simpa [Addr.add] using hsp
        · cases h3
      obtain ⟨b, o, sp⟩ := a
      obtain rfl : sp = none := hspot
      have haddr : ∀ q j, ((⟨b, o, none⟩ : Addr).add q).add j = ⟨b, o + q + j, none⟩ := by
        intro q j; unfold Addr.add; split <;> split <;> simp_all
      obtain ⟨xs, hxl, hxs⟩ := choose_list (n := len) (p := fun i (x : T'.den) => T'.okN N x ∧ ∃ ci : List Value, ci.length = P.cellsOf e ∧ (∀ j, j < P.cellsOf e → W.cell? ⟨b, o + i * P.cellsOf e + j, none⟩ = ci[j]?) ∧ RDs W F ci (T'.rrow x)) (fun i hi => by
        obtain ⟨ci, di, h1, h2, h3⟩ := hread i hi
        obtain ⟨x, h4, h5⟩ := hr m ci di.1 di.2 (by omega) (by rw [hx.1]; exact bk_slice (List.mem_map.2 ⟨di, List.mem_of_getElem? h1, rfl⟩)) h3 (fun q hq => hw q (List.mem_cons_of_mem _ (List.mem_append_left _ (weightsAll_mem (List.mem_map.2 ⟨di, List.mem_of_getElem? h1, rfl⟩) q hq))))
        obtain ⟨_, h6, h7⟩ := World.cells?_some h2
        exact ⟨x, h4, ci, h6, fun j hj => by rw [← haddr]; exact h7 j hj, h5⟩)
      refine ⟨(xs : List T'.den), ⟨?_, fun x hx => ?_⟩, one ?_⟩
      · have h1 : xs.length * T'.bytes ≤ len * P.bytesOf e := by rw [hxl]; exact Nat.mul_le_mul_left _ hby
        have h2 : len * P.bytesOf e ≤ (elems.length + rest.length) * P.bytesOf e := Nat.mul_le_mul_right _ (by omega)
        exact Nat.le_trans h1 (Nat.le_trans h2 hw0)
      · obtain ⟨i, hi⟩ := List.mem_iff_getElem?.1 hx
        exact (hxs i x hi).1
      · have hgetx : ∀ (i : Nat) (c : List D), (xs.map T'.rrow)[i]? = some c → ∃ x, xs[i]? = some x ∧ c = T'.rrow x := by
          intro i c hc
          rw [List.getElem?_map] at hc
          obtain ⟨x, h1, rfl⟩ := Option.map_eq_some_iff.1 hc
          exact ⟨x, h1, rfl⟩
        refine .sl b o len cap T'.size (xs.map T'.rrow) (fun i j => (W.cell? ⟨b, o + i * T'.size + j, none⟩).getD .nilIface) (by simp [hxl]) hlc hpos (fun i c hc => ?_) (fun i c j d hc hd => ?_) (fun i c j d hc hd => ?_)
        · obtain ⟨x, _, rfl⟩ := hgetx i c hc
          exact K.rrow_length _ _
        · obtain ⟨x, h1, rfl⟩ := hgetx i c hc
          obtain ⟨_, ci, h2, h3, h4⟩ := hxs i x h1
          rw [hcs] at h2 h3
          have hj : j < T'.size := by rw [← K.rrow_length T' x]; exact (List.getElem?_eq_some_iff.1 hd).1
          have h5 := h3 j hj
          rw [List.getElem?_eq_getElem (by omega)] at h5
          rw [h5]
          exact ⟨rfl, hF _ _ _ h5⟩
        · obtain ⟨x, h1, rfl⟩ := hgetx i c hc
          obtain ⟨_, ci, h2, h3, h4⟩ := hxs i x h1
          rw [hcs] at h2 h3
          have hj : j < T'.size := by rw [← K.rrow_length T' x]; exact (List.getElem?_eq_some_iff.1 hd).1
          have h5 := h3 j hj
          rw [List.getElem?_eq_getElem (by omega)] at h5
          show RD W F ((W.cell? ⟨b, o + i * T'.size + j, none⟩).getD .nilIface) d
          rw [h5]
          exact h4.2 j _ d (List.getElem?_eq_getElem (by omega)) hd
theorem oks_of {N : Nat} : ∀ (xs : List (Int × Int × List FT)), (∀ x ∈ xs, FK.okN N x) → FT.oks (xs.map FT.of) ∧ FT.dps (xs.map FT.of) ≤ N + 1
  | [], _ => ⟨trivial, by simp [FT.dps]⟩
  | x :: xs, h => by
    have h1 := h x List.mem_cons_self
    have ih := oks_of xs (fun y hy => h y (List.mem_cons_of_mem _ hy))
    obtain ⟨o, n, l⟩ := x
    obtain ⟨a, b, ⟨c, d⟩, e⟩ := h1
    refine ⟨⟨⟨a, b, c, d⟩, ih.1⟩, ?_⟩
    have e : FT.dps l ≤ N := e
    show max (FT.dps l + 1) (FT.dps (xs.map FT.of)) ≤ N + 1
    omega
theorem wood_rd (hF : ∀ b o v, W.cell? ⟨b, o, none⟩ = some v → F b o) {t e : TypeId} (hu : P.underlying t = some (.slice e)) (hwd : woodB P t e = true) : ∀ (k fuel : Nat), fuel < k → ∀ (cs : List Value) (d : DataW H) (ps : List MemPlace),
    DataW.trod enc P W 0 (fun _ => true) true fuel t cs = some (d, ps) → (∀ m ∈ d.weights P t, m ≤ reachBytes) → ∀ N, bk d ≤ N → ∃ l : List FT, K.okN N .wood l ∧ RDs W F cs (K.rrow .wood l)
  | 0, fuel, hk => by omega
  | k + 1, fuel, hk => by
    intro cs d ps h hw N hN
    have hwd0 := hwd
    have hb1 : 1 ≤ bk d := by cases d <;> simp [bk]
    obtain ⟨M, rfl⟩ : ∃ M, N = M + 1 := ⟨N - 1, by omega⟩
    unfold woodB at hwd
    split at hwd
    · rename_i l he
      split at hwd
      · rename_i a b c hl
        simp only [Bool.and_eq_true, beq_iff_eq, decide_eq_true_eq] at hwd
        obtain ⟨⟨⟨⟨⟨⟨⟨⟨ha, hb⟩, oa⟩, ob⟩, oc⟩, ht⟩, ct⟩, ce⟩, hby⟩ := hwd
        have i64 : ∀ {u : TypeId}, i64B P u = true → P.underlying u = some (.int .i64) ∧ P.cellsOf u = 1 := by
          intro u h
          unfold i64B at h
          split at h
          · rename_i hu; exact ⟨hu, by simpa using h⟩
          · cases h
        have ia := i64 ha
        have ib := i64 hb
        obtain ⟨xs, hok, hrd⟩ := slice_rd (N := M) (T' := FK) hF hu ce (by decide) hby h hw (fun m ci d' ps hm hbk h hw => by
          obtain ⟨ys, q, hq, hx, hlen, hyl, hg⟩ := DataW.trod_struct he h
          simp only [Prod.mk.injEq] at hx
          have one : ∀ {v : Value} {d : D}, RD W F v d → RDs W F [v] [d] := by
            intro v d hd
            refine ⟨rfl, fun j u c hu hc => ?_⟩
            cases j with
            | zero => simp at hu hc; subst hu; subst hc; exact hd
            | succ j => simp at hu
          have hsz : l.size = 3 := by rw [← Array.length_toList, hl]; rfl
          have gf : ∀ (i : Nat) (f : Field), l.toList[i]? = some f → l[i]? = some f := by intro i f h; simpa using h
          have rec1 : ∀ (i : Nat) (f : Field), l.toList[i]? = some f → i64B P f.type = true → ∃ x : (K.int .i64).den, K.okN M (.int .i64) x ∧ RDs W F ((ci.drop f.offset).take (P.cellsOf f.type)) (K.rrow (.int .i64) x) := by
            intro i f hf hi
            have h1 := hg i f (gf i f hf)
            have hil : i < ys.length := by rw [hyl, ← Array.length_toList]; exact (List.getElem?_eq_some_iff.1 hf).1
            rw [List.getElem?_eq_getElem hil] at h1
            obtain ⟨m, e1, hx, hwf⟩ := DataW.trod_int (i64 hi).1 h1
            simp only [Lit.wf, Bool.and_eq_true, decide_eq_true_eq] at hwf
            exact ⟨(m : Int), hwf, by rw [e1]; exact one (.int .i64 m)⟩
          have := kinds_rd (N := M) (W := W) (F := F) [.int .i64, .int .i64, .wood] [(0, 1), (1, 1), (2, 1)] 0 ci (by decide) (by rw [hlen, ce]; rfl) (fun i p T'' hp hT' => by
            match i, hp, hT' with
            | 0, hp, hT' =>
              cases hp; cases hT'
              have := rec1 0 a (by rw [hl]; rfl) ha
              rw [oa, ia.2] at this; exact this
            | 1, hp, hT' =>
              cases hp; cases hT'
              have := rec1 1 b (by rw [hl]; rfl) hb
              rw [ob, ib.2] at this; exact this
            | 2, hp, hT' =>
              cases hp; cases hT'
              have h1 := hg 2 c (gf 2 c (by rw [hl]; rfl))
              have hil : 2 < ys.length := by rw [hyl, hsz]; decide
              rw [List.getElem?_eq_getElem hil, oc, ht, ct] at h1
              exact wood_rd hF hu hwd0 k q (by omega) _ (ys[2]).1 (ys[2]).2 h1 (fun n hn => hw n (by
                rw [hx.1]; simp only [DataW.weights, he]
                exact DataW.weights_mem_each (j := 2) (t := t) (d := (ys[2]).1) (by rw [List.getElem?_map, hl]; simp [ht]) (by simp [List.getElem?_eq_getElem hil]) n hn)) M (by
                have q : bk (ys[2]).1 < bk d' := by rw [hx.1]; exact bk_agg (List.mem_map.2 ⟨_, List.getElem_mem _, rfl⟩)
                omega))
          obtain ⟨x, q1, q2⟩ := this
          rw [List.drop_zero] at q2
          exact ⟨x, q1, q2⟩)
        have ho := oks_of xs hok.2
        refine ⟨(xs.map FT.of : List FT), ⟨⟨?_, ho.1⟩, ho.2⟩, ?_⟩
        · have e : FK.bytes = 40 := by decide
          have e2 : List.length (α := FT) (List.map (α := Int × Int × List FT) FT.of xs) = List.length (α := Int × Int × List FT) xs := List.length_map _
          have h1 := hok.1
          rw [e] at h1
          show List.length (α := FT) (List.map (α := Int × Int × List FT) FT.of xs) * 40 ≤ 140737488351232
          rw [e2]; exact h1
        · have e3 : FT.rrows (List.map (α := Int × Int × List FT) FT.of xs) = List.map FK.rrow xs := of_raw xs
          exact (congrArg (fun z => RDs W F cs [D.sl 3 z]) e3).mpr hrd
      · cases hwd
    · cases hwd
theorem trod_rd (hF : ∀ b o v, W.cell? ⟨b, o, none⟩ = some v → F b o) : ∀ (n : Nat) (t : TypeId) (T : K), rdK P n t = some T → ∀ (fuel : Nat) (cs : List Value) (d : DataW H) (ps : List MemPlace),
    DataW.trod enc P W 0 (fun _ => true) true fuel t cs = some (d, ps) → (∀ m ∈ d.weights P t, m ≤ reachBytes) → ∀ N, bk d ≤ N → ∃ x : T.den, T.okN N x ∧ RDs W F cs (T.rrow x)
  | 0, t, T, hk => by cases hk
  | n + 1, t, T, hk => by
    intro fuel cs d ps h hw N hN
    have one : ∀ {v : Value} {d : D}, RD W F v d → RDs W F [v] [d] := by
      intro v d hd
      refine ⟨rfl, fun j u c hu hc => ?_⟩
      cases j with
      | zero => simp at hu hc; subst hu; subst hc; exact hd
      | succ j => simp at hu
    rw [rdK] at hk
    split at hk
    · rename_i k hu
      cases hk
      obtain ⟨m, rfl, hx, hwf⟩ := DataW.trod_int hu h
      simp only [Lit.wf, Bool.and_eq_true, decide_eq_true_eq] at hwf
      exact ⟨(m : Int), hwf, one (.int k m)⟩
    · rename_i hu
      cases hk
      obtain ⟨b, rfl, hx⟩ := DataW.trod_bool hu h
      exact ⟨(b : Bool), trivial, one (.bool b)⟩
    · rename_i hu
      cases hk
      obtain ⟨s, rfl, hx, hs⟩ := DataW.trod_string hu h
      simp only [Prod.mk.injEq] at hx
      have := hw s.size (by rw [hx.1]; simp [DataW.weights])
      exact ⟨(s : ByteArray), this, one (.str s)⟩
    · rename_i e hu
      split at hk
      · rename_i hwd
        cases hk
        obtain ⟨l, h1, h2⟩ := wood_rd hF hu hwd _ fuel (Nat.lt_succ_self _) cs d ps h hw N hN
        exact ⟨(l : List FT), h1, h2⟩
      · split at hk
        · rename_i T' hT
          split at hk
          · rename_i hc
            cases hk
            obtain ⟨hcs, hpos, hby⟩ := hc
            obtain ⟨xs, h1, h2⟩ := slice_rd hF hu hcs hpos hby h hw (fun m ci d' ps hm hbk h hw => trod_rd hF n e T' hT m ci d' ps h hw N (by omega))
            exact ⟨(xs : List T'.den), h1, h2⟩
          · cases hk
        · cases hk
    · rename_i m e hu
      split at hk
      · rename_i T' hT
        split at hk
        · rename_i hc
          cases hk
          obtain ⟨hc1, hc2⟩ := hc
          obtain ⟨xs, q, hq, hx, hl, hxl, hg⟩ := DataW.trod_array hu h
          simp only [Prod.mk.injEq] at hx
          have := kinds_rd (W := W) (F := F) (List.replicate m T') _ 0 cs hc1 (by rw [hl, hc2]; simp) (fun i p T'' hp hT' => by
            have hi : i < m := by have := (List.getElem?_eq_some_iff.1 hT').1; simpa using this
            have : T'' = T' := by rw [List.getElem?_replicate] at hT'; simp [hi] at hT'; exact hT'.symm
            subst this
            rw [List.getElem?_map, List.getElem?_range hi] at hp
            simp at hp
            subst hp
            have h1 := hg i hi
            rw [List.getElem?_eq_getElem (by omega)] at h1
            exact trod_rd hF n e T'' hT q _ (xs[i]'(by omega)).1 (xs[i]'(by omega)).2 h1 (fun k hk => hw k (by
              rw [hx.1]; simp only [DataW.weights, hu]
              exact weightsAll_mem (List.mem_map.2 ⟨_, List.getElem_mem _, rfl⟩) k hk)) N (by
              have q : bk (xs[i]'(by omega)).1 < bk d := by rw [hx.1]; exact bk_agg (List.mem_map.2 ⟨_, List.getElem_mem _, rfl⟩)
              omega))
          simpa using this
        · cases hk
      · cases hk
    · rename_i l hu
      split at hk
      · rename_i Ts hT
        split at hk
        · rename_i hc
          cases hk
          obtain ⟨hc1, hc2⟩ := hc
          obtain ⟨xs, q, hq, hx, hl, hxl, hg⟩ := DataW.trod_struct hu h
          simp only [Prod.mk.injEq] at hx
          obtain ⟨r1, r2⟩ := rdFs_get hT
          have := kinds_rd (W := W) (F := F) Ts _ 0 cs hc1 (by rw [hl, hc2]; simp) (fun i p T'' hp hT' => by
            rw [List.getElem?_map] at hp
            obtain ⟨f, hf, rfl⟩ := Option.map_eq_some_iff.1 hp
            have hi : i < xs.length := by rw [hxl]; have := (List.getElem?_eq_some_iff.1 hf).1; simpa using this
            have h1 := hg i f (by simpa using hf)
            rw [List.getElem?_eq_getElem hi] at h1
            exact trod_rd hF n f.type T'' (r2 i f T'' hf hT') q _ (xs[i]).1 (xs[i]).2 h1 (fun k hk => hw k (by
              rw [hx.1]; simp only [DataW.weights, hu]
              exact DataW.weights_mem_each (j := i) (t := f.type) (d := (xs[i]).1) (by simp [List.getElem?_map] at hf ⊢; exact ⟨f, hf, rfl⟩) (by simp [List.getElem?_eq_getElem hi]) k hk)) N (by
              have q : bk (xs[i]).1 < bk d := by rw [hx.1]; exact bk_agg (List.mem_map.2 ⟨_, List.getElem_mem _, rfl⟩)
              omega))
          simpa using this
        · cases hk
      · cases hk
    · cases hk

noncomputable def aggB (P : Program) (t : TypeId) : Bool := match P.underlying t with
  | some (.struct _) => true
  | some (.array _ _) => true
  | _ => false
/-- An argument of a kind. -/
noncomputable def argV : Bool → (T : K) → T.den → V1
  | true, T, x => .agg ((T.row x).map .d)
  | false, T, x => match T.row x with
    | [c] => .c (.d c)
    | _ => .agg []

theorem okWide_agg {r : Reach} {base : Nat} {t : TypeId} {v : Value} (ha : aggB P t = true) (h : Value.okWide P W r base t v) : ∃ cs, v = .agg cs := by
  unfold aggB at ha
  split at ha
  · rename_i l hu
    obtain ⟨cs, h1, _⟩ := okWide_struct hu h
    exact ⟨cs, h1⟩
  · rename_i m e hu
    simp only [Value.okWide, hu] at h
    obtain ⟨cs, h1, _⟩ := h
    exact ⟨cs, h1⟩
  · cases ha

theorem okWide_one {r : Reach} {base n : Nat} {t : TypeId} {T : K} {v : Value} (ha : aggB P t = false) (hk : rdK P n t = some T) (h : Value.okWide P W r base t v) : v.cells = #[v] ∧ ∀ x : T.den, ∃ c, T.row x = [c] := by
  cases n with
  | zero => cases hk
  | succ n =>
    rw [rdK] at hk
    split at hk
    · rename_i k hu
      cases hk
      obtain ⟨m, rfl⟩ := okWide_int hu h
      exact ⟨rfl, fun x => ⟨_, rfl⟩⟩
    · rename_i hu
      cases hk
      obtain ⟨m, rfl⟩ := okWide_bool hu h
      exact ⟨rfl, fun x => ⟨_, rfl⟩⟩
    · rename_i hu
      cases hk
      obtain ⟨m, rfl⟩ := okWide_string hu h
      exact ⟨rfl, fun x => ⟨_, rfl⟩⟩
    · rename_i e hu
      obtain ⟨a, l, c, rfl⟩ := okWide_slice hu h
      split at hk
      · cases hk; exact ⟨rfl, fun x => ⟨_, rfl⟩⟩
      split at hk
      · split at hk
        · cases hk; exact ⟨rfl, fun x => ⟨_, rfl⟩⟩
        · cases hk
      · cases hk
    · rename_i m e hu
      simp [aggB, hu] at ha
    · rename_i l hu
      simp [aggB, hu] at ha
    · cases hk

theorem RDs.rcs {g : G} {vs : List Value} {T : K} {x : T.den} (h : RDs W g.F vs (T.rrow x)) : RCs W g vs ((T.row x).map .d) := by
  rw [← K.row_raw] at h
  refine ⟨by rw [h.1]; simp, fun j v z hv hz => ?_⟩
  rw [List.getElem?_map] at hz
  obtain ⟨c, hc, rfl⟩ := Option.map_eq_some_iff.1 hz
  exact h.2 j v c.raw hv (by rw [List.getElem?_map, hc]; rfl)

/-- How a law begins: all that there is, is read alone. -/
noncomputable def g0 (W : World) : G := ⟨fun b _ => b < W.heap.size, fun _ => 0, fun _ => .nilIface⟩

theorem cell_lt {b o : Nat} {v : Value} (h : W.cell? ⟨b, o, none⟩ = some v) : b < W.heap.size := by
  unfold World.cell? at h
  split at h
  · rename_i hh; exact (Array.getElem?_eq_some_iff.1 hh).1
  · cases h

/-- AN ARGUMENT of a law, as data of its kind. -/
theorem arg_rdN {r : Reach} {base n j : Nat} {t : TypeId} {T : K} {v : Value} {d : DataW H} {ps : List MemPlace} {ts : List TypeId} {ds : List (DataW H)} (hk : rdK P n t = some T) (hval : Value.okWide P W r base t v)
    (h : DataW.Trod enc P W 0 (fun _ => true) true t v d ps) (hw : (DataW.weightsEach P ts ds).all (· ≤ reachBytes) = true) (htj : ts[j]? = some t) (hdj : ds[j]? = some d) (a : Bool) (ha : aggB P t = a) :
    ∃ x : T.den, T.okN (bk d) x ∧ RV W (g0 W) v (argV a T x) := by
  obtain ⟨fuel, hf⟩ := h
  obtain ⟨x, h1, h2⟩ := trod_rd (W := W) (F := (g0 W).F) (fun b o v hv => cell_lt hv) n t T hk fuel _ d ps hf (fun m hm => by
    have := List.all_eq_true.1 hw m (DataW.weights_mem_each htj hdj m hm)
    simpa using this) (bk d) (Nat.le_refl _)
  refine ⟨x, h1, ?_⟩
  subst ha
  by_cases hA : aggB P t = true
  · obtain ⟨cs, rfl⟩ := okWide_agg hA hval
    rw [hA]
    exact ⟨cs, rfl, RDs.rcs h2⟩
  · rw [Bool.not_eq_true] at hA
    obtain ⟨h3, h4⟩ := okWide_one hA hk hval
    obtain ⟨c, hc⟩ := h4 x
    rw [hA]
    show RV W (g0 W) v (match T.row x with | [c] => .c (.d c) | _ => .agg [])
    rw [hc]
    have h5 := RDs.rcs h2
    rw [h3, hc] at h5
    exact h5.2 0 v (.d c) rfl rfl

theorem arg_rd {r : Reach} {base n j : Nat} {t : TypeId} {T : K} {v : Value} {d : DataW H} {ps : List MemPlace} {ts : List TypeId} {ds : List (DataW H)} (hk : rdK P n t = some T) (hval : Value.okWide P W r base t v)
    (h : DataW.Trod enc P W 0 (fun _ => true) true t v d ps) (hw : (DataW.weightsEach P ts ds).all (· ≤ reachBytes) = true) (htj : ts[j]? = some t) (hdj : ds[j]? = some d) (a : Bool) (ha : aggB P t = a) :
    ∃ x : T.den, T.ok x ∧ RV W (g0 W) v (argV a T x) := by
  obtain ⟨x, h1, h2⟩ := arg_rdN hk hval h hw htj hdj a ha
  exact ⟨x, h1.ok, h2⟩

theorem trodAll_below {W' : World} (hl : laidOutB P = true) : ∀ {ts : List TypeId} {vs : List Value} {ds : List (DataW H)} {ps : List MemPlace}, ts.all (fun t => P.readableRec t && decide (t < P.types.size)) = true →
    DataW.TrodAll enc P W 0 (fun _ => true) true ts vs ds ps → Below W.heap.size W W' → DataW.TrodAll enc P W' 0 (fun b => decide (b < W.heap.size)) true ts vs ds ps
  | [], [], [], ps, _, h, _ => h
  | t :: ts, v :: vs, d :: ds, ps, hr, h, hb => by
    obtain ⟨p, q, h1, h2, h3⟩ := h
    simp only [List.all_cons, Bool.and_eq_true, decide_eq_true_eq] at hr
    refine ⟨p, q, Below.trod hl hr.1.1 hr.1.2 h1 hb ?_, trodAll_below hl (by simpa using hr.2) h2 hb, h3⟩
    obtain ⟨m, hm⟩ := h1
    exact DataW.trod_lt m _ _ _ hm
  | [], _ :: _, _, _, _, h, _ => h.elim
  | [], [], _ :: _, _, _, h, _ => h.elim
  | _ :: _, [], _, _, _, h, _ => h.elim
  | _ :: _, _ :: _, [], _, _, h, _ => h.elim

theorem HI.empty (E : Ent) (g : G) (W : World) : HI P E g (look []) (bc (look [])) W where
  own l e h := nomatch (show (none : Option Ow) = some e from h)
  ownNe l e l' e' h := nomatch (show (none : Option Ow) = some e from h)
  ownMay l e h := nomatch (show (none : Option Ow) = some e from h)
  box id cs h := nomatch (show (none : Option (List Z1)) = some cs from h)
  boxNe id id' cs cs' h := nomatch (show (none : Option (List Z1)) = some cs from h)
  boxMay id cs h := nomatch (show (none : Option (List Z1)) = some cs from h)
  boxOwn id cs l e h := nomatch (show (none : Option (List Z1)) = some cs from h)

/-- A LAW that does what a function says that answers true. -/
theorem FnOK.law {f : FuncId} {fn : Func} {c : Code} (hf : P.funcs[f]? = some fn) (hb : fn.body = some c) (hname : (fn.name == "runtime.NumGoroutine") = false) {as : List V1} {m : Nat} {W : World} {args : Array Value}
    (h : FnOK P f ⟨as, [], [], 0⟩ ⟨.one (.c (.d (.bool true))), [], [], m⟩) (hsz : args.size = as.length) (harg : ∀ (j : Nat) (v : Value) (z : V1), args[j]? = some v → as[j]? = some z → RV W (g0 W) v z) :
    Calls P f args W fun e W' => e = .returned (.bool true) ∧ Below W.heap.size W W' := by
  obtain ⟨_, h⟩ := h
  have := h ⟨W, (g0 W).F, fun _ => False, 0, fun _ => 0, fun _ => .nilIface, 0, []⟩ (g0 W) W args hsz harg rfl (fun j hj => absurd hj (Nat.not_lt_zero j)) rfl rfl
    (HI.empty _ _ _) (fun id T xs e h => nomatch (show (none : Option (List Z1)) = some [.run T xs] from h))
    ⟨fun b o h => h, rfl, rfl, rfl, Nat.le_refl _, fun _ _ _ => rfl, Keeps.refl _ _, fun b o h => .inl h⟩
  rcases this with ⟨_, h1⟩ | ⟨v, W', h1, _⟩
  · refine h1.mono fun e W' hh => ?_
    obtain ⟨v, rfl, g', h2, h3, _, h4, _⟩ := hh
    have hv : v = .bool true := by
      have h2 : RD W' g'.F v (.bool true) := h2
      cases h2; rfl
    exact ⟨by rw [hv], ⟨h4.os, h4.tape, h4.output, h4.size, fun k hk => h4.block k hk (fun h => h)⟩⟩
  · have hne : ¬ fn.name = "runtime.NumGoroutine" := fun e => by rw [e] at hname; revert hname; decide
    simp [callFunc, hf, hne, hb] at h1
end
end Zed
