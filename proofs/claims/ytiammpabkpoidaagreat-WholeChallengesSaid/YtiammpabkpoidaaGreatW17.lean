/- Texts ZedEf, ZedEw of our own machine for the walk of WholeChallenges, one behind the other. -/
import Derived.Test.YtiammpabkpoidaaGreatW16
namespace Zed
open Go
set_option linter.unusedVariables false
set_option linter.unusedSimpArgs false

inductive Dir where
  | asm (v : Bool)
  | col
  | hd
  | row
  | fin
  | lz
  | finV
/-- What a call of a function comes to: its value, the memory behind it, what must hold. -/
noncomputable abbrev EvT := FuncId → List V1 → Hp → List Prop → Option (Z × Hp × List Prop)
structure Cfg where
  P : Program
  tab : Tab
  fns : FuncId → Option Func
  dir : FuncId → Nat → Nat → Option Dir
  prim : EvT
  str : Bool
noncomputable def dirChs : Option Dir → List (Option Ch)
  | none => [none, some .hd]
  | some .fin => [none, some .hd]
  | some .lz => [none, some .hd]
  | some .finV => [none, some .hd]
  | some .col => [none, some .hd]
  | some .row => [some .row]
  | some .hd => [some .hd]
  | some (.asm v) => [some (.b v)]
noncomputable def dirCol : Option Dir → Bool
  | some (.asm _) => true
  | some .col => true
  | _ => false
/-- Is what an operation yields driven to a number? -/
noncomputable def strD (cf : Cfg) : Option Dir → Bool
  | some .lz => false
  | some .col => false
  | _ => cf.str
noncomputable def firstOp (P : Program) (tab : Tab) (base : Nat) (s : S) (op : Op) : List (Option Ch) → Option (Stp × Nat × Option Ch)
  | [] => none
  | ch :: r => match opZ P tab base ch s op with
    | some (st, n) => some (st, n, ch)
    | none => firstOp P tab base s op r
noncomputable def valsE (ev : Operand → Option V1) : List Operand → Option (List V1)
  | [] => some []
  | x :: r => match ev x, valsE ev r with
    | some v, some l => some (v :: l)
    | _, _ => none
noncomputable def calleeE (ev : Operand → Option V1) : Op → Option (FuncId × List Operand × List (Nat × Nat))
  | .call ⟨.value fv, args, _⟩ => match ev fv with
    | some (.c (.fn f ps)) => some (f, args.toList, ps)
    | _ => none
  | _ => none
noncomputable def ptrV (p : Nat × Nat) : V1 := .c (.ptr p.1 p.2)


section
variable {β : Type}
noncomputable def decK (col : Bool) (C : Option CP) (acc : List Prop) (k : List Prop → Option β) : Option β := match C with
  | none => k acc
  | some c => match col with
    | true => k (c.p :: acc)
    | false => match c.d with
      | some (.isTrue _) => k acc
      | _ => none
noncomputable def Es.goV (str : Bool) (s : Es) (dst : Option Nat) (z : Z) (c : Es → Option β) : Option β :=
  setS str dst z s.sl fun sl => forceN (Nat.succ s.h.nx) fun nx => c ⟨sl, ⟨s.h.lv, s.h.bx, nx, s.h.wr⟩⟩
noncomputable abbrev Kont (β : Type) := Es → List Prop → Option β
noncomputable def slowOp (cf : Cfg) (d : Option Dir) (o : Oper) (s : Es) (acc : List Prop) (k : Kont β) : Option β :=
  match firstOp cf.P cf.tab s.h.nx s.den o.op (dirChs d) with
  | some (st, n, _) => decK (dirCol d) st.C acc fun acc => s.goK (strD cf d) o.dst st.z st.e n fun s => k s acc
  | none => none
noncomputable def landCall (cf : Cfg) (d : Option Dir) (o : Oper) (s : Es) (k : Kont β) : Option (Z × Hp × List Prop) → Option β
  | some (z, hp, acc) => setS (strD cf d) o.dst z s.sl fun sl => k ⟨sl, hp⟩ acc
  | none => none
noncomputable def seqCall (cf : Cfg) (d : Option Dir) (ev : EvT) (f : FuncId) (ps : List (Nat × Nat)) (o : Oper) (s : Es) (acc : List Prop) (k : Kont β) : Option (List V1) → Option β
  | some vs => landCall cf d o s k (ev f (vs ++ ps.map ptrV) s.h acc)
  | none => none
noncomputable def slowE (cf : Cfg) (ev : EvT) (d : Option Dir) (o : Oper) (s : Es) (acc : List Prop) (k : Kont β) : Option β :=
  match calleeE s.den.ev o.op with
  | some (f, args, ps) => seqCall cf d ev f ps o s acc k (valsE s.den.ev args)
  | none => slowOp cf d o s acc k
noncomputable def fastE (cf : Cfg) (ev : EvT) (d : Option Dir) (o : Oper) (s : Es) (acc : List Prop) (k : Kont β) : Option FR → Option β
  | some (.v z) => s.goV (strD cf d) o.dst z fun s => k s acc
  | some (.u z e) => s.goK (strD cf d) o.dst z e 1 fun s => k s acc
  | none => slowE cf ev d o s acc k
noncomputable def actE (cf : Cfg) (ev : EvT) (d : Option Dir) (o : Oper) (s : Es) (acc : List Prop) (k : Kont β) : Option β := match d with
  | none => fastE cf ev none o s acc k (fastOp cf.tab s o.op)
  | some .lz => fastE cf ev (some .lz) o s acc k (fastOp cf.tab s o.op)
  | some d => slowE cf ev (some d) o s acc k
noncomputable def guardE (cf : Cfg) (ev : EvT) (d : Option Dir) (o : Oper) (s : Es) (acc : List Prop) (k : Kont β) : Option Bool → Option β
  | some true => actE cf ev d o s acc k
  | some false => s.goK cf.str o.dst .no Eff.no 0 fun s => k s acc
  | none => none
noncomputable def stepE (cf : Cfg) (ev : EvT) (d : Option Dir) (ops : Array Oper) (o : Oper) (s : Es) (acc : List Prop) (k : Kont β) : Option β := match o.guard with
  | none => actE cf ev d o s acc k
  | some _ => guardE cf ev d o s acc k (wantZ ops s.sl.get o)
end
/-- The operations one behind the other, a call in the caller's own numbers. -/
noncomputable def seqS (cf : Cfg) (ev : EvT) (dir : Nat → Option Dir) (ops : Array Oper) : Nat → List Oper → Es → List Prop → Option (Es × List Prop)
  | _, [], s, acc => some (s, acc)
  | i, o :: r, s, acc => stepE cf ev (dir i) ops o s acc fun s acc => seqS cf ev dir ops (i + 1) r s acc
noncomputable def seqE (cf : Cfg) (ev : EvT) (dir : Nat → Option Dir) (ops : Array Oper) (i : Nat) (l : List Oper) : Es → List Prop → Option (Es × List Prop) :=
  @List.rec Oper (fun _ => Nat → Es → List Prop → Option (Es × List Prop)) (fun _ s acc => some (s, acc)) (fun o _ ih i s acc => stepE cf ev (dir i) ops o s acc fun s acc => ih (i + 1) s acc) l i

/-! Calls in numbers of their own, where the order is drawn. -/
noncomputable def Z1.ids : Z1 → List Nat
  | .own l _ _ => [l]
  | .ptr id _ => [id]
  | .pix id _ _ _ => [id]
  | .row l _ => [l]
  | .pel l _ _ _ => [l]
  | .mref id => [id]
  | .hd id _ _ _ => [id]
  | .mpp _ l _ => l.map fun p => p.2.1
  | .fn _ ps => ps.map fun p => p.1
  | .itr m _ _ _ => [m]
  | _ => []
noncomputable def addAll (h : Hp) : List Nat → List Nat → List Nat
  | [], acc => acc
  | k :: r, acc => addAll h r (if acc.contains k || !((h.L k).isSome || (h.B k).isSome) then acc else acc ++ [k])
noncomputable def closeIds (h : Hp) : Nat → Nat → List Nat → List Nat
  | 0, _, acc => acc
  | n + 1, q, acc => match acc[q]? with
    | none => acc
    | some k => match h.B k with
      | some cs => closeIds h n (q + 1) (addAll h (cs.flatMap Z1.ids) acc)
      | none => closeIds h n (q + 1) acc
noncomputable def Tr.flat {α : Type} : Tr (Option α) → Tr α
  | .e => .e
  | .n v l r => .n (match v with
    | some o => o
    | none => none) l.flat r.flat
theorem Tr.get_flat {α : Type} : ∀ (t : Tr (Option α)) (k : Nat), t.flat.get k = match t.get k with
    | some o => o
    | none => none
  | .e, _ => rfl
  | .n v l r, k => by
    show (Tr.n (match v with
      | some o => o
      | none => none) l.flat r.flat).get k = _
    rw [Tr.get_n, Tr.get_n, Tr.get_flat l, Tr.get_flat r]
    split
    · rfl
    · split <;> rfl
/-! Which of the caller's variables may be other ones. -/
noncomputable def rtZ (τ : List Nat) : Z1 → Bool
  | .own l _ _ => (idx τ l).isSome
  | _ => true
noncomputable def rtB (τ : List Nat) : Option (List Z1) → Bool
  | some cs => cs.all (rtZ τ)
  | none => true
noncomputable def memB (k : Nat) : List Nat → Bool
  | [] => false
  | x :: r => Nat.beq k x || memB k r
noncomputable def wrOf (s : S) (τ : List Nat) (w : List Nat) : List Nat := (List.range τ.length).filter fun j => memB j w || !(rtB τ (match τ[j]? with
  | some k => s.bx k
  | none => none))
/-- What a call is handed, and what it leaves: the choice, and what must hold. -/
noncomputable def callE (cf : Cfg) (ev : EvT) (s : Es) (f : FuncId) (args : List Operand) (ps : List (Nat × Nat)) (acc : List Prop) : Option (Inn × Out × List Nat × List Nat × List Prop) :=
  match valsE s.den.ev args with
  | some vs =>
    let τ := closeIds s.h 2000 0 (addAll s.h ((vs.flatMap fun v => v.cells.flatMap Z1.ids) ++ ps.map Prod.fst) [])
    match callIn τ [] s.den.live s.den.bx s.den.ev args ps with
    | some inn => addL inn.live .e fun lv => putL cf.str inn.bx .e fun bx => match ev f inn.args ⟨lv, bx, inn.n, []⟩ acc with
      | some (z, hp, C) =>
        let o : Out := ⟨z, hp.lv.flat.list, hp.bx.list, hp.nx⟩
        if inn.ok && o.ok inn then some (inn, o, τ, wrOf s.den τ hp.wr, C) else none
      | none => none
    | none => none
  | none => none
/-! (By comparing values.) Which of the caller's variables are as they were. -/
noncomputable def eqI (a b : Int) : Bool := decide (a = b)
noncomputable def eqBl (a b : Bool) : Bool := a == b
noncomputable def eqSt (a b : ByteArray) : Bool := decide (a = b)
theorem eqI_spec (a b : Int) (h : eqI a b = true) : a = b := of_decide_eq_true h
theorem eqBl_spec (a b : Bool) (h : eqBl a b = true) : a = b := eq_of_beq h
theorem eqSt_spec (a b : ByteArray) (h : eqSt a b = true) : a = b := of_decide_eq_true h
noncomputable def eqLs {α : Type} (f : α → α → Bool) : List α → List α → Bool
  | [], [] => true
  | x :: xs, y :: ys => f x y && eqLs f xs ys
  | _, _ => false
theorem eqLs_spec {α : Type} {f : α → α → Bool} (hf : ∀ a b, f a b = true → a = b) : ∀ {xs ys : List α}, eqLs f xs ys = true → xs = ys
  | [], [], _ => rfl
  | x :: xs, y :: ys, h => by
    simp only [eqLs, Bool.and_eq_true] at h
    rw [hf _ _ h.1, eqLs_spec hf h.2]
  | [], _ :: _, h => by cases h
  | _ :: _, [], h => by cases h
noncomputable def K.eqB : (T : K) → T.den → T.den → Bool
  | .unit => fun _ _ => true
  | .int _ => eqI
  | .bool => eqBl
  | .str => eqSt
  | .slice T => eqLs (K.eqB T)
  | .pair A B => fun a b => A.eqB a.1 b.1 && B.eqB a.2 b.2
  | .tree => fun _ _ => false
  | .wood => fun _ _ => false
theorem K.eqB_spec : ∀ (T : K) (a b : T.den), K.eqB T a b = true → a = b
  | .unit, _, _, _ => rfl
  | .int _, a, b, h => eqI_spec a b h
  | .bool, a, b, h => eqBl_spec a b h
  | .str, a, b, h => eqSt_spec a b h
  | .slice T, a, b, h => eqLs_spec (K.eqB_spec T) (show eqLs (K.eqB T) a b = true from h)
  | .pair A B, a, b, h => by
    have h : (A.eqB a.1 b.1 && B.eqB a.2 b.2) = true := h
    simp only [Bool.and_eq_true] at h
    exact Prod.ext (K.eqB_spec A _ _ h.1) (K.eqB_spec B _ _ h.2)
  | .tree, a, b, h => by exact absurd (show false = true from h) (by decide)
  | .wood, a, b, h => by exact absurd (show false = true from h) (by decide)
noncomputable def eqS (T T' : K) (xs : List T.den) (ys : List T'.den) : Bool := if h : T = T' then K.eqB (.slice T') (h ▸ xs) ys else false
noncomputable def eqX : X → X → Bool
  | .int k a, .int k' b => decide (k = k') && decide (a = b)
  | .bool a, .bool b => a == b
  | .nilI, .nilI => true
  | .nilP, .nilP => true
  | .nilM, .nilM => true
  | .sl T xs, .sl T' ys => eqS T T' xs ys
  | _, _ => false
noncomputable def eqZ1 : Z1 → Z1 → Bool
  | .d x, .d y => eqX x y
  | .own l T xs, .own l' T' ys => Nat.beq l l' && eqS T T' xs ys
  | .nn T xs, .nn T' ys => eqS T T' xs ys
  | .ptr a b, .ptr c d => Nat.beq a c && Nat.beq b d
  | .row a T, .row c T' => Nat.beq a c && decide (T = T')
  | .run T xs, .run T' ys => eqS T T' xs ys
  | .mref a, .mref c => Nat.beq a c
  | .hd a b n m, .hd a' b' n' m' => (Nat.beq a a' && Nat.beq b b') && (Nat.beq n n' && Nat.beq m m')
  | .mpp k l c, .mpp k' l' c' => decide (k = k') && decide (l = l') && Nat.beq c c'
  | .fn f ps, .fn f' ps' => decide (f = f') && decide (ps = ps')
  | _, _ => false
noncomputable def eqZs : List Z1 → List Z1 → Bool
  | [], [] => true
  | x :: xs, y :: ys => eqZ1 x y && eqZs xs ys
  | _, _ => false
theorem eqS_spec {T T' : K} {xs : List T.den} {ys : List T'.den} (h : eqS T T' xs ys = true) : ∃ e : T = T', e ▸ xs = ys := by
  unfold eqS at h
  split at h
  · rename_i e; subst e; exact ⟨rfl, K.eqB_spec _ _ _ h⟩
  · cases h
theorem eqX_spec {x y : X} (h : eqX x y = true) : x = y := by
  unfold eqX at h
  split at h
  · simp only [Bool.and_eq_true, decide_eq_true_eq] at h; rw [h.1, h.2]
  · simp only [beq_iff_eq] at h; rw [h]
  · rfl
  · rfl
  · rfl
  · obtain ⟨e, h⟩ := eqS_spec h; subst e; subst h; rfl
  · cases h
theorem eqZ1_spec {x y : Z1} (h : eqZ1 x y = true) : x = y := by
  unfold eqZ1 at h
  split at h
  · rw [eqX_spec h]
  · simp only [Bool.and_eq_true, Nat.beq_eq] at h
    obtain ⟨e, h2⟩ := eqS_spec h.2; subst e; subst h2; rw [h.1]
  · obtain ⟨e, h2⟩ := eqS_spec h; subst e; subst h2; rfl
  · simp only [Bool.and_eq_true, Nat.beq_eq] at h; rw [h.1, h.2]
  · simp only [Bool.and_eq_true, Nat.beq_eq, decide_eq_true_eq] at h; rw [h.1, h.2]
  · obtain ⟨e, h2⟩ := eqS_spec h; subst e; subst h2; rfl
  · simp only [Nat.beq_eq] at h; rw [h]
  · simp only [Bool.and_eq_true, Nat.beq_eq] at h; rw [h.1.1, h.1.2, h.2.1, h.2.2]
  · simp only [Bool.and_eq_true, Nat.beq_eq, decide_eq_true_eq] at h; rw [h.1.1, h.1.2, h.2]
  · simp only [Bool.and_eq_true, decide_eq_true_eq] at h; rw [h.1, h.2]
  · cases h
theorem eqZs_spec : ∀ {xs ys : List Z1}, eqZs xs ys = true → xs = ys
  | [], [], _ => rfl
  | x :: xs, y :: ys, h => by
    simp only [eqZs, Bool.and_eq_true] at h
    rw [eqZ1_spec h.1, eqZs_spec h.2]
  | [], _ :: _, h => by cases h
  | _ :: _, [], h => by cases h
noncomputable def eqBo : Option (List Z1) → Option (List Z1) → Bool
  | none, none => true
  | some a, some b => eqZs a b
  | _, _ => false
noncomputable def eqOo : Option Ow → Option Ow → Bool
  | none, none => true
  | some a, some b => Nat.beq a.e b.e && Nat.beq a.k b.k
  | _, _ => false
theorem eqBo_spec {a b : Option (List Z1)} (h : eqBo a b = true) : a = b := by
  unfold eqBo at h
  split at h
  · rfl
  · rw [eqZs_spec h]
  · cases h
theorem eqOo_spec {a b : Option Ow} (h : eqOo a b = true) : a = b := by
  unfold eqOo at h
  split at h
  · rfl
  · rename_i a b; simp only [Bool.and_eq_true, Nat.beq_eq] at h; obtain ⟨_, _⟩ := a; obtain ⟨_, _⟩ := b; simp only at h; rw [h.1, h.2]
  · cases h
noncomputable def sameAt (s : S) (τ : List Nat) (base : Nat) (o : Out) (j : Nat) : Bool := match τ[j]? with
  | some k => eqBo (s.bx k) ((look o.bx j).map (fun cs => cs.map (Z1.exp (sig τ base)))) && eqOo (s.live k) (look o.live j)
  | none => true
noncomputable def wrOfV (s : S) (τ : List Nat) (base : Nat) (o : Out) : List Nat := (List.range τ.length).filter fun j => !sameAt s τ base o j
theorem wrOfV_spec (s : S) (τ : List Nat) (base : Nat) (o : Out) : SameW s.live s.bx τ base o (wrOfV s τ base o) := by
  intro j k hj hw
  have hjl : j < τ.length := (List.getElem?_eq_some_iff.1 hj).1
  have h : sameAt s τ base o j = true := by
    cases hs : sameAt s τ base o j with
    | true => rfl
    | false =>
      exfalso
      have : (wrOfV s τ base o).contains j = true := by
        simp only [wrOfV, List.contains_iff_mem, List.mem_filter, List.mem_range]
        exact ⟨hjl, by simp [hs]⟩
      rw [this] at hw; cases hw
  unfold sameAt at h
  rw [hj] at h
  simp only [Bool.and_eq_true] at h
  exact ⟨eqBo_spec h.1, eqOo_spec h.2⟩
noncomputable def callCh (d : Option Dir) (s : S) (base : Nat) (τ : List Nat) (o : Out) (wr : List Nat) : Ch := match d with
  | some .fin => .callW τ [] o wr
  | some .finV => .callW τ [] o (wrOfV s τ base o)
  | _ => .call τ [] o
noncomputable def runE (cf : Cfg) (ev : EvT) (dir : Nat → Option Dir) (ops : Array Oper) : Nat → List Oper → Es → List Prop → Option (Es × List Step × List (Nat × Ch) × List Prop)
  | _, [], s, acc => some (s, [], [], acc)
  | i, o :: r, s, acc => match wantZ ops s.sl.get o with
    | some false => (s.goK cf.str o.dst .no Eff.no 0 fun s' => runE cf ev dir ops (i + 1) r s' acc).map fun p => (p.1, ⟨i, ⟨.no, Eff.no, [], none⟩, s.h.nx, 0⟩ :: p.2.1, p.2.2.1, p.2.2.2)
    | some true => match calleeE s.den.ev o.op with
      | some (f, args, ps) => match callE cf ev s f args ps acc with
        | some (inn, out, τ, wr, acc) => match opZ cf.P cf.tab s.h.nx (some (callCh (dir i) s.den s.h.nx τ out wr)) s.den o.op with
          | some (st, n) => (s.goK (strD cf (dir i)) o.dst st.z st.e n fun s' => runE cf ev dir ops (i + 1) r s' acc).map fun p => (p.1, ⟨i, st, s.h.nx, n⟩ :: p.2.1, (i, callCh (dir i) s.den s.h.nx τ out wr) :: p.2.2.1, p.2.2.2)
          | none => none
        | none => none
      | none => match firstOp cf.P cf.tab s.h.nx s.den o.op (dirChs (dir i)) with
        | some (st, n, ch) => decK (dirCol (dir i)) st.C acc fun acc => (s.goK (strD cf (dir i)) o.dst st.z st.e n fun s' => runE cf ev dir ops (i + 1) r s' acc).map fun p => (p.1, ⟨i, st, s.h.nx, n⟩ :: p.2.1, (match ch with
            | some ch => (i, ch) :: p.2.2.1
            | none => p.2.2.1), p.2.2.2)
        | none => none
    | none => none

noncomputable def landE : Nat → S → List Item → Option (List Item)
  | 0, _, _ => none
  | n + 1, s, k => match adm 1000 k with
    | .code (.cond c x y) :: k' => match s.ev c with
      | some (.c (.d (.bool u))) => match u with
        | true => landE n s (.code x :: k')
        | false => landE n s (.code y :: k')
      | _ => none
    | k' => some k'
noncomputable def drawnE (ops : Array Oper) : Option (Es × List Step × List (Nat × Ch) × List Prop) → Option (Es × List Prop)
  | some (s1, tr, _, acc) => match backOk ops 0 ops.toList && pairsOk ops (masks ops.toList []) tr with
    | true => some (s1, acc)
    | false => none
  | none => none
noncomputable def regionE (cf : Cfg) (ev : EvT) (dir : Nat → Option Dir) (ops : Array Oper) (s : Es) (acc : List Prop) : Bool → Option (Es × List Prop)
  | true => drawnE ops (runE cf ev dir ops 0 ops.toList s acc)
  | false => seqE cf ev dir ops 0 ops.toList s acc
noncomputable def finE (s : Es) (acc : List Prop) : Option (List V1) → Option (Z × Hp × List Prop)
  | some vs => some (tupV vs, s.h, acc)
  | none => none
noncomputable def onE (cf : Cfg) (fn : Func) (s : Es) (acc : List Prop) (rec : List Item → Es → List Prop → Option (Z × Hp × List Prop)) : Option (List Item) → Option (Z × Hp × List Prop)
  | some k2 => match isRet k2 with
    | true => finE s acc (retV cf.tab s.den fn.results.toList)
    | false => rec k2 s acc
  | none => none
noncomputable def afterE (cf : Cfg) (fn : Func) (k : List Item) (rec : List Item → Es → List Prop → Option (Z × Hp × List Prop)) : Option (Es × List Prop) → Option (Z × Hp × List Prop)
  | some (s, acc) => onE cf fn s acc rec (landE 20 s.den k)
  | none => none
noncomputable def regE (cf : Cfg) (ev : EvT) (f : FuncId) (fn : Func) (s : Es) (acc : List Prop) (rec : List Item → Es → List Prop → Option (Z × Hp × List Prop)) : List Item → Option (Z × Hp × List Prop)
  | .code (.region id ops draw) :: k => match dstB fn.ntmps ops with
    | true => afterE cf fn k rec (regionE cf ev (cf.dir f id) ops s acc draw)
    | false => none
  | _ => none
noncomputable def evalRS (cf : Cfg) (ev : EvT) (f : FuncId) (fn : Func) : Nat → List Item → Es → List Prop → Option (Z × Hp × List Prop)
  | 0, _, _, _ => none
  | m + 1, k, s, acc => regE cf ev f fn s acc (fun k s acc => evalRS cf ev f fn m k s acc) k
noncomputable def evalR (cf : Cfg) (ev : EvT) (f : FuncId) (fn : Func) (m : Nat) : List Item → Es → List Prop → Option (Z × Hp × List Prop) :=
  @Nat.rec (fun _ => List Item → Es → List Prop → Option (Z × Hp × List Prop)) (fun _ _ _ => none) (fun _ ih k s acc => regE cf ev f fn s acc (fun k s acc => ih k s acc) k) m
noncomputable def argsS {β : Type} (str : Bool) : List V1 → Nat → Tr Z → (Tr Z → Option β) → Option β
  | [], _, t, c => c t
  | v :: r, i, t, c => setS str (some i) (.one v) t fun t' => argsS str r (i + 1) t' c
noncomputable def argsK {β : Type} (str : Bool) (l : List V1) : Nat → Tr Z → (Tr Z → Option β) → Option β :=
  @List.rec V1 (fun _ => Nat → Tr Z → (Tr Z → Option β) → Option β) (fun _ t c => c t) (fun v _ ih i t c => setS str (some i) (.one v) t fun t' => ih (i + 1) t' c) l
noncomputable def bodyE (cf : Cfg) (ev : EvT) (f : FuncId) (vs : List V1) (hp : Hp) (acc : List Prop) : Option Func → Option (Z × Hp × List Prop)
  | some fn => match fn.body with
    | some c => argsK false vs 0 .e fun sl => evalR cf ev f fn 100000 (adm 1000 [.code c]) ⟨sl, hp⟩ acc
    | none => none
  | none => none
noncomputable def primE (cf : Cfg) (ev : EvT) (f : FuncId) (vs : List V1) (hp : Hp) (acc : List Prop) : Option (Z × Hp × List Prop) → Option (Z × Hp × List Prop)
  | some r => some r
  | none => bodyE cf ev f vs hp acc (cf.fns f)
noncomputable def evalF (cf : Cfg) : Nat → EvT
  | 0, _, _, _, _ => none
  | d + 1, f, vs, hp, acc => primE cf (evalF cf d) f vs hp acc (cf.prim f vs hp acc)
end Zed
namespace Zed
open Go
set_option linter.unusedVariables false
set_option linter.unusedSimpArgs false

noncomputable def Fr (h h' : Hp) : Prop := (∀ k, k ∈ h.wr → k ∈ h'.wr) ∧ ∀ k, k ∉ h'.wr → h'.L k = h.L k ∧ h'.B k = h.B k
theorem Fr.refl (h : Hp) : Fr h h := ⟨fun _ q => q, fun _ _ => ⟨rfl, rfl⟩⟩
theorem Fr.trans {a b c : Hp} (h : Fr a b) (h' : Fr b c) : Fr a c :=
  ⟨fun k q => h'.1 k (h.1 k q), fun k q => by
    obtain ⟨q1, q2⟩ := h'.2 k q
    obtain ⟨q3, q4⟩ := h.2 k (fun e => q (h'.1 k e))
    exact ⟨q1.trans q3, q2.trans q4⟩⟩
noncomputable def EvFr (ev : EvT) : Prop := ∀ f vs hp acc z hp' acc', ev f vs hp acc = some (z, hp', acc') → Fr hp hp'

section
variable {β : Type}
theorem Es.goK_fr {str : Bool} {s : Es} {dst : Option Nat} {z : Z} {e : Eff} {n : Nat} {c : Es → Option β} {b : β} (h : s.goK str dst z e n c = some b) : ∃ s', c s' = some b ∧ Fr s.h s'.h := by
  unfold Es.goK at h
  obtain ⟨sl, h1, q1⟩ := setS_spec h
  obtain ⟨lv, h2, q2⟩ := killL_spec h1
  obtain ⟨lv', h3, q3⟩ := addL_spec h2
  obtain ⟨bx, h4, q4⟩ := putL_spec h3
  rw [forceN_eq] at h4
  refine ⟨_, h4, fun k q => ?_, fun k q => ?_⟩
  · show k ∈ dirt e s.h.wr
    simp [dirt, q]
  · have q : k ∉ dirt e s.h.wr := q
    simp only [dirt, List.mem_append, not_or] at q
    obtain ⟨a1, a2, a3, a4⟩ := q
    have e1 : look e.put k = none := look_none fun p hp e => a1 (e ▸ List.mem_map.2 ⟨p, hp, rfl⟩)
    have e2 : look e.add k = none := look_none fun p hp e => a2 (e ▸ List.mem_map.2 ⟨p, hp, rfl⟩)
    constructor
    · simp only [Hp.L, q3, q2, e2]
      rw [if_neg (by simpa using a3)]
    · simp only [Hp.B, q4, e1]
theorem Es.goV_fr {str : Bool} {s : Es} {dst : Option Nat} {z : Z} {c : Es → Option β} {b : β} (h : s.goV str dst z c = some b) : ∃ s', c s' = some b ∧ Fr s.h s'.h := by
  unfold Es.goV at h
  obtain ⟨sl, h1, q1⟩ := setS_spec h
  rw [forceN_eq] at h1
  exact ⟨_, h1, fun k q => q, fun k q => ⟨rfl, rfl⟩⟩
theorem decK_fr {col : Bool} {C : Option CP} {acc : List Prop} {k : List Prop → Option β} {b : β} (h : decK col C acc k = some b) : ∃ acc', k acc' = some b := by
  unfold decK at h
  split at h
  · exact ⟨_, h⟩
  · split at h
    · exact ⟨_, h⟩
    · split at h
      · exact ⟨_, h⟩
      · cases h
variable {cf : Cfg} {ev : EvT} {ops : Array Oper} {o : Oper} {s : Es} {acc : List Prop} {k : Kont β} {b : β}
noncomputable def KFr (s : Es) (k : Kont β) (b : β) : Prop := ∃ s1 acc1, k s1 acc1 = some b ∧ Fr s.h s1.h
theorem slowOp_fr {d : Option Dir} (h : slowOp cf d o s acc k = some b) : KFr s k b := by
  unfold slowOp at h
  split at h
  · obtain ⟨acc1, h1⟩ := decK_fr h
    obtain ⟨s1, h2, q⟩ := Es.goK_fr h1
    exact ⟨s1, acc1, h2, q⟩
  · cases h
theorem slowE_fr (hev : EvFr ev) {d : Option Dir} (h : slowE cf ev d o s acc k = some b) : KFr s k b := by
  unfold slowE at h
  split at h
  · unfold seqCall at h
    split at h
    · unfold landCall at h
      split at h
      · rename_i z hp acc1 hcall
        obtain ⟨sl, t1, t2⟩ := setS_spec h
        exact ⟨_, _, t1, hev _ _ _ _ _ _ _ hcall⟩
      · cases h
    · cases h
  · exact slowOp_fr h
theorem actE_fr (hev : EvFr ev) {d : Option Dir} (h : actE cf ev d o s acc k = some b) : KFr s k b := by
  unfold actE at h
  split at h
  case h_1 | h_2 =>
    unfold fastE at h
    split at h
    · obtain ⟨s1, h2, q⟩ := Es.goV_fr h
      exact ⟨s1, acc, h2, q⟩
    · obtain ⟨s1, h2, q⟩ := Es.goK_fr h
      exact ⟨s1, acc, h2, q⟩
    · exact slowE_fr hev h
  · exact slowE_fr hev h
theorem stepE_fr (hev : EvFr ev) {d : Option Dir} (h : stepE cf ev d ops o s acc k = some b) : KFr s k b := by
  unfold stepE at h
  split at h
  · exact actE_fr hev h
  · unfold guardE at h
    split at h
    · exact actE_fr hev h
    · obtain ⟨s1, h2, q⟩ := Es.goK_fr h
      exact ⟨s1, acc, h2, q⟩
    · cases h
end
theorem seqE_fr {cf : Cfg} {ev : EvT} (hev : EvFr ev) {ops : Array Oper} {dir : Nat → Option Dir} : ∀ {l : List Oper} {i : Nat} {s s' : Es} {acc acc' : List Prop}, seqE cf ev dir ops i l s acc = some (s', acc') → Fr s.h s'.h
  | [], i, s, s', acc, acc', h => by
    have h : some (s, acc) = some (s', acc') := h
    simp only [Option.some.injEq, Prod.mk.injEq] at h
    obtain ⟨rfl, rfl⟩ := h
    exact Fr.refl _
  | o :: r, i, s, s', acc, acc', h => by
    obtain ⟨s1, acc1, h1, q1⟩ := stepE_fr hev h
    exact q1.trans (seqE_fr hev h1)
theorem runE_fr {cf : Cfg} {ev : EvT} {ops : Array Oper} {dir : Nat → Option Dir} : ∀ {l : List Oper} {i : Nat} {s : Es} {acc : List Prop} {p : Es × List Step × List (Nat × Ch) × List Prop}, runE cf ev dir ops i l s acc = some p → Fr s.h p.1.h
  | [], i, s, acc, p, h => by
    simp only [runE, Option.some.injEq] at h
    subst h
    exact Fr.refl _
  | o :: r, i, s, acc, p, h => by
    have go : ∀ {str : Bool} {z : Z} {e : Eff} {n : Nat} {acc1 : List Prop} {q : Es × List Step × List (Nat × Ch) × List Prop}, s.goK str o.dst z e n (fun s1 => runE cf ev dir ops (i + 1) r s1 acc1) = some q → Fr s.h q.1.h := fun hg => by
      obtain ⟨s1, q1, q2⟩ := Es.goK_fr hg
      exact q2.trans (runE_fr q1)
    simp only [runE] at h
    split at h
    · obtain ⟨q, hq, rfl⟩ := omap h
      have := go hq
      exact this
    · split at h
      · split at h
        · split at h
          · obtain ⟨q, hq, rfl⟩ := omap h
            have := go hq
            exact this
          · cases h
        · cases h
      · split at h
        · obtain ⟨acc1, h1⟩ := decK_fr h
          obtain ⟨q, hq, rfl⟩ := omap h1
          have := go hq
          exact this
        · cases h
    · cases h
section
variable {cf : Cfg} {ev : EvT}
theorem regionE_fr (hev : EvFr ev) {dir : Nat → Option Dir} {ops : Array Oper} {s s1 : Es} {acc acc1 : List Prop} {draw : Bool} (h : regionE cf ev dir ops s acc draw = some (s1, acc1)) : Fr s.h s1.h := by
  unfold regionE at h
  split at h
  · unfold drawnE at h
    split at h
    · rename_i hr
      split at h
      · cases h; exact runE_fr hr
      · cases h
    · cases h
  · exact seqE_fr hev h
theorem evalR_fr (hev : EvFr ev) {f : FuncId} {fn : Func} : ∀ {m : Nat} {k : List Item} {s : Es} {acc acc' : List Prop} {z : Z} {hp : Hp}, evalR cf ev f fn m k s acc = some (z, hp, acc') → Fr s.h hp
  | 0, _, _, _, _, _, _, h => absurd (show none = some _ from h) (by simp)
  | m + 1, k, s, acc, acc', z, hp, h => by
    have h : regE cf ev f fn s acc (fun k s acc => evalR cf ev f fn m k s acc) k = some (z, hp, acc') := h
    unfold regE at h
    split at h
    · split at h
      · unfold afterE at h
        split at h
        · rename_i s1 acc1 hreg
          have q := regionE_fr hev hreg
          unfold onE at h
          split at h
          · split at h
            · unfold finE at h
              split at h
              · cases h; exact q
              · cases h
            · exact q.trans (evalR_fr hev h)
          · cases h
        · cases h
      · cases h
    · cases h
end
theorem argsK_fr {β : Type} {str : Bool} : ∀ {vs : List V1} {i : Nat} {t : Tr Z} {c : Tr Z → Option β} {b : β}, argsK str vs i t c = some b → ∃ t', c t' = some b
  | [], i, t, c, b, h => ⟨t, h⟩
  | v :: r, i, t, c, b, h => by
    have h : setS str (some i) (.one v) t (fun t' => argsK str r (i + 1) t' c) = some b := h
    obtain ⟨t1, q1, q2⟩ := setS_spec h
    exact argsK_fr q1
theorem evalF_fr {cf : Cfg} (hpr : EvFr cf.prim) : ∀ d, EvFr (evalF cf d)
  | 0 => fun f vs hp acc z hp' acc' h => by cases h
  | d + 1 => by
    intro f vs hp acc z hp' acc' h
    simp only [evalF] at h
    unfold primE at h
    split at h
    · rename_i r hr; cases h; exact hpr f vs hp acc z hp' acc' hr
    · unfold bodyE at h
      split at h
      · split at h
        · obtain ⟨sl, h1⟩ := argsK_fr h
          exact evalR_fr (evalF_fr hpr d) h1
        · cases h
      · cases h

/-! What isn't touched is the same in the caller's numbers. -/
theorem idx_sig {τ : List Nat} {k j base : Nat} (h : idx τ k = some j) : sig τ base j = k := by
  have h1 := idx_get h
  have h2 : j < τ.length := (List.getElem?_eq_some_iff.1 h1).1
  simp only [sig, if_pos h2, getD_of h1]
theorem imp_exp {τ : List Nat} {base : Nat} {z z' : Z1} (h : z.imp τ = some z') (hr : rtZ τ z = true) : z'.exp (sig τ base) = z := by
  have one : ∀ {id : Nat} {f : Nat → Z1} , (∀ j, (f j).exp (sig τ base) = f (sig τ base j)) → (idx τ id).map f = some z' → z'.exp (sig τ base) = f id := fun hf h => by
    obtain ⟨j, hj, rfl⟩ := omap h
    rw [hf, idx_sig hj]
  cases z with
  | d x => cases h; rfl
  | own l sz xs =>
    simp only [rtZ, Option.isSome_iff_exists] at hr
    obtain ⟨j, hj⟩ := hr
    simp only [Z1.imp, hj, Option.some.injEq] at h
    subst h
    simp only [Z1.exp, idx_sig hj]
  | ptr id off => exact one (f := fun j => .ptr j off) (fun j => rfl) h
  | el cs => cases h; rfl
  | nn T xs => cases h; rfl
  | pix id off n i => exact one (f := fun j => .pix j off n i) (fun j => rfl) h
  | row l T => exact one (f := fun j => .row j T) (fun j => rfl) h
  | pel l T i off => exact one (f := fun j => .pel j T i off) (fun j => rfl) h
  | run T xs => cases h; rfl
  | mref id => exact one (f := fun j => .mref j) (fun j => rfl) h
  | mp k k' l => cases h; rfl
  | hd id off n c => exact one (f := fun j => .hd j off n c) (fun j => rfl) h
  | mpp k l c =>
    obtain ⟨l', hl, rfl⟩ := omap (show (impM τ l).map (fun l' => Z1.mpp k l' c) = some z' from h)
    obtain ⟨h1, h2⟩ := impM_map hl
    simp only [Z1.exp, Z1.mpp.injEq, true_and, and_true]
    conv => rhs; rw [← h2]
    exact List.map_congr_left fun p hp => by simp only [sig, if_pos (h1 p hp)]
  | fn f ps =>
    obtain ⟨l', hl, rfl⟩ := omap (show (impP τ ps).map (fun ps' => Z1.fn f ps') = some z' from h)
    obtain ⟨h1, h2⟩ := impP_map hl
    simp only [Z1.exp, Z1.fn.injEq, true_and]
    conv => rhs; rw [← h2]
    exact List.map_congr_left fun p hp => by simp only [sig, if_pos (h1 p hp)]
  | itr m a b c => exact one (f := fun j => .itr j a b c) (fun j => rfl) h
theorem impL_exp {τ : List Nat} {base : Nat} : ∀ {cs cs' : List Z1}, impL τ cs = some cs' → cs.all (rtZ τ) = true → cs'.map (Z1.exp (sig τ base)) = cs
  | [], cs', h, _ => by rw [impL_nil h]; rfl
  | z :: r, cs', h, hr => by
    obtain ⟨z', r', h1, h2, rfl⟩ := impL_cons h
    simp only [List.all_cons, Bool.and_eq_true] at hr
    rw [List.map_cons, imp_exp h1 hr.1, impL_exp h2 hr.2]
theorem impH_look {τ : List Nat} {live : Nat → Option Ow} {bx : Nat → Option (List Z1)} : ∀ {l : List Nat} {j0 : Nat} {L : List (Nat × Ow)} {B : List (Nat × List Z1)}, impH τ live bx j0 l = some (L, B) → ∀ i k, l[i]? = some k →
    look L (j0 + i) = live k ∧ ((bx k = none ∧ look B (j0 + i) = none) ∨ ∃ cs cs', bx k = some cs ∧ impL τ cs = some cs' ∧ look B (j0 + i) = some cs')
  | [], j0, L, B, h, i, k, hk => by cases hk
  | x :: r, j0, L, B, h, i, k, hk => by
    simp only [impH] at h
    split at h
    · cases h
    · rename_i L' B' hr
      have ih := impH_look hr
      obtain ⟨s1, s2, s3⟩ := impH_spec hr
      have nL : look L' j0 = none := by
        cases hq : look L' j0 with
        | none => rfl
        | some e => have := (s1 j0 e hq).1; omega
      have nB : look B' j0 = none := by
        cases hq : look B' j0 with
        | none => rfl
        | some e => have := (s2 j0 e hq).1; omega
      cases i with
      | zero =>
        have hk : x = k := by simpa using hk
        subst hk
        split at h
        · rename_i cs hb
          obtain ⟨cs', hi, e⟩ := omap h
          simp only [Prod.mk.injEq] at e
          obtain ⟨rfl, rfl⟩ := e
          refine ⟨?_, .inr ⟨cs, cs', hb, hi, by simp [look]⟩⟩
          cases hl : live x with
          | none => simpa using nL
          | some e => simp [look]
        · rename_i hb
          obtain ⟨e, he, e1⟩ := omap h
          simp only [Prod.mk.injEq] at e1
          obtain ⟨rfl, rfl⟩ := e1
          refine ⟨?_, .inl ⟨hb, by simpa using nB⟩⟩
          rw [he]; simp [look]
      | succ i =>
        have hk : r[i]? = some k := by simpa using hk
        obtain ⟨i1, i2⟩ := ih i k hk
        rw [show j0 + (i + 1) = j0 + 1 + i from by omega]
        have hne : ¬ j0 = j0 + 1 + i := by omega
        split at h
        · rename_i cs hb
          obtain ⟨cs', hi, e⟩ := omap h
          simp only [Prod.mk.injEq] at e
          obtain ⟨rfl, rfl⟩ := e
          refine ⟨?_, ?_⟩
          · cases hl : live x with
            | none => exact i1
            | some e => simp only [look]; rw [if_neg hne]; exact i1
          · simp only [look]; rw [if_neg hne]; exact i2
        · rename_i hb
          obtain ⟨e, he, e1⟩ := omap h
          simp only [Prod.mk.injEq] at e1
          obtain ⟨rfl, rfl⟩ := e1
          refine ⟨?_, i2⟩
          simp only [look]; rw [if_neg hne]; exact i1
theorem memB_mem {k : Nat} : ∀ {l : List Nat}, memB k l = false → k ∉ l
  | [], _ => by simp
  | x :: r, h => by
    simp only [memB, Bool.or_eq_false_iff] at h
    have h1 : k ≠ x := fun e => by rw [e] at h; simp at h
    simp [h1, memB_mem h.2]
theorem wrOf_spec {s : S} {τ w : List Nat} {j k : Nat} (hj : τ[j]? = some k) (h : (wrOf s τ w).contains j = false) : j ∉ w ∧ rtB τ (s.bx k) = true := by
  have hl : j < τ.length := (List.getElem?_eq_some_iff.1 hj).1
  have h : j ∉ wrOf s τ w := by simpa using h
  simp only [wrOf, List.mem_filter, List.mem_range, hl, true_and, hj, Bool.or_eq_true, not_or, Bool.not_eq_true, Bool.not_eq_false'] at h
  exact ⟨memB_mem h.1, by simpa using h.2⟩
theorem callE_same {cf : Cfg} {ev : EvT} (hev : EvFr ev) {s : Es} {f : FuncId} {args : List Operand} {ps : List (Nat × Nat)} {inn : Inn} {out : Out} {τ wr : List Nat} {acc acc' : List Prop} (h : callE cf ev s f args ps acc = some (inn, out, τ, wr, acc')) : SameW s.den.live s.den.bx τ s.h.nx out wr := by
  unfold callE at h
  split at h
  case h_2 => cases h
  rename_i vs hvs
  simp only at h
  split at h
  case h_2 => cases h
  rename_i inn' hin
  obtain ⟨lv, h1, q1⟩ := addL_spec h
  obtain ⟨bx, h2, q2⟩ := putL_spec h1
  split at h2
  case h_2 => cases h2
  rename_i z hp C' hr
  split at h2
  case isFalse => cases h2
  simp only [Option.some.injEq, Prod.mk.injEq] at h2
  obtain ⟨rfl, rfl, rfl, rfl, rfl⟩ := h2
  have hfr := hev _ _ _ _ _ _ _ hr
  have e1 : (Hp.mk lv bx inn'.n []).L = look inn'.live := by
    funext k
    simp only [Hp.L, q1]
    cases look inn'.live k <;> rfl
  have e2 : (Hp.mk lv bx inn'.n []).B = look inn'.bx := by
    funext k
    simp only [Hp.B, q2]
    cases look inn'.bx k <;> rfl
  have e3 : look hp.lv.flat.list = hp.L := by
    funext k
    rw [Tr.look_list, Tr.get_flat]
    unfold Hp.L
    cases hp.lv.get k <;> rfl
  have e4 : look hp.bx.list = hp.B := by
    funext k
    rw [Tr.look_list]; rfl
  intro j k hj hw
  obtain ⟨w1, w2⟩ := wrOf_spec hj hw
  obtain ⟨f1, f2⟩ := hfr.2 j w1
  rw [e1] at f1
  rw [e2] at f2
  unfold callIn at hin
  split at hin
  case h_2 => cases hin
  rename_i vs' qs L B g1 g2 g3
  split at hin
  case isFalse => cases hin
  cases hin
  obtain ⟨i1, i2⟩ := impH_look g3 j k hj
  rw [Nat.zero_add] at i1 i2
  show s.den.bx k = (look hp.bx.list j).map _ ∧ s.den.live k = look hp.lv.flat.list j
  rw [e3, e4, f1, f2]
  refine ⟨?_, i1.symm⟩
  show s.den.bx k = (look B j).map _
  rcases i2 with ⟨a1, a2⟩ | ⟨cs, cs', a1, a2, a3⟩
  · rw [a1, a2]; rfl
  · rw [a1, a3]
    rw [a1] at w2
    rw [Option.map_some, impL_exp a2 w2]
end Zed
