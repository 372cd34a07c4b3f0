/- ZED, fourth text: the operations that yield a value and leave the world alone. -/
import Derived.Test.YtakamchmiakicaaDoorZedC
import Derived.Lib.MinMax
import Derived.Laws.Small
import Derived.Laws.Cover1
namespace Zed
open Go
set_option linter.unusedVariables false
set_option linter.unusedSimpArgs false

def Z1.asD : Z1 → Option X
  | .d x => some x
  | .own _ T xs => some (.sl T xs)
  | .nn T xs => some (.sl T xs)
  | _ => none
def V1.cells : V1 → List Z1
  | .c z => [z]
  | .agg cs => cs
def V1.asD : V1 → Option X
  | .c z => z.asD
  | _ => none
def Z.v : Z → Option V1
  | .one v => some v
  | _ => none

def constZ : Value → Option V1
  | .int k n => some (.c (.d (.int k n)))
  | .bool b => some (.c (.d (.bool b)))
  | .string s => some (.c (.d (.str s)))
  | .nilIface => some (.c (.d .nilI))
  | .pointer none => some (.c (.d .nilP))
  | .slice none 0 0 => some (.c (.d (.sl .unit [])))
  | _ => none

def S.ev (s : S) : Operand → Option V1
  | .tmp t => (s.sl t).bind Z.v
  | .const v => constZ v
  | _ => none

section
variable {W : World} {g : G}

theorem Z1.asD_rd {v : Value} {z : Z1} {x : X} (h : RC W g v z) (hx : z.asD = some x) : RD W g.F v x.raw := by
  cases z <;> simp only [Z1.asD] at hx <;> first | (cases hx; done) | skip
  · cases hx; exact h
  · cases hx; exact h.1
  · cases hx; exact h.1
theorem V1.asD_rd {v : Value} {z : V1} {x : X} (h : RV W g v z) (hx : z.asD = some x) : RD W g.F v x.raw := by
  cases z with
  | c z => exact Z1.asD_rd h hx
  | agg cs => cases hx

theorem RD.notAgg {F : Nat → Nat → Prop} {v : Value} {x : D} (h : RD W F v x) : v.cells = #[v] := by cases h <;> rfl
theorem RC.notAgg {v : Value} {z : Z1} (h : RC W g v z) : v.cells = #[v] := by
  cases z with
  | d x => exact RD.notAgg h
  | own l sz xs => exact RD.notAgg h.1
  | ptr id off => rw [show v = _ from h]; rfl
  | nn T xs => exact RD.notAgg h.1
  | pix id off n i => rw [h.2]; rfl
  | row l T => obtain ⟨_, A, n, c, rfl⟩ := h; rfl
  | pel l T i off => obtain ⟨_, _, _, _, _, rfl⟩ := h; rfl
  | run T xs => exact h.elim
  | mref id => rw [show v = _ from h]; rfl
  | mp k k' l => exact h.elim
  | el cs => obtain ⟨b, o, rfl, _⟩ := h; rfl

theorem cells_rd {v : Value} {z : V1} (h : RV W g v z) : RCs W g v.cells.toList z.cells := by
  cases z with
  | agg cs => obtain ⟨vs, rfl, hr⟩ := h; exact hr
  | c z =>
    rw [RC.notAgg h]
    refine ⟨rfl, fun j u d h1 h2 => ?_⟩
    cases j with
    | zero => simp [V1.cells] at h1 h2; subst h1; subst h2; exact h
    | succ j => simp [V1.cells] at h2
theorem cells_below {z : V1} {n : Nat → Prop} (h : z.below n) : ∀ c ∈ z.cells, c.below n := by
  cases z with
  | c z => intro c hc; simp [V1.cells] at hc; subst hc; exact h
  | agg cs => exact h

theorem constZ_rz {v : Value} {z : V1} (h : constZ v = some z) : RV W g v z := by
  unfold constZ at h
  split at h <;> first | (cases h; first | exact RD.int _ _ | exact RD.bool _ | exact RD.str _ | exact RD.nilI | exact RD.nilP | exact RD.slNil 0) | cases h
theorem constZ_below {v : Value} {z : V1} (h : constZ v = some z) (n : Nat → Prop) : z.below n := by
  unfold constZ at h
  split at h <;> first | (cases h; trivial) | cases h
end

theorem AI.ev {P : Program} {E : Ent} {g : G} {s : S} {a : Act} {W : World} (h : AI P E g s a W) {x : Operand} {z : V1} (hx : s.ev x = some z) :
    RV W g (a.eval x) z ∧ z.below s.us := by
  cases x with
  | tmp t =>
    simp only [S.ev] at hx
    cases hs : s.sl t with
    | none => rw [hs] at hx; cases hx
    | some zz =>
      rw [hs] at hx
      simp only [Option.bind_some] at hx
      obtain ⟨v, hv, hr⟩ := h.slots t zz hs
      have e : a.eval (.tmp t) = v := by simp [Act.eval, Array.getD_eq_getD_getElem?, hv]
      rw [e]
      cases zz with
      | one v1 => cases hx; exact ⟨hr, h.low t _ hs⟩
      | tup _ => cases hx
      | no => cases hx
  | const v => exact ⟨constZ_rz hx, constZ_below hx _⟩
  | global g => cases hx
  | func f => cases hx

/-- What must hold. -/
def holds : Option Prop → Prop
  | none => True
  | some p => p

/-! Numbers, bools, strings: the value, and what must hold. -/
def binI (op : BinOp) (k : IntKind) (a b : Int) : Option (X × Option Prop) :=
  match op with
  | .add => some (.int k (k.wrap (a + b)), none)
  | .sub => some (.int k (k.wrap (a - b)), none)
  | .mul => some (.int k (k.wrap (a * b)), none)
  | .quo => some (.int k (k.wrap (a.tdiv b)), some (b ≠ 0))
  | .rem => some (.int k (a.tmod b), some (b ≠ 0))
  | .and => some (.int k (bits .and k a b), none)
  | .or => some (.int k (bits .or k a b), none)
  | .xor => some (.int k (bits .xor k a b), none)
  | .andNot => some (.int k (bits .andNot k a b), none)
  | .eql => some (.bool (a == b), none)
  | .neq => some (.bool (a != b), none)
  | .lss => some (.bool (decide (a < b)), none)
  | .leq => some (.bool (decide (a ≤ b)), none)
  | .gtr => some (.bool (decide (a > b)), none)
  | .geq => some (.bool (decide (a ≥ b)), none)
  | _ => none
def shI (op : BinOp) (k : IntKind) (a b : Int) : Option (X × Option Prop) :=
  match op with
  | .shl => some (.int k (k.wrap (a * 2 ^ min b.toNat k.bits)), some (0 ≤ b))
  | .shr => some (.int k (a.fdiv (2 ^ min b.toNat k.bits)), some (0 ≤ b))
  | _ => none
def binS (op : BinOp) (a b : ByteArray) : Option (X × Option Prop) :=
  match op with
  | .add => some (.str (a ++ b), some (a.size + b.size ≤ 9223372036854775807))
  | .eql => some (.bool (a.toList == b.toList), none)
  | .neq => some (.bool (!(a.toList == b.toList)), none)
  | .lss => some (.bool (Op.bytesLess a.toList b.toList), none)
  | .leq => some (.bool (Op.bytesLess a.toList b.toList || a.toList == b.toList), none)
  | .gtr => some (.bool (!(Op.bytesLess a.toList b.toList || a.toList == b.toList)), none)
  | .geq => some (.bool (!(Op.bytesLess a.toList b.toList)), none)
  | _ => none
def isShift : BinOp → Bool | .shl | .shr => true | _ => false
def binP (op : BinOp) (eq : Bool) : Option (X × Option Prop) :=
  match op with
  | .eql => some (.bool eq, none)
  | .neq => some (.bool (!eq), none)
  | _ => none
def binZ (tab : Tab) (op : BinOp) (t : TypeId) (x y : V1) : Option (X × Option Prop) :=
  match x, y with
  | .c (.d (.int k a)), .c (.d (.int k' b)) => if isShift op then shI op k a b else if k = k' then binI op k a b else none
  | .c (.d (.str a)), .c (.d (.str b)) => binS op a b
  | .c (.d (.bool a)), .c (.d (.bool b)) =>
    match (look tab t).map TyI.ty with
    | some .bool => binP op (a == b)
    | _ => none
  | .c (.ptr _ _), .c (.d .nilP) =>
    match (look tab t).map TyI.ty with
    | some (.ptr _) => binP op false
    | _ => none
  | .c (.el _), .c (.d .nilP) =>
    match (look tab t).map TyI.ty with
    | some (.ptr _) => binP op false
    | _ => none
  | .c (.d .nilP), .c (.d .nilP) =>
    match (look tab t).map TyI.ty with
    | some (.ptr _) => binP op true
    | _ => none
  | .c (.pix _ _ _ _), .c (.d .nilP) =>
    match (look tab t).map TyI.ty with
    | some (.ptr _) => binP op false
    | _ => none
  | .c (.pel _ _ _ _), .c (.d .nilP) =>
    match (look tab t).map TyI.ty with
    | some (.ptr _) => binP op false
    | _ => none
  | .c (.nn _ _), .c (.d (.sl .unit _)) =>
    match (look tab t).map TyI.ty with
    | some (.slice _) => binP op false
    | _ => none
  | .c (.d (.sl .unit _)), .c (.d (.sl .unit _)) =>
    match (look tab t).map TyI.ty with
    | some (.slice _) => binP op true
    | _ => none
  | .c (.d (.pt a)), .c (.d .nilP) =>
    match (look tab t).map TyI.ty with
    | some (.ptr _) => binP op a.isNil
    | _ => none
  | _, _ => none

theorem binI_run {P : Program} {W : World} {F : Nat → Nat → Prop} {op : BinOp} {t : TypeId} {k : IntKind} {a b : Int} {d : X} {C : Option Prop} (h : binI op k a b = some (d, C)) (hC : holds C) :
    ∃ v, (binOp op t (.int k a) (.int k b)).run P W = .ok v W ∧ RD W F v d.raw := by
  cases op <;> simp only [binI] at h
  case quo => cases h; have hC : b ≠ 0 := hC
              exact ⟨_, by simp [binOp_quo, Op.intDiv, hC], .int _ _⟩
  case rem => cases h; have hC : b ≠ 0 := hC
              exact ⟨_, by simp [binOp_rem, Op.intDiv, hC], .int _ _⟩
  case add => cases h; exact ⟨_, by simp [binOp_add, Op.intArith], .int _ _⟩
  case sub => cases h; exact ⟨_, by simp [binOp_sub, Op.intArith], .int _ _⟩
  case mul => cases h; exact ⟨_, by simp [binOp_mul, Op.intArith], .int _ _⟩
  case and => cases h; exact ⟨_, by simp [binOp_and, intBits_and], .int _ _⟩
  case or => cases h; exact ⟨_, by simp [binOp_or, intBits_or], .int _ _⟩
  case xor => cases h; exact ⟨_, by simp [binOp_xor, intBits_xor], .int _ _⟩
  case andNot => cases h; exact ⟨_, by simp [binOp_andNot, intBits_andNot], .int _ _⟩
  case eql => cases h; exact ⟨_, by simp [binOp_eql], .bool _⟩
  case neq => cases h; exact ⟨_, by simp [binOp_neq], .bool _⟩
  case lss => cases h; exact ⟨_, by simp [binOp_lss], .bool _⟩
  case leq => cases h; exact ⟨_, by simp [binOp_leq], .bool _⟩
  case gtr => cases h; exact ⟨_, by simp [binOp_gtr], .bool _⟩
  case geq => cases h; exact ⟨_, by simp [binOp_geq], .bool _⟩
  all_goals cases h

theorem shI_run {P : Program} {W : World} {F : Nat → Nat → Prop} {op : BinOp} {t : TypeId} {k : IntKind} (k' : IntKind) {a b : Int} {d : X} {C : Option Prop} (h : shI op k a b = some (d, C)) (hC : holds C) :
    ∃ v, (binOp op t (.int k a) (.int k' b)).run P W = .ok v W ∧ RD W F v d.raw := by
  cases op <;> simp only [shI] at h
  case shl => cases h; have hC : 0 ≤ b := hC
              have hb : ¬ b < 0 := by omega
              exact ⟨_, by simp [binOp_shl, Op.shift, hb], .int _ _⟩
  case shr => cases h; have hC : 0 ≤ b := hC
              have hb : ¬ b < 0 := by omega
              exact ⟨_, by simp [binOp_shr, Op.shift, hb], .int _ _⟩
  all_goals cases h

theorem binS_run {P : Program} {W : World} {F : Nat → Nat → Prop} {op : BinOp} {t : TypeId} {a b : ByteArray} {d : X} {C : Option Prop} (h : binS op a b = some (d, C)) (hC : holds C) :
    ∃ v, (binOp op t (.string a) (.string b)).run P W = .ok v W ∧ RD W F v d.raw := by
  cases op <;> simp only [binS] at h
  case add =>
    cases h
    have hC : a.size + b.size ≤ 9223372036854775807 := hC
    refine ⟨_, ?_, .str _⟩
    have : ¬ ((a.size + b.size : Nat) : Int) > IntKind.i64.max := by simp only [IntKind.max, IntKind.signed, IntKind.bits, if_true]; omega
    simp only [binOp, Op.stringOp, if_neg this]
    rfl
  case eql => cases h; exact ⟨_, by simp [binOp, Op.stringOp], .bool _⟩
  case neq => cases h; exact ⟨_, by simp [binOp, Op.stringOp], .bool _⟩
  case lss => cases h; exact ⟨_, by simp [binOp, Op.stringOp], .bool _⟩
  case leq => cases h; exact ⟨_, by simp [binOp, Op.stringOp], .bool _⟩
  case gtr => cases h; exact ⟨_, by simp [binOp, Op.stringOp], .bool _⟩
  case geq => cases h; exact ⟨_, by simp [binOp, Op.stringOp], .bool _⟩
  all_goals cases h

theorem equalIn_bool {P : Program} {W : World} {t : TypeId} (hu : P.underlying t = some .bool) (a b : Bool) (n : Nat) : (Op.equalIn (n + 1) t (.bool a) (.bool b)).run P W = .ok (a == b) W := by
  simp only [Op.equalIn]
  simp [run_underlying hu]
theorem equalIn_ptr_nil {P : Program} {W : World} {t e : TypeId} (hu : P.underlying t = some (.pointer e)) (a : Addr) (n : Nat) : (Op.equalIn (n + 1) t (.pointer (some a)) (.pointer none)).run P W = .ok false W := by
  simp only [Op.equalIn]
  simp [run_underlying hu]
theorem equalIn_nil_nil {P : Program} {W : World} {t e : TypeId} (hu : P.underlying t = some (.pointer e)) (n : Nat) : (Op.equalIn (n + 1) t (.pointer none) (.pointer none)).run P W = .ok true W := by
  simp only [Op.equalIn]
  simp [run_underlying hu]
theorem equalIn_sl_nil {P : Program} {W : World} {t e : TypeId} (hu : P.underlying t = some (.slice e)) (a : Addr) (l c n : Nat) : (Op.equalIn (n + 1) t (.slice (some a) l c) (.slice none 0 0)).run P W = .ok false W := by
  simp only [Op.equalIn]
  simp [run_underlying hu]
theorem equalIn_slnil_nil {P : Program} {W : World} {t e : TypeId} (hu : P.underlying t = some (.slice e)) (n : Nat) : (Op.equalIn (n + 1) t (.slice none 0 0) (.slice none 0 0)).run P W = .ok true W := by
  simp only [Op.equalIn]
  simp [run_underlying hu]
theorem equal_sl_nil {P : Program} {W : World} {t e : TypeId} (hu : P.underlying t = some (.slice e)) (a : Addr) (l c : Nat) : (Op.equal t (.slice (some a) l c) (.slice none 0 0)).run P W = .ok false W := equalIn_sl_nil hu a l c 9999
theorem equal_slnil_nil {P : Program} {W : World} {t e : TypeId} (hu : P.underlying t = some (.slice e)) : (Op.equal t (.slice none 0 0) (.slice none 0 0)).run P W = .ok true W := equalIn_slnil_nil hu 9999
theorem RD.unit_nil {W : World} {F : Nat → Nat → Prop} {v : Value} {xs : List K.unit.den} (h : RD W F v (X.sl .unit xs).raw) : v = .slice none 0 0 := by
  have h : RD W F v (.sl 0 (xs.map K.unit.rrow)) := h
  generalize xs.map K.unit.rrow = ys at h
  cases h with
  | slNil => rfl
  | slZ a _ hs => exact absurd hs (by decide)
  | sl b o len cap sz xs vs hl hc hs => exact absurd hs (by decide)
theorem equal_bool {P : Program} {W : World} {t : TypeId} (hu : P.underlying t = some .bool) (a b : Bool) : (Op.equal t (.bool a) (.bool b)).run P W = .ok (a == b) W := equalIn_bool hu a b 9999
theorem equal_ptr_nil {P : Program} {W : World} {t e : TypeId} (hu : P.underlying t = some (.pointer e)) (a : Addr) : (Op.equal t (.pointer (some a)) (.pointer none)).run P W = .ok false W := equalIn_ptr_nil hu a 9999
theorem equal_nil_nil {P : Program} {W : World} {t e : TypeId} (hu : P.underlying t = some (.pointer e)) : (Op.equal t (.pointer none) (.pointer none)).run P W = .ok true W := equalIn_nil_nil hu 9999

theorem eqGuard_none {P : Program} {W : World} {op : BinOp} {t : TypeId} {x y : Operand} {a b : Value} (h1 : a ≠ .nilIface) (h2 : ∀ c, a ≠ .agg c) : (eqGuard op t x y a b).run P W = .ok () W := by
  cases op <;> simp only [eqGuard] <;> first | rfl | (cases a <;> first | rfl | exact absurd rfl h1 | exact absurd rfl (h2 _))

theorem eqGuard_rd {P : Program} {W : World} {F : Nat → Nat → Prop} {op : BinOp} {t : TypeId} {x y : Operand} {a b : Value} {d : D} (h : RD W F a d) (hd : d ≠ .nilI) : (eqGuard op t x y a b).run P W = .ok () W := by
  refine eqGuard_none ?_ ?_
  · rintro rfl; cases h; exact hd rfl
  · rintro c rfl; cases h

theorem und_of {P : Program} {tab : Tab} (ht : TabOk P tab) {t : TypeId} {y : Ty} (h : (look tab t).map TyI.ty = some y) : ∃ i d, look tab t = some i ∧ i.ty = y ∧ P.underlying t = some d ∧ y.fits d := by
  cases hi : look tab t with
  | none => rw [hi] at h; cases h
  | some i =>
    rw [hi] at h
    simp only [Option.map_some, Option.some.injEq] at h
    obtain ⟨d, hd, hf⟩ := (ht t i hi).und
    exact ⟨i, d, rfl, h, hd, h ▸ hf⟩

theorem binP_run {P : Program} {W : World} {F : Nat → Nat → Prop} {op : BinOp} {t : TypeId} {u v : Value} {b : Bool} {d : X} {C : Option Prop} (he : (Op.equal t u v).run P W = .ok b W)
    (hu : (∃ b, u = .bool b) ∨ (∃ p, u = .pointer p) ∨ (∃ a n c, u = .slice a n c) ∨ ∃ a, u = .agg a) (h : binP op b = some (d, C)) : ∃ r, (binOp op t u v).run P W = .ok r W ∧ RD W F r d.raw := by
  unfold binP at h
  split at h
  · cases h
    refine ⟨.bool b, ?_, .bool _⟩
    rcases hu with ⟨_, rfl⟩ | ⟨_, rfl⟩ | ⟨_, _, _, rfl⟩ | ⟨_, rfl⟩ <;> simp [binOp, he]
  · cases h
    refine ⟨.bool (!b), ?_, .bool _⟩
    rcases hu with ⟨_, rfl⟩ | ⟨_, rfl⟩ | ⟨_, _, _, rfl⟩ | ⟨_, rfl⟩ <;> simp [binOp, he]
  · cases h

theorem binZ_run {P : Program} {tab : Tab} (ht : TabOk P tab) {W : World} {g : G} {op : BinOp} {t : TypeId} {x y : Operand} {u v : Value} {zx zy : V1} {d : X} {C : Option Prop}
    (hx : RV W g u zx) (hy : RV W g v zy) (h : binZ tab op t zx zy = some (d, C)) (hC : holds C) :
    ∃ r, (do eqGuard op t x y u v; binOp op t u v : Sem Value).run P W = .ok r W ∧ RD W g.F r d.raw := by
  have fin : ∀ {u v : Value} {b : Bool}, (eqGuard op t x y u v).run P W = .ok () W → (Op.equal t u v).run P W = .ok b W → ((∃ b, u = .bool b) ∨ (∃ p, u = .pointer p) ∨ (∃ a n c, u = .slice a n c) ∨ ∃ a, u = .agg a) → binP op b = some (d, C) →
      ∃ r, (do eqGuard op t x y u v; binOp op t u v : Sem Value).run P W = .ok r W ∧ RD W g.F r d.raw := by
    intro u v b hg he h1 hp
    obtain ⟨r, q1, q2⟩ := binP_run (F := g.F) he h1 hp
    exact ⟨r, by simp [hg, q1], q2⟩
  unfold binZ at h
  split at h
  · -- numbers
    have hx' : RD W g.F u _ := hx
    have hg := eqGuard_rd (P := P) (op := op) (t := t) (x := x) (y := y) (b := v) hx' (by simp [X.raw])
    have hy' : RD W g.F v _ := hy
    cases hx'; cases hy'
    split at h
    · rename_i k1 a1 k2 b1 hsh
      obtain ⟨r, h1, h2⟩ := shI_run (P := P) (W := W) (F := g.F) (t := t) k2 h hC
      exact ⟨r, by simp [hg, h1], h2⟩
    · split at h
      · rename_i hk; subst hk
        obtain ⟨r, h1, h2⟩ := binI_run (P := P) (W := W) (F := g.F) (t := t) h hC
        exact ⟨r, by simp [hg, h1], h2⟩
      · cases h
  · have hx' : RD W g.F u _ := hx
    have hg := eqGuard_rd (P := P) (op := op) (t := t) (x := x) (y := y) (b := v) hx' (by simp [X.raw])
    have hy' : RD W g.F v _ := hy
    cases hx'; cases hy'
    obtain ⟨r, h1, h2⟩ := binS_run (P := P) (W := W) (F := g.F) (t := t) h hC
    exact ⟨r, by simp [hg, h1], h2⟩
  · have hx' : RD W g.F u _ := hx
    have hg := eqGuard_rd (P := P) (op := op) (t := t) (x := x) (y := y) (b := v) hx' (by simp [X.raw])
    have hy' : RD W g.F v _ := hy
    cases hx'; cases hy'
    split at h
    · rename_i he
      obtain ⟨i, d, _, _, hu, hf⟩ := und_of ht he
      cases hf
      exact fin hg (equal_bool hu _ _) (by simp) h
    · cases h
  · have hx' : u = _ := hx
    have hg := eqGuard_none (P := P) (W := W) (op := op) (t := t) (x := x) (y := y) (a := u) (b := v) (by rw [hx']; simp) (by rw [hx']; simp)
    have hy' : RD W g.F v _ := hy
    cases hy'
    subst hx'
    split at h
    · rename_i he
      obtain ⟨i, d, _, _, hu, hf⟩ := und_of ht he
      cases hf
      exact fin hg (equal_ptr_nil hu _) (by simp) h
    · cases h
  · obtain ⟨b0, o0, hx', _⟩ := hx
    have hg := eqGuard_none (P := P) (W := W) (op := op) (t := t) (x := x) (y := y) (a := u) (b := v) (by rw [hx']; simp) (by rw [hx']; simp)
    have hy' : RD W g.F v _ := hy
    cases hy'
    subst hx'
    split at h
    · rename_i he
      obtain ⟨i, d, _, _, hu, hf⟩ := und_of ht he
      cases hf
      exact fin hg (equal_ptr_nil hu _) (by simp) h
    · cases h
  · have hx' : RD W g.F u _ := hx
    have hg := eqGuard_rd (P := P) (op := op) (t := t) (x := x) (y := y) (b := v) hx' (by simp [X.raw])
    have hy' : RD W g.F v _ := hy
    cases hy'; cases hx'
    split at h
    · rename_i he
      obtain ⟨i, d, _, _, hu, hf⟩ := und_of ht he
      cases hf
      exact fin hg (equal_nil_nil hu) (by simp) h
    · cases h
  · obtain ⟨_, hx'⟩ := hx
    have hg := eqGuard_none (P := P) (W := W) (op := op) (t := t) (x := x) (y := y) (a := u) (b := v) (by rw [hx']; simp) (by rw [hx']; simp)
    have hy' : RD W g.F v _ := hy
    cases hy'
    subst hx'
    split at h
    · rename_i he
      obtain ⟨i, d, _, _, hu, hf⟩ := und_of ht he
      cases hf
      exact fin hg (equal_ptr_nil hu _) (by simp) h
    · cases h
  · obtain ⟨_, _, _, _, _, hx'⟩ := hx
    have hg := eqGuard_none (P := P) (W := W) (op := op) (t := t) (x := x) (y := y) (a := u) (b := v) (by rw [hx']; simp) (by rw [hx']; simp)
    have hy' : RD W g.F v _ := hy
    cases hy'
    subst hx'
    split at h
    · rename_i he
      obtain ⟨i, d, _, _, hu, hf⟩ := und_of ht he
      cases hf
      exact fin hg (equal_ptr_nil hu _) (by simp) h
    · cases h
  · obtain ⟨_, _, _, _, hx'⟩ := hx
    have hg := eqGuard_none (P := P) (W := W) (op := op) (t := t) (x := x) (y := y) (a := u) (b := v) (by rw [hx']; simp) (by rw [hx']; simp)
    have hy' : v = .slice none 0 0 := RD.unit_nil (show RD W g.F v _ from hy)
    subst hx'; subst hy'
    split at h
    · rename_i he
      obtain ⟨i, d, _, _, hu, hf⟩ := und_of ht he
      cases hf
      exact fin hg (equal_sl_nil hu _ _ _) (by simp) h
    · cases h
  · have hx' : u = .slice none 0 0 := RD.unit_nil (show RD W g.F u _ from hx)
    have hy' : v = .slice none 0 0 := RD.unit_nil (show RD W g.F v _ from hy)
    have hg := eqGuard_none (P := P) (W := W) (op := op) (t := t) (x := x) (y := y) (a := u) (b := v) (by rw [hx']; simp) (by rw [hx']; simp)
    subst hx'; subst hy'
    split at h
    · rename_i he
      obtain ⟨i, d, _, _, hu, hf⟩ := und_of ht he
      cases hf
      exact fin hg (equal_slnil_nil hu) (by simp) h
    · cases h
  · rename_i a
    have hy' : RD W g.F v .nilP := hy
    have hx' : RD W g.F u a.raw := hx
    cases hy'
    split at h
    · rename_i he
      obtain ⟨i, d, _, _, hu, hf⟩ := und_of ht he
      cases hf
      cases a with
      | nil =>
        have hx' : RD W g.F u .nilP := hx'
        cases hx'
        exact fin (eqGuard_none (by simp) (by simp)) (equal_nil_nil hu) (by simp) h
      | node o n a b =>
        have hx' : RD W g.F u (.ref [.int .i64 o, .int .i64 n, a.raw, b.raw]) := hx'
        cases hx'
        exact fin (eqGuard_none (by simp) (by simp)) (equal_ptr_nil hu _) (by simp) h
    · cases h
  · cases h

end Zed
