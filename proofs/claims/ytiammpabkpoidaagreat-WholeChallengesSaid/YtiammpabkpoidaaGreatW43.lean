/- Texts KF0 of our own machine for the walk of WholeChallenges, one behind the other. -/
import Derived.Test.YtiammpabkpoidaaGreatW24
import Derived.Test.YtiammpabkpoidaaGreatW39
import Derived.Test.YtiammpabkpoidaaGreatW40
import Derived.Test.YtiammpabkpoidaaGreatW41
import Derived.Test.YtiammpabkpoidaaGreatW42
namespace Zed
open Go
set_option maxRecDepth 100000
set_option linter.unusedVariables false
noncomputable def fnF : Func := (Go.Proofs.Tryz.prog.funcs[21]?).getD default
theorem hF21 : Go.Proofs.Tryz.prog.funcs[21]? = some fnF := by kernel_rfl
noncomputable def kF : List Item := headK fnF 3
noncomputable def keepF : List Nat := [0, 1, 2, 7, 8]
noncomputable def lvF : Nat → List (Nat × Ow)
  | 0 => lvN
  | 1 => [(3, ⟨79, 0⟩), (4, ⟨79, 0⟩), (16, ⟨3, 1⟩), (18, ⟨3, 0⟩), (24, ⟨3, 1⟩), (45, ⟨79, 0⟩)]
  | _ => [(3, ⟨79, 0⟩), (16, ⟨3, 1⟩), (18, ⟨3, 0⟩), (24, ⟨3, 1⟩), (45, ⟨79, 0⟩), (46, ⟨79, 0⟩)]
noncomputable def wF : Nat → Nat
  | 0 => 3
  | _ => 45
noncomputable def gF : Nat → Nat
  | 0 => 4
  | 1 => 4
  | _ => 46
noncomputable def nF : Nat → Nat
  | 0 => 45
  | 1 => 46
  | _ => 47
noncomputable def argF : List V1 := [.c (.d (.int .i64 100)), .c (.d (.sl (.int .i64) ([0] : List Int)))]
noncomputable def slF (d : Int) : List (Nat × Z) := [(0, .one (.c (.ptr 0 0))), (1, .one (.c (.d (.int .i64 100)))), (2, .one (.c (.d (.sl (.int .i64) ([0] : List Int))))), (7, .one (.c (.d (.int .i64 d)))), (8, .one (.c (.d (.int .i64 0))))]
noncomputable def TF (s : Nat) (p : Pa) (d : Int) : Tm := ⟨slF d, lvF s, bxN (wF s) (gF s) p, nF s⟩
noncomputable def TF0 (p : Pa) : Tm := ⟨[(0, .one (.c (.ptr 0 0))), (1, .one (.c (.d (.int .i64 100)))), (2, .one (.c (.d (.sl (.int .i64) ([0] : List Int)))))], lvN, bxN 3 4 p, 45⟩
noncomputable def tlP (p : Pa) : Pa := { p with W := p.W.tail }
noncomputable def symdlvA : SymE Go.Proofs.Tryz.prog := ⟨45, fun _ => true, fun i => innN [.c (.d (.int .i64 0))] { tlP (parN i) with W := pkA :: (tlP (parN i)).W }, fun i => outdlvA (tlP (parN i)), fun i => conddlvA (tlP (parN i)), fun i hc h => by
  have := okdlvA (tlP (parN i)) hc
  rw [← h] at this; exact this⟩
noncomputable def primFA : EvT := primS (Nat.beq 45) (symT [symdlvA]) (prim0 true false)
theorem primFA_ok : EvOK Go.Proofs.Tryz.prog primFA := primS_ok (symT_ok _) prim0_ok
noncomputable def symdlvB : SymE Go.Proofs.Tryz.prog := ⟨45, fun _ => true, fun i => innN [.c (.d (.int .i64 0))] { tlP (parN i) with W := pkB :: (tlP (parN i)).W }, fun i => outdlvB (tlP (parN i)), fun i => conddlvB (tlP (parN i)), fun i hc h => by
  have := okdlvB (tlP (parN i)) hc
  rw [← h] at this; exact this⟩
noncomputable def primFB : EvT := primS (Nat.beq 45) (symT [symdlvB]) (prim0 true false)
theorem primFB_ok : EvOK Go.Proofs.Tryz.prog primFB := primS_ok (symT_ok _) prim0_ok
noncomputable def symdlvC : SymE Go.Proofs.Tryz.prog := ⟨45, fun _ => true, fun i => innN [.c (.d (.int .i64 0))] { tlP (parN i) with W := pkC :: (tlP (parN i)).W }, fun i => outdlvC (tlP (parN i)), fun i => conddlvC (tlP (parN i)), fun i hc h => by
  have := okdlvC (tlP (parN i)) hc
  rw [← h] at this; exact this⟩
noncomputable def primFC : EvT := primS (Nat.beq 45) (symT [symdlvC]) (prim0 true false)
theorem primFC_ok : EvOK Go.Proofs.Tryz.prog primFC := primS_ok (symT_ok _) prim0_ok
noncomputable def symdlvD : SymE Go.Proofs.Tryz.prog := ⟨45, fun _ => true, fun i => innN [.c (.d (.int .i64 0))] { tlP (parN i) with W := pkD :: (tlP (parN i)).W }, fun i => outdlvD (tlP (parN i)), fun i => conddlvD (tlP (parN i)), fun i hc h => by
  have := okdlvD (tlP (parN i)) hc
  rw [← h] at this; exact this⟩
noncomputable def primFD : EvT := primS (Nat.beq 45) (symT [symdlvD]) (prim0 true false)
theorem primFD_ok : EvOK Go.Proofs.Tryz.prog primFD := primS_ok (symT_ok _) prim0_ok
noncomputable def cfFA : Cfg := { cfW with dir := dirOf (.n none (.n none (.n none (.n none .e (.n none (.n none (.n none (.n none (.n (some [(3, 9999, .finV)]) .e .e) .e) .e) .e) .e)) (.n none (.n none (.n none (.n (some [(3, 0, .row)]) .e .e) .e) .e) .e)) (.n none (.n none .e (.n none (.n none (.n none (.n none (.n (some [(27, 9999, .fin), (28, 9999, .fin)]) .e .e) .e) .e) .e) .e)) (.n none (.n (some [(3, 4, .lz), (3, 5, .lz), (3, 6, .asm true), (3, 8, .lz), (3, 10, .asm true), (4, 4, .lz), (4, 6, .col), (4, 7, .lz), (4, 8, .lz), (7, 0, .lz), (7, 1, .lz), (7, 2, .lz)]) .e .e) .e))) (.n none (.n none (.n none (.n none (.n none .e (.n none (.n none (.n (some [(6, 9999, .fin)]) .e .e) .e) .e)) .e) (.n none (.n (some [(6, 9999, .fin)]) .e .e) (.n none (.n none .e (.n (some [(2, 9999, .fin)]) .e .e)) .e))) (.n none .e (.n none .e (.n none (.n (some [(9, 9999, .fin)]) (.n none (.n (some [(7, 3, .row)]) .e .e) .e) .e) .e)))) (.n none (.n none .e (.n none (.n none .e (.n none (.n none (.n (some [(1, 9999, .fin)]) .e .e) .e) .e)) (.n none (.n none .e (.n (some [(3, 7, .row)]) .e .e)) .e))) (.n none (.n none .e (.n none .e (.n (some [(10, 9999, .fin), (12, 9999, .fin)]) .e .e))) (.n none (.n none .e (.n none .e (.n (some [(9999, 9999, .hd)]) .e .e))) .e))))), prim := primFA }
noncomputable def cfFB : Cfg := { cfW with dir := dirOf (.n none (.n none (.n none (.n none .e (.n none (.n none (.n none (.n none (.n (some [(3, 9999, .finV)]) .e .e) .e) .e) .e) .e)) (.n none (.n none (.n none (.n (some [(3, 0, .row)]) .e .e) .e) .e) .e)) (.n none (.n none .e (.n none (.n none (.n none (.n none (.n (some [(27, 9999, .fin), (28, 9999, .fin)]) .e .e) .e) .e) .e) .e)) (.n none (.n (some [(3, 4, .lz), (3, 5, .lz), (3, 6, .asm true), (3, 8, .lz), (3, 10, .asm true), (4, 4, .lz), (4, 6, .col), (4, 7, .lz), (4, 8, .lz), (7, 0, .lz), (7, 1, .lz), (7, 2, .lz)]) .e .e) .e))) (.n none (.n none (.n none (.n none (.n none .e (.n none (.n none (.n (some [(6, 9999, .fin)]) .e .e) .e) .e)) .e) (.n none (.n (some [(6, 9999, .fin)]) .e .e) (.n none (.n none .e (.n (some [(2, 9999, .fin)]) .e .e)) .e))) (.n none .e (.n none .e (.n none (.n (some [(9, 9999, .fin)]) (.n none (.n (some [(7, 3, .row)]) .e .e) .e) .e) .e)))) (.n none (.n none .e (.n none (.n none .e (.n none (.n none (.n (some [(1, 9999, .fin)]) .e .e) .e) .e)) (.n none (.n none .e (.n (some [(3, 7, .row)]) .e .e)) .e))) (.n none (.n none .e (.n none .e (.n (some [(10, 9999, .fin), (12, 9999, .fin)]) .e .e))) (.n none (.n none .e (.n none .e (.n (some [(9999, 9999, .hd)]) .e .e))) .e))))), prim := primFB }
noncomputable def cfFC : Cfg := { cfW with dir := dirOf (.n none (.n none (.n none (.n none .e (.n none (.n none (.n none (.n none (.n (some [(3, 9999, .finV)]) .e .e) .e) .e) .e) .e)) (.n none (.n none (.n none (.n (some [(3, 0, .row)]) .e .e) .e) .e) .e)) (.n none (.n none .e (.n none (.n none (.n none (.n none (.n (some [(27, 9999, .fin), (28, 9999, .fin)]) .e .e) .e) .e) .e) .e)) (.n none (.n (some [(3, 4, .lz), (3, 5, .lz), (3, 6, .asm true), (3, 8, .lz), (3, 10, .asm true), (4, 4, .lz), (4, 6, .col), (4, 7, .lz), (4, 8, .lz), (7, 0, .lz), (7, 1, .lz), (7, 2, .lz)]) .e .e) .e))) (.n none (.n none (.n none (.n none (.n none .e (.n none (.n none (.n (some [(6, 9999, .fin)]) .e .e) .e) .e)) .e) (.n none (.n (some [(6, 9999, .fin)]) .e .e) (.n none (.n none .e (.n (some [(2, 9999, .fin)]) .e .e)) .e))) (.n none .e (.n none .e (.n none (.n (some [(9, 9999, .fin)]) (.n none (.n (some [(7, 3, .row)]) .e .e) .e) .e) .e)))) (.n none (.n none .e (.n none (.n none .e (.n none (.n none (.n (some [(1, 9999, .fin)]) .e .e) .e) .e)) (.n none (.n none .e (.n (some [(3, 7, .row)]) .e .e)) .e))) (.n none (.n none .e (.n none .e (.n (some [(10, 9999, .fin), (12, 9999, .fin)]) .e .e))) (.n none (.n none .e (.n none .e (.n (some [(9999, 9999, .hd)]) .e .e))) .e))))), prim := primFC }
noncomputable def cfFD : Cfg := { cfW with dir := dirOf (.n none (.n none (.n none (.n none .e (.n none (.n none (.n none (.n none (.n (some [(3, 9999, .finV)]) .e .e) .e) .e) .e) .e)) (.n none (.n none (.n none (.n (some [(3, 0, .row)]) .e .e) .e) .e) .e)) (.n none (.n none .e (.n none (.n none (.n none (.n none (.n (some [(27, 9999, .fin), (28, 9999, .fin)]) .e .e) .e) .e) .e) .e)) (.n none (.n (some [(3, 4, .lz), (3, 5, .lz), (3, 6, .asm true), (3, 8, .lz), (3, 10, .asm true), (4, 4, .lz), (4, 6, .col), (4, 7, .lz), (4, 8, .lz), (7, 0, .lz), (7, 1, .lz), (7, 2, .lz)]) .e .e) .e))) (.n none (.n none (.n none (.n none (.n none .e (.n none (.n none (.n (some [(6, 9999, .fin)]) .e .e) .e) .e)) .e) (.n none (.n (some [(6, 9999, .fin)]) .e .e) (.n none (.n none .e (.n (some [(2, 9999, .fin)]) .e .e)) .e))) (.n none .e (.n none .e (.n none (.n (some [(9, 9999, .fin)]) (.n none (.n (some [(7, 3, .row)]) .e .e) .e) .e) .e)))) (.n none (.n none .e (.n none (.n none .e (.n none (.n none (.n (some [(1, 9999, .fin)]) .e .e) .e) .e)) (.n none (.n none .e (.n (some [(3, 7, .row)]) .e .e)) .e))) (.n none (.n none .e (.n none .e (.n (some [(10, 9999, .fin), (12, 9999, .fin)]) .e .e))) (.n none (.n none .e (.n none .e (.n (some [(9999, 9999, .hd)]) .e .e))) .e))))), prim := primFD }
noncomputable def cfFX : Cfg := { cfW with dir := dirOf (.n none (.n none (.n none (.n none .e (.n none (.n none (.n none (.n none (.n (some [(3, 9999, .finV)]) .e .e) .e) .e) .e) .e)) (.n none (.n none (.n none (.n (some [(3, 0, .row)]) .e .e) .e) .e) .e)) (.n none (.n none .e (.n none (.n none (.n none (.n none (.n (some [(27, 9999, .fin), (28, 9999, .fin)]) .e .e) .e) .e) .e) .e)) (.n none (.n (some [(3, 4, .lz), (3, 5, .lz), (8, 0, .lz), (8, 1, .lz)]) .e .e) .e))) (.n none (.n none (.n none (.n none (.n none .e (.n none (.n none (.n (some [(6, 9999, .fin)]) .e .e) .e) .e)) .e) (.n none (.n (some [(6, 9999, .fin)]) .e .e) (.n none (.n none .e (.n (some [(2, 9999, .fin)]) .e .e)) .e))) (.n none .e (.n none .e (.n none (.n (some [(9, 9999, .fin)]) (.n none (.n (some [(7, 3, .row)]) .e .e) .e) .e) .e)))) (.n none (.n none .e (.n none (.n none .e (.n none (.n none (.n (some [(1, 9999, .fin)]) .e .e) .e) .e)) (.n none (.n none .e (.n (some [(3, 7, .row)]) .e .e)) .e))) (.n none (.n none .e (.n none .e (.n (some [(10, 9999, .fin), (12, 9999, .fin)]) .e .e))) (.n none (.n none .e (.n none .e (.n (some [(9999, 9999, .hd)]) .e .e))) .e))))) }
theorem goF0 (p : Pa) : runQ cfFX (evalF cfFX 40) 21 fnF 45 3 keepF (adm 1000 (bodyOf fnF)) (TF0 p) [] = some (kF, TF 0 p 0, []) := by kernel_rfl
noncomputable def condFA (p : Pa) (d : Int) : List Prop := (innN [.c (.d (.int .i64 0))] { p with W := pkA :: p.W } = innN [.c (.d (.int .i64 0))] { p with W := pkA :: p.W }) :: (conddlvA p ++ [(0 : Int) ≤ 0 ∧ (0 : Int) < ((pkA :: p.W).length : Int), decide (d < 100) = true, decide ((0 : Int) < ((pkA :: p.W).length : Int)) = true])
theorem goFA0 (p : Pa) (d : Int) : runQ cfFA (evalF cfFA 40) 21 fnF 45 3 keepF kF (TF 0 { p with W := pkA :: p.W } d) [] = some (kF, TF 1 (stdlvA p) (wI (d + 1)), condFA p d) := by kernel_rfl
theorem goFA1 (p : Pa) (d : Int) : runQ cfFA (evalF cfFA 40) 21 fnF 45 3 keepF kF (TF 1 { p with W := pkA :: p.W } d) [] = some (kF, TF 1 (stdlvA p) (wI (d + 1)), condFA p d) := by kernel_rfl
theorem goFA2 (p : Pa) (d : Int) : runQ cfFA (evalF cfFA 40) 21 fnF 45 3 keepF kF (TF 2 { p with W := pkA :: p.W } d) [] = some (kF, TF 2 (stdlvA p) (wI (d + 1)), condFA p d) := by kernel_rfl
noncomputable def condFB (p : Pa) (d : Int) : List Prop := (innN [.c (.d (.int .i64 0))] { p with W := pkB :: p.W } = innN [.c (.d (.int .i64 0))] { p with W := pkB :: p.W }) :: (conddlvB p ++ [(0 : Int) ≤ 0 ∧ (0 : Int) < ((pkB :: p.W).length : Int), decide (d < 100) = true, decide ((0 : Int) < ((pkB :: p.W).length : Int)) = true])
theorem goFB0 (p : Pa) (d : Int) : runQ cfFB (evalF cfFB 40) 21 fnF 45 3 keepF kF (TF 0 { p with W := pkB :: p.W } d) [] = some (kF, TF 2 (stdlvB p) (wI (d + 1)), condFB p d) := by kernel_rfl
theorem goFB1 (p : Pa) (d : Int) : runQ cfFB (evalF cfFB 40) 21 fnF 45 3 keepF kF (TF 1 { p with W := pkB :: p.W } d) [] = some (kF, TF 2 (stdlvB p) (wI (d + 1)), condFB p d) := by kernel_rfl
theorem goFB2 (p : Pa) (d : Int) : runQ cfFB (evalF cfFB 40) 21 fnF 45 3 keepF kF (TF 2 { p with W := pkB :: p.W } d) [] = some (kF, TF 2 (stdlvB p) (wI (d + 1)), condFB p d) := by kernel_rfl
noncomputable def condFC (p : Pa) (d : Int) : List Prop := (innN [.c (.d (.int .i64 0))] { p with W := pkC :: p.W } = innN [.c (.d (.int .i64 0))] { p with W := pkC :: p.W }) :: (conddlvC p ++ [(0 : Int) ≤ 0 ∧ (0 : Int) < ((pkC :: p.W).length : Int), decide (d < 100) = true, decide ((0 : Int) < ((pkC :: p.W).length : Int)) = true])
theorem goFC0 (p : Pa) (d : Int) : runQ cfFC (evalF cfFC 40) 21 fnF 45 3 keepF kF (TF 0 { p with W := pkC :: p.W } d) [] = some (kF, TF 2 (stdlvC p) (wI (d + 1)), condFC p d) := by kernel_rfl
theorem goFC1 (p : Pa) (d : Int) : runQ cfFC (evalF cfFC 40) 21 fnF 45 3 keepF kF (TF 1 { p with W := pkC :: p.W } d) [] = some (kF, TF 2 (stdlvC p) (wI (d + 1)), condFC p d) := by kernel_rfl
theorem goFC2 (p : Pa) (d : Int) : runQ cfFC (evalF cfFC 40) 21 fnF 45 3 keepF kF (TF 2 { p with W := pkC :: p.W } d) [] = some (kF, TF 2 (stdlvC p) (wI (d + 1)), condFC p d) := by kernel_rfl
noncomputable def condFD (p : Pa) (d : Int) : List Prop := (innN [.c (.d (.int .i64 0))] { p with W := pkD :: p.W } = innN [.c (.d (.int .i64 0))] { p with W := pkD :: p.W }) :: (conddlvD p ++ [(0 : Int) ≤ 0 ∧ (0 : Int) < ((pkD :: p.W).length : Int), decide (d < 100) = true, decide ((0 : Int) < ((pkD :: p.W).length : Int)) = true])
theorem goFD0 (p : Pa) (d : Int) : runQ cfFD (evalF cfFD 40) 21 fnF 45 3 keepF kF (TF 0 { p with W := pkD :: p.W } d) [] = some (kF, TF 1 (stdlvD p) (wI (d + 1)), condFD p d) := by kernel_rfl
theorem goFD1 (p : Pa) (d : Int) : runQ cfFD (evalF cfFD 40) 21 fnF 45 3 keepF kF (TF 1 { p with W := pkD :: p.W } d) [] = some (kF, TF 1 (stdlvD p) (wI (d + 1)), condFD p d) := by kernel_rfl
theorem goFD2 (p : Pa) (d : Int) : runQ cfFD (evalF cfFD 40) 21 fnF 45 3 keepF kF (TF 2 { p with W := pkD :: p.W } d) [] = some (kF, TF 2 (stdlvD p) (wI (d + 1)), condFD p d) := by kernel_rfl
noncomputable def outF (s : Nat) (p : Pa) (d : Int) : Out := ⟨.one (.c (.d (.int .i64 d))), lvF s, bxN (wF s) (gF s) p, nF s⟩
theorem endF0 (p : Pa) (d : Int) : endO 45 (endT cfFX (evalF cfFX 40) 21 fnF kF (TF 0 { p with W := [] } d) []) = some (outF 0 { p with W := [] } d, []) := by kernel_rfl
theorem endF1 (p : Pa) (d : Int) : endO 45 (endT cfFX (evalF cfFX 40) 21 fnF kF (TF 1 { p with W := [] } d) []) = some (outF 1 { p with W := [] } d, []) := by kernel_rfl
theorem endF2 (p : Pa) (d : Int) : endO 45 (endT cfFX (evalF cfFX 40) 21 fnF kF (TF 2 { p with W := [] } d) []) = some (outF 2 { p with W := [] } d, []) := by kernel_rfl
end Zed
