/- Texts KLG, KLL0, KLL1, KLL2T, KLL2N, KLL3, KLL4, KM2, KM3 of our own machine for the walk of WholeChallenges, one behind the other. -/
import Derived.Test.YtiammpabkpoidaaGreatW38
import Derived.Test.YtiammpabkpoidaaGreatW46
import Derived.Test.YtiammpabkpoidaaGreatW47
namespace Zed
open Go
set_option maxRecDepth 100000
set_option linter.unusedVariables false
noncomputable def cfG0 (l : List (SymE Go.Proofs.Tryz.prog)) : Cfg := { cfW with dir := dirOf (.n none (.n none (.n none (.n none .e (.n none (.n none (.n none (.n none (.n (some [(3, 9999, .finV)]) .e .e) .e) .e) .e) .e)) (.n none (.n none (.n none (.n (some [(3, 0, .row)]) .e .e) .e) .e) .e)) (.n none (.n none .e (.n none (.n none (.n none (.n none (.n (some [(27, 9999, .fin), (28, 9999, .fin)]) .e .e) .e) .e) .e) .e)) .e)) (.n none (.n (some [(3, 0, .lz), (3, 1, .asm true), (3, 3, .lz), (3, 7, .lz), (3, 11, .lz), (3, 15, .lz), (3, 16, .lz), (6, 0, .lz), (6, 1, .lz), (7, 0, .lz), (13, 0, .lz), (13, 1, .lz), (13, 2, .lz), (14, 0, .lz), (14, 1, .lz), (14, 2, .lz), (15, 1, .lz), (15, 2, .lz), (15, 3, .lz), (17, 0, .lz), (17, 1, .lz), (17, 2, .lz), (17, 4, .lz), (17, 7, .lz), (18, 0, .lz), (18, 1, .lz), (18, 2, .lz), (19, 1, .lz), (19, 2, .lz), (20, 0, .lz), (22, 0, .lz), (22, 1, .lz), (22, 2, .lz), (22, 5, .lz), (22, 6, .lz), (22, 7, .lz), (22, 8, .lz), (22, 9, .lz), (22, 10, .lz), (22, 11, .lz), (22, 13, .lz), (23, 1, .lz), (24, 0, .lz), (24, 2, .lz), (24, 3, .lz), (24, 4, .lz), (24, 5, .lz), (24, 6, .lz), (24, 8, .lz), (26, 2, .lz), (28, 0, .lz), (28, 1, .lz), (28, 2, .lz), (29, 0, .lz), (29, 1, .lz), (29, 2, .lz), (31, 0, .lz), (31, 1, .lz), (32, 0, .lz), (32, 1, .lz), (32, 2, .lz), (33, 0, .lz), (33, 1, .lz), (33, 2, .lz), (34, 0, .lz), (34, 1, .lz), (34, 2, .lz), (34, 4, .lz), (34, 5, .lz), (34, 6, .lz), (35, 0, .lz), (35, 1, .lz), (35, 2, .lz), (35, 3, .lz), (35, 4, .lz), (35, 5, .lz), (35, 6, .lz), (35, 7, .lz)]) (.n none (.n (some [(9999, 9999, .lz)]) (.n none .e (.n none (.n none (.n (some [(6, 9999, .fin)]) .e .e) .e) .e)) .e) (.n none (.n (some [(6, 9999, .fin)]) .e .e) (.n none (.n none .e (.n (some [(2, 9999, .fin)]) .e .e)) .e))) (.n none .e (.n none .e (.n none (.n (some [(9, 9999, .fin)]) (.n none (.n (some [(7, 3, .row)]) .e .e) .e) .e) .e)))) (.n none (.n none .e (.n none (.n none .e (.n none (.n none (.n (some [(1, 9999, .fin)]) .e .e) .e) .e)) (.n none (.n none .e (.n (some [(3, 7, .row)]) .e .e)) .e))) (.n none (.n none .e (.n none .e (.n (some [(10, 9999, .fin), (12, 9999, .fin)]) .e .e))) (.n none (.n none .e (.n none .e (.n (some [(9999, 9999, .hd)]) .e .e))) .e))))), prim := primL l }
noncomputable def condG0 (b r : Int) (l : List Int) : List Prop := [decide (b < 0) = true, (inn8 = inn8), FnOK Go.Proofs.Tryz.prog 8 inn8 out8]
theorem goG0 (b r : Int) (l : List Int) : endO 0 (endT (cfG0 [sym8 Go.Proofs.Tryz.prog]) (evalF (cfG0 [sym8 Go.Proofs.Tryz.prog]) 40) 4 fnL (adm 1000 (bodyOf fnL)) (TL0 b r l) []) = some (out8, condG0 b r l) := by kernel_rfl
noncomputable def cfG1 (l : List (SymE Go.Proofs.Tryz.prog)) : Cfg := { cfW with dir := dirOf (.n none (.n none (.n none (.n none .e (.n none (.n none (.n none (.n none (.n (some [(3, 9999, .finV)]) .e .e) .e) .e) .e) .e)) (.n none (.n none (.n none (.n (some [(3, 0, .row)]) .e .e) .e) .e) .e)) (.n none (.n none .e (.n none (.n none (.n none (.n none (.n (some [(27, 9999, .fin), (28, 9999, .fin)]) .e .e) .e) .e) .e) .e)) .e)) (.n none (.n (some [(3, 0, .lz), (3, 1, .asm false), (3, 3, .lz), (3, 4, .asm true), (3, 7, .lz), (3, 11, .lz), (3, 15, .lz), (3, 16, .lz), (6, 0, .lz), (6, 1, .lz), (7, 0, .lz), (13, 0, .lz), (13, 1, .lz), (13, 2, .lz), (14, 0, .lz), (14, 1, .lz), (14, 2, .lz), (15, 1, .lz), (15, 2, .lz), (15, 3, .lz), (17, 0, .lz), (17, 1, .lz), (17, 2, .lz), (17, 4, .lz), (17, 7, .lz), (18, 0, .lz), (18, 1, .lz), (18, 2, .lz), (19, 1, .lz), (19, 2, .lz), (20, 0, .lz), (22, 0, .lz), (22, 1, .lz), (22, 2, .lz), (22, 5, .lz), (22, 6, .lz), (22, 7, .lz), (22, 8, .lz), (22, 9, .lz), (22, 10, .lz), (22, 11, .lz), (22, 13, .lz), (23, 1, .lz), (24, 0, .lz), (24, 2, .lz), (24, 3, .lz), (24, 4, .lz), (24, 5, .lz), (24, 6, .lz), (24, 8, .lz), (26, 2, .lz), (28, 0, .lz), (28, 1, .lz), (28, 2, .lz), (29, 0, .lz), (29, 1, .lz), (29, 2, .lz), (31, 0, .lz), (31, 1, .lz), (32, 0, .lz), (32, 1, .lz), (32, 2, .lz), (33, 0, .lz), (33, 1, .lz), (33, 2, .lz), (34, 0, .lz), (34, 1, .lz), (34, 2, .lz), (34, 4, .lz), (34, 5, .lz), (34, 6, .lz), (35, 0, .lz), (35, 1, .lz), (35, 2, .lz), (35, 3, .lz), (35, 4, .lz), (35, 5, .lz), (35, 6, .lz), (35, 7, .lz)]) (.n none (.n (some [(9999, 9999, .lz)]) (.n none .e (.n none (.n none (.n (some [(6, 9999, .fin)]) .e .e) .e) .e)) .e) (.n none (.n (some [(6, 9999, .fin)]) .e .e) (.n none (.n none .e (.n (some [(2, 9999, .fin)]) .e .e)) .e))) (.n none .e (.n none .e (.n none (.n (some [(9, 9999, .fin)]) (.n none (.n (some [(7, 3, .row)]) .e .e) .e) .e) .e)))) (.n none (.n none .e (.n none (.n none .e (.n none (.n none (.n (some [(1, 9999, .fin)]) .e .e) .e) .e)) (.n none (.n none .e (.n (some [(3, 7, .row)]) .e .e)) .e))) (.n none (.n none .e (.n none .e (.n (some [(10, 9999, .fin), (12, 9999, .fin)]) .e .e))) (.n none (.n none .e (.n none .e (.n (some [(9999, 9999, .hd)]) .e .e))) .e))))), prim := primL l }
noncomputable def condG1 (b r : Int) (l : List Int) : List Prop := [decide (b > 20) = true, decide (b < 0) = false, (inn8 = inn8), FnOK Go.Proofs.Tryz.prog 8 inn8 out8]
theorem goG1 (b r : Int) (l : List Int) : endO 0 (endT (cfG1 [sym8 Go.Proofs.Tryz.prog]) (evalF (cfG1 [sym8 Go.Proofs.Tryz.prog]) 40) 4 fnL (adm 1000 (bodyOf fnL)) (TL0 b r l) []) = some (out8, condG1 b r l) := by kernel_rfl
noncomputable def cfG2 (l : List (SymE Go.Proofs.Tryz.prog)) : Cfg := { cfW with dir := dirOf (.n none (.n none (.n none (.n none .e (.n none (.n none (.n none (.n none (.n (some [(3, 9999, .finV)]) .e .e) .e) .e) .e) .e)) (.n none (.n none (.n none (.n (some [(3, 0, .row)]) .e .e) .e) .e) .e)) (.n none (.n none .e (.n none (.n none (.n none (.n none (.n (some [(27, 9999, .fin), (28, 9999, .fin)]) .e .e) .e) .e) .e) .e)) .e)) (.n none (.n (some [(3, 0, .lz), (3, 1, .asm false), (3, 3, .lz), (3, 4, .asm false), (3, 7, .lz), (3, 8, .asm true), (3, 11, .lz), (3, 15, .lz), (3, 16, .lz), (6, 0, .lz), (6, 1, .lz), (7, 0, .lz), (13, 0, .lz), (13, 1, .lz), (13, 2, .lz), (14, 0, .lz), (14, 1, .lz), (14, 2, .lz), (15, 1, .lz), (15, 2, .lz), (15, 3, .lz), (17, 0, .lz), (17, 1, .lz), (17, 2, .lz), (17, 4, .lz), (17, 7, .lz), (18, 0, .lz), (18, 1, .lz), (18, 2, .lz), (19, 1, .lz), (19, 2, .lz), (20, 0, .lz), (22, 0, .lz), (22, 1, .lz), (22, 2, .lz), (22, 5, .lz), (22, 6, .lz), (22, 7, .lz), (22, 8, .lz), (22, 9, .lz), (22, 10, .lz), (22, 11, .lz), (22, 13, .lz), (23, 1, .lz), (24, 0, .lz), (24, 2, .lz), (24, 3, .lz), (24, 4, .lz), (24, 5, .lz), (24, 6, .lz), (24, 8, .lz), (26, 2, .lz), (28, 0, .lz), (28, 1, .lz), (28, 2, .lz), (29, 0, .lz), (29, 1, .lz), (29, 2, .lz), (31, 0, .lz), (31, 1, .lz), (32, 0, .lz), (32, 1, .lz), (32, 2, .lz), (33, 0, .lz), (33, 1, .lz), (33, 2, .lz), (34, 0, .lz), (34, 1, .lz), (34, 2, .lz), (34, 4, .lz), (34, 5, .lz), (34, 6, .lz), (35, 0, .lz), (35, 1, .lz), (35, 2, .lz), (35, 3, .lz), (35, 4, .lz), (35, 5, .lz), (35, 6, .lz), (35, 7, .lz)]) (.n none (.n (some [(9999, 9999, .lz)]) (.n none .e (.n none (.n none (.n (some [(6, 9999, .fin)]) .e .e) .e) .e)) .e) (.n none (.n (some [(6, 9999, .fin)]) .e .e) (.n none (.n none .e (.n (some [(2, 9999, .fin)]) .e .e)) .e))) (.n none .e (.n none .e (.n none (.n (some [(9, 9999, .fin)]) (.n none (.n (some [(7, 3, .row)]) .e .e) .e) .e) .e)))) (.n none (.n none .e (.n none (.n none .e (.n none (.n none (.n (some [(1, 9999, .fin)]) .e .e) .e) .e)) (.n none (.n none .e (.n (some [(3, 7, .row)]) .e .e)) .e))) (.n none (.n none .e (.n none .e (.n (some [(10, 9999, .fin), (12, 9999, .fin)]) .e .e))) (.n none (.n none .e (.n none .e (.n (some [(9999, 9999, .hd)]) .e .e))) .e))))), prim := primL l }
noncomputable def condG2 (b r : Int) (l : List Int) : List Prop := [decide (r < 0) = true, decide (b > 20) = false, decide (b < 0) = false, (inn8 = inn8), FnOK Go.Proofs.Tryz.prog 8 inn8 out8]
theorem goG2 (b r : Int) (l : List Int) : endO 0 (endT (cfG2 [sym8 Go.Proofs.Tryz.prog]) (evalF (cfG2 [sym8 Go.Proofs.Tryz.prog]) 40) 4 fnL (adm 1000 (bodyOf fnL)) (TL0 b r l) []) = some (out8, condG2 b r l) := by kernel_rfl
noncomputable def cfG3 (l : List (SymE Go.Proofs.Tryz.prog)) : Cfg := { cfW with dir := dirOf (.n none (.n none (.n none (.n none .e (.n none (.n none (.n none (.n none (.n (some [(3, 9999, .finV)]) .e .e) .e) .e) .e) .e)) (.n none (.n none (.n none (.n (some [(3, 0, .row)]) .e .e) .e) .e) .e)) (.n none (.n none .e (.n none (.n none (.n none (.n none (.n (some [(27, 9999, .fin), (28, 9999, .fin)]) .e .e) .e) .e) .e) .e)) .e)) (.n none (.n (some [(3, 0, .lz), (3, 1, .asm false), (3, 3, .lz), (3, 4, .asm false), (3, 7, .lz), (3, 8, .asm false), (3, 11, .lz), (3, 12, .asm true), (3, 15, .lz), (3, 16, .lz), (6, 0, .lz), (6, 1, .lz), (7, 0, .lz), (13, 0, .lz), (13, 1, .lz), (13, 2, .lz), (14, 0, .lz), (14, 1, .lz), (14, 2, .lz), (15, 1, .lz), (15, 2, .lz), (15, 3, .lz), (17, 0, .lz), (17, 1, .lz), (17, 2, .lz), (17, 4, .lz), (17, 7, .lz), (18, 0, .lz), (18, 1, .lz), (18, 2, .lz), (19, 1, .lz), (19, 2, .lz), (20, 0, .lz), (22, 0, .lz), (22, 1, .lz), (22, 2, .lz), (22, 5, .lz), (22, 6, .lz), (22, 7, .lz), (22, 8, .lz), (22, 9, .lz), (22, 10, .lz), (22, 11, .lz), (22, 13, .lz), (23, 1, .lz), (24, 0, .lz), (24, 2, .lz), (24, 3, .lz), (24, 4, .lz), (24, 5, .lz), (24, 6, .lz), (24, 8, .lz), (26, 2, .lz), (28, 0, .lz), (28, 1, .lz), (28, 2, .lz), (29, 0, .lz), (29, 1, .lz), (29, 2, .lz), (31, 0, .lz), (31, 1, .lz), (32, 0, .lz), (32, 1, .lz), (32, 2, .lz), (33, 0, .lz), (33, 1, .lz), (33, 2, .lz), (34, 0, .lz), (34, 1, .lz), (34, 2, .lz), (34, 4, .lz), (34, 5, .lz), (34, 6, .lz), (35, 0, .lz), (35, 1, .lz), (35, 2, .lz), (35, 3, .lz), (35, 4, .lz), (35, 5, .lz), (35, 6, .lz), (35, 7, .lz)]) (.n none (.n (some [(9999, 9999, .lz)]) (.n none .e (.n none (.n none (.n (some [(6, 9999, .fin)]) .e .e) .e) .e)) .e) (.n none (.n (some [(6, 9999, .fin)]) .e .e) (.n none (.n none .e (.n (some [(2, 9999, .fin)]) .e .e)) .e))) (.n none .e (.n none .e (.n none (.n (some [(9, 9999, .fin)]) (.n none (.n (some [(7, 3, .row)]) .e .e) .e) .e) .e)))) (.n none (.n none .e (.n none (.n none .e (.n none (.n none (.n (some [(1, 9999, .fin)]) .e .e) .e) .e)) (.n none (.n none .e (.n (some [(3, 7, .row)]) .e .e)) .e))) (.n none (.n none .e (.n none .e (.n (some [(10, 9999, .fin), (12, 9999, .fin)]) .e .e))) (.n none (.n none .e (.n none .e (.n (some [(9999, 9999, .hd)]) .e .e))) .e))))), prim := primL l }
noncomputable def condG3 (b r : Int) (l : List Int) : List Prop := [decide (r > 20) = true, decide (r < 0) = false, decide (b > 20) = false, decide (b < 0) = false, (inn8 = inn8), FnOK Go.Proofs.Tryz.prog 8 inn8 out8]
theorem goG3 (b r : Int) (l : List Int) : endO 0 (endT (cfG3 [sym8 Go.Proofs.Tryz.prog]) (evalF (cfG3 [sym8 Go.Proofs.Tryz.prog]) 40) 4 fnL (adm 1000 (bodyOf fnL)) (TL0 b r l) []) = some (out8, condG3 b r l) := by kernel_rfl
noncomputable def cfG4 (l : List (SymE Go.Proofs.Tryz.prog)) : Cfg := { cfW with dir := dirOf (.n none (.n none (.n none (.n none .e (.n none (.n none (.n none (.n none (.n (some [(3, 9999, .finV)]) .e .e) .e) .e) .e) .e)) (.n none (.n none (.n none (.n (some [(3, 0, .row)]) .e .e) .e) .e) .e)) (.n none (.n none .e (.n none (.n none (.n none (.n none (.n (some [(27, 9999, .fin), (28, 9999, .fin)]) .e .e) .e) .e) .e) .e)) .e)) (.n none (.n (some [(3, 0, .lz), (3, 1, .asm false), (3, 3, .lz), (3, 4, .asm false), (3, 7, .lz), (3, 8, .asm false), (3, 11, .lz), (3, 12, .asm false), (3, 15, .lz), (3, 16, .lz), (3, 17, .asm true), (6, 0, .lz), (6, 1, .lz), (7, 0, .lz), (13, 0, .lz), (13, 1, .lz), (13, 2, .lz), (14, 0, .lz), (14, 1, .lz), (14, 2, .lz), (15, 1, .lz), (15, 2, .lz), (15, 3, .lz), (17, 0, .lz), (17, 1, .lz), (17, 2, .lz), (17, 4, .lz), (17, 7, .lz), (18, 0, .lz), (18, 1, .lz), (18, 2, .lz), (19, 1, .lz), (19, 2, .lz), (20, 0, .lz), (22, 0, .lz), (22, 1, .lz), (22, 2, .lz), (22, 5, .lz), (22, 6, .lz), (22, 7, .lz), (22, 8, .lz), (22, 9, .lz), (22, 10, .lz), (22, 11, .lz), (22, 13, .lz), (23, 1, .lz), (24, 0, .lz), (24, 2, .lz), (24, 3, .lz), (24, 4, .lz), (24, 5, .lz), (24, 6, .lz), (24, 8, .lz), (26, 2, .lz), (28, 0, .lz), (28, 1, .lz), (28, 2, .lz), (29, 0, .lz), (29, 1, .lz), (29, 2, .lz), (31, 0, .lz), (31, 1, .lz), (32, 0, .lz), (32, 1, .lz), (32, 2, .lz), (33, 0, .lz), (33, 1, .lz), (33, 2, .lz), (34, 0, .lz), (34, 1, .lz), (34, 2, .lz), (34, 4, .lz), (34, 5, .lz), (34, 6, .lz), (35, 0, .lz), (35, 1, .lz), (35, 2, .lz), (35, 3, .lz), (35, 4, .lz), (35, 5, .lz), (35, 6, .lz), (35, 7, .lz)]) (.n none (.n (some [(9999, 9999, .lz)]) (.n none .e (.n none (.n none (.n (some [(6, 9999, .fin)]) .e .e) .e) .e)) .e) (.n none (.n (some [(6, 9999, .fin)]) .e .e) (.n none (.n none .e (.n (some [(2, 9999, .fin)]) .e .e)) .e))) (.n none .e (.n none .e (.n none (.n (some [(9, 9999, .fin)]) (.n none (.n (some [(7, 3, .row)]) .e .e) .e) .e) .e)))) (.n none (.n none .e (.n none (.n none .e (.n none (.n none (.n (some [(1, 9999, .fin)]) .e .e) .e) .e)) (.n none (.n none .e (.n (some [(3, 7, .row)]) .e .e)) .e))) (.n none (.n none .e (.n none .e (.n (some [(10, 9999, .fin), (12, 9999, .fin)]) .e .e))) (.n none (.n none .e (.n none .e (.n (some [(9999, 9999, .hd)]) .e .e))) .e))))), prim := primL l }
noncomputable def condG4 (b r : Int) (l : List Int) : List Prop := [decide ((l.length : Int) > 60) = true, decide (r > 20) = false, decide (r < 0) = false, decide (b > 20) = false, decide (b < 0) = false, (inn8 = inn8), FnOK Go.Proofs.Tryz.prog 8 inn8 out8]
theorem goG4 (b r : Int) (l : List Int) : endO 0 (endT (cfG4 [sym8 Go.Proofs.Tryz.prog]) (evalF (cfG4 [sym8 Go.Proofs.Tryz.prog]) 40) 4 fnL (adm 1000 (bodyOf fnL)) (TL0 b r l) []) = some (out8, condG4 b r l) := by kernel_rfl
end Zed
namespace Zed
open Go
set_option maxRecDepth 100000
set_option linter.unusedVariables false
noncomputable def cfL0 (l : List (SymE Go.Proofs.Tryz.prog)) : Cfg := { cfW with dir := dirOf (.n none (.n none (.n none (.n none .e (.n none (.n none (.n none (.n none (.n (some [(3, 9999, .finV)]) .e .e) .e) .e) .e) .e)) (.n none (.n none (.n none (.n (some [(3, 0, .row)]) .e .e) .e) .e) .e)) (.n none (.n none .e (.n none (.n none (.n none (.n none (.n (some [(27, 9999, .fin), (28, 9999, .fin)]) .e .e) .e) .e) .e) .e)) .e)) (.n none (.n (some [(3, 0, .lz), (3, 1, .asm false), (3, 3, .lz), (3, 4, .asm false), (3, 7, .lz), (3, 8, .asm false), (3, 11, .lz), (3, 12, .asm false), (3, 15, .lz), (3, 16, .lz), (3, 17, .asm false), (6, 0, .lz), (6, 1, .lz), (7, 0, .lz), (13, 0, .lz), (13, 1, .lz), (13, 2, .lz), (14, 0, .lz), (14, 1, .lz), (14, 2, .lz), (15, 1, .lz), (15, 2, .lz), (15, 3, .lz), (17, 0, .lz), (17, 1, .lz), (17, 2, .lz), (17, 4, .lz), (17, 7, .lz), (18, 0, .lz), (18, 1, .lz), (18, 2, .lz), (19, 1, .lz), (19, 2, .lz), (20, 0, .lz), (22, 0, .lz), (22, 1, .lz), (22, 2, .lz), (22, 5, .lz), (22, 6, .lz), (22, 7, .lz), (22, 8, .lz), (22, 9, .lz), (22, 10, .lz), (22, 11, .lz), (22, 13, .lz), (23, 1, .lz), (24, 0, .lz), (24, 2, .lz), (24, 3, .lz), (24, 4, .lz), (24, 5, .lz), (24, 6, .lz), (24, 8, .lz), (26, 2, .lz), (28, 0, .lz), (28, 1, .lz), (28, 2, .lz), (29, 0, .lz), (29, 1, .lz), (29, 2, .lz), (31, 0, .lz), (31, 1, .lz), (32, 0, .lz), (32, 1, .lz), (32, 2, .lz), (33, 0, .lz), (33, 1, .lz), (33, 2, .lz), (34, 0, .lz), (34, 1, .lz), (34, 2, .lz), (34, 4, .lz), (34, 5, .lz), (34, 6, .lz), (35, 0, .lz), (35, 1, .lz), (35, 2, .lz), (35, 3, .lz), (35, 4, .lz), (35, 5, .lz), (35, 6, .lz), (35, 7, .lz)]) (.n none (.n (some [(9999, 9999, .lz)]) (.n none .e (.n none (.n none (.n (some [(6, 9999, .fin)]) .e .e) .e) .e)) .e) (.n none (.n (some [(6, 9999, .fin)]) .e .e) (.n none (.n none .e (.n (some [(2, 9999, .fin)]) .e .e)) .e))) (.n none .e (.n none .e (.n none (.n (some [(9, 9999, .fin)]) (.n none (.n (some [(7, 3, .row)]) .e .e) .e) .e) .e)))) (.n none (.n none .e (.n none (.n none .e (.n none (.n none (.n (some [(1, 9999, .fin)]) .e .e) .e) .e)) (.n none (.n none .e (.n (some [(3, 7, .row)]) .e .e)) .e))) (.n none (.n none .e (.n none .e (.n (some [(10, 9999, .fin), (12, 9999, .fin)]) .e .e))) (.n none (.n none .e (.n none .e (.n (some [(9999, 9999, .hd)]) .e .e))) .e))))), prim := primL l }
noncomputable def G0 : List PK := [(1, (0, [0, 5, 0, 80, 197, 250, 58, 207, 0, 0, 0, 0, 1, 10, 1, 8, 105, 53, 173, 96, 208, 198, 95, 61])), (0, (0, [0, 80, 0, 5, 47, 166, 55, 112, 197, 250, 58, 208, 3, 18, 1, 16, 6, 109, 254, 126, 15, 156, 170, 120, 97, 117, 240, 124, 76, 121, 92, 107])), (1, (0, [0, 5, 0, 80, 197, 250, 58, 208, 47, 166, 55, 113, 2, 31, 3, 29, 0, 0, 0, 0, 0, 0, 0, 0, 0, 0, 0, 0, 0, 0, 0, 0, 0, 0, 0, 0, 64, 100, 86, 33, 201, 43, 8, 42, 199])), (0, (0, [0, 80, 0, 5, 47, 166, 55, 113, 197, 250, 58, 208, 2, 31, 3, 29, 0, 0, 0, 0, 0, 0, 0, 0, 0, 0, 0, 0, 0, 0, 0, 0, 0, 0, 0, 0, 64, 245, 255, 213, 105, 8, 110, 169, 10]))]
noncomputable def pa0 (b r : Int) : Pa := ⟨b, r, clI b, clI r, [], G0, 2, 1, 0, 0, 0, 0, 0, 0, 0, 0, 0, 0, 0, 0, 0, 0, 0, 0, clI b, 0, 0, clI b⟩
noncomputable def condL0 (b r : Int) (l : List Int) : List Prop := (innPP b r = innPP b r) :: (condPP b r ++ [decide ((l.length : Int) > 60) = false, decide (r > 20) = false, decide (r < 0) = false, decide (b > 20) = false, decide (b < 0) = false, (inn8 = inn8), FnOK Go.Proofs.Tryz.prog 8 inn8 out8])
theorem goL0 (b r : Int) (l : List Int) : runQ (cfL0 [sym8 Go.Proofs.Tryz.prog, symPP]) (evalF (cfL0 [sym8 Go.Proofs.Tryz.prog, symPP]) 40) 4 fnL 0 13 keepL (adm 1000 (bodyOf fnL)) (TL0 b r l) [] = some (kL 13, TL none (pa0 b r) b r l 0, condL0 b r l) := by kernel_rfl
end Zed
namespace Zed
open Go
set_option maxRecDepth 100000
set_option linter.unusedVariables false
noncomputable def cfL1 (l : List (SymE Go.Proofs.Tryz.prog)) : Cfg := { cfW with dir := dirOf (.n none (.n none (.n none (.n none .e (.n none (.n none (.n none (.n none (.n (some [(3, 9999, .finV)]) .e .e) .e) .e) .e) .e)) (.n none (.n none (.n none (.n (some [(3, 0, .row)]) .e .e) .e) .e) .e)) (.n none (.n none .e (.n none (.n none (.n none (.n none (.n (some [(27, 9999, .fin), (28, 9999, .fin)]) .e .e) .e) .e) .e) .e)) .e)) (.n none (.n (some [(3, 0, .lz), (3, 3, .lz), (3, 7, .lz), (3, 11, .lz), (3, 15, .lz), (3, 16, .lz), (6, 0, .lz), (6, 1, .lz), (7, 0, .lz), (13, 0, .lz), (13, 1, .lz), (13, 2, .lz), (13, 3, .asm true), (14, 0, .lz), (14, 1, .lz), (14, 2, .lz), (15, 1, .lz), (15, 2, .lz), (15, 3, .lz), (17, 0, .lz), (17, 1, .lz), (17, 2, .lz), (17, 4, .lz), (17, 7, .lz), (18, 0, .lz), (18, 1, .lz), (18, 2, .lz), (19, 1, .lz), (19, 2, .lz), (20, 0, .lz), (22, 0, .lz), (22, 1, .lz), (22, 2, .lz), (22, 5, .lz), (22, 6, .lz), (22, 7, .lz), (22, 8, .lz), (22, 9, .lz), (22, 10, .lz), (22, 11, .lz), (22, 13, .lz), (23, 1, .lz), (24, 0, .lz), (24, 2, .lz), (24, 3, .lz), (24, 4, .lz), (24, 5, .lz), (24, 6, .lz), (24, 8, .lz), (26, 2, .lz), (28, 0, .lz), (28, 1, .lz), (28, 2, .lz), (29, 0, .lz), (29, 1, .lz), (29, 2, .lz), (31, 0, .lz), (31, 1, .lz), (32, 0, .lz), (32, 1, .lz), (32, 2, .lz), (33, 0, .lz), (33, 1, .lz), (33, 2, .lz), (34, 0, .lz), (34, 1, .lz), (34, 2, .lz), (34, 4, .lz), (34, 5, .lz), (34, 6, .lz), (35, 0, .lz), (35, 1, .lz), (35, 2, .lz), (35, 3, .lz), (35, 4, .lz), (35, 5, .lz), (35, 6, .lz), (35, 7, .lz)]) (.n none (.n (some [(9999, 9999, .lz)]) (.n none .e (.n none (.n none (.n (some [(6, 9999, .fin)]) .e .e) .e) .e)) .e) (.n none (.n (some [(6, 9999, .fin)]) .e .e) (.n none (.n none .e (.n (some [(2, 9999, .fin)]) .e .e)) .e))) (.n none .e (.n none .e (.n none (.n (some [(9, 9999, .fin)]) (.n none (.n (some [(7, 3, .row)]) .e .e) .e) .e) .e)))) (.n none (.n none .e (.n none (.n none .e (.n none (.n none (.n (some [(1, 9999, .fin)]) .e .e) .e) .e)) (.n none (.n none .e (.n (some [(3, 7, .row)]) .e .e)) .e))) (.n none (.n none .e (.n none .e (.n (some [(10, 9999, .fin), (12, 9999, .fin)]) .e .e))) (.n none (.n none .e (.n none .e (.n (some [(9999, 9999, .hd)]) .e .e))) .e))))), prim := primL l }
theorem goL1_a (p : Pa) (b r : Int) (l : List Int) (i : Int) : runQ (cfL1 []) (evalF (cfL1 []) 40) 4 fnL 0 17 keepI (kL 13) (TL none p b r l i) [] = some (kL 17, TI none p b r l i p.ch 0, [decide (i < (l.length : Int)) = true]) := by kernel_rfl
theorem goL1_b (xs : List Int) (p : Pa) (b r : Int) (l : List Int) (i : Int) : runQ (cfL1 []) (evalF (cfL1 []) 40) 4 fnL 0 17 keepI (kL 13) (TL (some xs) p b r l i) [] = some (kL 17, TI (some xs) p b r l i p.ch 0, [decide (i < (l.length : Int)) = true]) := by kernel_rfl
end Zed
namespace Zed
open Go
set_option maxRecDepth 100000
set_option linter.unusedVariables false
noncomputable def cfL2T (l : List (SymE Go.Proofs.Tryz.prog)) : Cfg := { cfW with dir := dirOf (.n none (.n none (.n none (.n none .e (.n none (.n none (.n none (.n none (.n (some [(3, 9999, .finV)]) .e .e) .e) .e) .e) .e)) (.n none (.n none (.n none (.n (some [(3, 0, .row)]) .e .e) .e) .e) .e)) (.n none (.n none .e (.n none (.n none (.n none (.n none (.n (some [(27, 9999, .fin), (28, 9999, .fin)]) .e .e) .e) .e) .e) .e)) .e)) (.n none (.n (some [(3, 0, .lz), (3, 3, .lz), (3, 7, .lz), (3, 11, .lz), (3, 15, .lz), (3, 16, .lz), (6, 0, .lz), (6, 1, .lz), (7, 0, .lz), (13, 0, .lz), (13, 1, .lz), (13, 2, .lz), (14, 0, .lz), (14, 1, .lz), (14, 2, .lz), (15, 1, .lz), (15, 2, .lz), (15, 3, .lz), (17, 0, .lz), (17, 1, .lz), (17, 2, .lz), (17, 3, .col), (17, 4, .lz), (17, 5, .asm true), (17, 7, .lz), (17, 8, .asm true), (18, 0, .lz), (18, 1, .lz), (18, 2, .lz), (19, 1, .lz), (19, 2, .lz), (20, 0, .lz), (22, 0, .lz), (22, 1, .lz), (22, 2, .lz), (22, 5, .lz), (22, 6, .lz), (22, 7, .lz), (22, 8, .lz), (22, 9, .lz), (22, 10, .lz), (22, 11, .lz), (22, 13, .lz), (23, 1, .lz), (24, 0, .lz), (24, 2, .lz), (24, 3, .lz), (24, 4, .lz), (24, 5, .lz), (24, 6, .lz), (24, 8, .lz), (26, 2, .lz), (28, 0, .lz), (28, 1, .lz), (28, 2, .lz), (29, 0, .lz), (29, 1, .lz), (29, 2, .lz), (31, 0, .lz), (31, 1, .lz), (32, 0, .lz), (32, 1, .lz), (32, 2, .lz), (33, 0, .lz), (33, 1, .lz), (33, 2, .lz), (34, 0, .lz), (34, 1, .lz), (34, 2, .lz), (34, 4, .lz), (34, 5, .lz), (34, 6, .lz), (35, 0, .lz), (35, 1, .lz), (35, 2, .lz), (35, 3, .lz), (35, 4, .lz), (35, 5, .lz), (35, 6, .lz), (35, 7, .lz)]) (.n none (.n (some [(9999, 9999, .lz)]) (.n none .e (.n none (.n none (.n (some [(6, 9999, .fin)]) .e .e) .e) .e)) .e) (.n none (.n (some [(6, 9999, .fin)]) .e .e) (.n none (.n none .e (.n (some [(2, 9999, .fin)]) .e .e)) .e))) (.n none .e (.n none .e (.n none (.n (some [(9, 9999, .fin)]) (.n none (.n (some [(7, 3, .row)]) .e .e) .e) .e) .e)))) (.n none (.n none .e (.n none (.n none .e (.n none (.n none (.n (some [(1, 9999, .fin)]) .e .e) .e) .e)) (.n none (.n none .e (.n (some [(3, 7, .row)]) .e .e)) .e))) (.n none (.n none .e (.n none .e (.n (some [(10, 9999, .fin), (12, 9999, .fin)]) .e .e))) (.n none (.n none .e (.n none .e (.n (some [(9999, 9999, .hd)]) .e .e))) .e))))), prim := primL l }
noncomputable def innEncST (k : Nat) : Inn := ⟨[.agg [.d (.int .u16 5), .d (.int .u16 80), .d (.int .u32 (wrapE .u32 (3321510609 + wrapE .u32 (.ofNat k)))), .d (.int .u32 0), .d (.int .u8 4), .d (.sl .unit ([] : List Unit)), .d (.sl .unit ([] : List Unit))]], [], [], 0⟩
noncomputable def hBT (p : Pa) : Pa := parB (innB noPost [.c (.d (.int .i64 1))] p)
noncomputable def condL2T (p : Pa) (l : List Int) (i k : Nat) : List Prop := (innN (injA (.ofNat (209 + kE k))) p = innN (injA (.ofNat (209 + kE k))) p) :: (condinjT (.ofNat (209 + kE k)) p ++ [(innEncST k = innEnc (kE k)), kE k < 30, (innB noPost [.c (.d (.int .i64 1))] (hBT p) = innB noPost [.c (.d (.int .i64 1))] (hBT p)), decide ((.ofNat k : Int) < 30) = true, decide ((.ofNat k : Int) < l.getD i 0) = true, (0 : Int) ≤ .ofNat i ∧ (.ofNat i : Int) < (l.length : Int)])
theorem goL2T_a (p : Pa) (b r : Int) (l : List Int) (i : Nat) (was : Int) (k : Nat) : runQ (cfL2T [symStats, symEnc, syminjT]) (evalF (cfL2T [symStats, symEnc, syminjT]) 40) 4 fnL 0 17 keepI (kL 17) (TI none p b r l (.ofNat i) was (.ofNat k)) [] = some (kL 17, TI none (stinjT p) b r l (.ofNat i) was (wI (.ofNat k + 1)), condL2T p l i k) := by kernel_rfl
theorem goL2T_b (xs : List Int) (p : Pa) (b r : Int) (l : List Int) (i : Nat) (was : Int) (k : Nat) : runQ (cfL2T [symStats, symEnc, syminjT]) (evalF (cfL2T [symStats, symEnc, syminjT]) 40) 4 fnL 0 17 keepI (kL 17) (TI (some xs) p b r l (.ofNat i) was (.ofNat k)) [] = some (kL 17, TI (some xs) (stinjT p) b r l (.ofNat i) was (wI (.ofNat k + 1)), condL2T p l i k) := by kernel_rfl
end Zed
namespace Zed
open Go
set_option maxRecDepth 100000
set_option linter.unusedVariables false
noncomputable def cfL2N (l : List (SymE Go.Proofs.Tryz.prog)) : Cfg := { cfW with dir := dirOf (.n none (.n none (.n none (.n none .e (.n none (.n none (.n none (.n none (.n (some [(3, 9999, .finV)]) .e .e) .e) .e) .e) .e)) (.n none (.n none (.n none (.n (some [(3, 0, .row)]) .e .e) .e) .e) .e)) (.n none (.n none .e (.n none (.n none (.n none (.n none (.n (some [(27, 9999, .fin), (28, 9999, .fin)]) .e .e) .e) .e) .e) .e)) .e)) (.n none (.n (some [(3, 0, .lz), (3, 3, .lz), (3, 7, .lz), (3, 11, .lz), (3, 15, .lz), (3, 16, .lz), (6, 0, .lz), (6, 1, .lz), (7, 0, .lz), (13, 0, .lz), (13, 1, .lz), (13, 2, .lz), (14, 0, .lz), (14, 1, .lz), (14, 2, .lz), (15, 1, .lz), (15, 2, .lz), (15, 3, .lz), (17, 0, .lz), (17, 1, .lz), (17, 2, .lz), (17, 3, .col), (17, 4, .lz), (17, 5, .asm true), (17, 7, .lz), (17, 8, .asm true), (18, 0, .lz), (18, 1, .lz), (18, 2, .lz), (19, 1, .lz), (19, 2, .lz), (20, 0, .lz), (22, 0, .lz), (22, 1, .lz), (22, 2, .lz), (22, 5, .lz), (22, 6, .lz), (22, 7, .lz), (22, 8, .lz), (22, 9, .lz), (22, 10, .lz), (22, 11, .lz), (22, 13, .lz), (23, 1, .lz), (24, 0, .lz), (24, 2, .lz), (24, 3, .lz), (24, 4, .lz), (24, 5, .lz), (24, 6, .lz), (24, 8, .lz), (26, 2, .lz), (28, 0, .lz), (28, 1, .lz), (28, 2, .lz), (29, 0, .lz), (29, 1, .lz), (29, 2, .lz), (31, 0, .lz), (31, 1, .lz), (32, 0, .lz), (32, 1, .lz), (32, 2, .lz), (33, 0, .lz), (33, 1, .lz), (33, 2, .lz), (34, 0, .lz), (34, 1, .lz), (34, 2, .lz), (34, 4, .lz), (34, 5, .lz), (34, 6, .lz), (35, 0, .lz), (35, 1, .lz), (35, 2, .lz), (35, 3, .lz), (35, 4, .lz), (35, 5, .lz), (35, 6, .lz), (35, 7, .lz)]) (.n none (.n (some [(9999, 9999, .lz)]) (.n none .e (.n none (.n none (.n (some [(6, 9999, .fin)]) .e .e) .e) .e)) .e) (.n none (.n (some [(6, 9999, .fin)]) .e .e) (.n none (.n none .e (.n (some [(2, 9999, .fin)]) .e .e)) .e))) (.n none .e (.n none .e (.n none (.n (some [(9, 9999, .fin)]) (.n none (.n (some [(7, 3, .row)]) .e .e) .e) .e) .e)))) (.n none (.n none .e (.n none (.n none .e (.n none (.n none (.n (some [(1, 9999, .fin)]) .e .e) .e) .e)) (.n none (.n none .e (.n (some [(3, 7, .row)]) .e .e)) .e))) (.n none (.n none .e (.n none .e (.n (some [(10, 9999, .fin), (12, 9999, .fin)]) .e .e))) (.n none (.n none .e (.n none .e (.n (some [(9999, 9999, .hd)]) .e .e))) .e))))), prim := primL l }
noncomputable def innEncSN (k : Nat) : Inn := ⟨[.agg [.d (.int .u16 5), .d (.int .u16 80), .d (.int .u32 (wrapE .u32 (3321510609 + wrapE .u32 (.ofNat k)))), .d (.int .u32 0), .d (.int .u8 4), .d (.sl .unit ([] : List Unit)), .d (.sl .unit ([] : List Unit))]], [], [], 0⟩
noncomputable def hBN (p : Pa) : Pa := parB (innB noPost [.c (.d (.int .i64 1))] p)
noncomputable def condL2N (p : Pa) (l : List Int) (i k : Nat) : List Prop := (innN (injA (.ofNat (209 + kE k))) p = innN (injA (.ofNat (209 + kE k))) p) :: (condinjN (.ofNat (209 + kE k)) p ++ [(innEncSN k = innEnc (kE k)), kE k < 30, (innB noPost [.c (.d (.int .i64 1))] (hBN p) = innB noPost [.c (.d (.int .i64 1))] (hBN p)), decide ((.ofNat k : Int) < 30) = true, decide ((.ofNat k : Int) < l.getD i 0) = true, (0 : Int) ≤ .ofNat i ∧ (.ofNat i : Int) < (l.length : Int)])
theorem goL2N_a (p : Pa) (b r : Int) (l : List Int) (i : Nat) (was : Int) (k : Nat) : runQ (cfL2N [symStats, symEnc, syminjN]) (evalF (cfL2N [symStats, symEnc, syminjN]) 40) 4 fnL 0 17 keepI (kL 17) (TI none p b r l (.ofNat i) was (.ofNat k)) [] = some (kL 17, TI none (stinjN p) b r l (.ofNat i) was (wI (.ofNat k + 1)), condL2N p l i k) := by kernel_rfl
theorem goL2N_b (xs : List Int) (p : Pa) (b r : Int) (l : List Int) (i : Nat) (was : Int) (k : Nat) : runQ (cfL2N [symStats, symEnc, syminjN]) (evalF (cfL2N [symStats, symEnc, syminjN]) 40) 4 fnL 0 17 keepI (kL 17) (TI (some xs) p b r l (.ofNat i) was (.ofNat k)) [] = some (kL 17, TI (some xs) (stinjN p) b r l (.ofNat i) was (wI (.ofNat k + 1)), condL2N p l i k) := by kernel_rfl
end Zed
namespace Zed
open Go
set_option maxRecDepth 100000
set_option linter.unusedVariables false
noncomputable def cfL30 (l : List (SymE Go.Proofs.Tryz.prog)) : Cfg := { cfW with dir := dirOf (.n none (.n none (.n none (.n none .e (.n none (.n none (.n none (.n none (.n (some [(3, 9999, .finV)]) .e .e) .e) .e) .e) .e)) (.n none (.n none (.n none (.n (some [(3, 0, .row)]) .e .e) .e) .e) .e)) (.n none (.n none .e (.n none (.n none (.n none (.n none (.n (some [(27, 9999, .fin), (28, 9999, .fin)]) .e .e) .e) .e) .e) .e)) .e)) (.n none (.n (some [(3, 0, .lz), (3, 3, .lz), (3, 7, .lz), (3, 11, .lz), (3, 15, .lz), (3, 16, .lz), (6, 0, .lz), (6, 1, .lz), (7, 0, .lz), (13, 0, .lz), (13, 1, .lz), (13, 2, .lz), (14, 0, .lz), (14, 1, .lz), (14, 2, .lz), (15, 1, .lz), (15, 2, .lz), (15, 3, .lz), (17, 0, .lz), (17, 1, .lz), (17, 2, .lz), (17, 3, .col), (17, 4, .lz), (17, 5, .asm false), (17, 7, .lz), (18, 0, .lz), (18, 1, .lz), (18, 2, .lz), (19, 1, .lz), (19, 2, .lz), (20, 0, .lz), (22, 0, .lz), (22, 1, .lz), (22, 2, .lz), (22, 5, .lz), (22, 6, .lz), (22, 7, .lz), (22, 8, .lz), (22, 9, .lz), (22, 10, .lz), (22, 11, .lz), (22, 13, .lz), (23, 1, .lz), (24, 0, .lz), (24, 2, .lz), (24, 3, .lz), (24, 4, .lz), (24, 5, .lz), (24, 6, .lz), (24, 7, .col), (24, 8, .lz), (26, 2, .lz), (28, 0, .lz), (28, 1, .lz), (28, 2, .lz), (29, 0, .lz), (29, 1, .lz), (29, 2, .lz), (31, 0, .lz), (31, 1, .lz), (32, 0, .lz), (32, 1, .lz), (32, 2, .lz), (33, 0, .lz), (33, 1, .lz), (33, 2, .lz), (34, 0, .lz), (34, 1, .lz), (34, 2, .lz), (34, 4, .lz), (34, 5, .lz), (34, 6, .lz), (35, 0, .lz), (35, 1, .lz), (35, 2, .lz), (35, 3, .lz), (35, 4, .lz), (35, 5, .lz), (35, 6, .lz), (35, 7, .lz)]) (.n none (.n (some [(9999, 9999, .lz)]) (.n none .e (.n none (.n none (.n (some [(6, 9999, .fin)]) .e .e) .e) .e)) .e) (.n none (.n (some [(6, 9999, .fin)]) .e .e) (.n none (.n none .e (.n (some [(2, 9999, .fin)]) .e .e)) .e))) (.n none .e (.n none .e (.n none (.n (some [(9, 9999, .fin)]) (.n none (.n (some [(7, 3, .row)]) .e .e) .e) .e) .e)))) (.n none (.n none .e (.n none (.n none .e (.n none (.n none (.n (some [(1, 9999, .fin)]) .e .e) .e) .e)) (.n none (.n none .e (.n (some [(3, 7, .row)]) .e .e)) .e))) (.n none (.n none .e (.n none .e (.n (some [(10, 9999, .fin), (12, 9999, .fin)]) .e .e))) (.n none (.n none .e (.n none .e (.n (some [(9999, 9999, .hd)]) .e .e))) .e))))), prim := primL l }
theorem goL30_a (p : Pa) (b r : Int) (l : List Int) (i : Nat) (was : Int) (k : Nat) : runQ (cfL30 []) (evalF (cfL30 []) 40) 4 fnL 0 25 keepL (kL 17) (TI none p b r l (.ofNat i) was (.ofNat k)) [] = some (kL 25, TL (some [wI (p.ch - was)]) p b r l (.ofNat i), [[wI (p.ch - was)].length ≤ maxLen ∧ [wI (p.ch - was)].length * 8 ≤ 140737488355328, decide ((.ofNat k : Int) < l.getD i 0) = false, (0 : Int) ≤ .ofNat i ∧ (.ofNat i : Int) < (l.length : Int)]) := by kernel_rfl
theorem goL30_b (xs : List Int) (p : Pa) (b r : Int) (l : List Int) (i : Nat) (was : Int) (k : Nat) : runQ (cfL30 []) (evalF (cfL30 []) 40) 4 fnL 0 25 keepL (kL 17) (TI (some xs) p b r l (.ofNat i) was (.ofNat k)) [] = some (kL 25, TL (some (xs ++ [wI (p.ch - was)])) p b r l (.ofNat i), [xs.length + [wI (p.ch - was)].length ≤ maxLen ∧ (xs.length + [wI (p.ch - was)].length) * 8 ≤ 140737488355328, decide ((.ofNat k : Int) < l.getD i 0) = false, (0 : Int) ≤ .ofNat i ∧ (.ofNat i : Int) < (l.length : Int)]) := by kernel_rfl
noncomputable def cfL31 (l : List (SymE Go.Proofs.Tryz.prog)) : Cfg := { cfW with dir := dirOf (.n none (.n none (.n none (.n none .e (.n none (.n none (.n none (.n none (.n (some [(3, 9999, .finV)]) .e .e) .e) .e) .e) .e)) (.n none (.n none (.n none (.n (some [(3, 0, .row)]) .e .e) .e) .e) .e)) (.n none (.n none .e (.n none (.n none (.n none (.n none (.n (some [(27, 9999, .fin), (28, 9999, .fin)]) .e .e) .e) .e) .e) .e)) .e)) (.n none (.n (some [(3, 0, .lz), (3, 3, .lz), (3, 7, .lz), (3, 11, .lz), (3, 15, .lz), (3, 16, .lz), (6, 0, .lz), (6, 1, .lz), (7, 0, .lz), (13, 0, .lz), (13, 1, .lz), (13, 2, .lz), (14, 0, .lz), (14, 1, .lz), (14, 2, .lz), (15, 1, .lz), (15, 2, .lz), (15, 3, .lz), (17, 0, .lz), (17, 1, .lz), (17, 2, .lz), (17, 3, .col), (17, 4, .lz), (17, 5, .asm true), (17, 7, .lz), (17, 8, .asm false), (18, 0, .lz), (18, 1, .lz), (18, 2, .lz), (19, 1, .lz), (19, 2, .lz), (20, 0, .lz), (22, 0, .lz), (22, 1, .lz), (22, 2, .lz), (22, 5, .lz), (22, 6, .lz), (22, 7, .lz), (22, 8, .lz), (22, 9, .lz), (22, 10, .lz), (22, 11, .lz), (22, 13, .lz), (23, 1, .lz), (24, 0, .lz), (24, 2, .lz), (24, 3, .lz), (24, 4, .lz), (24, 5, .lz), (24, 6, .lz), (24, 7, .col), (24, 8, .lz), (26, 2, .lz), (28, 0, .lz), (28, 1, .lz), (28, 2, .lz), (29, 0, .lz), (29, 1, .lz), (29, 2, .lz), (31, 0, .lz), (31, 1, .lz), (32, 0, .lz), (32, 1, .lz), (32, 2, .lz), (33, 0, .lz), (33, 1, .lz), (33, 2, .lz), (34, 0, .lz), (34, 1, .lz), (34, 2, .lz), (34, 4, .lz), (34, 5, .lz), (34, 6, .lz), (35, 0, .lz), (35, 1, .lz), (35, 2, .lz), (35, 3, .lz), (35, 4, .lz), (35, 5, .lz), (35, 6, .lz), (35, 7, .lz)]) (.n none (.n (some [(9999, 9999, .lz)]) (.n none .e (.n none (.n none (.n (some [(6, 9999, .fin)]) .e .e) .e) .e)) .e) (.n none (.n (some [(6, 9999, .fin)]) .e .e) (.n none (.n none .e (.n (some [(2, 9999, .fin)]) .e .e)) .e))) (.n none .e (.n none .e (.n none (.n (some [(9, 9999, .fin)]) (.n none (.n (some [(7, 3, .row)]) .e .e) .e) .e) .e)))) (.n none (.n none .e (.n none (.n none .e (.n none (.n none (.n (some [(1, 9999, .fin)]) .e .e) .e) .e)) (.n none (.n none .e (.n (some [(3, 7, .row)]) .e .e)) .e))) (.n none (.n none .e (.n none .e (.n (some [(10, 9999, .fin), (12, 9999, .fin)]) .e .e))) (.n none (.n none .e (.n none .e (.n (some [(9999, 9999, .hd)]) .e .e))) .e))))), prim := primL l }
theorem goL31_a (p : Pa) (b r : Int) (l : List Int) (i : Nat) (was : Int) (k : Nat) : runQ (cfL31 []) (evalF (cfL31 []) 40) 4 fnL 0 25 keepL (kL 17) (TI none p b r l (.ofNat i) was (.ofNat k)) [] = some (kL 25, TL (some [wI (p.ch - was)]) p b r l (.ofNat i), [[wI (p.ch - was)].length ≤ maxLen ∧ [wI (p.ch - was)].length * 8 ≤ 140737488355328, decide ((.ofNat k : Int) < 30) = false, decide ((.ofNat k : Int) < l.getD i 0) = true, (0 : Int) ≤ .ofNat i ∧ (.ofNat i : Int) < (l.length : Int)]) := by kernel_rfl
theorem goL31_b (xs : List Int) (p : Pa) (b r : Int) (l : List Int) (i : Nat) (was : Int) (k : Nat) : runQ (cfL31 []) (evalF (cfL31 []) 40) 4 fnL 0 25 keepL (kL 17) (TI (some xs) p b r l (.ofNat i) was (.ofNat k)) [] = some (kL 25, TL (some (xs ++ [wI (p.ch - was)])) p b r l (.ofNat i), [xs.length + [wI (p.ch - was)].length ≤ maxLen ∧ (xs.length + [wI (p.ch - was)].length) * 8 ≤ 140737488355328, decide ((.ofNat k : Int) < 30) = false, decide ((.ofNat k : Int) < l.getD i 0) = true, (0 : Int) ≤ .ofNat i ∧ (.ofNat i : Int) < (l.length : Int)]) := by kernel_rfl
end Zed
namespace Zed
open Go
set_option maxRecDepth 100000
set_option linter.unusedVariables false
noncomputable def cfL4 (l : List (SymE Go.Proofs.Tryz.prog)) : Cfg := { cfW with dir := dirOf (.n none (.n none (.n none (.n none .e (.n none (.n none (.n none (.n none (.n (some [(3, 9999, .finV)]) .e .e) .e) .e) .e) .e)) (.n none (.n none (.n none (.n (some [(3, 0, .row)]) .e .e) .e) .e) .e)) (.n none (.n none .e (.n none (.n none (.n none (.n none (.n (some [(27, 9999, .fin), (28, 9999, .fin)]) .e .e) .e) .e) .e) .e)) .e)) (.n none (.n (some [(3, 0, .lz), (3, 3, .lz), (3, 7, .lz), (3, 11, .lz), (3, 15, .lz), (3, 16, .lz), (6, 0, .lz), (6, 1, .lz), (7, 0, .lz), (13, 0, .lz), (13, 1, .lz), (13, 2, .lz), (13, 3, .asm false), (14, 0, .lz), (14, 1, .lz), (14, 2, .lz), (15, 1, .lz), (15, 2, .lz), (15, 3, .lz), (17, 0, .lz), (17, 1, .lz), (17, 2, .lz), (17, 4, .lz), (17, 7, .lz), (18, 0, .lz), (18, 1, .lz), (18, 2, .lz), (19, 1, .lz), (19, 2, .lz), (20, 0, .lz), (22, 0, .lz), (22, 1, .lz), (22, 2, .lz), (22, 5, .lz), (22, 6, .lz), (22, 7, .lz), (22, 8, .lz), (22, 9, .lz), (22, 10, .lz), (22, 11, .lz), (22, 13, .lz), (23, 1, .lz), (24, 0, .lz), (24, 2, .lz), (24, 3, .lz), (24, 4, .lz), (24, 5, .lz), (24, 6, .lz), (24, 8, .lz), (26, 2, .lz), (28, 0, .lz), (28, 1, .lz), (28, 2, .lz), (29, 0, .lz), (29, 1, .lz), (29, 2, .lz), (31, 0, .lz), (31, 1, .lz), (32, 0, .lz), (32, 1, .lz), (32, 2, .lz), (33, 0, .lz), (33, 1, .lz), (33, 2, .lz), (34, 0, .lz), (34, 1, .lz), (34, 2, .lz), (34, 4, .lz), (34, 5, .lz), (34, 6, .lz), (35, 0, .lz), (35, 1, .lz), (35, 2, .lz), (35, 3, .lz), (35, 4, .lz), (35, 5, .lz), (35, 6, .lz), (35, 7, .lz)]) (.n none (.n (some [(9999, 9999, .lz)]) (.n none .e (.n none (.n none (.n (some [(6, 9999, .fin)]) .e .e) .e) .e)) .e) (.n none (.n (some [(6, 9999, .fin)]) .e .e) (.n none (.n none .e (.n (some [(2, 9999, .fin)]) .e .e)) .e))) (.n none .e (.n none .e (.n none (.n (some [(9, 9999, .fin)]) (.n none (.n (some [(7, 3, .row)]) .e .e) .e) .e) .e)))) (.n none (.n none .e (.n none (.n none .e (.n none (.n none (.n (some [(1, 9999, .fin)]) .e .e) .e) .e)) (.n none (.n none .e (.n (some [(3, 7, .row)]) .e .e)) .e))) (.n none (.n none .e (.n none .e (.n (some [(10, 9999, .fin), (12, 9999, .fin)]) .e .e))) (.n none (.n none .e (.n none .e (.n (some [(9999, 9999, .hd)]) .e .e))) .e))))), prim := primL l }
theorem goL4_b (xs : List Int) (p : Pa) (b r : Int) (l : List Int) (i : Int) : runQ (cfL4 []) (evalF (cfL4 []) 40) 4 fnL 0 28 keepM (kL 13) (TL (some xs) p b r l i) [] = some (kL 28, TM xs b r l 0, [decide (i < (l.length : Int)) = false]) := by kernel_rfl
theorem goL4_a (p : Pa) (b r : Int) (l : List Int) (i : Int) : endO 0 (endT (cfL4 []) (evalF (cfL4 []) 40) 4 fnL (kL 13) (TL none p b r l i) []) = some (out8, [decide (i < (l.length : Int)) = false]) := by kernel_rfl
noncomputable def cfL5 (l : List (SymE Go.Proofs.Tryz.prog)) : Cfg := { cfW with dir := dirOf (.n none (.n none (.n none (.n none .e (.n none (.n none (.n none (.n none (.n (some [(3, 9999, .finV)]) .e .e) .e) .e) .e) .e)) (.n none (.n none (.n none (.n (some [(3, 0, .row)]) .e .e) .e) .e) .e)) (.n none (.n none .e (.n none (.n none (.n none (.n none (.n (some [(27, 9999, .fin), (28, 9999, .fin)]) .e .e) .e) .e) .e) .e)) .e)) (.n none (.n (some [(3, 0, .lz), (3, 3, .lz), (3, 7, .lz), (3, 11, .lz), (3, 15, .lz), (3, 16, .lz), (6, 0, .lz), (6, 1, .lz), (7, 0, .lz), (13, 0, .lz), (13, 1, .lz), (13, 2, .lz), (14, 0, .lz), (14, 1, .lz), (14, 2, .lz), (15, 1, .lz), (15, 2, .lz), (15, 3, .lz), (17, 0, .lz), (17, 1, .lz), (17, 2, .lz), (17, 4, .lz), (17, 7, .lz), (18, 0, .lz), (18, 1, .lz), (18, 2, .lz), (19, 1, .lz), (19, 2, .lz), (20, 0, .lz), (22, 0, .lz), (22, 1, .lz), (22, 2, .lz), (22, 5, .lz), (22, 6, .lz), (22, 7, .lz), (22, 8, .lz), (22, 9, .lz), (22, 10, .lz), (22, 11, .lz), (22, 13, .lz), (23, 1, .lz), (24, 0, .lz), (24, 2, .lz), (24, 3, .lz), (24, 4, .lz), (24, 5, .lz), (24, 6, .lz), (24, 8, .lz), (26, 2, .lz), (28, 0, .lz), (28, 1, .lz), (28, 2, .lz), (28, 3, .asm true), (29, 0, .lz), (29, 1, .lz), (29, 2, .lz), (31, 0, .lz), (31, 1, .lz), (32, 0, .lz), (32, 1, .lz), (32, 2, .lz), (33, 0, .lz), (33, 1, .lz), (33, 2, .lz), (34, 0, .lz), (34, 1, .lz), (34, 2, .lz), (34, 4, .lz), (34, 5, .lz), (34, 6, .lz), (35, 0, .lz), (35, 1, .lz), (35, 2, .lz), (35, 3, .lz), (35, 4, .lz), (35, 5, .lz), (35, 6, .lz), (35, 7, .lz)]) (.n none (.n (some [(9999, 9999, .lz)]) (.n none .e (.n none (.n none (.n (some [(6, 9999, .fin)]) .e .e) .e) .e)) .e) (.n none (.n (some [(6, 9999, .fin)]) .e .e) (.n none (.n none .e (.n (some [(2, 9999, .fin)]) .e .e)) .e))) (.n none .e (.n none .e (.n none (.n (some [(9, 9999, .fin)]) (.n none (.n (some [(7, 3, .row)]) .e .e) .e) .e) .e)))) (.n none (.n none .e (.n none (.n none .e (.n none (.n none (.n (some [(1, 9999, .fin)]) .e .e) .e) .e)) (.n none (.n none .e (.n (some [(3, 7, .row)]) .e .e)) .e))) (.n none (.n none .e (.n none .e (.n (some [(10, 9999, .fin), (12, 9999, .fin)]) .e .e))) (.n none (.n none .e (.n none .e (.n (some [(9999, 9999, .hd)]) .e .e))) .e))))), prim := primL l }
theorem goL5 (xs : List Int) (b r : Int) (l : List Int) (m : Nat) : runQ (cfL5 []) (evalF (cfL5 []) 40) 4 fnL 0 32 keepN (kL 28) (TM xs b r l (.ofNat m)) [] = some (kL 32, TN xs b r l (.ofNat m) 0 (.ofNat m), [decide ((.ofNat m : Int) < (xs.length : Int)) = true]) := by kernel_rfl
noncomputable def cfL6 (l : List (SymE Go.Proofs.Tryz.prog)) : Cfg := { cfW with dir := dirOf (.n none (.n none (.n none (.n none .e (.n none (.n none (.n none (.n none (.n (some [(3, 9999, .finV)]) .e .e) .e) .e) .e) .e)) (.n none (.n none (.n none (.n (some [(3, 0, .row)]) .e .e) .e) .e) .e)) (.n none (.n none .e (.n none (.n none (.n none (.n none (.n (some [(27, 9999, .fin), (28, 9999, .fin)]) .e .e) .e) .e) .e) .e)) .e)) (.n none (.n (some [(3, 0, .lz), (3, 3, .lz), (3, 7, .lz), (3, 11, .lz), (3, 15, .lz), (3, 16, .lz), (6, 0, .lz), (6, 1, .lz), (7, 0, .lz), (13, 0, .lz), (13, 1, .lz), (13, 2, .lz), (14, 0, .lz), (14, 1, .lz), (14, 2, .lz), (15, 1, .lz), (15, 2, .lz), (15, 3, .lz), (17, 0, .lz), (17, 1, .lz), (17, 2, .lz), (17, 4, .lz), (17, 7, .lz), (18, 0, .lz), (18, 1, .lz), (18, 2, .lz), (19, 1, .lz), (19, 2, .lz), (20, 0, .lz), (22, 0, .lz), (22, 1, .lz), (22, 2, .lz), (22, 5, .lz), (22, 6, .lz), (22, 7, .lz), (22, 8, .lz), (22, 9, .lz), (22, 10, .lz), (22, 11, .lz), (22, 13, .lz), (23, 1, .lz), (24, 0, .lz), (24, 2, .lz), (24, 3, .lz), (24, 4, .lz), (24, 5, .lz), (24, 6, .lz), (24, 8, .lz), (26, 2, .lz), (28, 0, .lz), (28, 1, .lz), (28, 2, .lz), (29, 0, .lz), (29, 1, .lz), (29, 2, .lz), (31, 0, .lz), (31, 1, .lz), (32, 0, .lz), (32, 1, .lz), (32, 2, .lz), (32, 3, .asm true), (33, 0, .lz), (33, 1, .lz), (33, 2, .lz), (34, 0, .lz), (34, 1, .lz), (34, 2, .lz), (34, 3, .col), (34, 4, .lz), (34, 5, .lz), (34, 6, .lz), (35, 0, .lz), (35, 1, .lz), (35, 2, .lz), (35, 3, .lz), (35, 4, .lz), (35, 5, .lz), (35, 6, .lz), (35, 7, .lz), (35, 8, .asm false)]) (.n none (.n (some [(9999, 9999, .lz)]) (.n none .e (.n none (.n none (.n (some [(6, 9999, .fin)]) .e .e) .e) .e)) .e) (.n none (.n (some [(6, 9999, .fin)]) .e .e) (.n none (.n none .e (.n (some [(2, 9999, .fin)]) .e .e)) .e))) (.n none .e (.n none .e (.n none (.n (some [(9, 9999, .fin)]) (.n none (.n (some [(7, 3, .row)]) .e .e) .e) .e) .e)))) (.n none (.n none .e (.n none (.n none .e (.n none (.n none (.n (some [(1, 9999, .fin)]) .e .e) .e) .e)) (.n none (.n none .e (.n (some [(3, 7, .row)]) .e .e)) .e))) (.n none (.n none .e (.n none .e (.n (some [(10, 9999, .fin), (12, 9999, .fin)]) .e .e))) (.n none (.n none .e (.n none .e (.n (some [(9999, 9999, .hd)]) .e .e))) .e))))), prim := primL l }
theorem goL6 (xs : List Int) (b r : Int) (l : List Int) (m : Nat) (sum : Int) (k : Nat) : runQ (cfL6 []) (evalF (cfL6 []) 40) 4 fnL 0 32 keepN (kL 32) (TN xs b r l (.ofNat m) sum (.ofNat k)) [] = some (kL 32, TN xs b r l (.ofNat m) (wI (sum + xs.getD k 0)) (wI (.ofNat k + 1)), [decide (wI (sum + xs.getD k 0) > wI (b + wI (r * wI (.ofNat k - .ofNat m)))) = false, (0 : Int) ≤ .ofNat k ∧ (.ofNat k : Int) < (xs.length : Int), decide ((.ofNat k : Int) < (xs.length : Int)) = true]) := by kernel_rfl
noncomputable def cfL7 (l : List (SymE Go.Proofs.Tryz.prog)) : Cfg := { cfW with dir := dirOf (.n none (.n none (.n none (.n none .e (.n none (.n none (.n none (.n none (.n (some [(3, 9999, .finV)]) .e .e) .e) .e) .e) .e)) (.n none (.n none (.n none (.n (some [(3, 0, .row)]) .e .e) .e) .e) .e)) (.n none (.n none .e (.n none (.n none (.n none (.n none (.n (some [(27, 9999, .fin), (28, 9999, .fin)]) .e .e) .e) .e) .e) .e)) .e)) (.n none (.n (some [(3, 0, .lz), (3, 3, .lz), (3, 7, .lz), (3, 11, .lz), (3, 15, .lz), (3, 16, .lz), (6, 0, .lz), (6, 1, .lz), (7, 0, .lz), (13, 0, .lz), (13, 1, .lz), (13, 2, .lz), (14, 0, .lz), (14, 1, .lz), (14, 2, .lz), (15, 1, .lz), (15, 2, .lz), (15, 3, .lz), (17, 0, .lz), (17, 1, .lz), (17, 2, .lz), (17, 4, .lz), (17, 7, .lz), (18, 0, .lz), (18, 1, .lz), (18, 2, .lz), (19, 1, .lz), (19, 2, .lz), (20, 0, .lz), (22, 0, .lz), (22, 1, .lz), (22, 2, .lz), (22, 5, .lz), (22, 6, .lz), (22, 7, .lz), (22, 8, .lz), (22, 9, .lz), (22, 10, .lz), (22, 11, .lz), (22, 13, .lz), (23, 1, .lz), (24, 0, .lz), (24, 2, .lz), (24, 3, .lz), (24, 4, .lz), (24, 5, .lz), (24, 6, .lz), (24, 8, .lz), (26, 2, .lz), (28, 0, .lz), (28, 1, .lz), (28, 2, .lz), (29, 0, .lz), (29, 1, .lz), (29, 2, .lz), (31, 0, .lz), (31, 1, .lz), (32, 0, .lz), (32, 1, .lz), (32, 2, .lz), (32, 3, .asm false), (33, 0, .lz), (33, 1, .lz), (33, 2, .lz), (34, 0, .lz), (34, 1, .lz), (34, 2, .lz), (34, 4, .lz), (34, 5, .lz), (34, 6, .lz), (35, 0, .lz), (35, 1, .lz), (35, 2, .lz), (35, 3, .lz), (35, 4, .lz), (35, 5, .lz), (35, 6, .lz), (35, 7, .lz)]) (.n none (.n (some [(9999, 9999, .lz)]) (.n none .e (.n none (.n none (.n (some [(6, 9999, .fin)]) .e .e) .e) .e)) .e) (.n none (.n (some [(6, 9999, .fin)]) .e .e) (.n none (.n none .e (.n (some [(2, 9999, .fin)]) .e .e)) .e))) (.n none .e (.n none .e (.n none (.n (some [(9, 9999, .fin)]) (.n none (.n (some [(7, 3, .row)]) .e .e) .e) .e) .e)))) (.n none (.n none .e (.n none (.n none .e (.n none (.n none (.n (some [(1, 9999, .fin)]) .e .e) .e) .e)) (.n none (.n none .e (.n (some [(3, 7, .row)]) .e .e)) .e))) (.n none (.n none .e (.n none .e (.n (some [(10, 9999, .fin), (12, 9999, .fin)]) .e .e))) (.n none (.n none .e (.n none .e (.n (some [(9999, 9999, .hd)]) .e .e))) .e))))), prim := primL l }
theorem goL7 (xs : List Int) (b r : Int) (l : List Int) (m : Nat) (sum : Int) (k : Nat) : runQ (cfL7 []) (evalF (cfL7 []) 40) 4 fnL 0 28 keepM (kL 32) (TN xs b r l (.ofNat m) sum (.ofNat k)) [] = some (kL 28, TM xs b r l (wI (.ofNat m + 1)), [decide ((.ofNat k : Int) < (xs.length : Int)) = false]) := by kernel_rfl
noncomputable def cfL8 (l : List (SymE Go.Proofs.Tryz.prog)) : Cfg := { cfW with dir := dirOf (.n none (.n none (.n none (.n none .e (.n none (.n none (.n none (.n none (.n (some [(3, 9999, .finV)]) .e .e) .e) .e) .e) .e)) (.n none (.n none (.n none (.n (some [(3, 0, .row)]) .e .e) .e) .e) .e)) (.n none (.n none .e (.n none (.n none (.n none (.n none (.n (some [(27, 9999, .fin), (28, 9999, .fin)]) .e .e) .e) .e) .e) .e)) .e)) (.n none (.n (some [(3, 0, .lz), (3, 3, .lz), (3, 7, .lz), (3, 11, .lz), (3, 15, .lz), (3, 16, .lz), (6, 0, .lz), (6, 1, .lz), (7, 0, .lz), (13, 0, .lz), (13, 1, .lz), (13, 2, .lz), (14, 0, .lz), (14, 1, .lz), (14, 2, .lz), (15, 1, .lz), (15, 2, .lz), (15, 3, .lz), (17, 0, .lz), (17, 1, .lz), (17, 2, .lz), (17, 4, .lz), (17, 7, .lz), (18, 0, .lz), (18, 1, .lz), (18, 2, .lz), (19, 1, .lz), (19, 2, .lz), (20, 0, .lz), (22, 0, .lz), (22, 1, .lz), (22, 2, .lz), (22, 5, .lz), (22, 6, .lz), (22, 7, .lz), (22, 8, .lz), (22, 9, .lz), (22, 10, .lz), (22, 11, .lz), (22, 13, .lz), (23, 1, .lz), (24, 0, .lz), (24, 2, .lz), (24, 3, .lz), (24, 4, .lz), (24, 5, .lz), (24, 6, .lz), (24, 8, .lz), (26, 2, .lz), (28, 0, .lz), (28, 1, .lz), (28, 2, .lz), (28, 3, .asm false), (29, 0, .lz), (29, 1, .lz), (29, 2, .lz), (31, 0, .lz), (31, 1, .lz), (32, 0, .lz), (32, 1, .lz), (32, 2, .lz), (33, 0, .lz), (33, 1, .lz), (33, 2, .lz), (34, 0, .lz), (34, 1, .lz), (34, 2, .lz), (34, 4, .lz), (34, 5, .lz), (34, 6, .lz), (35, 0, .lz), (35, 1, .lz), (35, 2, .lz), (35, 3, .lz), (35, 4, .lz), (35, 5, .lz), (35, 6, .lz), (35, 7, .lz)]) (.n none (.n (some [(9999, 9999, .lz)]) (.n none .e (.n none (.n none (.n (some [(6, 9999, .fin)]) .e .e) .e) .e)) .e) (.n none (.n (some [(6, 9999, .fin)]) .e .e) (.n none (.n none .e (.n (some [(2, 9999, .fin)]) .e .e)) .e))) (.n none .e (.n none .e (.n none (.n (some [(9, 9999, .fin)]) (.n none (.n (some [(7, 3, .row)]) .e .e) .e) .e) .e)))) (.n none (.n none .e (.n none (.n none .e (.n none (.n none (.n (some [(1, 9999, .fin)]) .e .e) .e) .e)) (.n none (.n none .e (.n (some [(3, 7, .row)]) .e .e)) .e))) (.n none (.n none .e (.n none .e (.n (some [(10, 9999, .fin), (12, 9999, .fin)]) .e .e))) (.n none (.n none .e (.n none .e (.n (some [(9999, 9999, .hd)]) .e .e))) .e))))), prim := primL l }
theorem goL8 (xs : List Int) (b r : Int) (l : List Int) (m : Nat) : endO 0 (endT (cfL8 []) (evalF (cfL8 []) 40) 4 fnL (kL 28) (TM xs b r l (.ofNat m)) []) = some (out8, [decide ((.ofNat m : Int) < (xs.length : Int)) = false]) := by kernel_rfl
end Zed
namespace Zed
open Go
set_option maxRecDepth 100000
set_option linter.unusedVariables false
set_option linter.unusedSimpArgs false

noncomputable def chkS : Bool := (List.range 30).all fun k => !(seqX (.ofNat (209 + k)) == 3321510608) && decide (wrapE .u32 (seqX (.ofNat (209 + k)) - 3321510608) < 1048576)
theorem chkS_ok : chkS = true := by kernel_rfl
theorem seq_ok {k : Nat} (h : k < 30) : (seqX (.ofNat (209 + k)) == 3321510608) = false ∧ decide (wrapE .u32 (seqX (.ofNat (209 + k)) - 3321510608) < 1048576) = true := by
  have := List.all_eq_true.1 chkS_ok k (by simpa using h)
  simpa using this
theorem kE_eq {k : Nat} (h : k < 30) : kE k = k := by
  show (Int.emod (3321510609 + Int.emod (.ofNat k) (.ofNat 4294967296)) (.ofNat 4294967296) - 3321510609).toNat = k
  have e1 : Int.emod (.ofNat k) (.ofNat 4294967296) = (k : Int) := by
    show ((k : Int) % 4294967296) = _
    omega
  rw [e1]
  show (((3321510609 + (k : Int)) % 4294967296) - 3321510609).toNat = k
  omega
theorem enc_eq {k : Nat} (h : k < 30) : wrapE .u32 (3321510609 + wrapE .u32 (.ofNat k)) = .ofNat (3321510609 + kE k) := by
  rw [kE_eq h]
  show Int.emod (3321510609 + Int.emod (.ofNat k) (.ofNat 4294967296)) (.ofNat 4294967296) = _
  have e1 : Int.emod (.ofNat k) (.ofNat 4294967296) = (k : Int) := by
    show ((k : Int) % 4294967296) = _
    omega
  rw [e1]
  show ((3321510609 + (k : Int)) % 4294967296) = ((3321510609 + k : Nat) : Int)
  omega
theorem wI_ofNat {k : Nat} (h : k < 1000000) : wI (.ofNat k + 1) = .ofNat (k + 1) := wI_add1 k h
noncomputable abbrev evL (c : Cfg) : EvT := evalF c 40
noncomputable abbrev GoL (k : List Item) (T : Tm) (k2 : List Item) (T2 : Tm) : Prop := Goes2 Pr fnL.ntmps 0 k T.den k2 T2.den
/-- What a reset may move. -/
structure Ij (p p' : Pa) : Prop where
  cb : p'.cb = p.cb
  cr : p'.cr = p.cr
  j0 : p'.j0 = p.j0
  tk : p'.tk - p.tk = p.ch - p'.ch
  t0 : 0 ≤ p'.tk
  ch : p.ch ≤ p'.ch
theorem condT_ok {p : Pa} {l : List Int} {i k : Nat} (hk : k < 30) (hv : (k : Int) < l.getD i 0) (hi : i < l.length) (ht : 0 < p.tk) (hW : p.W.length < 200) (hG : p.G.length < 900000) : AllC (condL2T p l i k) := by
  have hs := seq_ok (k := kE k) (by rw [kE_eq hk]; exact hk)
  have he : innEncST k = innEnc (kE k) := by unfold innEncST innEnc; rw [enc_eq hk]
  have hb : (p.tk == 0) = false := by simp; omega
  refine ⟨rfl, ?_⟩
  simp only [condinjT, List.cons_append, List.nil_append, AllC, List.length_cons, List.length_nil, maxLen, Nat.reducePow, Nat.reduceSub]
  refine ⟨by omega, by simp; omega, by omega, hb, hs.2, hs.1, he, by rw [kE_eq hk]; exact hk, trivial, ?_, ?_, ?_, trivial⟩
  · simp only [decide_eq_true_eq]; show (k : Int) < 30; omega
  · simp only [decide_eq_true_eq]; exact hv
  · exact ⟨Int.natCast_nonneg i, by show (i : Int) < _; omega⟩
theorem condN_ok {p : Pa} {l : List Int} {i k : Nat} (hk : k < 30) (hv : (k : Int) < l.getD i 0) (hi : i < l.length) (ht : p.tk = 0) : AllC (condL2N p l i k) := by
  have hs := seq_ok (k := kE k) (by rw [kE_eq hk]; exact hk)
  have he : innEncSN k = innEnc (kE k) := by unfold innEncSN innEnc; rw [enc_eq hk]
  have hb : (p.tk == 0) = true := by simp [ht]
  refine ⟨rfl, ?_⟩
  simp only [condinjN, List.cons_append, List.nil_append, AllC]
  refine ⟨hb, hs.2, hs.1, he, by rw [kE_eq hk]; exact hk, trivial, ?_, ?_, ?_, trivial⟩
  · simp only [decide_eq_true_eq]; show (k : Int) < 30; omega
  · simp only [decide_eq_true_eq]; exact hv
  · exact ⟨Int.natCast_nonneg i, by show (i : Int) < _; omega⟩
theorem stepT (D : Option (List Int)) (p : Pa) (b r : Int) (l : List Int) (i : Nat) (was : Int) (k : Nat) (hC : AllC (condL2T p l i k)) (hk : k < 30) : GoL (kL 17) (TI D p b r l (.ofNat i) was (.ofNat k)) (kL 17) (TI D (stinjT p) b r l (.ofNat i) was (.ofNat (k + 1))) := by
  rw [← wI_ofNat (k := k) (by omega)]
  cases D with
  | none => exact (runQ_ok (cf := cfL2T [symStats, symEnc, syminjT]) hmG htG (evalF_ok (cf := cfL2T [symStats, symEnc, syminjT]) hmG htG (primL_ok _) (fnsOf_ok hfG) 40) (goL2T_a p b r l i was k) hC).2
  | some xs => exact (runQ_ok (cf := cfL2T [symStats, symEnc, syminjT]) hmG htG (evalF_ok (cf := cfL2T [symStats, symEnc, syminjT]) hmG htG (primL_ok _) (fnsOf_ok hfG) 40) (goL2T_b xs p b r l i was k) hC).2
theorem stepN (D : Option (List Int)) (p : Pa) (b r : Int) (l : List Int) (i : Nat) (was : Int) (k : Nat) (hC : AllC (condL2N p l i k)) (hk : k < 30) : GoL (kL 17) (TI D p b r l (.ofNat i) was (.ofNat k)) (kL 17) (TI D (stinjN p) b r l (.ofNat i) was (.ofNat (k + 1))) := by
  rw [← wI_ofNat (k := k) (by omega)]
  cases D with
  | none => exact (runQ_ok (cf := cfL2N [symStats, symEnc, syminjN]) hmG htG (evalF_ok (cf := cfL2N [symStats, symEnc, syminjN]) hmG htG (primL_ok _) (fnsOf_ok hfG) 40) (goL2N_a p b r l i was k) hC).2
  | some xs => exact (runQ_ok (cf := cfL2N [symStats, symEnc, syminjN]) hmG htG (evalF_ok (cf := cfL2N [symStats, symEnc, syminjN]) hmG htG (primL_ok _) (fnsOf_ok hfG) 40) (goL2N_b xs p b r l i was k) hC).2
theorem inner (D : Option (List Int)) (b r : Int) (l : List Int) (i : Nat) (was : Int) (hi : i < l.length) : ∀ (n k : Nat) (w : List Kd) (p : Pa), k + n = 30 → p.W = w.map pkOf → Vb w p → Sb p → 0 ≤ p.tk → p.tk ≤ 20 → 0 ≤ p.ch → p.ch + n ≤ 100000 → wt w + n < 100 → p.G.length + n < 900000 →
    ∃ (k' : Nat) (w' : List Kd) (p' : Pa), k' ≤ 30 ∧ (l.getD i 0 ≤ (k' : Int) ∨ ((k' : Int) < l.getD i 0 ∧ k' = 30)) ∧ p'.W = w'.map pkOf ∧ Vb w' p' ∧ Sb p' ∧ Ij p p' ∧ p'.ch ≤ p.ch + n ∧ wt w' ≤ wt w + n ∧ p'.G.length ≤ p.G.length + n ∧ GoL (kL 17) (TI D p b r l (.ofNat i) was (.ofNat k)) (kL 17) (TI D p' b r l (.ofNat i) was (.ofNat k')) := by
  intro n
  induction n with
  | zero =>
    intro k w p hk hW hv hs ht ht2 hc hc2 hw hG
    have hk : k = 30 := by omega
    refine ⟨k, w, p, by omega, ?_, hW, hv, hs, ⟨rfl, rfl, rfl, by omega, ht, by omega⟩, by omega, by omega, by omega, Goes2.refl _ _⟩
    by_cases h : l.getD i 0 ≤ (k : Int)
    · exact .inl h
    · exact .inr ⟨by omega, hk⟩
  | succ n ih =>
    intro k w p hk hW hv hs ht ht2 hc hc2 hw hG
    by_cases hlt : (k : Int) < l.getD i 0
    case neg => exact ⟨k, w, p, by omega, .inl (by omega), hW, hv, hs, ⟨rfl, rfl, rfl, by omega, ht, by omega⟩, by omega, by omega, by omega, Goes2.refl _ _⟩
    have hlen : p.W.length < 200 := by
      rw [hW, List.length_map]
      have := len_wt w; omega
    obtain ⟨v1, v2, v3, v4, v5, v6, v7, v8⟩ := hv
    by_cases h0 : p.tk = 0
    · have go := stepN D p b r l i was k (condN_ok (by omega) hlt hi h0) (by omega)
      obtain ⟨k', w', p', r1, r2, r3, r4, r5, r6, r7, r8, r9, r10⟩ := ih (k + 1) w (stinjN p) (by omega) hW ⟨v1, v2, v3, v4, v5, v6, v7, v8⟩ ⟨hs.s0, hs.q0, hs.s1, hs.q1⟩ ht ht2 hc (by show p.ch + _ ≤ _; omega) (by omega) (by show p.G.length + n < _; omega)
      refine ⟨k', w', p', r1, r2, r3, r4, r5, ⟨r6.cb, r6.cr, r6.j0, r6.tk, r6.t0, r6.ch⟩, ?_, by omega, ?_, go.trans r10⟩
      · have : p'.ch ≤ p.ch + n := r7
        omega
      · have : p'.G.length ≤ p.G.length + n := r9
        omega
    · have go := stepT D p b r l i was k (condT_ok (by omega) hlt hi (by omega) hlen (by omega)) (by omega)
      have e1 : (stinjT p).tk = p.tk - 1 := wI_id (by omega) (by omega)
      have e2 : (stinjT p).ch = p.ch + 1 := wI_id (by omega) (by omega)
      have e3 : (stinjT p).G.length = p.G.length + 1 := by show (p.G ++ [pkA]).length = _; simp
      have hwa : wt (w ++ [Kd.a]) = wt w + 1 := by rw [wt_append]; rfl
      obtain ⟨k', w', p', r1, r2, r3, r4, r5, r6, r7, r8, r9, r10⟩ := ih (k + 1) (w ++ [.a]) (stinjT p) (by omega) (by show p.W ++ [pkA] = _; rw [hW]; simp [pkOf]) (by
        refine ⟨v1, ?_, v3, v4, v5, v6, .inr (by simp [to0]), ?_⟩
        · show (0 : Int) ≤ 0 ∧ (0 : Int) ≤ 19; omega
        · rcases v8 with h | h
          · exact .inl h
          · right; simpa [to1] using h) ⟨hs.s0, hs.q0, hs.s1, hs.q1⟩ (by omega) (by omega) (by omega) (by omega) (by omega) (by omega)
      refine ⟨k', w', p', r1, r2, r3, r4, r5, ⟨r6.cb, r6.cr, r6.j0, ?_, r6.t0, ?_⟩, by omega, by omega, by omega, go.trans r10⟩
      · have := r6.tk; omega
      · have := r6.ch; omega

/-- At the loop's head, behind so many ticks. -/
structure Bd (b r : Int) (i : Nat) (dl : List Int) (p : Pa) : Prop where
  W : p.W = []
  v : Vb [] p
  cb : p.cb = b
  cr : p.cr = r
  tb : p.tk ≤ b
  j0 : 0 ≤ p.j0 ∧ p.j0 ≤ 15
  ch : 0 ≤ p.ch ∧ p.ch ≤ 30 * i
  G : p.G.length ≤ 4 + 100 * i
  bk : Bk b r p.tk dl
  len : dl.length = i
noncomputable def Dr (D : Option (List Int)) (dl : List Int) : Prop := (D = none ∧ dl = []) ∨ D = some dl
theorem goA {D : Option (List Int)} {p : Pa} {b r : Int} {l : List Int} {i : Nat} (hi : i < l.length) : GoL (kL 13) (TL D p b r l (.ofNat i)) (kL 17) (TI D p b r l (.ofNat i) p.ch (.ofNat 0)) := by
  have hc : AllC [decide ((.ofNat i : Int) < (l.length : Int)) = true] := ⟨by simp only [decide_eq_true_eq]; show (i : Int) < _; omega, trivial⟩
  cases D with
  | none => exact (runQ_ok (cf := cfL1 []) hmG htG (evalF_ok (cf := cfL1 []) hmG htG (primL_ok _) (fnsOf_ok hfG) 40) (goL1_a p b r l (.ofNat i)) hc).2
  | some xs => exact (runQ_ok (cf := cfL1 []) hmG htG (evalF_ok (cf := cfL1 []) hmG htG (primL_ok _) (fnsOf_ok hfG) 40) (goL1_b xs p b r l (.ofNat i)) hc).2
theorem goB {D : Option (List Int)} {dl : List Int} {p : Pa} {b r : Int} {l : List Int} {i : Nat} {was : Int} {k : Nat} (hD : Dr D dl) (hi : i < l.length) (hl : dl.length < 1000) (hk : l.getD i 0 ≤ (k : Int) ∨ ((k : Int) < l.getD i 0 ∧ k = 30)) (hx : wI (p.ch - was) = p.ch - was) :
    GoL (kL 17) (TI D p b r l (.ofNat i) was (.ofNat k)) (kL 25) (TL (some (dl ++ [p.ch - was])) p b r l (.ofNat i)) := by
  rw [← hx]
  have h1 : (0 : Int) ≤ .ofNat i ∧ (.ofNat i : Int) < (l.length : Int) := ⟨Int.natCast_nonneg i, by show (i : Int) < _; omega⟩
  rcases hk with hk | ⟨hk, rfl⟩
  · have h2 : decide ((.ofNat k : Int) < l.getD i 0) = false := by simp only [decide_eq_false_iff_not]; show ¬ (k : Int) < _; omega
    rcases hD with ⟨rfl, rfl⟩ | rfl
    · exact (runQ_ok (cf := cfL30 []) hmG htG (evalF_ok (cf := cfL30 []) hmG htG (primL_ok _) (fnsOf_ok hfG) 40) (goL30_a p b r l i was k) ⟨by simp [maxLen], h2, h1, trivial⟩).2
    · exact (runQ_ok (cf := cfL30 []) hmG htG (evalF_ok (cf := cfL30 []) hmG htG (primL_ok _) (fnsOf_ok hfG) 40) (goL30_b dl p b r l i was k) ⟨by simp [maxLen]; omega, h2, h1, trivial⟩).2
  · have h2 : decide ((.ofNat 30 : Int) < l.getD i 0) = true := by simp only [decide_eq_true_eq]; exact hk
    have h3 : decide ((.ofNat 30 : Int) < 30) = false := rfl
    rcases hD with ⟨rfl, rfl⟩ | rfl
    · exact (runQ_ok (cf := cfL31 []) hmG htG (evalF_ok (cf := cfL31 []) hmG htG (primL_ok _) (fnsOf_ok hfG) 40) (goL31_a p b r l i was 30) ⟨by simp [maxLen], h3, h2, h1, trivial⟩).2
    · exact (runQ_ok (cf := cfL31 []) hmG htG (evalF_ok (cf := cfL31 []) hmG htG (primL_ok _) (fnsOf_ok hfG) 40) (goL31_b dl p b r l i was 30) ⟨by simp [maxLen]; omega, h3, h2, h1, trivial⟩).2
theorem goC {xs : List Int} {p p' : Pa} {b r : Int} {l : List Int} {i : Nat} (h : FnOK Pr 13 (innN [] p) (oK0 p') ∨ FnOK Pr 13 (innN [] p) (oK1 p')) : GoL (kL 25) (TL (some xs) p b r l (.ofNat i)) (kL 26) (TL (some xs) p' b r l (.ofNat i)) := by
  rcases h with h | h
  · exact (runQ_ok (cf := cfLK [symTk Pr (oK0 p')]) hmG htG (evalF_ok (cf := cfLK [symTk Pr (oK0 p')]) hmG htG (primL_ok _) (fnsOf_ok hfG) 40) (goLK_0 xs p p' b r l (.ofNat i)) ⟨rfl, h, trivial⟩).2
  · exact (runQ_ok (cf := cfLK [symTk Pr (oK1 p')]) hmG htG (evalF_ok (cf := cfLK [symTk Pr (oK1 p')]) hmG htG (primL_ok _) (fnsOf_ok hfG) 40) (goLK_1 xs p p' b r l (.ofNat i)) ⟨rfl, h, trivial⟩).2
theorem goD {xs : List Int} {p p' : Pa} {b r : Int} {l : List Int} {i s : Nat} {d : Int} (hs : s < 3) (hi : i < 1000000) (h : FnOK Pr 21 (innN argF p) (outF s p' d)) : GoL (kL 26) (TL (some xs) p b r l (.ofNat i)) (kL 13) (TL (some xs) p' b r l (.ofNat (i + 1))) := by
  rw [← wI_ofNat hi]
  match s, hs with
  | 0, _ => exact (runQ_ok (cf := cfLF [symF Pr 0 p' d]) hmG htG (evalF_ok (cf := cfLF [symF Pr 0 p' d]) hmG htG (primL_ok _) (fnsOf_ok hfG) 40) (goLF_0 xs p p' d b r l (.ofNat i)) ⟨rfl, h, trivial⟩).2
  | 1, _ => exact (runQ_ok (cf := cfLF [symF Pr 1 p' d]) hmG htG (evalF_ok (cf := cfLF [symF Pr 1 p' d]) hmG htG (primL_ok _) (fnsOf_ok hfG) 40) (goLF_1 xs p p' d b r l (.ofNat i)) ⟨rfl, h, trivial⟩).2
  | 2, _ => exact (runQ_ok (cf := cfLF [symF Pr 2 p' d]) hmG htG (evalF_ok (cf := cfLF [symF Pr 2 p' d]) hmG htG (primL_ok _) (fnsOf_ok hfG) 40) (goLF_2 xs p p' d b r l (.ofNat i)) ⟨rfl, h, trivial⟩).2
theorem round {D : Option (List Int)} {dl : List Int} {p : Pa} {b r : Int} {l : List Int} {i : Nat} (hb : 0 ≤ b ∧ b ≤ 20) (hr : 0 ≤ r ∧ r ≤ 20) (hi : i < l.length) (hl : l.length ≤ 60) (hD : Dr D dl) (hB : Bd b r i dl p) :
    ∃ dl' p', Bd b r (i + 1) dl' p' ∧ GoL (kL 13) (TL D p b r l (.ofNat i)) (kL 13) (TL (some dl') p' b r l (.ofNat (i + 1))) := by
  obtain ⟨bW, bv, bcb, bcr, btb, bj, bch, bG, bbk, blen⟩ := hB
  have hsb : Sb p := by
    have n0 : ¬ to0 [] := by simp [to0]
    have n1 : ¬ to1 [] := by simp [to1]
    have h0 := bv.h0.resolve_right n0
    have h1 := bv.h1.resolve_right n1
    have := bv.i0; have := bv.i1
    exact ⟨by omega, by omega, by omega, by omega⟩
  obtain ⟨k', w1, p1, r1, r2, r3, r4, r5, r6, r7, r8, r9, r10⟩ := inner D b r l i p.ch hi 30 0 [] p rfl (by rw [bW]; rfl) bv hsb bbk.t0 (by omega) bch.1 (by omega) (by simp [wt]) (by omega)
  have hx : wI (p1.ch - p.ch) = p1.ch - p.ch := wI_id (by have := r6.ch; omega) (by omega)
  have hw1 : wt w1 ≤ 30 := by simpa [wt] using r8
  have g1 := goA (D := D) (p := p) (b := b) (r := r) (l := l) hi
  have g2 := goB (D := D) (dl := dl) (p := p1) (b := b) (r := r) (l := l) (i := i) (was := p.ch) (k := k') hD hi (by omega) r2 hx
  obtain ⟨w2, p2, q1, q2, q3, q4, q5, q6⟩ := tick_ok w1 p1 r3 r4 r5 (by rw [r6.j0]; exact bj) (by have := len_wt w1; omega) (by omega) (by rw [r6.cr, bcr]; exact hr) ⟨r6.t0, by have := r6.tk; have := r6.ch; omega⟩
  have g3 := goC (xs := dl ++ [p1.ch - p.ch]) (p := p1) (p' := p2) (b := b) (r := r) (l := l) (i := i) q6
  obtain ⟨s', p3, d', t1, t2, t3, t4, t5, t6⟩ := flush_ok w2 p2 q1 q2 (by omega) (by omega)
  have g4 := goD (xs := dl ++ [p1.ch - p.ch]) (b := b) (r := r) (l := l) (i := i) t1 (by omega) t6
  refine ⟨dl ++ [p1.ch - p.ch], p3, ?_, g1.trans (r10.trans (g2.trans (g3.trans g4)))⟩
  have ec : p3.ch = p1.ch := t4.ch.trans q3.ch
  have et : p3.tk = if p1.cb < p1.tk + p1.cr then p1.cb else p1.tk + p1.cr := t4.tk.trans q3.tk
  have ecb : p1.cb = b := r6.cb.trans bcb
  have ecr : p1.cr = r := r6.cr.trans bcr
  rw [ecb, ecr] at et
  have htk := r6.tk
  have hch := r6.ch
  have ht0 := r6.t0
  have t3b : p3.tk ≤ b ∧ 0 ≤ p3.tk ∧ p3.tk ≤ p1.tk + r ∧ (p3.tk = p1.tk + r ∨ p3.tk = b) := by
    rw [et]; split <;> omega
  refine ⟨t2, t3, t4.cb.trans (q3.cb.trans ecb), t4.cr.trans (q3.cr.trans ecr), t3b.1, ?_, ?_, by omega, ?_, by rw [List.length_append, List.length_singleton, blen]⟩
  · rw [t4.j0]; exact q3.j0
  · rw [ec]
    constructor
    · omega
    · have : ((i + 1 : Nat) : Int) = (i : Int) + 1 := by omega
      omega
  · refine Bk.step bbk hr.1 (by omega) (by omega) ?_ ?_ t3b.1 t3b.2.1
    · rcases t3b.2.2.2 with h | h
      · left; omega
      · right; exact h
    · omega
theorem outer {b r : Int} {l : List Int} (hb : 0 ≤ b ∧ b ≤ 20) (hr : 0 ≤ r ∧ r ≤ 20) (hl : l.length ≤ 60) : ∀ (n i : Nat) (D : Option (List Int)) (dl : List Int) (p : Pa), i + n = l.length → Dr D dl → Bd b r i dl p →
    ∃ D' dl' p', Dr D' dl' ∧ Bd b r l.length dl' p' ∧ GoL (kL 13) (TL D p b r l (.ofNat i)) (kL 13) (TL D' p' b r l (.ofNat l.length)) := by
  intro n
  induction n with
  | zero =>
    intro i D dl p hi hD hB
    have : i = l.length := by omega
    subst this
    exact ⟨D, dl, p, hD, hB, Goes2.refl _ _⟩
  | succ n ih =>
    intro i D dl p hi hD hB
    obtain ⟨dl1, p1, h1, g1⟩ := round hb hr (by omega) hl hD hB
    obtain ⟨D', dl', p', a1, a2, a3⟩ := ih (i + 1) (some dl1) dl1 p1 (by omega) (.inr rfl) h1
    exact ⟨D', dl', p', a1, a2, g1.trans a3⟩
end Zed
namespace Zed
open Go
set_option maxRecDepth 100000
set_option linter.unusedVariables false
set_option linter.unusedSimpArgs false

theorem goE {xs : List Int} {b r : Int} {l : List Int} {m : Nat} (hm : m < xs.length) : GoL (kL 28) (TM xs b r l (.ofNat m)) (kL 32) (TN xs b r l (.ofNat m) 0 (.ofNat m)) :=
  (runQ_ok (cf := cfL5 []) hmG htG (evalF_ok (cf := cfL5 []) hmG htG (primL_ok _) (fnsOf_ok hfG) 40) (goL5 xs b r l m) ⟨by simp only [decide_eq_true_eq]; show (m : Int) < _; omega, trivial⟩).2
theorem loopN {xs : List Int} {b r t : Int} {l : List Int} {m : Nat} (hb : 0 ≤ b ∧ b ≤ 20) (hr : 0 ≤ r ∧ r ≤ 20) (hl : xs.length ≤ 60) (hB : Bk b r t xs) : ∀ (n j : Nat), m + j + n = xs.length →
    GoL (kL 32) (TN xs b r l (.ofNat m) (sumR xs m j) (.ofNat (m + j))) (kL 28) (TM xs b r l (.ofNat (m + 1))) := by
  intro n
  induction n with
  | zero =>
    intro j hj
    rw [← wI_ofNat (k := m) (by omega)]
    exact (runQ_ok (cf := cfL7 []) hmG htG (evalF_ok (cf := cfL7 []) hmG htG (primL_ok _) (fnsOf_ok hfG) 40) (goL7 xs b r l m (sumR xs m j) (m + j)) ⟨by simp only [decide_eq_false_iff_not]; show ¬ ((m + j : Nat) : Int) < _; omega, trivial⟩).2
  | succ n ih =>
    intro j hj
    have hlt : m + j < xs.length := by omega
    have hg := hB.good m j hlt
    have hp := hB.pos m (j + 1)
    have hs := sumR_succ xs m j
    have hrj : r * (j : Int) ≤ 20 * 60 := by
      refine Int.mul_le_mul hr.2 (by omega) (by omega) (by omega)
    have hrj0 : 0 ≤ r * (j : Int) := Int.mul_nonneg hr.1 (by omega)
    have e1 : wI (sumR xs m j + xs.getD (m + j) 0) = sumR xs m (j + 1) := by
      rw [hs]; exact wI_id (by omega) (by omega)
    have e2 : wI ((.ofNat (m + j) : Int) - .ofNat m) = (j : Int) := by
      show wI (((m + j : Nat) : Int) - (m : Int)) = _
      rw [wI_id (by omega) (by omega)]; omega
    have e3 : wI (b + wI (r * wI ((.ofNat (m + j) : Int) - .ofNat m))) = b + r * (j : Int) := by
      rw [e2, wI_id (n := r * (j : Int)) (by omega) (by omega), wI_id (by omega) (by omega)]
    have hc : AllC [decide (wI (sumR xs m j + xs.getD (m + j) 0) > wI (b + wI (r * wI ((.ofNat (m + j) : Int) - .ofNat m)))) = false, (0 : Int) ≤ .ofNat (m + j) ∧ (.ofNat (m + j) : Int) < (xs.length : Int), decide ((.ofNat (m + j) : Int) < (xs.length : Int)) = true] := by
      refine ⟨?_, ⟨Int.natCast_nonneg _, ?_⟩, ?_, trivial⟩
      · rw [e1, e3]; simp only [decide_eq_false_iff_not]; omega
      · show ((m + j : Nat) : Int) < _; omega
      · simp only [decide_eq_true_eq]; show ((m + j : Nat) : Int) < _; omega
    have go := (runQ_ok (cf := cfL6 []) hmG htG (evalF_ok (cf := cfL6 []) hmG htG (primL_ok _) (fnsOf_ok hfG) 40) (goL6 xs b r l m (sumR xs m j) (m + j)) hc).2
    rw [e1, wI_ofNat (k := m + j) (by omega)] at go
    exact go.trans (ih (j + 1) (by omega))
theorem loopM {xs : List Int} {b r t : Int} {l : List Int} (hb : 0 ≤ b ∧ b ≤ 20) (hr : 0 ≤ r ∧ r ≤ 20) (hl : xs.length ≤ 60) (hB : Bk b r t xs) : ∀ (n m : Nat), m + n = xs.length → GoL (kL 28) (TM xs b r l (.ofNat m)) (kL 28) (TM xs b r l (.ofNat xs.length)) := by
  intro n
  induction n with
  | zero =>
    intro m hm
    have : m = xs.length := by omega
    subst this
    exact Goes2.refl _ _
  | succ n ih =>
    intro m hm
    have g1 := goE (xs := xs) (b := b) (r := r) (l := l) (m := m) (by omega)
    have g2 := loopN (l := l) (m := m) hb hr hl hB (n + 1) 0 (by omega)
    rw [sumR_zero] at g2
    exact g1.trans (g2.trans (ih (m + 1) (by omega)))

theorem nmL : (fnL.name == "runtime.NumGoroutine") = false := by kernel_rfl
noncomputable def cL : Code := fnL.body.getD default
theorem hbL : fnL.body = some cL := by kernel_rfl
noncomputable def inn4 (b r : Int) (l : List Int) : Inn := ⟨[.c (.d (.int .i64 b)), .c (.d (.int .i64 r)), .c (.d (.sl (.int .i64) l))], [], [], 0⟩
theorem okL (b r : Int) (l : List Int) : ((inn4 b r l).ok && out8.ok (inn4 b r l)) = true := by kernel_rfl
theorem clI_id {n : Int} (h : 0 ≤ n ∧ n ≤ 20) : clI n = n := by
  unfold clI mxI mnI
  rw [if_neg (by omega), if_neg (by omega)]
theorem condPP_ok {b r : Int} (hb : 0 ≤ b ∧ b ≤ 20) (hr : 0 ≤ r ∧ r ≤ 20) : AllC (condPP b r) := by
  simp only [condPP, AllC, decide_eq_true_eq]
  repeat' apply And.intro
  all_goals first | trivial | omega
theorem start {b r : Int} (hb : 0 ≤ b ∧ b ≤ 20) (hr : 0 ≤ r ∧ r ≤ 20) : Bd b r 0 [] (pa0 b r) := by
  refine ⟨rfl, ⟨?_, ?_, ?_, ?_, ?_, ?_, .inl ?_, .inl ?_⟩, clI_id hb, clI_id hr, ?_, ?_, ?_, (by show G0.length ≤ 4; decide), Bk.start ?_ ?_, rfl⟩
  all_goals first
    | (show (0 : Int) ≤ 0 ∧ (0 : Int) ≤ 0; omega)
    | (show (0 : Int) ≤ 0 ∧ (0 : Int) ≤ 19; omega)
    | (show (0 : Int) ≤ 0 ∧ (0 : Int) ≤ 40; omega)
    | (show (0 : Int) ≤ 0 ∧ (0 : Int) ≤ 15; omega)
    | (show (0 : Int) ≤ 0 ∧ (0 : Int) ≤ 30 * ((0 : Nat) : Int); omega)
    | (show clI b ≤ b; rw [clI_id hb]; omega)
    | (show 0 ≤ clI b; rw [clI_id hb]; omega)
theorem allC_mk : ∀ {C D : List Prop}, AllC C → AllC D → AllC (C ++ D)
  | [], D, _, h => h
  | c :: C, D, h, h' => ⟨h.1, allC_mk h.2 h'⟩
theorem begins (h8 : FnOK Pr 8 inn8 out8) {b r : Int} {l : List Int} (hb : 0 ≤ b ∧ b ≤ 20) (hr : 0 ≤ r ∧ r ≤ 20) (hl : l.length ≤ 60) : GoL (adm 1000 (bodyOf fnL)) (TL0 b r l) (kL 13) (TL none (pa0 b r) b r l (.ofNat 0)) := by
  refine (runQ_ok (cf := cfL0 [sym8 Pr, symPP]) hmG htG (evalF_ok (cf := cfL0 [sym8 Pr, symPP]) hmG htG (primL_ok _) (fnsOf_ok hfG) 40) (goL0 b r l) ?_).2
  refine ⟨rfl, ?_⟩
  refine allC_mk (condPP_ok hb hr) ?_
  simp only [AllC, decide_eq_false_iff_not]
  exact ⟨by omega, by omega, by omega, by omega, by omega, trivial, h8, trivial⟩
theorem ends {D : Option (List Int)} {dl : List Int} {p : Pa} {b r : Int} {l : List Int} (hb : 0 ≤ b ∧ b ≤ 20) (hr : 0 ≤ r ∧ r ≤ 20) (hl : l.length ≤ 60) (hD : Dr D dl) (hB : Bd b r l.length dl p) (hgo : GoL (adm 1000 (bodyOf fnL)) (TL0 b r l) (kL 13) (TL D p b r l (.ofNat l.length))) : FnOK Pr 4 (inn4 b r l) out8 := by
  have hc : AllC [decide ((.ofNat l.length : Int) < (l.length : Int)) = false] := ⟨by simp only [decide_eq_false_iff_not]; show ¬ (l.length : Int) < _; omega, trivial⟩
  rcases hD with ⟨rfl, rfl⟩ | rfl
  · exact fnOK_frames (cf := cfL4 []) hmG htG (evalF_ok (cf := cfL4 []) hmG htG (primL_ok _) (fnsOf_ok hfG) 40) hL4 nmL hbL (inn := inn4 b r l) hgo (goL4_a p b r l (.ofNat l.length)) hc (okL b r l)
  · have g1 : GoL (kL 13) (TL (some dl) p b r l (.ofNat l.length)) (kL 28) (TM dl b r l (.ofNat 0)) := (runQ_ok (cf := cfL4 []) hmG htG (evalF_ok (cf := cfL4 []) hmG htG (primL_ok _) (fnsOf_ok hfG) 40) (goL4_b dl p b r l (.ofNat l.length)) hc).2
    have g2 := loopM (l := l) hb hr (by rw [hB.len]; exact hl) hB.bk dl.length 0 (by omega)
    refine fnOK_frames (cf := cfL8 []) hmG htG (evalF_ok (cf := cfL8 []) hmG htG (primL_ok _) (fnsOf_ok hfG) 40) hL4 nmL hbL (inn := inn4 b r l) (hgo.trans (g1.trans g2)) (goL8 dl b r l dl.length) ?_ (okL b r l)
    exact ⟨by simp only [decide_eq_false_iff_not]; show ¬ (dl.length : Int) < _; omega, trivial⟩
theorem challenges_ok (h8 : FnOK Pr 8 inn8 out8) (b r : Int) (l : List Int) : FnOK Pr 4 (inn4 b r l) out8 := by
  have hev : ∀ c : Cfg, True := fun _ => trivial
  by_cases h1 : b < 0
  · exact fnOK_frames (cf := cfG0 [sym8 Pr]) hmG htG (evalF_ok (cf := cfG0 [sym8 Pr]) hmG htG (primL_ok _) (fnsOf_ok hfG) 40) hL4 nmL hbL (inn := inn4 b r l) (Goes2.refl _ _) (goG0 b r l) ⟨by simp; omega, rfl, h8, trivial⟩ (okL b r l)
  by_cases h2 : b > 20
  · exact fnOK_frames (cf := cfG1 [sym8 Pr]) hmG htG (evalF_ok (cf := cfG1 [sym8 Pr]) hmG htG (primL_ok _) (fnsOf_ok hfG) 40) hL4 nmL hbL (inn := inn4 b r l) (Goes2.refl _ _) (goG1 b r l) ⟨by simp; omega, by simp; omega, rfl, h8, trivial⟩ (okL b r l)
  by_cases h3 : r < 0
  · exact fnOK_frames (cf := cfG2 [sym8 Pr]) hmG htG (evalF_ok (cf := cfG2 [sym8 Pr]) hmG htG (primL_ok _) (fnsOf_ok hfG) 40) hL4 nmL hbL (inn := inn4 b r l) (Goes2.refl _ _) (goG2 b r l) ⟨by simp; omega, by simp; omega, by simp; omega, rfl, h8, trivial⟩ (okL b r l)
  by_cases h4 : r > 20
  · exact fnOK_frames (cf := cfG3 [sym8 Pr]) hmG htG (evalF_ok (cf := cfG3 [sym8 Pr]) hmG htG (primL_ok _) (fnsOf_ok hfG) 40) hL4 nmL hbL (inn := inn4 b r l) (Goes2.refl _ _) (goG3 b r l) ⟨by simp; omega, by simp; omega, by simp; omega, by simp; omega, rfl, h8, trivial⟩ (okL b r l)
  by_cases h5 : (l.length : Int) > 60
  · exact fnOK_frames (cf := cfG4 [sym8 Pr]) hmG htG (evalF_ok (cf := cfG4 [sym8 Pr]) hmG htG (primL_ok _) (fnsOf_ok hfG) 40) hL4 nmL hbL (inn := inn4 b r l) (Goes2.refl _ _) (goG4 b r l) ⟨by simp; omega, by simp; omega, by simp; omega, by simp; omega, by simp; omega, rfl, h8, trivial⟩ (okL b r l)
  have hb : 0 ≤ b ∧ b ≤ 20 := by omega
  have hr : 0 ≤ r ∧ r ≤ 20 := by omega
  have hl : l.length ≤ 60 := by omega
  obtain ⟨D, dl, p, q1, q2, q3⟩ := outer hb hr hl l.length 0 none [] (pa0 b r) (by omega) (.inl ⟨rfl, rfl⟩) (start hb hr)
  exact ends hb hr hl q1 q2 ((begins h8 hb hr hl).trans q3)
end Zed
