/- Texts KNinjN, KL0, KLLK of our own machine for the walk of WholeChallenges, one behind the other. -/
import Derived.Test.YtiammpabkpoidaaGreatW23
import Derived.Test.YtiammpabkpoidaaGreatW37
import Derived.Test.YtiammpabkpoidaaGreatW38
import Derived.Test.YtiammpabkpoidaaGreatW43
import Derived.Test.YtiammpabkpoidaaGreatW44
import Derived.Test.YtiammpabkpoidaaGreatW45
namespace Zed
open Go
set_option maxRecDepth 100000
set_option linter.unusedVariables false
noncomputable def dirsinjN : DirT := (.n none (.n none (.n none (.n none (.n none (.n (some [(1, 0, .lz), (1, 2, .lz), (1, 3, .lz), (1, 4, .lz), (1, 7, .lz), (2, 3, .lz), (4, 0, .lz), (4, 4, .lz), (4, 8, .lz), (4, 10, .lz), (4, 11, .lz), (4, 12, .lz), (4, 16, .lz), (4, 20, .lz), (5, 0, .lz), (14, 0, .lz)]) (.n none (.n (some [(7, 1, .lz), (7, 3, .lz)]) .e .e) .e) .e) .e) (.n none (.n none (.n none (.n none (.n (some [(3, 9999, .finV)]) .e .e) .e) .e) .e) .e)) (.n none (.n none (.n none (.n (some [(3, 0, .row)]) .e .e) .e) .e) (.n none (.n (some [(0, 0, .lz), (0, 1, .lz), (0, 2, .lz), (0, 3, .lz), (6, 3, .lz), (6, 4, .lz)]) .e .e) (.n none (.n (some [(3, 3, .lz), (3, 4, .lz), (4, 4, .lz), (4, 6, .lz)]) .e .e) .e)))) (.n none (.n none (.n none (.n none (.n none (.n (some [(0, 4, .lz), (0, 8, .lz), (0, 14, .lz)]) .e .e) .e) .e) .e) (.n none (.n none (.n none (.n none (.n (some [(27, 9999, .fin), (28, 9999, .fin)]) .e .e) .e) .e) .e) (.n none .e (.n none .e (.n (some [(1, 0, .lz), (1, 2, .lz), (1, 4, .asm true)]) .e .e))))) (.n none .e (.n none .e (.n none .e (.n (some [(1, 0, .lz), (1, 1, .lz)]) .e .e)))))) (.n none (.n none (.n none (.n none (.n none .e (.n none (.n none (.n (some [(6, 9999, .fin)]) .e .e) .e) .e)) .e) (.n none (.n (some [(6, 9999, .fin)]) .e .e) (.n (some [(5, 8, .lz), (5, 9, .lz), (8, 0, .lz), (8, 2, .lz), (8, 3, .lz), (10, 1, .lz), (10, 2, .lz), (11, 2, .lz), (11, 3, .lz), (11, 4, .lz), (11, 5, .lz), (13, 0, .lz), (13, 1, .lz), (13, 2, .lz), (13, 3, .lz), (13, 4, .lz), (14, 0, .lz), (14, 2, .lz), (14, 3, .lz), (16, 0, .lz), (16, 3, .lz)]) (.n none .e (.n (some [(2, 9999, .fin)]) .e .e)) .e))) (.n none (.n (some [(4, 2, .lz)]) .e .e) (.n none (.n none (.n none .e (.n (some [(2, 1, .lz), (2, 4, .asm false), (4, 1, .lz), (4, 4, .lz)]) .e .e)) .e) (.n none (.n (some [(9, 9999, .fin)]) (.n none (.n (some [(7, 3, .row)]) .e .e) .e) .e) .e)))) (.n none (.n none (.n none (.n none (.n none (.n (some [(1, 3, .lz), (1, 4, .asm true)]) .e .e) .e) .e) .e) (.n none (.n none .e (.n none (.n none (.n (some [(1, 9999, .fin)]) .e .e) .e) .e)) (.n none (.n (some [(9, 4, .lz), (9, 5, .lz)]) .e (.n (some [(3, 7, .row)]) .e .e)) .e))) (.n none (.n none .e (.n none .e (.n (some [(10, 9999, .fin), (12, 9999, .fin)]) .e .e))) (.n none (.n none .e (.n none .e (.n (some [(9999, 9999, .hd)]) .e .e))) .e)))))
noncomputable def cfinjN : Cfg := { cfW with dir := dirOf dirsinjN, prim := prim0 true false }
noncomputable def stinjN (p : Pa) : Pa := { p with pt := mnI (wS (p.pt + 1)) 32, lm := wI (p.lm + 1) }
noncomputable def outinjN (p : Pa) : Out := ⟨.one (.c (.d (.int .i64 0))), [(3, ⟨79, 0⟩), (4, ⟨79, 0⟩), (16, ⟨3, 1⟩), (18, ⟨3, 0⟩), (24, ⟨3, 1⟩)], bxN 3 4 (stinjN p), 45⟩
noncomputable def condinjN (x : Int) (p : Pa) : List Prop := [(p.tk == 0) = true, decide (wrapE .u32 (seqX x - 3321510608) < 1048576) = true, (seqX x == 3321510608) = false]
theorem runinjN (x : Int) (p : Pa) : fnT (evalF cfinjN 40) true 20 (innN (injA x) p) [] = some (outinjN p, condinjN x p) := by kernel_rfl
theorem okinjN (x : Int) (p : Pa) (h : AllC (condinjN x p)) : FnOK Go.Proofs.Tryz.prog 20 (innN (injA x) p) (outinjN p) := (fnT_ok (evalF_ok (cf := cfinjN) hmG htG prim0_ok (fnsOf_ok hfG) 40) (runinjN x p) h).2
end Zed
namespace Zed
open Go
set_option maxRecDepth 100000
set_option linter.unusedVariables false
noncomputable def fnL : Func := (Go.Proofs.Tryz.prog.funcs[4]?).getD default
theorem hL4 : Go.Proofs.Tryz.prog.funcs[4]? = some fnL := by kernel_rfl
noncomputable def kL (r : Nat) : List Item := headK fnL r
noncomputable def keepL : List Nat := [8, 0, 1, 2, 10, 11, 12]
noncomputable def keepI : List Nat := [8, 0, 1, 2, 10, 11, 12, 13, 14]
noncomputable def keepM : List Nat := [0, 1, 2, 11, 18]
noncomputable def keepN : List Nat := [0, 1, 2, 11, 18, 19, 20]
noncomputable def iZ (n : Int) : Z := .one (.c (.d (.int .i64 n)))
noncomputable def lZ (l : List Int) : Z := .one (.c (.d (.sl (.int .i64) l)))
noncomputable def dZ (j : Nat) : Option (List Int) → Z
  | none => .one (.c (.d (.sl .unit ([] : List Unit))))
  | some xs => .one (.c (.own j (.int .i64) xs))
noncomputable def dLv (j : Nat) : Option (List Int) → List (Nat × Ow)
  | none => []
  | some _ => [(j, ⟨3, 0⟩)]
noncomputable def dN (j : Nat) : Option (List Int) → Nat
  | none => j
  | some _ => j + 1
noncomputable def TL0 (b r : Int) (l : List Int) : Tm := ⟨[(0, iZ b), (1, iZ r), (2, lZ l)], [], [], 0⟩
noncomputable def TL (D : Option (List Int)) (p : Pa) (b r : Int) (l : List Int) (i : Int) : Tm :=
  ⟨[(8, .one (.c (.ptr 0 0))), (0, iZ b), (1, iZ r), (2, lZ l), (10, .one (.c (.ptr 2 0))), (11, dZ 45 D), (12, iZ i)], lvN ++ dLv 45 D, bxN 3 4 p, dN 45 D⟩
noncomputable def TI (D : Option (List Int)) (p : Pa) (b r : Int) (l : List Int) (i was k : Int) : Tm :=
  ⟨[(8, .one (.c (.ptr 0 0))), (0, iZ b), (1, iZ r), (2, lZ l), (10, .one (.c (.ptr 2 0))), (11, dZ 45 D), (12, iZ i), (13, iZ was), (14, iZ k)], lvN ++ dLv 45 D, bxN 3 4 p, dN 45 D⟩
noncomputable def TM (xs : List Int) (b r : Int) (l : List Int) (m : Int) : Tm := ⟨[(0, iZ b), (1, iZ r), (2, lZ l), (11, dZ 0 (some xs)), (18, iZ m)], [(0, ⟨3, 0⟩)], [], 1⟩
noncomputable def TN (xs : List Int) (b r : Int) (l : List Int) (m sum k : Int) : Tm := ⟨[(0, iZ b), (1, iZ r), (2, lZ l), (11, dZ 0 (some xs)), (18, iZ m), (19, iZ sum), (20, iZ k)], [(0, ⟨3, 0⟩)], [], 1⟩
noncomputable def inn8 : Inn := ⟨[], [], [], 0⟩
noncomputable def out8 : Out := ⟨.one (.c (.d (.bool true))), [], [], 0⟩
/-- The fixed fact, taken as told. -/
noncomputable def sym8 (P : Program) : SymE P := ⟨8, fun _ => true, fun i => i, fun _ => out8, fun i => [FnOK P 8 i out8], fun i h _ => h.1⟩
noncomputable def symPP : SymE Go.Proofs.Tryz.prog := ⟨10, fun _ => true, fun i => innPP (argI i 0 11) (argI i 0 12), fun i => outPP (argI i 0 11) (argI i 0 12), fun i => condPP (argI i 0 11) (argI i 0 12), fun i hc h => by
  have := okPP (argI i 0 11) (argI i 0 12) hc
  rw [← h] at this; exact this⟩
noncomputable def symStats : SymE Go.Proofs.Tryz.prog := ⟨18, fun _ => true, fun i => innB noPost [.c (.d (.int .i64 1))] (parB i), fun i => outStats (parB i), fun _ => [], fun i _ h => by
  have := okStats (parB i)
  rw [← h] at this; exact this⟩
noncomputable def kArg (i : Inn) : Nat := (argI i 0 2 - 3321510609).toNat
noncomputable def symEnc : SymE Go.Proofs.Tryz.prog := ⟨19, fun _ => true, fun i => innEnc (kArg i), fun i => outEnc (kArg i), fun i => [kArg i < 30], fun i hc h => by
  have := okEnc (kArg i) hc.1
  rw [← h] at this; exact this⟩
noncomputable def xOf : X → Int
  | .sl (.int .u8) xs => (show List Int from xs).getD 7 0
  | _ => 0
noncomputable def xArg (i : Inn) : Int := match (i.args[3]? : Option V1) with
  | some (.c (.d x)) => xOf x
  | _ => 0
noncomputable def syminjT : SymE Go.Proofs.Tryz.prog := ⟨20, fun _ => true, fun i => innN (injA (xArg i)) (parN i), fun i => outinjT (parN i), fun i => condinjT (xArg i) (parN i), fun i hc h => by
  have := okinjT (xArg i) (parN i) hc
  rw [← h] at this; exact this⟩
noncomputable def syminjN : SymE Go.Proofs.Tryz.prog := ⟨20, fun _ => true, fun i => innN (injA (xArg i)) (parN i), fun i => outinjN (parN i), fun i => condinjN (xArg i) (parN i), fun i hc h => by
  have := okinjN (xArg i) (parN i) hc
  rw [← h] at this; exact this⟩
noncomputable def symF (P : Program) (s : Nat) (p' : Pa) (d : Int) : SymE P := ⟨21, fun _ => true, fun i => i, fun _ => outF s p' d, fun i => [FnOK P 21 i (outF s p' d)], fun i h _ => h.1⟩
noncomputable def symTk (P : Program) (o : Out) : SymE P := ⟨13, fun _ => true, fun i => i, fun _ => o, fun i => [FnOK P 13 i o], fun i h _ => h.1⟩
noncomputable def primL (l : List (SymE Go.Proofs.Tryz.prog)) : EvT := primS (fun f => Nat.beq f 8 || Nat.beq f 10 || Nat.beq f 18 || Nat.beq f 19 || Nat.beq f 20 || Nat.beq f 21 || Nat.beq f 13) (symT l) (prim0 true false)
theorem primL_ok (l : List (SymE Go.Proofs.Tryz.prog)) : EvOK Go.Proofs.Tryz.prog (primL l) := primS_ok (symT_ok _) prim0_ok
noncomputable def kE (k : Nat) : Nat := (wrapE .u32 (3321510609 + wrapE .u32 (.ofNat k)) - 3321510609).toNat
end Zed
namespace Zed
open Go
set_option maxRecDepth 100000
set_option linter.unusedVariables false
noncomputable def cfLK (l : List (SymE Go.Proofs.Tryz.prog)) : Cfg := { cfW with dir := dirOf (.n none (.n none (.n none (.n none .e (.n none (.n none (.n none (.n none (.n (some [(3, 9999, .finV)]) .e .e) .e) .e) .e) .e)) (.n none (.n none (.n none (.n (some [(3, 0, .row)]) .e .e) .e) .e) .e)) (.n none (.n none .e (.n none (.n none (.n none (.n none (.n (some [(27, 9999, .fin), (28, 9999, .fin)]) .e .e) .e) .e) .e) .e)) .e)) (.n none (.n (some [(3, 0, .lz), (3, 3, .lz), (3, 7, .lz), (3, 11, .lz), (3, 15, .lz), (3, 16, .lz), (6, 0, .lz), (6, 1, .lz), (7, 0, .lz), (13, 0, .lz), (13, 1, .lz), (13, 2, .lz), (14, 0, .lz), (14, 1, .lz), (14, 2, .lz), (15, 1, .lz), (15, 2, .lz), (15, 3, .lz), (17, 0, .lz), (17, 1, .lz), (17, 2, .lz), (17, 4, .lz), (17, 7, .lz), (18, 0, .lz), (18, 1, .lz), (18, 2, .lz), (19, 1, .lz), (19, 2, .lz), (20, 0, .lz), (22, 0, .lz), (22, 1, .lz), (22, 2, .lz), (22, 5, .lz), (22, 6, .lz), (22, 7, .lz), (22, 8, .lz), (22, 9, .lz), (22, 10, .lz), (22, 11, .lz), (22, 13, .lz), (23, 1, .lz), (24, 0, .lz), (24, 2, .lz), (24, 3, .lz), (24, 4, .lz), (24, 5, .lz), (24, 6, .lz), (24, 8, .lz), (26, 2, .lz), (28, 0, .lz), (28, 1, .lz), (28, 2, .lz), (29, 0, .lz), (29, 1, .lz), (29, 2, .lz), (31, 0, .lz), (31, 1, .lz), (32, 0, .lz), (32, 1, .lz), (32, 2, .lz), (33, 0, .lz), (33, 1, .lz), (33, 2, .lz), (34, 0, .lz), (34, 1, .lz), (34, 2, .lz), (34, 4, .lz), (34, 5, .lz), (34, 6, .lz), (35, 0, .lz), (35, 1, .lz), (35, 2, .lz), (35, 3, .lz), (35, 4, .lz), (35, 5, .lz), (35, 6, .lz), (35, 7, .lz)]) (.n none (.n (some [(9999, 9999, .lz)]) (.n none .e (.n none (.n none (.n (some [(6, 9999, .fin)]) .e .e) .e) .e)) .e) (.n none (.n (some [(6, 9999, .fin)]) .e .e) (.n none (.n none .e (.n (some [(2, 9999, .fin)]) .e .e)) .e))) (.n none .e (.n none .e (.n none (.n (some [(9, 9999, .fin)]) (.n none (.n (some [(7, 3, .row)]) .e .e) .e) .e) .e)))) (.n none (.n none .e (.n none (.n none .e (.n none (.n none (.n (some [(1, 9999, .fin)]) .e .e) .e) .e)) (.n none (.n none .e (.n (some [(3, 7, .row)]) .e .e)) .e))) (.n none (.n none .e (.n none .e (.n (some [(10, 9999, .fin), (12, 9999, .fin)]) .e .e))) (.n none (.n none .e (.n none .e (.n (some [(9999, 9999, .hd)]) .e .e))) .e))))), prim := primL l }
noncomputable def oK0 (p : Pa) : Out := ⟨.tup [], lvN, bxN 3 4 p, 45⟩
noncomputable def oK1 (p : Pa) : Out := ⟨.tup [], [(16, ⟨3, 1⟩), (18, ⟨3, 0⟩), (24, ⟨3, 1⟩), (45, ⟨79, 0⟩), (46, ⟨79, 0⟩)], bxN 45 46 p, 47⟩
theorem goLK_0 (xs : List Int) (p p' : Pa) (b r : Int) (l : List Int) (i : Int) : runQ (cfLK [symTk Go.Proofs.Tryz.prog (oK0 p')]) (evalF (cfLK [symTk Go.Proofs.Tryz.prog (oK0 p')]) 40) 4 fnL 0 26 keepL (kL 25) (TL (some xs) p b r l i) [] = some (kL 26, TL (some xs) p' b r l i, [(innN [] p = innN [] p), FnOK Go.Proofs.Tryz.prog 13 (innN [] p) (oK0 p')]) := by kernel_rfl
theorem goLK_1 (xs : List Int) (p p' : Pa) (b r : Int) (l : List Int) (i : Int) : runQ (cfLK [symTk Go.Proofs.Tryz.prog (oK1 p')]) (evalF (cfLK [symTk Go.Proofs.Tryz.prog (oK1 p')]) 40) 4 fnL 0 26 keepL (kL 25) (TL (some xs) p b r l i) [] = some (kL 26, TL (some xs) p' b r l i, [(innN [] p = innN [] p), FnOK Go.Proofs.Tryz.prog 13 (innN [] p) (oK1 p')]) := by kernel_rfl
noncomputable def cfLF (l : List (SymE Go.Proofs.Tryz.prog)) : Cfg := { cfW with dir := dirOf (.n none (.n none (.n none (.n none .e (.n none (.n none (.n none (.n none (.n (some [(3, 9999, .finV)]) .e .e) .e) .e) .e) .e)) (.n none (.n none (.n none (.n (some [(3, 0, .row)]) .e .e) .e) .e) .e)) (.n none (.n none .e (.n none (.n none (.n none (.n none (.n (some [(27, 9999, .fin), (28, 9999, .fin)]) .e .e) .e) .e) .e) .e)) .e)) (.n none (.n (some [(3, 0, .lz), (3, 3, .lz), (3, 7, .lz), (3, 11, .lz), (3, 15, .lz), (3, 16, .lz), (6, 0, .lz), (6, 1, .lz), (7, 0, .lz), (13, 0, .lz), (13, 1, .lz), (13, 2, .lz), (14, 0, .lz), (14, 1, .lz), (14, 2, .lz), (15, 1, .lz), (15, 2, .lz), (15, 3, .lz), (17, 0, .lz), (17, 1, .lz), (17, 2, .lz), (17, 4, .lz), (17, 7, .lz), (18, 0, .lz), (18, 1, .lz), (18, 2, .lz), (19, 1, .lz), (19, 2, .lz), (20, 0, .lz), (22, 0, .lz), (22, 1, .lz), (22, 2, .lz), (22, 5, .lz), (22, 6, .lz), (22, 7, .lz), (22, 8, .lz), (22, 9, .lz), (22, 10, .lz), (22, 11, .lz), (22, 13, .lz), (23, 1, .lz), (24, 0, .lz), (24, 2, .lz), (24, 3, .lz), (24, 4, .lz), (24, 5, .lz), (24, 6, .lz), (24, 8, .lz), (26, 2, .lz), (28, 0, .lz), (28, 1, .lz), (28, 2, .lz), (29, 0, .lz), (29, 1, .lz), (29, 2, .lz), (31, 0, .lz), (31, 1, .lz), (32, 0, .lz), (32, 1, .lz), (32, 2, .lz), (33, 0, .lz), (33, 1, .lz), (33, 2, .lz), (34, 0, .lz), (34, 1, .lz), (34, 2, .lz), (34, 4, .lz), (34, 5, .lz), (34, 6, .lz), (35, 0, .lz), (35, 1, .lz), (35, 2, .lz), (35, 3, .lz), (35, 4, .lz), (35, 5, .lz), (35, 6, .lz), (35, 7, .lz)]) (.n none (.n (some [(9999, 9999, .lz)]) (.n none .e (.n none (.n none (.n (some [(6, 9999, .fin)]) .e .e) .e) .e)) .e) (.n none (.n (some [(6, 9999, .fin)]) .e .e) (.n none (.n none .e (.n (some [(2, 9999, .fin)]) .e .e)) .e))) (.n none .e (.n none .e (.n none (.n (some [(9, 9999, .fin)]) (.n none (.n (some [(7, 3, .row)]) .e .e) .e) .e) .e)))) (.n none (.n none .e (.n none (.n none .e (.n none (.n none (.n (some [(1, 9999, .fin)]) .e .e) .e) .e)) (.n none (.n none .e (.n (some [(3, 7, .row)]) .e .e)) .e))) (.n none (.n none .e (.n none .e (.n (some [(10, 9999, .fin), (12, 9999, .fin)]) .e .e))) (.n none (.n none .e (.n none .e (.n (some [(9999, 9999, .hd)]) .e .e))) .e))))), prim := primL l }
theorem goLF_0 (xs : List Int) (p p' : Pa) (d : Int) (b r : Int) (l : List Int) (i : Int) : runQ (cfLF [symF Go.Proofs.Tryz.prog 0 p' d]) (evalF (cfLF [symF Go.Proofs.Tryz.prog 0 p' d]) 40) 4 fnL 0 13 keepL (kL 26) (TL (some xs) p b r l i) [] = some (kL 13, TL (some xs) p' b r l (wI (i + 1)), [(innN argF p = innN argF p), FnOK Go.Proofs.Tryz.prog 21 (innN argF p) (outF 0 p' d)]) := by kernel_rfl
theorem goLF_1 (xs : List Int) (p p' : Pa) (d : Int) (b r : Int) (l : List Int) (i : Int) : runQ (cfLF [symF Go.Proofs.Tryz.prog 1 p' d]) (evalF (cfLF [symF Go.Proofs.Tryz.prog 1 p' d]) 40) 4 fnL 0 13 keepL (kL 26) (TL (some xs) p b r l i) [] = some (kL 13, TL (some xs) p' b r l (wI (i + 1)), [(innN argF p = innN argF p), FnOK Go.Proofs.Tryz.prog 21 (innN argF p) (outF 1 p' d)]) := by kernel_rfl
theorem goLF_2 (xs : List Int) (p p' : Pa) (d : Int) (b r : Int) (l : List Int) (i : Int) : runQ (cfLF [symF Go.Proofs.Tryz.prog 2 p' d]) (evalF (cfLF [symF Go.Proofs.Tryz.prog 2 p' d]) 40) 4 fnL 0 13 keepL (kL 26) (TL (some xs) p b r l i) [] = some (kL 13, TL (some xs) p' b r l (wI (i + 1)), [(innN argF p = innN argF p), FnOK Go.Proofs.Tryz.prog 21 (innN argF p) (outF 2 p' d)]) := by kernel_rfl
end Zed
