/- Texts KPP of our own machine for the walk of WholeChallenges, one behind the other. -/
import Derived.Test.YtiammpabkpoidaaGreatW24
import Derived.Test.YtiammpabkpoidaaGreatW33
import Derived.Test.YtiammpabkpoidaaGreatW34
import Derived.Test.YtiammpabkpoidaaGreatW35
import Derived.Test.YtiammpabkpoidaaGreatW36
namespace Zed
open Go
set_option maxRecDepth 100000
set_option linter.unusedVariables false
noncomputable def symP1 : SymE Go.Proofs.Tryz.prog := ⟨45, fun i => Nat.beq (rowN i 0 3) 1, fun i => innP1 (cellI i 1 21) (cellI i 1 22), fun i => outP1 (cellI i 1 21) (cellI i 1 22), fun _ => [], fun i _ h => by
  have := okP1 (cellI i 1 21) (cellI i 1 22)
  rw [← h] at this; exact this⟩
noncomputable def symP2 : SymE Go.Proofs.Tryz.prog := ⟨45, fun i => Nat.beq (rowN i 0 3) 2, fun i => innP2 (cellI i 1 21) (cellI i 1 22), fun i => outP2 (cellI i 1 21) (cellI i 1 22), fun _ => [], fun i _ h => by
  have := okP2 (cellI i 1 21) (cellI i 1 22)
  rw [← h] at this; exact this⟩
noncomputable def symP3 : SymE Go.Proofs.Tryz.prog := ⟨45, fun i => Nat.beq (rowN i 0 3) 3, fun i => innP3 (cellI i 1 21) (cellI i 1 22), fun i => outP3 (cellI i 1 21) (cellI i 1 22), fun _ => [], fun i _ h => by
  have := okP3 (cellI i 1 21) (cellI i 1 22)
  rw [← h] at this; exact this⟩
noncomputable def symP4 : SymE Go.Proofs.Tryz.prog := ⟨45, fun i => Nat.beq (rowN i 0 3) 4, fun i => innP4 (cellI i 1 21) (cellI i 1 22), fun i => outP4 (cellI i 1 21) (cellI i 1 22), fun _ => [], fun i _ h => by
  have := okP4 (cellI i 1 21) (cellI i 1 22)
  rw [← h] at this; exact this⟩
noncomputable def primPP : EvT := primS (Nat.beq 45) (symT [symP1, symP2, symP3, symP4]) (prim0 true false)
theorem primPP_ok : EvOK Go.Proofs.Tryz.prog primPP := primS_ok (symT_ok _) prim0_ok
noncomputable def dirsPP : DirT := (.n none (.n none (.n none (.n none (.n none (.n none (.n (some [(1, 0, .lz), (2, 0, .lz)]) .e .e) .e) (.n none .e (.n (some [(4, 2, .lz), (4, 4, .lz)]) .e .e))) (.n none (.n none (.n none (.n none (.n (some [(3, 9999, .finV)]) .e .e) .e) .e) .e) .e)) (.n none (.n none (.n (some [(11, 3, .lz)]) (.n (some [(3, 0, .row)]) .e .e) .e) (.n none .e (.n none (.n (some [(1, 0, .lz), (1, 1, .lz), (1, 2, .lz), (1, 3, .lz), (1, 4, .lz), (1, 5, .lz), (1, 6, .lz), (1, 7, .lz), (2, 0, .lz), (2, 1, .lz), (2, 2, .lz), (2, 3, .lz)]) .e .e) .e))) .e)) (.n none (.n none (.n none (.n (some [(1, 0, .lz), (1, 2, .lz), (4, 0, .lz), (4, 2, .lz)]) .e .e) .e) (.n none (.n none (.n none (.n none (.n (some [(27, 9999, .fin), (28, 9999, .fin)]) .e .e) .e) .e) (.n none (.n (some [(1, 0, .lz), (1, 2, .asm true), (1, 4, .lz), (1, 6, .asm true)]) .e .e) .e)) .e)) .e)) (.n none (.n none (.n none (.n none (.n none .e (.n none (.n none (.n (some [(6, 9999, .fin)]) .e .e) .e) .e)) .e) (.n none (.n (some [(6, 9999, .fin)]) .e .e) (.n none (.n none .e (.n (some [(2, 9999, .fin)]) .e .e)) .e))) (.n none .e (.n none (.n none (.n none (.n (some [(1, 0, .lz), (4, 0, .lz)]) .e .e) .e) (.n (some [(5, 2, .lz), (5, 3, .lz), (5, 7, .lz), (5, 8, .lz)]) .e .e)) (.n none (.n (some [(9, 9999, .fin)]) (.n none (.n (some [(7, 3, .row)]) .e .e) .e) .e) .e)))) (.n none (.n (some [(1, 0, .lz), (1, 5, .lz)]) .e (.n none (.n none .e (.n none (.n none (.n (some [(1, 9999, .fin)]) .e .e) .e) .e)) (.n (some [(1, 0, .lz), (1, 1, .lz), (4, 0, .lz), (4, 4, .lz)]) (.n none .e (.n (some [(3, 7, .row)]) .e .e)) .e))) (.n none (.n none .e (.n none .e (.n (some [(10, 9999, .fin), (12, 9999, .fin)]) .e .e))) (.n none (.n none .e (.n (some [(1, 0, .lz), (1, 7, .lz)]) .e (.n (some [(9999, 9999, .hd)]) .e .e))) (.n none (.n (some [(8, 3, .lz)]) .e .e) .e))))))
noncomputable def cfPP : Cfg := { cfW with dir := dirOf dirsPP, prim := primPP }
noncomputable def innPP (b r : Int) : Inn := ⟨[.agg ([.d (.int .i64 2), .d (.int .i64 2), .d (.int .i64 3), .d (.int .i64 3), .d (.int .i64 64), .d (.int .i64 16), .d (.int .i64 4), .d (.int .i64 3), .d (.int .i64 8), .d (.int .i64 200), .d (.int .i64 20), .d (.int .i64 b), .d (.int .i64 r), .d (.int .i64 8), .d (.int .i64 1)]), .agg ([.d (.int .u64 5), .d (.int .u64 0), .d (.int .u64 6), .d (.int .u64 0)])], [],
  [], 0⟩
noncomputable def outPP (b r : Int) : Out := ⟨.tup [.c (.ptr 0 0), .c (.d (.bool true))], [(3, ⟨79, 0⟩), (4, ⟨79, 0⟩), (16, ⟨3, 1⟩), (18, ⟨3, 0⟩), (24, ⟨3, 1⟩)],
  [(0, [.ptr 1 0, .ptr 2 0, .own 3 (.pair (.int .i64) (.pair (.int .i64) (.slice (.int .u8)))) ([] : List ((Int) × ((Int) × (List (Int))))), .own 4 (.pair (.int .i64) (.pair (.int .i64) (.slice (.int .u8)))) ([(1, (0, [0, 5, 0, 80, 197, 250, 58, 207, 0, 0, 0, 0, 1, 10, 1, 8, 105, 53, 173, 96, 208, 198, 95, 61])), (0, (0, [0, 80, 0, 5, 47, 166, 55, 112, 197, 250, 58, 208, 3, 18, 1, 16, 6, 109, 254, 126, 15, 156, 170, 120, 97, 117, 240, 124, 76, 121, 92, 107])), (1, (0, [0, 5, 0, 80, 197, 250, 58, 208, 47, 166, 55, 113, 2, 31, 3, 29, 0, 0, 0, 0, 0, 0, 0, 0, 0, 0, 0, 0, 0, 0, 0, 0, 0, 0, 0, 0, 64, 100, 86, 33, 201, 43, 8, 42, 199])), (0, (0, [0, 80, 0, 5, 47, 166, 55, 113, 197, 250, 58, 208, 2, 31, 3, 29, 0, 0, 0, 0, 0, 0, 0, 0, 0, 0, 0, 0, 0, 0, 0, 0, 0, 0, 0, 0, 64, 245, 255, 213, 105, 8, 110, 169, 10]))] : List ((Int) × ((Int) × (List (Int))))), .d (.int .i64 0)]),
  (1, [.d (.int .i64 2), .d (.int .i64 0), .d (.int .i64 0), .d (.int .i64 0), .d (.int .i64 0), .d (.int .i64 0), .d (.int .i64 0), .d (.int .i64 0), .d (.int .i64 0), .d (.int .i64 0), .d (.int .i64 2), .d (.int .i64 2), .d (.int .i64 3), .d (.int .i64 3), .d (.int .i64 64), .d (.int .i64 16), .d (.int .i64 4), .d (.int .i64 3), .d (.int .i64 8), .d (.int .i64 200), .d (.int .i64 20), .d (.int .i64 b), .d (.int .i64 r), .d (.int .i64 8), .d (.int .i64 1), .d (.int .u64 5), .d (.int .u64 0), .d (.int .u64 2), .d (.sl (.unit) ([] : List (Unit))), .mref 5, .d (.int .i64 2), .d (.sl (.unit) ([] : List (Unit)))]),
  (2, [.d (.int .i64 1), .d (.int .i64 0), .d (.int .i64 0), .d (.int .i64 0), .d (.int .i64 0), .d (.int .i64 0), .d (.int .i64 0), .d (.int .i64 0), .d (.int .i64 0), .d (.int .i64 1), .d (.int .i64 2), .d (.int .i64 2), .d (.int .i64 3), .d (.int .i64 3), .d (.int .i64 64), .d (.int .i64 16), .d (.int .i64 4), .d (.int .i64 3), .d (.int .i64 8), .d (.int .i64 200), .d (.int .i64 20), .d (.int .i64 b), .d (.int .i64 r), .d (.int .i64 8), .d (.int .i64 1), .d (.int .u64 6), .d (.int .u64 0), .d (.int .u64 2), .hd 6 0 1 1, .mref 7, .d (.int .i64 2), .d (.sl (.unit) ([] : List (Unit)))]),
  (5, [.mpp .i64 [(1, 8, 0)] 1]),
  (6, [.ptr 9 0]),
  (7, [.mpp .i64 [(1, 10, 0)] 1]),
  (8, [.d (.int .u64 20554536112169412), .d (.int .u64 9078619435652525030), .d (.int .u64 11187311201632187518), .d (.int .u64 9578650552141225761), .d (.int .u64 11002307143085013570), .d (.int .u64 15285112367537032273), .d (.int .u64 16251747843416768207), .d (.int .u64 8379221946427090521), .d (.int .u32 697040625), .d (.int .i64 2), .d (.int .i64 2), .d (.int .i64 3), .d (.int .i64 3), .d (.int .i64 64), .d (.int .i64 16), .d (.int .i64 4), .d (.int .i64 3), .d (.int .i64 8), .d (.int .i64 200), .d (.int .i64 20), .d (.int .i64 b), .d (.int .i64 r), .d (.int .i64 8), .d (.int .i64 1), .d (.int .i64 1), .d (.int .i64 3), .d (.int .i64 0), .d (.int .u64 7581156179079225149), .d (.int .u64 463306154070289016), .d (.bool true), .d (.int .i64 0), .d (.int .u16 5), .d (.int .u16 80), .hd 11 0 1 1, .d (.int .i64 1), .ptr 12 0, .ptr 13 0, .ptr 14 0, .ptr 15 0, .own 16 (.int .i64) ([0] : List (Int)), .d (.int .u64 0), .d (.int .u64 64), .d (.int .u32 0), .d (.int .u32 0), .d (.int .i64 0), .d (.int .i64 0), .d (.int .i64 0), .d (.int .i64 0), .d (.int .i64 0), .d (.sl (.unit) ([] : List (Unit)))]),
  (9, [.d (.int .i64 80), .hd 17 0 0 1, .own 18 (.int .i64) ([] : List (Int))]),
  (10, [.d (.int .u64 20554536112169412), .d (.int .u64 9078619435652525030), .d (.int .u64 11187311201632187518), .d (.int .u64 9578650552141225761), .d (.int .u64 11002307143085013570), .d (.int .u64 15285112367537032273), .d (.int .u64 16251747843416768207), .d (.int .u64 8379221946427090521), .d (.int .u32 697040625), .d (.int .i64 2), .d (.int .i64 2), .d (.int .i64 3), .d (.int .i64 3), .d (.int .i64 64), .d (.int .i64 16), .d (.int .i64 4), .d (.int .i64 3), .d (.int .i64 8), .d (.int .i64 200), .d (.int .i64 20), .d (.int .i64 b), .d (.int .i64 r), .d (.int .i64 8), .d (.int .i64 1), .d (.int .i64 2), .d (.int .i64 3), .d (.int .i64 0), .d (.int .u64 463306154070289016), .d (.int .u64 7581156179079225149), .d (.bool true), .d (.int .i64 0), .d (.int .u16 80), .d (.int .u16 5), .hd 19 0 1 1, .d (.int .i64 1), .ptr 20 0, .ptr 21 0, .ptr 22 0, .ptr 23 0, .own 24 (.int .i64) ([0] : List (Int)), .d (.int .u64 0), .d (.int .u64 64), .d (.int .u32 0), .d (.int .u32 0), .d (.int .i64 0), .d (.int .i64 0), .d (.int .i64 0), .d (.int .i64 0), .d (.int .i64 0), .d (.sl (.unit) ([] : List (Unit)))]),
  (11, [.ptr 25 0]),
  (12, [.ptr 26 0, .d (.int .u64 0), .d (.bool false), .d (.bool false)]),
  (13, [.ptr 27 0, .ptr 28 0, .d (.int .u64 0), .d (.int .u64 0), .d (.bool false)]),
  (14, [.d (.int .i64 16), .d (.sl (.unit) ([] : List (Unit)))]),
  (15, [.ptr 29 0, .d (.int .i64 4), .d (.int .i64 3), .d (.sl (.unit) ([] : List (Unit)))]),
  (17, [.d (.nilP)]),
  (19, [.ptr 30 0]),
  (20, [.ptr 31 0, .d (.int .u64 0), .d (.bool false), .d (.bool false)]),
  (21, [.ptr 32 0, .ptr 33 0, .d (.int .u64 0), .d (.int .u64 0), .d (.bool false)]),
  (22, [.d (.int .i64 16), .d (.sl (.unit) ([] : List (Unit)))]),
  (23, [.ptr 34 0, .d (.int .i64 4), .d (.int .i64 3), .d (.sl (.unit) ([] : List (Unit)))]),
  (25, [.d (.int .i64 3), .d (.int .u32 3321510607), .d (.int .u32 3321510608), .d (.int .u32 3321510608), .d (.int .u32 799422321), .d (.int .i64 0), .d (.int .i64 0), .d (.bool false), .d (.int .i64 0), .d (.int .i64 0), .d (.int .i64 0), .d (.int .u16 5), .d (.int .u16 80), .d (.bool false), .d (.bool true), .d (.int .u32 0), .d (.int .u32 0), .ptr 35 0, .ptr 36 0, .ptr 37 0, .d (.int .i64 0), .d (.int .i64 0), .d (.bool true), .d (.int .i64 0), .d (.int .i64 0)]),
  (26, [.hd 38 0 64 64, .d (.int .i64 0), .d (.int .i64 0)]),
  (27, [.hd 39 0 64 64, .d (.int .i64 0), .d (.int .i64 0)]),
  (28, [.d (.int .i64 16), .d (.sl (.unit) ([] : List (Unit)))]),
  (29, [.d (.int .i64 64), .d (.int .i64 1), .d (.int .i64 64)]),
  (30, [.d (.int .i64 3), .d (.int .u32 799422320), .d (.int .u32 799422321), .d (.int .u32 799422321), .d (.int .u32 3321510608), .d (.int .i64 0), .d (.int .i64 0), .d (.bool false), .d (.int .i64 0), .d (.int .i64 0), .d (.int .i64 0), .d (.int .u16 80), .d (.int .u16 5), .d (.bool false), .d (.bool true), .d (.int .u32 0), .d (.int .u32 0), .ptr 40 0, .ptr 41 0, .ptr 42 0, .d (.int .i64 0), .d (.int .i64 0), .d (.bool true), .d (.int .i64 0), .d (.int .i64 0)]),
  (31, [.hd 43 0 64 64, .d (.int .i64 0), .d (.int .i64 0)]),
  (32, [.hd 44 0 64 64, .d (.int .i64 0), .d (.int .i64 0)]),
  (33, [.d (.int .i64 16), .d (.sl (.unit) ([] : List (Unit)))]),
  (34, [.d (.int .i64 64), .d (.int .i64 1), .d (.int .i64 64)]),
  (35, [.d (.int .i64 8), .d (.int .i64 32), .d (.int .i64 512), .d (.int .i64 0), .d (.int .i64 0)]),
  (36, [.d (.int .i64 0), .d (.int .i64 8), .d (.int .i64 0)]),
  (37, [.d (.int .i64 (clI b)), .d (.int .i64 (clI r)), .d (.int .i64 (clI b))]),
  (38, List.replicate 64 (.d (.int .u8 0))),
  (39, List.replicate 64 (.d (.int .u8 0))),
  (40, [.d (.int .i64 8), .d (.int .i64 32), .d (.int .i64 512), .d (.int .i64 0), .d (.int .i64 0)]),
  (41, [.d (.int .i64 0), .d (.int .i64 8), .d (.int .i64 0)]),
  (42, [.d (.int .i64 (clI b)), .d (.int .i64 (clI r)), .d (.int .i64 (clI b))]),
  (43, List.replicate 64 (.d (.int .u8 0))),
  (44, List.replicate 64 (.d (.int .u8 0)))], 45⟩
noncomputable def condPP (b r : Int) : List Prop := [(decide ((8 : Int) ≤ 4096)) = true,
  (decide ((8 : Int) ≥ 1)) = true,
  (decide ((r : Int) ≤ 4096)) = true,
  (decide ((r : Int) ≥ 0)) = true,
  (decide ((b : Int) ≤ 4096)) = true,
  (decide ((b : Int) ≥ 0)) = true,
  (decide ((200 : Int) ≤ 4096)) = true,
  (decide ((200 : Int) ≥ 2)) = true,
  (decide ((20 : Int) ≤ 4096)) = true,
  (decide ((20 : Int) ≥ 1)) = true,
  (decide ((8 : Int) ≤ 1024)) = true,
  (decide ((8 : Int) ≥ 1)) = true,
  (decide ((3 : Int) ≤ 4)) = true,
  (decide ((3 : Int) ≥ 1)) = true,
  (decide ((4 : Int) ≤ 8)) = true,
  (decide ((4 : Int) ≥ 0)) = true,
  (decide ((16 : Int) ≤ 64)) = true,
  (decide ((16 : Int) ≥ 1)) = true,
  (decide ((64 : Int) ≤ 4096)) = true,
  (decide ((64 : Int) ≥ 1)) = true,
  (decide ((3 : Int) ≤ 4)) = true,
  (decide ((3 : Int) ≥ 1)) = true,
  (decide ((3 : Int) ≤ 8)) = true,
  (decide ((3 : Int) ≥ 0)) = true,
  (decide ((2 : Int) ≤ 8)) = true,
  (decide ((2 : Int) ≥ 0)) = true,
  (decide ((2 : Int) ≤ 8)) = true,
  (decide ((2 : Int) ≥ 0)) = true,
  (decide ((8 : Int) ≤ 4096)) = true,
  (decide ((8 : Int) ≥ 1)) = true,
  (decide ((r : Int) ≤ 4096)) = true,
  (decide ((r : Int) ≥ 0)) = true,
  (decide ((b : Int) ≤ 4096)) = true,
  (decide ((b : Int) ≥ 0)) = true,
  (decide ((200 : Int) ≤ 4096)) = true,
  (decide ((200 : Int) ≥ 2)) = true,
  (decide ((20 : Int) ≤ 4096)) = true,
  (decide ((20 : Int) ≥ 1)) = true,
  (decide ((8 : Int) ≤ 1024)) = true,
  (decide ((8 : Int) ≥ 1)) = true,
  (decide ((3 : Int) ≤ 4)) = true,
  (decide ((3 : Int) ≥ 1)) = true,
  (decide ((4 : Int) ≤ 8)) = true,
  (decide ((4 : Int) ≥ 0)) = true,
  (decide ((16 : Int) ≤ 64)) = true,
  (decide ((16 : Int) ≥ 1)) = true,
  (decide ((64 : Int) ≤ 4096)) = true,
  (decide ((64 : Int) ≥ 1)) = true,
  (decide ((3 : Int) ≤ 4)) = true,
  (decide ((3 : Int) ≥ 1)) = true,
  (decide ((3 : Int) ≤ 8)) = true,
  (decide ((3 : Int) ≥ 0)) = true,
  (decide ((2 : Int) ≤ 8)) = true,
  (decide ((2 : Int) ≥ 0)) = true,
  (decide ((2 : Int) ≤ 8)) = true,
  (decide ((2 : Int) ≥ 0)) = true]
theorem runPP (b r : Int) : fnT (evalF cfPP 40) true 10 (innPP b r) [] = some (outPP b r, (innP4 b r = innP4 b r) :: (innP3 b r = innP3 b r) :: (innP2 b r = innP2 b r) :: (innP1 b r = innP1 b r) :: condPP b r) := by kernel_rfl
theorem okPP (b r : Int) (h : AllC (condPP b r)) : FnOK Go.Proofs.Tryz.prog 10 (innPP b r) (outPP b r) := (fnT_ok (evalF_ok (cf := cfPP) hmG htG primPP_ok (fnsOf_ok hfG) 40) (runPP b r) ⟨rfl, rfl, rfl, rfl, h⟩).2
end Zed
