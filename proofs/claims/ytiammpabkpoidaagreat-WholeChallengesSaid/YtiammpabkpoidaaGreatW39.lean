/- Texts KNdlvA of our own machine for the walk of WholeChallenges, one behind the other. -/
import Derived.Test.YtiammpabkpoidaaGreatW23
import Derived.Test.YtiammpabkpoidaaGreatW38
namespace Zed
open Go
set_option maxRecDepth 100000
set_option linter.unusedVariables false
noncomputable def dirsdlvA : DirT := (.n none (.n none (.n none (.n none .e (.n (some [(7, 7, .col)]) (.n none (.n none (.n none (.n (some [(3, 9999, .finV)]) .e .e) .e) .e) .e) .e)) (.n none (.n none (.n none (.n (some [(1, 0, .lz), (1, 1, .lz), (3, 1, .lz), (3, 2, .col), (3, 0, .row)]) .e .e) .e) (.n none (.n none (.n (some [(1, 7, .lz), (1, 8, .lz)]) .e .e) .e) .e)) .e)) (.n none (.n none .e (.n none (.n none (.n none (.n none (.n (some [(27, 9999, .fin), (28, 9999, .fin)]) .e .e) .e) .e) .e) .e)) (.n none (.n none (.n (some [(1, 7, .lz), (1, 8, .lz), (1, 9, .asm false), (3, 3, .lz), (3, 5, .col), (4, 4, .lz), (4, 5, .lz), (4, 9, .lz)]) .e .e) .e) .e))) (.n none (.n none (.n none (.n none (.n none .e (.n none (.n none (.n (some [(6, 9999, .fin)]) .e .e) .e) .e)) .e) (.n none (.n (some [(6, 9999, .fin)]) .e .e) (.n none (.n none .e (.n (some [(2, 9999, .fin)]) .e .e)) .e))) (.n none (.n none (.n none (.n none (.n none (.n (some [(0, 3, .lz), (0, 4, .lz)]) .e .e) .e) .e) .e) .e) (.n none .e (.n none (.n (some [(9, 9999, .fin)]) (.n none (.n (some [(7, 3, .row)]) .e .e) .e) .e) .e)))) (.n none (.n none (.n none .e (.n (some [(4, 7, .col)]) .e .e)) (.n none (.n none .e (.n none (.n none (.n (some [(1, 9999, .fin)]) .e .e) .e) .e)) (.n none (.n (some [(3, 4, .lz), (3, 5, .lz)]) .e (.n (some [(3, 7, .row)]) .e .e)) .e))) (.n none (.n none .e (.n none .e (.n (some [(10, 9999, .fin), (12, 9999, .fin)]) .e .e))) (.n none (.n none .e (.n none .e (.n (some [(9999, 9999, .hd)]) .e .e))) .e)))))
noncomputable def cfdlvA : Cfg := { cfW with dir := dirOf dirsdlvA, prim := prim0 true true }
noncomputable def stdlvA (p : Pa) : Pa := { p with tk0 := wI (p.tk0 + 1), s0 := 0, q0 := 0, h0 := wS (p.h0.tdiv 2) }
noncomputable def outdlvA (p : Pa) : Out := ⟨.one (.c (.d (.int .i64 0))), [(3, ⟨79, 0⟩), (4, ⟨79, 0⟩), (16, ⟨3, 1⟩), (18, ⟨3, 0⟩), (24, ⟨3, 1⟩), (45, ⟨79, 0⟩)], bxN 45 4 (stdlvA p), 46⟩
noncomputable def conddlvA (p : Pa) : List Prop := [(0 : Int) ≤ 0 ∧ (1 : Int) = 0 + 1 ∧ (0 : Int) < ((pkA :: p.W).length : Int), ([] : List PK).length + (pkA :: p.W).length ≤ maxLen ∧ (([] : List PK).length + (pkA :: p.W).length) * 40 ≤ 140737488355328, (0 : Int) ≤ 0 ∧ (0 : Int) < ((pkA :: p.W).length : Int), decide ((0 : Int) ≥ ((pkA :: p.W).length : Int)) = false]
theorem rundlvA (p : Pa) : fnT (evalF cfdlvA 40) true 45 (innN [.c (.d (.int .i64 0))] { p with W := pkA :: p.W }) [] = some (outdlvA p, conddlvA p) := by kernel_rfl
theorem okdlvA (p : Pa) (h : AllC (conddlvA p)) : FnOK Go.Proofs.Tryz.prog 45 (innN [.c (.d (.int .i64 0))] { p with W := pkA :: p.W }) (outdlvA p) := (fnT_ok (evalF_ok (cf := cfdlvA) hmG htG prim0_ok (fnsOf_ok hfG) 40) (rundlvA p) h).2
end Zed
