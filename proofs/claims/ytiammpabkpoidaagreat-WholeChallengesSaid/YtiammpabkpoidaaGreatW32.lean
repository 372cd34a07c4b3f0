/- Texts KPc of our own machine for the walk of WholeChallenges, one behind the other. -/
import Derived.Test.YtiammpabkpoidaaGreatW23
import Derived.Test.YtiammpabkpoidaaGreatW24
namespace Zed
open Go
set_option maxRecDepth 100000
set_option linter.unusedVariables false
noncomputable def dirsP : DirT := (.n none (.n none (.n none (.n none (.n none .e (.n none .e (.n (some [(4, 2, .lz), (4, 4, .lz)]) .e .e))) (.n none (.n none (.n none (.n none (.n (some [(3, 9999, .finV)]) .e .e) .e) .e) .e) .e)) (.n none (.n none (.n none (.n (some [(3, 0, .row)]) .e .e) .e) (.n none .e (.n none (.n (some [(1, 0, .lz), (1, 1, .lz), (1, 2, .lz), (1, 3, .lz), (1, 4, .lz), (1, 5, .lz), (1, 6, .lz), (1, 7, .lz), (2, 0, .lz), (2, 1, .lz), (2, 2, .lz), (2, 3, .lz)]) .e .e) .e))) .e)) (.n none (.n none .e (.n none (.n none (.n none (.n none (.n (some [(27, 9999, .fin), (28, 9999, .fin)]) .e .e) .e) .e) .e) .e)) .e)) (.n none (.n none (.n none (.n none (.n none .e (.n none (.n none (.n (some [(6, 9999, .fin)]) .e .e) .e) .e)) .e) (.n none (.n (some [(6, 9999, .fin)]) .e .e) (.n none (.n none .e (.n (some [(2, 9999, .fin)]) .e .e)) .e))) (.n none .e (.n none (.n none (.n none (.n (some [(1, 0, .lz), (4, 0, .lz)]) .e .e) .e) .e) (.n none (.n (some [(9, 9999, .fin)]) (.n none (.n (some [(7, 3, .row)]) .e .e) .e) .e) .e)))) (.n none (.n none .e (.n none (.n none .e (.n none (.n none (.n (some [(1, 9999, .fin)]) .e .e) .e) .e)) (.n none (.n none .e (.n (some [(3, 7, .row)]) .e .e)) .e))) (.n none (.n none .e (.n none .e (.n (some [(10, 9999, .fin), (12, 9999, .fin)]) .e .e))) (.n none (.n none .e (.n (some [(1, 0, .lz), (1, 7, .lz)]) .e (.n (some [(9999, 9999, .hd)]) .e .e))) (.n none (.n (some [(8, 3, .lz)]) .e .e) .e))))))
noncomputable def cfP : Cfg := { cfW with dir := dirOf dirsP }
end Zed
