/- Closed facts of the row of WholeChallenges, some. -/
import Derived.Test.YtiammpabkpoidaaGreatRows
import Derived.JoinedOf
import Derived.KernelRfl
namespace Go.Proofs.YtiammpabkpoidaaGreat.wholeChallenges
set_option linter.unusedVariables false
theorem l1 : (laidOutB Tryz.prog) = true := by kernel_rfl
theorem l9 : ((Rows.wholeChallengesRow.inPlace == Tryz.prog.inPlace 4)) = true := by kernel_rfl
theorem l10 : ((Rows.wholeChallengesRow.unfollowed == Tryz.prog.unfollowed 4)) = true := by kernel_rfl
theorem l2 : (mapsRowed Tryz.prog) = true := by kernel_rfl
end Go.Proofs.YtiammpabkpoidaaGreat.wholeChallenges
