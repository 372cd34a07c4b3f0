/- All closed facts of the row of WholeChallenges. -/
import Derived.Test.YtiammpabkpoidaaGreatW50
namespace Go.Proofs.YtiammpabkpoidaaGreat.wholeChallenges
set_option linter.unusedVariables false
theorem andT {a b : Bool} (h : a = true) (h2 : b = true) : (a && b) = true := by rw [h, h2]; rfl
set_option maxRecDepth 100000 in
theorem facts : joinedFacts Tryz.prog 4 Tryz.f4 Rows.wholeChallengesSpec Rows.wholeChallengesRow = true := by
  unfold joinedFacts
  refine andT ?_ l31
  refine andT ?_ l30
  refine andT ?_ l29
  refine andT ?_ l28
  refine andT ?_ l27
  refine andT ?_ l26
  refine andT ?_ l25
  refine andT ?_ l24
  refine andT ?_ l23
  refine andT ?_ l22
  refine andT ?_ l21
  refine andT ?_ l20
  refine andT ?_ l19
  refine andT ?_ l18
  refine andT ?_ l17
  refine andT ?_ l16
  refine andT ?_ l15
  refine andT ?_ l14
  refine andT ?_ l13
  refine andT ?_ l12
  refine andT ?_ l11
  refine andT ?_ l10
  refine andT ?_ l9
  refine andT ?_ l8
  refine andT ?_ l7
  refine andT ?_ l6
  refine andT ?_ l5
  refine andT ?_ l4
  refine andT ?_ l3
  refine andT ?_ l2
  refine andT ?_ l1
  exact l0
end Go.Proofs.YtiammpabkpoidaaGreat.wholeChallenges
