/- Closed facts of the row of WholeChallenges, the others, and all of them. -/
import Derived.Test.YtiammpabkpoidaaGreatRows
import Derived.Test.YtiammpabkpoidaaGreatW49
import Derived.JoinedOf
import Derived.KernelRfl
namespace Go.Proofs.YtiammpabkpoidaaGreat.wholeChallenges
set_option linter.unusedVariables false
theorem l0 : (Rows.wholeChallengesRow.wf (OpenSpec.ofChange Rows.wholeChallengesSpec)) = true := by kernel_rfl
theorem l3 : (Tryz.f4.params.all (Tryz.prog.readableRec ·)) = true := by kernel_rfl
theorem l4 : (namedTie Tryz.prog Rows.wholeChallengesRow.named Rows.wholeChallengesSpec.vars) = true := by kernel_rfl
theorem l5 : ((Rows.wholeChallengesRow.stops == [])) = true := by kernel_rfl
theorem l6 : ((Tryz.prog.stops == [])) = true := by kernel_rfl
theorem l7 : ((Rows.wholeChallengesRow.knobs == [])) = true := by kernel_rfl
theorem l8 : ((Tryz.prog.stopKnobs == [])) = true := by kernel_rfl
theorem l11 : ((Rows.wholeChallengesRow.recurses == Tryz.prog.recurses 4)) = true := by kernel_rfl
theorem l12 : ((Rows.wholeChallengesRow.named == Tryz.prog.varsNamed 4)) = true := by kernel_rfl
theorem l13 : ((Rows.wholeChallengesRow.maps == (Tryz.f4.params.toList ++ Rows.wholeChallengesSpec.plain.varTypes Tryz.prog).any (Tryz.prog.mapsRec ·))) = true := by kernel_rfl
theorem l14 : ((Rows.wholeChallengesRow.ifaces == (Tryz.f4.params.toList ++ Rows.wholeChallengesSpec.plain.varTypes Tryz.prog).any (Tryz.prog.ifacesRec ·))) = true := by kernel_rfl
theorem l15 : ((Rows.wholeChallengesRow.mapsOut == Tryz.prog.mapsAmong Tryz.f4.resultTypes.toList)) = true := by kernel_rfl
theorem l16 : ((Rows.wholeChallengesRow.loops == (Tryz.f4.params.toList ++ Rows.wholeChallengesSpec.plain.varTypes Tryz.prog).any (Tryz.prog.loopsFrom ·))) = true := by kernel_rfl
theorem l17 : ((Rows.wholeChallengesRow.wideKeys == (Tryz.f4.params.toList ++ Rows.wholeChallengesSpec.plain.varTypes Tryz.prog ++ Tryz.f4.resultTypes.toList).any (Tryz.prog.wideKeysFrom ·))) = true := by kernel_rfl
theorem l18 : (Rows.wholeChallengesSpec.vars.all (Tryz.prog.varReadable ·)) = true := by kernel_rfl
theorem l19 : (Tryz.f4.resultTypes.all (fun t => Tryz.prog.readableRec t && decide (t < Tryz.prog.types.size))) = true := by kernel_rfl
theorem l20 : ((Rows.wholeChallengesRow.ifacesOut == Tryz.f4.resultTypes.toList.any (Tryz.prog.ifacesRec ·))) = true := by kernel_rfl
theorem l21 : ((Rows.wholeChallengesRow.loopsOut == Tryz.f4.resultTypes.toList.any (Tryz.prog.loopsFrom ·))) = true := by kernel_rfl
theorem l22 : ((Rows.wholeChallengesRow.plainKeys == Tryz.prog.plainKeys)) = true := by kernel_rfl
theorem l23 : (Rows.wholeChallengesRow.shortTexts.isNone) = true := by kernel_rfl
theorem l24 : (Tryz.prog.stopsHeard) = true := by kernel_rfl
theorem l25 : (Tryz.prog.mayEnter) = true := by kernel_rfl
theorem l26 : ((Rows.wholeChallengesRow.lifted == Tryz.prog.liftsFinal)) = true := by kernel_rfl
theorem l27 : ((Tryz.prog.make == some Rows.wholeChallengesRow.make)) = true := by kernel_rfl
theorem l28 : ((Rows.wholeChallengesRow.kinds == (if Rows.wholeChallengesRow.domain.isEmpty then [] else Tryz.f4.params.toList.map fun t => match Tryz.prog.underlying t with | some (.int k) => some k | _ => none))) = true := by kernel_rfl
theorem l29 : ((Rows.wholeChallengesRow.pinned == Rows.wholeChallengesRow.pinnedBy)) = true := by kernel_rfl
theorem l30 : ((Rows.wholeChallengesRow.veiled == (Tryz.f4.params.toList ++ Rows.wholeChallengesSpec.plain.varTypes Tryz.prog ++ Tryz.f4.resultTypes.toList).any (Tryz.prog.veiledRec ·))) = true := by kernel_rfl
theorem l31 : (Rows.wholeChallengesRow.veiledFits Tryz.prog Tryz.f4.params.toList (Tryz.f4.params.toList ++ Rows.wholeChallengesSpec.plain.varTypes Tryz.prog ++ Tryz.f4.resultTypes.toList)) = true := by kernel_rfl
end Go.Proofs.YtiammpabkpoidaaGreat.wholeChallenges
