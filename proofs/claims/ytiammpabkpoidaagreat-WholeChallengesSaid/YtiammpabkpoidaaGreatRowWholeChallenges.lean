/- WholeChallenges: the row of the law, whatever the input: it returns true, and its arguments read as before. That works() is true stands in YtiammpabkpoidaaGreatW31, the handshake where burst and rate are open in YtiammpabkpoidaaGreatW37, the loops in YtiammpabkpoidaaGreatW48. Conditions: none. -/
import Derived.Test.YtiammpabkpoidaaGreatRows
import Derived.Test.YtiammpabkpoidaaGreatW48
import Derived.Test.YtiammpabkpoidaaGreatW31
import Derived.Test.YtiammpabkpoidaaGreatW15
import Derived.Test.YtiammpabkpoidaaGreatW51
namespace Go.Proofs.YtiammpabkpoidaaGreat.wholeChallenges
open Go.ChangeShapes Go.WideShapes Go.ChangeAt Go.RowKit
open Zed
set_option linter.unusedVariables false
set_option linter.unusedSimpArgs false
theorem own : ownKnob Tryz.prog.godebug = none := by kernel_rfl
theorem laidOut : laidOutB Tryz.prog = true := by kernel_rfl
set_option maxRecDepth 100000 in
theorem lifted (os : Os) (started : os.Started) (H : Type) (enc : TypeId × Value → H) :
    ReturnsInHanded {} Tryz.checked os 4 .any (Rows.wholeChallengesSpec.pre6 enc Tryz.prog Tryz.f4 Rows.wholeChallengesRow.domain false) (Rows.wholeChallengesSpec.post enc Tryz.prog Tryz.f4 false true false false) := by
  refine returnsInHanded_of_change_sized (C := Tryz.checked) own started (by kernel_rfl) Tryz.func4
    (ChangeSpec.witness6 (enc := enc) (C := Tryz.checked) false ⟨#[], #[.int .i64 0, .int .i64 0, .slice none 0 0], []⟩ 8 (by kernel_rfl) (by kernel_rfl) (by kernel_rfl) (by kernel_rfl)) ?_
  intro W base args ds gs before hval0 hW hcnd hsz0 _
  have hsz : (DataW.weightsEach Tryz.prog (Tryz.f4.params.toList ++ Rows.wholeChallengesSpec.plain.varTypes Tryz.prog) (ds ++ gs)).all (· ≤ reachBytes) = true := hsz0
  have hval : ∀ (j : Nat) t v, Tryz.f4.params[j]? = some t → args[j]? = some v → Value.okWide Tryz.prog W .any base t v := hval0
  have hW' := hW
  obtain ⟨p, q, hA0, hV, rfl, hfz, hnd⟩ := hW
  have hA : DataW.TrodAll enc Tryz.prog W 0 (fun _ => true) true Tryz.f4.params.toList args.toList ds p := hA0
  rw [Tryz.params4] at hA hval hsz
  have hA1 := hA
  obtain ⟨v0, vs0, d0, ds0, p0, q0, hargs, rfl, rfl, h0, r0⟩ := trodAll_cons hA
  obtain ⟨v1, vs1, d1, ds1, p1, q1, rfl, rfl, rfl, h1, r1⟩ := trodAll_cons r0
  obtain ⟨v2, vs2, d2, ds2, p2, q2, rfl, rfl, rfl, h2, r2⟩ := trodAll_cons r1
  obtain ⟨rfl, rfl, rfl⟩ := trodAll_nil r2
  obtain rfl : args = #[v0, v1, v2] := by cases args; simp_all
  obtain ⟨rfl, rfl⟩ := trodVars_none hV
  obtain ⟨x0, o0, k0⟩ := arg_rd (n := 8) (T := (.int .i64)) (by kernel_rfl) (hval 0 3 v0 rfl rfl) h0 hsz (j := 0) rfl rfl false (by kernel_rfl)
  obtain ⟨x1, o1, k1⟩ := arg_rd (n := 8) (T := (.int .i64)) (by kernel_rfl) (hval 1 3 v1 rfl rfl) h1 hsz (j := 1) rfl rfl false (by kernel_rfl)
  obtain ⟨x2, o2, k2⟩ := arg_rd (n := 8) (T := (.slice (.int .i64))) (by kernel_rfl) (hval 2 54 v2 rfl rfl) h2 hsz (j := 2) rfl rfl false (by kernel_rfl)
  have hok' : FnOK Tryz.prog 4 ⟨[argV false (.int .i64) x0, argV false (.int .i64) x1, argV false (.slice (.int .i64)) x2], [], [], 0⟩ ⟨.one (.c (.d (.bool true))), [], [], 0⟩ := challenges_ok works_ok x0 x1 x2
  refine (FnOK.law Tryz.func4 rfl (by kernel_rfl) hok' rfl (fun j v z hv hz => ?_)).mono fun e W' ⟨he, bel⟩ => ?_
  · match j, hv, hz with
    | 0, hv, hz => simp only [List.getElem?_toArray, List.getElem?_cons_succ, List.getElem?_cons_zero, Option.some.injEq] at hv hz; subst hv; subst hz; exact k0
    | 1, hv, hz => simp only [List.getElem?_toArray, List.getElem?_cons_succ, List.getElem?_cons_zero, Option.some.injEq] at hv hz; subst hv; subst hz; exact k1
    | 2, hv, hz => simp only [List.getElem?_toArray, List.getElem?_cons_succ, List.getElem?_cons_zero, Option.some.injEq] at hv hz; subst hv; subst hz; exact k2
    | j + 3, hv, hz => simp at hv
  subst he
  exact ⟨_, rfl, _, _, _, [], _, [], hW', trodAll_mk1 (shut_bool Tryz.underlying4 _), trodAll_below laidOut (by kernel_rfl) hA1 bel, rfl, bel.frame _, fun h => by cases h⟩
theorem over : Rows.wholeChallengesRow.holds Tryz.pinned (OpenSpec.ofChange Rows.wholeChallengesSpec) :=
  OpenClaim.holds_of_wide 4 Tryz.f4 rfl rfl rfl rfl rfl rfl rfl ⟨rfl, rfl, rfl, rfl, rfl⟩ rfl rfl rfl rfl rfl (by kernel_rfl) Tryz.func4 facts
    (of_decide_eq_true (by kernel_rfl)) (by unfold Func.isWrapper; first | (rw [if_pos (by decide +kernel)]; kernel_rfl) | (rw [if_neg (by decide +kernel)]; exact ⟨rfl, rfl⟩))
    (fun os started H enc _ => lifted os started H enc)
theorem proved : Rows.WholeChallengesSaid := over
#print axioms proved
end Go.Proofs.YtiammpabkpoidaaGreat.wholeChallenges
namespace Go.Proofs.YtiammpabkpoidaaGreat
/-- The row, under a short name, for the claim. -/
theorem wholeChallenges_holds : Rows.WholeChallengesSaid := wholeChallenges.proved
end Go.Proofs.YtiammpabkpoidaaGreat
