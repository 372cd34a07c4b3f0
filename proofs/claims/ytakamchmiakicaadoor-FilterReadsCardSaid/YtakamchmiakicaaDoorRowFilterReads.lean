/- FilterReads: the row of the law, whatever the input: it returns true, and its arguments read as before. What its functions compute stands in YtakamchmiakicaaDoorF35, that this is true in YtakamchmiakicaaDoorPureFilterReads. Conditions: none. -/
import Derived.Test.YtakamchmiakicaaDoorTie
import Derived.Test.YtakamchmiakicaaDoorCards
import Derived.ProofKit
import Derived.OpenShut
import Derived.LaidMore
import Derived.Lay
import Derived.SevenTiedAt
import Derived.Stop.Joined
import Derived.Test.YtakamchmiakicaaDoorRows
import Derived.Test.YtakamchmiakicaaDoorF35
import Derived.Test.YtakamchmiakicaaDoorPureFilterReads
import Derived.Test.YtakamchmiakicaaDoorZedZ
namespace Go.Proofs.YtakamchmiakicaaDoor.filterReads
open Go.ChangeShapes Go.WideShapes Go.ChangeAt Go.RowKit
open Zed
set_option linter.unusedVariables false
set_option linter.unusedSimpArgs false
theorem own : ownKnob Tryd.prog.godebug = none := by kernel_rfl
theorem laidOut : laidOutB Tryd.prog = true := by kernel_rfl
set_option maxRecDepth 100000 in
theorem lifted (os : Os) (started : os.Started) (H : Type) (enc : TypeId × Value → H) :
    ReturnsInHanded {} Tryd.checked os 5 .any (fun w args => (Rows.filterReadsSpec.pre enc Tryd.prog Tryd.f5 Rows.filterReadsRow.domain false w args ∧ laidMetH Tryd.prog Rows.filterReadsRow.laid w) ∧ sizedMet enc Tryd.prog Tryd.f5 (OpenSpec.ofChange Rows.filterReadsSpec) false w args) (Rows.filterReadsSpec.post enc Tryd.prog Tryd.f5 false true false false) := by
  refine returnsInHanded_of_change_and (C := Tryd.checked) (X := fun w _ => laidMetH Tryd.prog Rows.filterReadsRow.laid w) (fun _ _ _ hh h => h.of_heap hh) own started (by kernel_rfl) Tryd.func5
    (ChangeSpec.witness_shaped (enc := enc) (C := Tryd.checked) (os := os) (X := fun w _ => laidMetH Tryd.prog Rows.filterReadsRow.laid w) false (World.laidAll Tryd.prog os Rows.filterReadsRow.laid) #[.string ⟨#[]⟩] 8 (World.laidAll_os _ _ _)
      (World.shaped_of_ZipB (by kernel_rfl) (by kernel_rfl)) (by kernel_rfl) (by kernel_rfl) (by kernel_rfl)
      (by rw [MakeChecks.laidMetH_plain _ _ _ (by kernel_rfl)]; exact laidMet_laidAll _ (by kernel_rfl) (by kernel_rfl))) ?_
  intro W base args ds gs before hval0 hW hcnd hsz0 hL _
  have hsz : (DataW.weightsEach Tryd.prog (Tryd.f5.params.toList ++ Rows.filterReadsSpec.plain.varTypes Tryd.prog) (ds ++ gs)).all (· ≤ reachBytes) = true := hsz0
  have hval : ∀ (j : Nat) t v, Tryd.f5.params[j]? = some t → args[j]? = some v → Value.okWide Tryd.prog W .any base t v := hval0
  have hW' := hW
  obtain ⟨p, q, hA0, hV, rfl, hfz, hnd⟩ := hW
  have hA : DataW.TrodAll enc Tryd.prog W 0 (fun _ => true) true Tryd.f5.params.toList args.toList ds p := hA0
  rw [Tryd.params5] at hA hval hsz
  have hA1 := hA
  obtain ⟨v0, vs0, d0, ds0, p0, q0, hargs, rfl, rfl, h0, r0⟩ := trodAll_cons hA
  obtain ⟨rfl, rfl, rfl⟩ := trodAll_nil r0
  obtain rfl : args = #[v0] := by cases args; simp_all
  obtain ⟨rfl, rfl⟩ := trodVars_none hV
  obtain ⟨x0, o0, k0⟩ := arg_rd (n := 8) (T := .str) (by kernel_rfl) (hval 0 9 v0 rfl rfl) h0 hsz (j := 0) rfl rfl false (by kernel_rfl)
  obtain ⟨n, hn⟩ := Go.Proofs.YtakamchmiakicaaDoorF35.FilterReads x0 o0
  have hok := Go.Proofs.YtakamchmiakicaaDoorF35.f5_broughamlaw35_FilterReads_ok n x0 true hn
  have hok' : FnOK Tryd.prog 5 ⟨[argV false .str x0], [], [], 0⟩ ⟨.one (.c (.d (.bool true))), [], [], (Go.Proofs.YtakamchmiakicaaDoorF35.f5_broughamlaw35_FilterReads_out true).n⟩ := hok
  refine (FnOK.law Tryd.func5 rfl (by kernel_rfl) hok' rfl (fun j v z hv hz => ?_)).mono fun e W' ⟨he, bel⟩ => ?_
  · match j, hv, hz with
    | 0, hv, hz => simp only [List.getElem?_toArray, List.getElem?_cons_succ, List.getElem?_cons_zero, Option.some.injEq] at hv hz; subst hv; subst hz; exact k0
    | j + 1, hv, hz => simp at hv
  subst he
  exact ⟨_, rfl, _, _, _, [], _, [], hW', trodAll_mk1 (shut_bool Tryd.underlying4 _), trodAll_below laidOut (by kernel_rfl) hA1 bel, rfl, bel.frame _, fun h => by cases h⟩
theorem over : Rows.filterReadsRow.holds Tryd.pinned (OpenSpec.ofChange Rows.filterReadsSpec) :=
  OpenClaim.holds_of_wide 5 Tryd.f5 rfl rfl rfl rfl rfl rfl rfl ⟨rfl, rfl, rfl, rfl, rfl⟩ rfl rfl rfl rfl rfl (by kernel_rfl) Tryd.func5 (by kernel_rfl)
    (of_decide_eq_true (by kernel_rfl)) (by unfold Func.isWrapper; first | (rw [if_pos (by decide +kernel)]; kernel_rfl) | (rw [if_neg (by decide +kernel)]; exact ⟨rfl, rfl⟩))
    (fun os started H enc _ => lifted os started H enc)
theorem proved : Rows.FilterReadsSaid := over
#print axioms proved
end Go.Proofs.YtakamchmiakicaaDoor.filterReads
namespace Go.Proofs.YtakamchmiakicaaDoor
/-- The tied card, under a short name, for the claim. -/
theorem filterReads_holds : Rows.FilterReadsCardSaid :=
  Claim7.holds_tied_plain_at .later [] [.data, .pinned] true (true, "543e2dbb3c11a1c3340427f0142a3a5d4a0cdbf5695ff0c4454662e8cc7ac45c") false filterReads.proved (fun _ h => by cases h) (by kernel_rfl) (fun _ h => by cases h) filterReads_row_tie rfl ⟨rfl, rfl⟩ (by kernel_rfl) rfl
    (fun f fn hf hfn => by
      obtain rfl : f = 5 := Option.some.inj ((show Tryd.prog.funcNamed "brougham/broughamlaw35.FilterReads" = some 5 by kernel_rfl).symm.trans hf) |>.symm
      obtain rfl : fn = Tryd.f5 := (Option.some.inj (Tryd.func5.symm.trans hfn)).symm
      exact ⟨by kernel_rfl, fun j t ht => by
        rw [Tryd.params5] at ht
        have hm : t ∈ [9] := by simpa using Array.mem_of_getElem? ht
        have hall : ([9].all fun u => !Tryd.prog.wantsStandIn u) = true := by kernel_rfl
        exact (show Tryd.prog.wantsStandIn t = false by simpa using List.all_eq_true.1 hall t hm)⟩)
    (by kernel_rfl)
#print axioms filterReads_holds
end Go.Proofs.YtakamchmiakicaaDoor
