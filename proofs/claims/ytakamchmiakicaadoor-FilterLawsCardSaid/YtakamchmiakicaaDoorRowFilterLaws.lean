/- FilterLaws: the row of the law, whatever the input: it returns true, and its arguments read as before. What its functions compute stands in YtakamchmiakicaaDoorF35d, that this is true in YtakamchmiakicaaDoorPureFilterLaws. Conditions: none. -/
import Derived.Test.YtakamchmiakicaaDoorTie
import Derived.Test.YtakamchmiakicaaDoorCards
import Derived.ProofKit
import Derived.OpenShut
import Derived.LaidMore
import Derived.Lay
import Derived.SevenTiedAt
import Derived.Stop.Joined
import Derived.Test.YtakamchmiakicaaDoorRows
import Derived.Test.YtakamchmiakicaaDoorF35d
import Derived.Test.YtakamchmiakicaaDoorPureFilterLaws
import Derived.Test.YtakamchmiakicaaDoorZedZ
namespace Go.Proofs.YtakamchmiakicaaDoor.filterLaws
open Go.ChangeShapes Go.WideShapes Go.ChangeAt Go.RowKit
open Zed
set_option linter.unusedVariables false
set_option linter.unusedSimpArgs false
theorem own : ownKnob Tryd.prog.godebug = none := by kernel_rfl
theorem laidOut : laidOutB Tryd.prog = true := by kernel_rfl
set_option maxRecDepth 100000 in
theorem lifted (os : Os) (started : os.Started) (H : Type) (enc : TypeId × Value → H) :
    ReturnsInHanded {} Tryd.checked os 8 .any (fun w args => (Rows.filterLawsSpec.pre enc Tryd.prog Tryd.f8 Rows.filterLawsRow.domain false w args ∧ laidMetH Tryd.prog Rows.filterLawsRow.laid w) ∧ sizedMet enc Tryd.prog Tryd.f8 (OpenSpec.ofChange Rows.filterLawsSpec) false w args) (Rows.filterLawsSpec.post enc Tryd.prog Tryd.f8 false true false false) := by
  refine returnsInHanded_of_change_and (C := Tryd.checked) (X := fun w _ => laidMetH Tryd.prog Rows.filterLawsRow.laid w) (fun _ _ _ hh h => h.of_heap hh) own started (by kernel_rfl) Tryd.func8
    (ChangeSpec.witness_shaped (enc := enc) (C := Tryd.checked) (os := os) (X := fun w _ => laidMetH Tryd.prog Rows.filterLawsRow.laid w) false (World.laidAll Tryd.prog os Rows.filterLawsRow.laid) #[.agg #[.int .i64 0, .int .i64 0, .slice none 0 0], .agg #[.int .i64 0, .int .i64 0, .slice none 0 0], .agg #[.int .u16 0, .int .u16 0, .int .u32 0, .int .u32 0, .int .u8 0, .slice none 0 0, .slice none 0 0]] 8 (World.laidAll_os _ _ _)
      (World.shaped_of_ZipB (by kernel_rfl) (by kernel_rfl)) (by kernel_rfl) (by kernel_rfl) (by kernel_rfl)
      (by rw [MakeChecks.laidMetH_plain _ _ _ (by kernel_rfl)]; exact laidMet_laidAll _ (by kernel_rfl) (by kernel_rfl))) ?_
  intro W base args ds gs before hval0 hW hcnd hsz0 hL _
  have hsz : (DataW.weightsEach Tryd.prog (Tryd.f8.params.toList ++ Rows.filterLawsSpec.plain.varTypes Tryd.prog) (ds ++ gs)).all (· ≤ reachBytes) = true := hsz0
  have hval : ∀ (j : Nat) t v, Tryd.f8.params[j]? = some t → args[j]? = some v → Value.okWide Tryd.prog W .any base t v := hval0
  have hW' := hW
  obtain ⟨p, q, hA0, hV, rfl, hfz, hnd⟩ := hW
  have hA : DataW.TrodAll enc Tryd.prog W 0 (fun _ => true) true Tryd.f8.params.toList args.toList ds p := hA0
  rw [Tryd.params8] at hA hval hsz
  have hA1 := hA
  obtain ⟨v0, vs0, d0, ds0, p0, q0, hargs, rfl, rfl, h0, r0⟩ := trodAll_cons hA
  obtain ⟨v1, vs1, d1, ds1, p1, q1, rfl, rfl, rfl, h1, r1⟩ := trodAll_cons r0
  obtain ⟨v2, vs2, d2, ds2, p2, q2, rfl, rfl, rfl, h2, r2⟩ := trodAll_cons r1
  obtain ⟨rfl, rfl, rfl⟩ := trodAll_nil r2
  obtain rfl : args = #[v0, v1, v2] := by cases args; simp_all
  obtain ⟨rfl, rfl⟩ := trodVars_none hV
  obtain ⟨x0, o0, k0⟩ := arg_rd (n := 8) (T := (.pair (.int .i64) (.pair (.int .i64) .wood))) (by kernel_rfl) (hval 0 42 v0 rfl rfl) h0 hsz (j := 0) rfl rfl true (by kernel_rfl)
  obtain ⟨x1, o1, k1⟩ := arg_rd (n := 8) (T := (.pair (.int .i64) (.pair (.int .i64) .wood))) (by kernel_rfl) (hval 1 42 v1 rfl rfl) h1 hsz (j := 1) rfl rfl true (by kernel_rfl)
  obtain ⟨x2, o2, k2⟩ := arg_rd (n := 8) (T := (.pair (.int .u16) (.pair (.int .u16) (.pair (.int .u32) (.pair (.int .u32) (.pair (.int .u8) (.pair (.slice (.pair (.int .u8) (.slice (.int .u8)))) (.slice (.int .u8))))))))) (by kernel_rfl) (hval 2 56 v2 rfl rfl) h2 hsz (j := 2) rfl rfl true (by kernel_rfl)
  obtain ⟨n, hn⟩ := Go.Proofs.YtakamchmiakicaaDoorF35d.FilterLaws x0 o0 x1 o1 x2 o2
  have hok := Go.Proofs.YtakamchmiakicaaDoorF35d.f8_broughamlaw35_FilterLaws_ok n x0.1 x0.2.1 (x0.2.2.map FT.un) x1.1 x1.2.1 (x1.2.2.map FT.un) x2.1 x2.2.1 x2.2.2.1 x2.2.2.2.1 x2.2.2.2.2.1 x2.2.2.2.2.2.1 x2.2.2.2.2.2.2 true hn
  have hok' : FnOK Tryd.prog 8 ⟨[argV true (.pair (.int .i64) (.pair (.int .i64) .wood)) x0, argV true (.pair (.int .i64) (.pair (.int .i64) .wood)) x1, argV true (.pair (.int .u16) (.pair (.int .u16) (.pair (.int .u32) (.pair (.int .u32) (.pair (.int .u8) (.pair (.slice (.pair (.int .u8) (.slice (.int .u8)))) (.slice (.int .u8)))))))) x2], [], [], 0⟩ ⟨.one (.c (.d (.bool true))), [], [], (Go.Proofs.YtakamchmiakicaaDoorF35d.f8_broughamlaw35_FilterLaws_out true).n⟩ := hok
  refine (FnOK.law Tryd.func8 rfl (by kernel_rfl) hok' rfl (fun j v z hv hz => ?_)).mono fun e W' ⟨he, bel⟩ => ?_
  · match j, hv, hz with
    | 0, hv, hz => simp only [List.getElem?_toArray, List.getElem?_cons_succ, List.getElem?_cons_zero, Option.some.injEq] at hv hz; subst hv; subst hz; exact k0
    | 1, hv, hz => simp only [List.getElem?_toArray, List.getElem?_cons_succ, List.getElem?_cons_zero, Option.some.injEq] at hv hz; subst hv; subst hz; exact k1
    | 2, hv, hz => simp only [List.getElem?_toArray, List.getElem?_cons_succ, List.getElem?_cons_zero, Option.some.injEq] at hv hz; subst hv; subst hz; exact k2
    | j + 3, hv, hz => simp at hv
  subst he
  exact ⟨_, rfl, _, _, _, [], _, [], hW', trodAll_mk1 (shut_bool Tryd.underlying4 _), trodAll_below laidOut (by kernel_rfl) hA1 bel, rfl, bel.frame _, fun h => by cases h⟩
theorem over : Rows.filterLawsRow.holds Tryd.pinned (OpenSpec.ofChange Rows.filterLawsSpec) :=
  OpenClaim.holds_of_wide 8 Tryd.f8 rfl rfl rfl rfl rfl rfl rfl ⟨rfl, rfl, rfl, rfl, rfl⟩ rfl rfl rfl rfl rfl (by kernel_rfl) Tryd.func8 (by kernel_rfl)
    (of_decide_eq_true (by kernel_rfl)) (by unfold Func.isWrapper; first | (rw [if_pos (by decide +kernel)]; kernel_rfl) | (rw [if_neg (by decide +kernel)]; exact ⟨rfl, rfl⟩))
    (fun os started H enc _ => lifted os started H enc)
theorem proved : Rows.FilterLawsSaid := over
#print axioms proved
end Go.Proofs.YtakamchmiakicaaDoor.filterLaws
namespace Go.Proofs.YtakamchmiakicaaDoor
/-- The tied card, under a short name, for the claim. -/
theorem filterLaws_holds : Rows.FilterLawsCardSaid :=
  Claim7.holds_tied_plain_at .later [] [.data, .pinned] true (true, "543e2dbb3c11a1c3340427f0142a3a5d4a0cdbf5695ff0c4454662e8cc7ac45c") false filterLaws.proved (fun _ h => by cases h) (by kernel_rfl) (fun _ h => by cases h) filterLaws_row_tie rfl ⟨rfl, rfl⟩ (by kernel_rfl) rfl
    (fun f fn hf hfn => by
      obtain rfl : f = 8 := Option.some.inj ((show Tryd.prog.funcNamed "brougham/broughamlaw35.FilterLaws" = some 8 by kernel_rfl).symm.trans hf) |>.symm
      obtain rfl : fn = Tryd.f8 := (Option.some.inj (Tryd.func8.symm.trans hfn)).symm
      exact ⟨by kernel_rfl, fun j t ht => by
        rw [Tryd.params8] at ht
        have hm : t ∈ [42, 42, 56] := by simpa using Array.mem_of_getElem? ht
        have hall : ([42, 42, 56].all fun u => !Tryd.prog.wantsStandIn u) = true := by kernel_rfl
        exact (show Tryd.prog.wantsStandIn t = false by simpa using List.all_eq_true.1 hall t hm)⟩)
    (by kernel_rfl)
#print axioms filterLaws_holds
end Go.Proofs.YtakamchmiakicaaDoor
