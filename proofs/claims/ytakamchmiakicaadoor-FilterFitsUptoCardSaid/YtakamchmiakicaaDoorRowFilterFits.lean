/- FilterFits: the row of the law, where what it reads is of bulk at most 1048576: it returns true, and its arguments read as before. What its functions compute stands in YtakamchmiakicaaDoorF35c, that this is true in YtakamchmiakicaaDoorPureFilterFits. Conditions: none. -/
import Derived.Test.YtakamchmiakicaaDoorTie
import Derived.Test.YtakamchmiakicaaDoorCards
import Derived.ProofKit
import Derived.OpenShut
import Derived.LaidMore
import Derived.Lay
import Derived.SevenTiedAt
import Derived.Stop.Joined
import Derived.Deep.DeepHandedRow
import Derived.JoinedCond
import Derived.Test.YtakamchmiakicaaDoorRows
import Derived.Test.YtakamchmiakicaaDoorF35c
import Derived.Test.YtakamchmiakicaaDoorPureFilterFits
import Derived.Test.YtakamchmiakicaaDoorZedZ
namespace Go.Proofs.YtakamchmiakicaaDoor.filterFits
open Go.ChangeShapes Go.WideShapes Go.ChangeAt Go.RowKit
open Zed
set_option linter.unusedVariables false
set_option linter.unusedSimpArgs false
theorem own : ownKnob Tryd.prog.godebug = none := by kernel_rfl
theorem laidOut : laidOutB Tryd.prog = true := by kernel_rfl
/-- What stands in a reading is at most its bulk. -/
theorem bk_pos {H : Type} (d : DataW H) : 1 ≤ Rows.uptoBulk d := by cases d <;> (try rename_i l; cases l) <;> simp [Rows.uptoBulk]
mutual
theorem bk_le {H : Type} : ∀ d : DataW H, bk d ≤ Rows.uptoBulk d
  | .lit l => by rw [bk]; exact bk_pos _; all_goals simp
  | .nil => by rw [bk]; exact bk_pos _; all_goals simp
  | .ptr d => by rw [bk]; exact bk_pos _; all_goals simp
  | .iface t d => by rw [bk]; exact bk_pos _; all_goals simp
  | .map e => by rw [bk]; exact bk_pos _; all_goals simp
  | .held h => by rw [bk]; exact bk_pos _; all_goals simp
  | .slice e r => by have := bks_le e; have := bks_le r; simp only [bk, Rows.uptoBulk]; omega
  | .agg p => by have := bks_le p; simp only [bk, Rows.uptoBulk]; omega
theorem bks_le {H : Type} : ∀ l : List (DataW H), bks l ≤ Rows.uptoBulkAll l
  | [] => by simp [bks]
  | d :: r => by have := bk_le d; have := bks_le r; simp only [bks, Rows.uptoBulkAll]; omega
end
set_option maxRecDepth 100000 in
theorem reads (os : Os) {H : Type} (enc : TypeId × Value → H) : ∃ places, DataW.whole enc Tryd.prog ((World.laidAll Tryd.prog os Rows.filterFitsUptoRow.laid).forCall (fun _ _ => 0) ⟨#[], #[.agg #[.int .i64 0, .int .i64 0, .slice none 0 0], .agg #[.int .u16 0, .int .u16 0, .int .u32 0, .int .u32 0, .int .u8 0, .slice none 0 0, .slice none 0 0]], []⟩).memory Tryd.f7.params.toList Rows.filterFitsSpec.vars false (#[.agg #[.int .i64 0, .int .i64 0, .slice none 0 0], .agg #[.int .u16 0, .int .u16 0, .int .u32 0, .int .u32 0, .int .u8 0, .slice none 0 0, .slice none 0 0]] : Array Value).toList 8 = some ([.agg [.lit (.int .i64 0), .lit (.int .i64 0), .nil], .agg [.lit (.int .u16 0), .lit (.int .u16 0), .lit (.int .u32 0), .lit (.int .u32 0), .lit (.int .u8 0), .nil, .nil]], [], places) :=
  ⟨[], by kernel_rfl⟩
set_option maxRecDepth 100000 in
theorem lifted (os : Os) (started : os.Started) (H : Type) (enc : TypeId × Value → H) (F : Stop.Interp) :
    ReturnsInHanded {} Tryd.checked os 7 .any ((Rows.OpenSpec.upto Rows.filterFitsSpec).preRow enc Tryd.prog Tryd.f7 Rows.filterFitsUptoRow.domain false Rows.filterFitsUptoRow.laid) (((Rows.OpenSpec.upto Rows.filterFitsSpec).at F).post enc Tryd.prog Tryd.f7 false true false false) := by
  obtain ⟨places, hx⟩ := reads os enc
  have hok : Input.okWideB Tryd.prog ((World.laidAll Tryd.prog os Rows.filterFitsUptoRow.laid).forCall (fun _ _ => 0) ⟨#[], #[.agg #[.int .i64 0, .int .i64 0, .slice none 0 0], .agg #[.int .u16 0, .int .u16 0, .int .u32 0, .int .u32 0, .int .u8 0, .slice none 0 0, .slice none 0 0]], []⟩) 7 ⟨#[], #[.agg #[.int .i64 0, .int .i64 0, .slice none 0 0], .agg #[.int .u16 0, .int .u16 0, .int .u32 0, .int .u32 0, .int .u8 0, .slice none 0 0, .slice none 0 0]], []⟩ = true := by kernel_rfl
  refine returnsInHanded_of_row (C := Tryd.checked) (s := Rows.OpenSpec.upto Rows.filterFitsSpec) own started (by kernel_rfl) Tryd.func7
    ⟨World.laidAll Tryd.prog os Rows.filterFitsUptoRow.laid, fun _ _ => 0, ⟨#[], #[.agg #[.int .i64 0, .int .i64 0, .slice none 0 0], .agg #[.int .u16 0, .int .u16 0, .int .u32 0, .int .u32 0, .int .u8 0, .slice none 0 0, .slice none 0 0]], []⟩, World.laidAll_os _ _ _, World.shaped_of_ZipB (by kernel_rfl) (by kernel_rfl), (Input.okWide_of_okWideB (base := 0) hok).1, (Input.okWide_of_okWideB hok).2,
      OpenSpec.preRow_of_cond 8 hx (by kernel_rfl) (fun k hk => by cases hk; kernel_rfl) (by kernel_rfl) (by rw [MakeChecks.laidMetH_plain _ _ _ (by kernel_rfl)]; exact laidMet_laidAll _ (by kernel_rfl) (by kernel_rfl)),
      by simp only [Assume.holds]; exact ⟨by simp, by simp, fun _ => Modest.zero, by simp, by simp⟩⟩ ?_
  intro W base args ds gs before hval0 hW hcnd hk0 hsz0 hL _ _
  have hbulk : Rows.uptoBulkAll (ds ++ gs) ≤ 1048576 := of_decide_eq_true (hk0 _ rfl)
  show Calls Tryd.prog 7 args W fun e W' => ∃ v, e = .returned v ∧ Rows.filterFitsSpec.post enc Tryd.prog Tryd.f7 false true false false W args v W'
  have hsz : (DataW.weightsEach Tryd.prog (Tryd.f7.params.toList ++ Rows.filterFitsSpec.plain.varTypes Tryd.prog) (ds ++ gs)).all (· ≤ reachBytes) = true := hsz0
  have hval : ∀ (j : Nat) t v, Tryd.f7.params[j]? = some t → args[j]? = some v → Value.okWide Tryd.prog W .any base t v := hval0
  have hW' := hW
  obtain ⟨p, q, hA0, hV, rfl, hfz, hnd⟩ := hW
  have hA : DataW.TrodAll enc Tryd.prog W 0 (fun _ => true) true Tryd.f7.params.toList args.toList ds p := hA0
  rw [Tryd.params7] at hA hval hsz
  have hA1 := hA
  obtain ⟨v0, vs0, d0, ds0, p0, q0, hargs, rfl, rfl, h0, r0⟩ := trodAll_cons hA
  obtain ⟨v1, vs1, d1, ds1, p1, q1, rfl, rfl, rfl, h1, r1⟩ := trodAll_cons r0
  obtain ⟨rfl, rfl, rfl⟩ := trodAll_nil r1
  obtain rfl : args = #[v0, v1] := by cases args; simp_all
  obtain ⟨rfl, rfl⟩ := trodVars_none hV
  obtain ⟨x0, o0, k0⟩ := arg_rdN (n := 8) (T := (.pair (.int .i64) (.pair (.int .i64) .wood))) (by kernel_rfl) (hval 0 42 v0 rfl rfl) h0 hsz (j := 0) rfl rfl true (by kernel_rfl)
  obtain ⟨x1, o1, k1⟩ := arg_rd (n := 8) (T := (.pair (.int .u16) (.pair (.int .u16) (.pair (.int .u32) (.pair (.int .u32) (.pair (.int .u8) (.pair (.slice (.pair (.int .u8) (.slice (.int .u8)))) (.slice (.int .u8))))))))) (by kernel_rfl) (hval 1 56 v1 rfl rfl) h1 hsz (j := 1) rfl rfl true (by kernel_rfl)
  have hN : bk d0 ≤ 1048576 := by
    have hb := hbulk
    have q0 := bk_le d0
    simp only [List.cons_append, List.nil_append, Rows.uptoBulkAll] at hb
    omega
  obtain ⟨n, hn⟩ := Go.Proofs.YtakamchmiakicaaDoorF35c.FilterFits (bk d0) hN x0 o0 x1 o1
  have hok := Go.Proofs.YtakamchmiakicaaDoorF35c.f7_broughamlaw35_FilterFits_ok n x0.1 x0.2.1 (x0.2.2.map FT.un) x1.1 x1.2.1 x1.2.2.1 x1.2.2.2.1 x1.2.2.2.2.1 x1.2.2.2.2.2.1 x1.2.2.2.2.2.2 true hn
  have hok' : FnOK Tryd.prog 7 ⟨[argV true (.pair (.int .i64) (.pair (.int .i64) .wood)) x0, argV true (.pair (.int .u16) (.pair (.int .u16) (.pair (.int .u32) (.pair (.int .u32) (.pair (.int .u8) (.pair (.slice (.pair (.int .u8) (.slice (.int .u8)))) (.slice (.int .u8)))))))) x1], [], [], 0⟩ ⟨.one (.c (.d (.bool true))), [], [], (Go.Proofs.YtakamchmiakicaaDoorF35c.f7_broughamlaw35_FilterFits_out true).n⟩ := hok
  refine (FnOK.law Tryd.func7 rfl (by kernel_rfl) hok' rfl (fun j v z hv hz => ?_)).mono fun e W' ⟨he, bel⟩ => ?_
  · match j, hv, hz with
    | 0, hv, hz => simp only [List.getElem?_toArray, List.getElem?_cons_succ, List.getElem?_cons_zero, Option.some.injEq] at hv hz; subst hv; subst hz; exact k0
    | 1, hv, hz => simp only [List.getElem?_toArray, List.getElem?_cons_succ, List.getElem?_cons_zero, Option.some.injEq] at hv hz; subst hv; subst hz; exact k1
    | j + 2, hv, hz => simp at hv
  subst he
  exact ⟨_, rfl, _, _, _, [], _, [], hW', trodAll_mk1 (shut_bool Tryd.underlying4 _), trodAll_below laidOut (by kernel_rfl) hA1 bel, rfl, bel.frame _, fun h => by cases h⟩
theorem over : Rows.filterFitsUptoRow.holds Tryd.pinned (Rows.OpenSpec.upto Rows.filterFitsSpec) :=
  OpenClaim.holds_of_cond 7 Tryd.f7 rfl rfl rfl rfl rfl rfl rfl ⟨rfl, rfl, rfl, rfl, rfl⟩ rfl rfl rfl rfl rfl (by kernel_rfl) Tryd.func7 (by kernel_rfl)
    (of_decide_eq_true (by kernel_rfl)) (by unfold Func.isWrapper; first | (rw [if_pos (by decide +kernel)]; kernel_rfl) | (rw [if_neg (by decide +kernel)]; exact ⟨rfl, rfl⟩))
    (fun os started H enc _ F => by rw [OpenClaim.pre_eq_preRow]; exact lifted os started H enc F)
theorem proved : Rows.FilterFitsUptoSaid := over
#print axioms proved
end Go.Proofs.YtakamchmiakicaaDoor.filterFits
namespace Go.Proofs.YtakamchmiakicaaDoor
/-- The tied card, under a short name, for the claim. -/
theorem filterFitsUpto_holds : Rows.FilterFitsUptoCardSaid :=
  Claim7.holds_tied_plain_at .later [] [.data, .pinned] true (true, "543e2dbb3c11a1c3340427f0142a3a5d4a0cdbf5695ff0c4454662e8cc7ac45c") false filterFits.proved (fun _ h => by cases h) (by kernel_rfl) (fun _ h => by cases h) filterFitsUpto_row_tie rfl ⟨rfl, rfl⟩ (by kernel_rfl) rfl
    (fun f fn hf hfn => by
      obtain rfl : f = 7 := Option.some.inj ((show Tryd.prog.funcNamed "brougham/broughamlaw35.FilterFits" = some 7 by kernel_rfl).symm.trans hf) |>.symm
      obtain rfl : fn = Tryd.f7 := (Option.some.inj (Tryd.func7.symm.trans hfn)).symm
      exact ⟨by kernel_rfl, fun j t ht => by
        rw [Tryd.params7] at ht
        have hm : t ∈ [42, 56] := by simpa using Array.mem_of_getElem? ht
        have hall : ([42, 56].all fun u => !Tryd.prog.wantsStandIn u) = true := by kernel_rfl
        exact (show Tryd.prog.wantsStandIn t = false by simpa using List.all_eq_true.1 hall t hm)⟩)
    (by kernel_rfl)
#print axioms filterFitsUpto_holds
end Go.Proofs.YtakamchmiakicaaDoor
