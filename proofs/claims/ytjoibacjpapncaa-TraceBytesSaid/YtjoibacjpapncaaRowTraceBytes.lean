/- TraceBytes: the row of the law, whatever the input: it returns true, and its arguments read as before. What its functions compute stands in YtjoibacjpapncaaF26, that this is true in YtjoibacjpapncaaPureTraceBytes. Conditions: none. -/
import Derived.Test.YtjoibacjpapncaaRows
import Derived.Test.YtjoibacjpapncaaF26
import Derived.Test.YtjoibacjpapncaaPureTraceBytes
import Derived.Test.YtjoibacjpapncaaZedZ
namespace Go.Proofs.Ytjoibacjpapncaa.traceBytes
open Go.ChangeShapes Go.WideShapes Go.ChangeAt Go.RowKit
open Zed
set_option linter.unusedVariables false
set_option linter.unusedSimpArgs false
theorem own : ownKnob Try.prog.godebug = none := by kernel_rfl
theorem laidOut : laidOutB Try.prog = true := by kernel_rfl
set_option maxRecDepth 100000 in
theorem lifted (os : Os) (started : os.Started) (H : Type) (enc : TypeId × Value → H) :
    ReturnsInHanded {} Try.checked os 14 .any (Rows.traceBytesSpec.pre6 enc Try.prog Try.f14 Rows.traceBytesRow.domain false) (Rows.traceBytesSpec.post enc Try.prog Try.f14 false true false false) := by
  refine returnsInHanded_of_change_sized (C := Try.checked) own started (by kernel_rfl) Try.func14
    (ChangeSpec.witness6 (enc := enc) (C := Try.checked) false ⟨#[], #[.slice none 0 0, .slice none 0 0], []⟩ 8 (by kernel_rfl) (by kernel_rfl) (by kernel_rfl) (by kernel_rfl)) ?_
  intro W base args ds gs before hval0 hW hcnd hsz0 _
  have hsz : (DataW.weightsEach Try.prog (Try.f14.params.toList ++ Rows.traceBytesSpec.plain.varTypes Try.prog) (ds ++ gs)).all (· ≤ reachBytes) = true := hsz0
  have hval : ∀ (j : Nat) t v, Try.f14.params[j]? = some t → args[j]? = some v → Value.okWide Try.prog W .any base t v := hval0
  have hW' := hW
  obtain ⟨p, q, hA0, hV, rfl, hfz, hnd⟩ := hW
  have hA : DataW.TrodAll enc Try.prog W 0 (fun _ => true) true Try.f14.params.toList args.toList ds p := hA0
  rw [Try.params14] at hA hval hsz
  have hA1 := hA
  obtain ⟨v0, vs0, d0, ds0, p0, q0, hargs, rfl, rfl, h0, r0⟩ := trodAll_cons hA
  obtain ⟨v1, vs1, d1, ds1, p1, q1, rfl, rfl, rfl, h1, r1⟩ := trodAll_cons r0
  obtain ⟨rfl, rfl, rfl⟩ := trodAll_nil r1
  obtain rfl : args = #[v0, v1] := by cases args; simp_all
  obtain ⟨rfl, rfl⟩ := trodVars_none hV
  obtain ⟨x0, o0, k0⟩ := arg_rd (n := 8) (T := (.slice (.int .u8))) (by kernel_rfl) (hval 0 38 v0 rfl rfl) h0 hsz (j := 0) rfl rfl false (by kernel_rfl)
  obtain ⟨x1, o1, k1⟩ := arg_rd (n := 8) (T := (.slice (.pair (.int .i64) (.slice (.int .u8))))) (by kernel_rfl) (hval 1 125 v1 rfl rfl) h1 hsz (j := 1) rfl rfl false (by kernel_rfl)
  obtain ⟨n, hn⟩ := Go.Proofs.YtjoibacjpapncaaF26.TraceBytes x0 o0 x1 o1
  have hok := Go.Proofs.YtjoibacjpapncaaF26.f14_broughamlaw26_TraceBytes_ok n x0 x1 true hn
  have hok' : FnOK Try.prog 14 ⟨[argV false (.slice (.int .u8)) x0, argV false (.slice (.pair (.int .i64) (.slice (.int .u8)))) x1], [], [], 0⟩ ⟨.one (.c (.d (.bool true))), [], [], (Go.Proofs.YtjoibacjpapncaaF26.f14_broughamlaw26_TraceBytes_out true).n⟩ := hok
  refine (FnOK.law Try.func14 rfl (by kernel_rfl) hok' rfl (fun j v z hv hz => ?_)).mono fun e W' ⟨he, bel⟩ => ?_
  · match j, hv, hz with
    | 0, hv, hz => simp only [List.getElem?_toArray, List.getElem?_cons_succ, List.getElem?_cons_zero, Option.some.injEq] at hv hz; subst hv; subst hz; exact k0
    | 1, hv, hz => simp only [List.getElem?_toArray, List.getElem?_cons_succ, List.getElem?_cons_zero, Option.some.injEq] at hv hz; subst hv; subst hz; exact k1
    | j + 2, hv, hz => simp at hv
  subst he
  exact ⟨_, rfl, _, _, _, [], _, [], hW', trodAll_mk1 (shut_bool Try.underlying4 _), trodAll_below laidOut (by kernel_rfl) hA1 bel, rfl, bel.frame _, fun h => by cases h⟩
theorem over : Rows.traceBytesRow.holds Try.pinned (OpenSpec.ofChange Rows.traceBytesSpec) :=
  OpenClaim.holds_of_wide 14 Try.f14 rfl rfl rfl rfl rfl rfl rfl ⟨rfl, rfl, rfl, rfl, rfl⟩ rfl rfl rfl rfl rfl (by kernel_rfl) Try.func14 (by kernel_rfl)
    (of_decide_eq_true (by kernel_rfl)) (by unfold Func.isWrapper; first | (rw [if_pos (by decide +kernel)]; kernel_rfl) | (rw [if_neg (by decide +kernel)]; exact ⟨rfl, rfl⟩))
    (fun os started H enc _ => lifted os started H enc)
theorem proved : Rows.TraceBytesSaid := over
#print axioms proved
end Go.Proofs.Ytjoibacjpapncaa.traceBytes
namespace Go.Proofs.Ytjoibacjpapncaa
/-- The row, under a short name, for the claim. -/
theorem traceBytes_holds : Rows.TraceBytesSaid := traceBytes.proved
end Go.Proofs.Ytjoibacjpapncaa
