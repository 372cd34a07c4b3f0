/- Texts KW2 of our own machine for the walk of WholeChallenges, one behind the other. -/
import Derived.Test.YtiammpabkpoidaaGreatW24
import Derived.Test.YtiammpabkpoidaaGreatW25
import Derived.Test.YtiammpabkpoidaaGreatW26
import Derived.Test.YtiammpabkpoidaaGreatW27
import Derived.Test.YtiammpabkpoidaaGreatW28
import Derived.Test.YtiammpabkpoidaaGreatW29
import Derived.Test.YtiammpabkpoidaaGreatW30
namespace Zed
open Go
set_option maxRecDepth 100000
noncomputable def tabD : TblT := tblL [(45, innD1, outD1), (45, innD2, outD2), (45, innD3, outD3), (45, innD4, outD4), (45, innD5, outD5), (45, innD6, outD6)]
theorem tabD_ok : TblOK Go.Proofs.Tryz.prog tabD := tblL_ok fun p hp => by
  simp only [List.mem_cons, List.not_mem_nil, or_false] at hp
  rcases hp with rfl | rfl | rfl | rfl | rfl | rfl
  · exact okD1
  · exact okD2
  · exact okD3
  · exact okD4
  · exact okD5
  · exact okD6
noncomputable def primT : EvT := fun f vs hp acc => match Nat.beq f 45 with
  | true => canE true tabD f vs hp acc
  | false => prim0 true false f vs hp acc
theorem primT_ok : EvOK Go.Proofs.Tryz.prog primT := ⟨fun f vs hp acc z hp' acc' h => by
  unfold primT at h
  split at h
  · exact (canE_ok tabD_ok).1 f vs hp acc z hp' acc' h
  · exact prim0_fr f vs hp acc z hp' acc' h, fun f vs hp acc z hp' acc' h hC => by
  unfold primT at h
  split at h
  · exact (canE_ok tabD_ok).2 f vs hp acc z hp' acc' h hC
  · exact prim0_ok.2 f vs hp acc z hp' acc' h hC⟩
noncomputable def cfT : Cfg := { cfW with prim := primT }
theorem cfT_ok (d : Nat) : EvOK Go.Proofs.Tryz.prog (evalF cfT d) := evalF_ok (cf := cfT) hmG htG primT_ok (fnsOf_ok hfG) d
noncomputable def primU : EvT := fun f vs hp acc => match Nat.beq f 22 || Nat.beq f 24 with
  | true => dfrE cfT (evalF cfT 40) f 4 vs hp acc
  | false => primT f vs hp acc
theorem primU_ok : EvOK Go.Proofs.Tryz.prog primU := ⟨fun f vs hp acc z hp' acc' h => by
  unfold primU at h
  split at h
  · exact dfrE_fr (cfT_ok 40).1 h
  · exact primT_ok.1 f vs hp acc z hp' acc' h, fun f vs hp acc z hp' acc' h hC => by
  unfold primU at h
  split at h
  · exact dfrE_ok (cf := cfT) hmG htG (cfT_ok 40) (fnsOf_ok hfG) h hC
  · exact primT_ok.2 f vs hp acc z hp' acc' h hC⟩
noncomputable def cfU : Cfg := { cfW with prim := primU }
noncomputable def inn0 : Inn := ⟨[], [], [], 0⟩
noncomputable def out0 : Out := ⟨.one (.c (.d (.bool true))), [], [], 0⟩
theorem works_run : fnT (evalF cfU 40) true 8 inn0 [] = some (out0, []) := by kernel_rfl
theorem works_ok : FnOK Go.Proofs.Tryz.prog 8 inn0 out0 := (fnT_ok (evalF_ok (cf := cfU) hmG htG primU_ok (fnsOf_ok hfG) 40) works_run trivial).2
end Zed
