/- What the functions compute, and that they do: printed by a program of this session (zgen.py), proved by Zed. -/
import Derived.Test.YtjimlfjhhmdcdaaProg
import Derived.Test.YtjimlfjhhmdcdaaZedY
namespace Go.Proofs.YtjimlfjhhmdcdaaF39
open Go Zed
set_option maxRecDepth 100000
set_option linter.unusedVariables false
def tab : Tab := [(3, ⟨.int .i64, 1, 8, [.int .i64 0], some (.int .i64), none⟩), (4, ⟨.bool, 1, 1, [.bool false], some .bool, none⟩), (22, ⟨.slice 29, 1, 24, [.sl .unit []], some (.slice (.pair (.int .i64) (.pair (.int .i64) (.pair (.int .i64) (.int .i64))))), none⟩), (24, ⟨.struct [(0, 3), (1, 22)], 2, 32, [.int .i64 0, .sl .unit []], some (.pair (.int .i64) (.slice (.pair (.int .i64) (.pair (.int .i64) (.pair (.int .i64) (.int .i64)))))), some [(0, 3), (1, 22)]⟩), (25, ⟨.ptr 101, 1, 8, [.nilP], none, none⟩), (29, ⟨.struct [(0, 3), (1, 3), (2, 3), (3, 3)], 4, 32, [.int .i64 0, .int .i64 0, .int .i64 0, .int .i64 0], some (.pair (.int .i64) (.pair (.int .i64) (.pair (.int .i64) (.int .i64)))), some [(0, 3), (1, 3), (2, 3), (3, 3)]⟩), (47, ⟨.slice 106, 1, 24, [.sl .unit []], some (.slice (.pair (.int .i64) (.int .i64))), none⟩), (49, ⟨.struct [(0, 3), (1, 3), (2, 47)], 3, 40, [.int .i64 0, .int .i64 0, .sl .unit []], some (.pair (.int .i64) (.pair (.int .i64) (.slice (.pair (.int .i64) (.int .i64))))), some [(0, 3), (1, 3), (2, 47)]⟩), (99, ⟨.map 3 3, 1, 8, [.nilM], none, none⟩), (101, ⟨.struct [(0, 3), (1, 3), (2, 3), (3, 99)], 4, 32, [.int .i64 0, .int .i64 0, .int .i64 0, .nilM], none, some [(0, 3), (1, 3), (2, 3), (3, 99)]⟩), (106, ⟨.struct [(0, 3), (1, 3)], 2, 16, [.int .i64 0, .int .i64 0], some (.pair (.int .i64) (.int .i64)), some [(0, 3), (1, 3)]⟩)]
theorem ht : TabOk Go.Proofs.Try.prog tab := tabOk_of (ts := [3, 4, 22, 24, 25, 29, 47, 49, 99, 101, 106]) (by kernel_rfl)
theorem hm : Go.Proofs.Try.prog.follows .mixedOrders = true := by kernel_rfl
/-! brougham/quota.New -/
def f13_quota_New_in (all : Int) (each : Int) : Inn := ⟨[.c (.d (.int .i64 all)), .c (.d (.int .i64 each))], [], [], 0⟩
def f13_quota_New_out (r : Int × Int × Int × List (Int × Int)) : Out := ⟨.one (.c (.ptr 0 0)), [], [(0, [.d (.int .i64 r.1), .d (.int .i64 r.2.1), .d (.int .i64 r.2.2.1), .mref 1]), (1, [.mp .i64 .i64 r.2.2.2])], 2⟩
def f13_quota_New (all : Int) (each : Int) : Option (Int × Int × Int × List (Int × Int)) :=
  some ((if 1073741824 < (if all < 0 then 0 else all) then 1073741824 else (if all < 0 then 0 else all)), (if 1073741824 < (if each < 0 then 0 else each) then 1073741824 else (if each < 0 then 0 else each)), 0, [])
theorem f13_quota_New_ok (all : Int) (each : Int) (r : Int × Int × Int × List (Int × Int)) (h : f13_quota_New all each = some r) : FnOK Go.Proofs.Try.prog 13 (f13_quota_New_in all each) (f13_quota_New_out r) := by
  unfold f13_quota_New at h
  refine At.fn (r := 0) Go.Proofs.Try.func13 rfl (by kernel_rfl) rfl rfl (by kernel_rfl) ?_
  show At Go.Proofs.Try.prog Go.Proofs.Try.f13 0 0 ⟨[(0, .one (.c (.d (.int .i64 all)))), (1, .one (.c (.d (.int .i64 each))))], [], [], 0⟩ _
  refine At.step hm ht ⟨[], [], [], [0, 1], []⟩ 1 ⟨[(0, .one (.c (.d (.int .i64 all)))), (1, .one (.c (.d (.int .i64 each))))], [], [], 0⟩ [] (by kernel_rfl) trivial ?_
  have h := Option.some.inj h
  subst h
  exact At.fin hm ht ⟨[], [], [], [4], [8, 6]⟩ [] (by kernel_rfl) trivial
/-! (*brougham/quota.Pool).set -/
def f66_quota_Pool_set_in (owner : Int) (n_ : Int) (p_0 : Int) (p_1 : Int) (p_2 : Int) (b1_0 : List (Int × Int)) : Inn := ⟨[.c (.ptr 0 0), .c (.d (.int .i64 owner)), .c (.d (.int .i64 n_))], [], [(0, [.d (.int .i64 p_0), .d (.int .i64 p_1), .d (.int .i64 p_2), .mref 1]), (1, [.mp .i64 .i64 b1_0])], 2⟩
def f66_quota_Pool_set_out (r : Int × Int × Int × List (Int × Int)) : Out := ⟨.tup [], [], [(0, [.d (.int .i64 r.1), .d (.int .i64 r.2.1), .d (.int .i64 r.2.2.1), .mref 1]), (1, [.mp .i64 .i64 r.2.2.2])], 2⟩
def f66_quota_Pool_set (owner : Int) (n_ : Int) (p_0 : Int) (p_1 : Int) (p_2 : Int) (b1_0 : List (Int × Int)) : Option (Int × Int × Int × List (Int × Int)) :=
  if ((n_ : Int) == 0) = true then
    some (p_0, p_1, (IntKind.wrap .i64 (p_2 + (IntKind.wrap .i64 (n_ - (getM b1_0 owner))))), (delM b1_0 owner))
  else
    some (p_0, p_1, (IntKind.wrap .i64 (p_2 + (IntKind.wrap .i64 (n_ - (getM b1_0 owner))))), (setM b1_0 owner n_))
theorem f66_quota_Pool_set_ok (owner : Int) (n_ : Int) (p_0 : Int) (p_1 : Int) (p_2 : Int) (b1_0 : List (Int × Int)) (r : Int × Int × Int × List (Int × Int)) (h : f66_quota_Pool_set owner n_ p_0 p_1 p_2 b1_0 = some r) : FnOK Go.Proofs.Try.prog 66 (f66_quota_Pool_set_in owner n_ p_0 p_1 p_2 b1_0) (f66_quota_Pool_set_out r) := by
  unfold f66_quota_Pool_set at h
  refine At.fn (r := 0) Go.Proofs.Try.func66 rfl (by kernel_rfl) rfl rfl (by kernel_rfl) ?_
  show At Go.Proofs.Try.prog Go.Proofs.Try.f66 2 0 ⟨[(0, .one (.c (.ptr 0 0))), (1, .one (.c (.d (.int .i64 owner)))), (2, .one (.c (.d (.int .i64 n_))))], [], [(0, [.d (.int .i64 p_0), .d (.int .i64 p_1), .d (.int .i64 p_2), .mref 1]), (1, [.mp .i64 .i64 b1_0])], 2⟩ _
  refine At.step hm ht ⟨[], [], [], [0, 1, 2], [0, 1]⟩ 1 ⟨[(0, .one (.c (.ptr 0 0))), (1, .one (.c (.d (.int .i64 owner)))), (2, .one (.c (.d (.int .i64 n_))))], [], [(0, [.d (.int .i64 p_0), .d (.int .i64 p_1), .d (.int .i64 (IntKind.wrap .i64 (p_2 + (IntKind.wrap .i64 (n_ - (getM b1_0 owner)))))), .mref 1]), (1, [.mp .i64 .i64 b1_0])], 2⟩ [2 + 1 ≤ 4] (by kernel_rfl) ⟨(by decide), trivial⟩ ?_
  rcases iteS h with ⟨b24_e0, h⟩ | ⟨b24_e0, h⟩
  · refine At.step hm ht ⟨[], [true], [], [0, 1], [0, 1]⟩ 2 ⟨[(0, .one (.c (.ptr 0 0))), (1, .one (.c (.d (.int .i64 owner))))], [], [(0, [.d (.int .i64 p_0), .d (.int .i64 p_1), .d (.int .i64 (IntKind.wrap .i64 (p_2 + (IntKind.wrap .i64 (n_ - (getM b1_0 owner)))))), .mref 1]), (1, [.mp .i64 .i64 b1_0])], 2⟩ [((n_ : Int) == 0) = true] (by kernel_rfl) ⟨b24_e0, trivial⟩ ?_
    have h := Option.some.inj h
    subst h
    exact At.fin hm ht ⟨[], [], [], [], [0, 1]⟩ [] (by kernel_rfl) trivial
  · refine At.step hm ht ⟨[], [false], [], [0, 1, 2], [0, 1]⟩ 3 ⟨[(0, .one (.c (.ptr 0 0))), (1, .one (.c (.d (.int .i64 owner)))), (2, .one (.c (.d (.int .i64 n_))))], [], [(0, [.d (.int .i64 p_0), .d (.int .i64 p_1), .d (.int .i64 (IntKind.wrap .i64 (p_2 + (IntKind.wrap .i64 (n_ - (getM b1_0 owner)))))), .mref 1]), (1, [.mp .i64 .i64 b1_0])], 2⟩ [((n_ : Int) == 0) = false] (by kernel_rfl) ⟨b24_e0, trivial⟩ ?_
    have h := Option.some.inj h
    subst h
    exact At.fin hm ht ⟨[], [], [], [], [0, 1]⟩ [] (by kernel_rfl) trivial
/-! (*brougham/quota.Pool).Take -/
def f14_quota_Pool_Take_in (owner : Int) (n_ : Int) (p_0 : Int) (p_1 : Int) (p_2 : Int) (b1_0 : List (Int × Int)) : Inn := ⟨[.c (.ptr 0 0), .c (.d (.int .i64 owner)), .c (.d (.int .i64 n_))], [], [(0, [.d (.int .i64 p_0), .d (.int .i64 p_1), .d (.int .i64 p_2), .mref 1]), (1, [.mp .i64 .i64 b1_0])], 2⟩
def f14_quota_Pool_Take_out (r : Bool × Int × Int × Int × List (Int × Int)) : Out := ⟨.one (.c (.d (.bool r.1))), [], [(0, [.d (.int .i64 r.2.1), .d (.int .i64 r.2.2.1), .d (.int .i64 r.2.2.2.1), .mref 1]), (1, [.mp .i64 .i64 r.2.2.2.2])], 2⟩
def f14_quota_Pool_Take (owner : Int) (n_ : Int) (p_0 : Int) (p_1 : Int) (p_2 : Int) (b1_0 : List (Int × Int)) : Option (Bool × Int × Int × Int × List (Int × Int)) :=
  if (decide ((n_ : Int) < 0)) = true then
    some (false, p_0, p_1, p_2, b1_0)
  else
    if (decide ((n_ : Int) > (IntKind.wrap .i64 (p_1 - (getM b1_0 owner))))) = true then
      some (false, p_0, p_1, p_2, b1_0)
    else
      if (decide ((n_ : Int) > (IntKind.wrap .i64 (p_0 - p_2)))) = true then
        some (false, p_0, p_1, p_2, b1_0)
      else
        (f66_quota_Pool_set owner (IntKind.wrap .i64 ((getM b1_0 owner) + n_)) p_0 p_1 p_2 b1_0).bind fun r22_0 =>
        some (true, r22_0.1, r22_0.2.1, r22_0.2.2.1, r22_0.2.2.2)
theorem f14_quota_Pool_Take_ok (owner : Int) (n_ : Int) (p_0 : Int) (p_1 : Int) (p_2 : Int) (b1_0 : List (Int × Int)) (r : Bool × Int × Int × Int × List (Int × Int)) (h : f14_quota_Pool_Take owner n_ p_0 p_1 p_2 b1_0 = some r) : FnOK Go.Proofs.Try.prog 14 (f14_quota_Pool_Take_in owner n_ p_0 p_1 p_2 b1_0) (f14_quota_Pool_Take_out r) := by
  unfold f14_quota_Pool_Take at h
  refine At.fn (r := 0) Go.Proofs.Try.func14 rfl (by kernel_rfl) rfl rfl (by kernel_rfl) ?_
  show At Go.Proofs.Try.prog Go.Proofs.Try.f14 2 0 ⟨[(0, .one (.c (.ptr 0 0))), (1, .one (.c (.d (.int .i64 owner)))), (2, .one (.c (.d (.int .i64 n_))))], [], [(0, [.d (.int .i64 p_0), .d (.int .i64 p_1), .d (.int .i64 p_2), .mref 1]), (1, [.mp .i64 .i64 b1_0])], 2⟩ _
  refine At.step hm ht ⟨[], [], [], [0, 1, 2], [0, 1]⟩ 1 ⟨[(0, .one (.c (.ptr 0 0))), (1, .one (.c (.d (.int .i64 owner)))), (2, .one (.c (.d (.int .i64 n_))))], [], [(0, [.d (.int .i64 p_0), .d (.int .i64 p_1), .d (.int .i64 p_2), .mref 1]), (1, [.mp .i64 .i64 b1_0])], 2⟩ [] (by kernel_rfl) trivial ?_
  rcases iteS h with ⟨b18_2, h⟩ | ⟨b18_2, h⟩
  · refine At.step hm ht ⟨[(2, .b true)], [true], [], [], [0, 1]⟩ 2 ⟨[], [], [(0, [.d (.int .i64 p_0), .d (.int .i64 p_1), .d (.int .i64 p_2), .mref 1]), (1, [.mp .i64 .i64 b1_0])], 2⟩ [(decide ((n_ : Int) < 0)) = true, true = true] (by kernel_rfl) ⟨b18_2, rfl, trivial⟩ ?_
    have h := Option.some.inj h
    subst h
    exact At.fin hm ht ⟨[], [], [], [6], [0, 1]⟩ [] (by kernel_rfl) trivial
  · rcases iteS h with ⟨b18_17, h⟩ | ⟨b18_17, h⟩
    · refine At.step hm ht ⟨[(2, .b false), (17, .b true)], [true], [], [], [0, 1]⟩ 2 ⟨[], [], [(0, [.d (.int .i64 p_0), .d (.int .i64 p_1), .d (.int .i64 p_2), .mref 1]), (1, [.mp .i64 .i64 b1_0])], 2⟩ [(decide ((n_ : Int) < 0)) = false, (decide ((n_ : Int) > (IntKind.wrap .i64 (p_1 - (getM b1_0 owner))))) = true, true = true] (by kernel_rfl) ⟨b18_2, b18_17, rfl, trivial⟩ ?_
      have h := Option.some.inj h
      subst h
      exact At.fin hm ht ⟨[], [], [], [6], [0, 1]⟩ [] (by kernel_rfl) trivial
    · rcases iteS h with ⟨b18_e0, h⟩ | ⟨b18_e0, h⟩
      · refine At.step hm ht ⟨[(2, .b false), (17, .b false)], [true], [], [], [0, 1]⟩ 2 ⟨[], [], [(0, [.d (.int .i64 p_0), .d (.int .i64 p_1), .d (.int .i64 p_2), .mref 1]), (1, [.mp .i64 .i64 b1_0])], 2⟩ [(decide ((n_ : Int) < 0)) = false, (decide ((n_ : Int) > (IntKind.wrap .i64 (p_1 - (getM b1_0 owner))))) = false, (decide ((n_ : Int) > (IntKind.wrap .i64 (p_0 - p_2)))) = true] (by kernel_rfl) ⟨b18_2, b18_17, b18_e0, trivial⟩ ?_
        have h := Option.some.inj h
        subst h
        exact At.fin hm ht ⟨[], [], [], [6], [0, 1]⟩ [] (by kernel_rfl) trivial
      · refine At.step hm ht ⟨[(2, .b false), (17, .b false)], [false], [], [0, 1, 2], [0, 1]⟩ 3 ⟨[(0, .one (.c (.ptr 0 0))), (1, .one (.c (.d (.int .i64 owner)))), (2, .one (.c (.d (.int .i64 n_))))], [], [(0, [.d (.int .i64 p_0), .d (.int .i64 p_1), .d (.int .i64 p_2), .mref 1]), (1, [.mp .i64 .i64 b1_0])], 2⟩ [(decide ((n_ : Int) < 0)) = false, (decide ((n_ : Int) > (IntKind.wrap .i64 (p_1 - (getM b1_0 owner))))) = false, (decide ((n_ : Int) > (IntKind.wrap .i64 (p_0 - p_2)))) = false] (by kernel_rfl) ⟨b18_2, b18_17, b18_e0, trivial⟩ ?_
        obtain ⟨r22_0, cr22_0, h⟩ := bindS h
        refine At.step hm ht ⟨[(10, .call [0, 1] [] (f66_quota_Pool_set_out r22_0))], [], [], [], [0, 1]⟩ 4 ⟨[], [], [(0, [.d (.int .i64 r22_0.1), .d (.int .i64 r22_0.2.1), .d (.int .i64 r22_0.2.2.1), .mref 1]), (1, [.mp .i64 .i64 r22_0.2.2.2])], 2⟩ [FnOK Go.Proofs.Try.prog 66 (f66_quota_Pool_set_in owner (IntKind.wrap .i64 ((getM b1_0 owner) + n_)) p_0 p_1 p_2 b1_0) (f66_quota_Pool_set_out r22_0)] (by kernel_rfl) ⟨(f66_quota_Pool_set_ok owner (IntKind.wrap .i64 ((getM b1_0 owner) + n_)) p_0 p_1 p_2 b1_0 r22_0 cr22_0), trivial⟩ ?_
        have h := Option.some.inj h
        subst h
        exact At.fin hm ht ⟨[], [], [], [6], [0, 1]⟩ [] (by kernel_rfl) trivial
/-! (*brougham/quota.Pool).Of -/
def f15_quota_Pool_Of_in (owner : Int) (p_0 : Int) (p_1 : Int) (p_2 : Int) (b1_0 : List (Int × Int)) : Inn := ⟨[.c (.ptr 0 0), .c (.d (.int .i64 owner))], [], [(0, [.d (.int .i64 p_0), .d (.int .i64 p_1), .d (.int .i64 p_2), .mref 1]), (1, [.mp .i64 .i64 b1_0])], 2⟩
def f15_quota_Pool_Of_out (r : Int × Int × Int × Int × List (Int × Int)) : Out := ⟨.one (.c (.d (.int .i64 r.1))), [], [(0, [.d (.int .i64 r.2.1), .d (.int .i64 r.2.2.1), .d (.int .i64 r.2.2.2.1), .mref 1]), (1, [.mp .i64 .i64 r.2.2.2.2])], 2⟩
def f15_quota_Pool_Of (owner : Int) (p_0 : Int) (p_1 : Int) (p_2 : Int) (b1_0 : List (Int × Int)) : Option (Int × Int × Int × Int × List (Int × Int)) :=
  some ((getM b1_0 owner), p_0, p_1, p_2, b1_0)
theorem f15_quota_Pool_Of_ok (owner : Int) (p_0 : Int) (p_1 : Int) (p_2 : Int) (b1_0 : List (Int × Int)) (r : Int × Int × Int × Int × List (Int × Int)) (h : f15_quota_Pool_Of owner p_0 p_1 p_2 b1_0 = some r) : FnOK Go.Proofs.Try.prog 15 (f15_quota_Pool_Of_in owner p_0 p_1 p_2 b1_0) (f15_quota_Pool_Of_out r) := by
  unfold f15_quota_Pool_Of at h
  refine At.fn (r := 0) Go.Proofs.Try.func15 rfl (by kernel_rfl) rfl rfl (by kernel_rfl) ?_
  show At Go.Proofs.Try.prog Go.Proofs.Try.f15 2 0 ⟨[(0, .one (.c (.ptr 0 0))), (1, .one (.c (.d (.int .i64 owner))))], [], [(0, [.d (.int .i64 p_0), .d (.int .i64 p_1), .d (.int .i64 p_2), .mref 1]), (1, [.mp .i64 .i64 b1_0])], 2⟩ _
  refine At.step hm ht ⟨[], [], [], [0, 1], [0, 1]⟩ 1 ⟨[(0, .one (.c (.ptr 0 0))), (1, .one (.c (.d (.int .i64 owner))))], [], [(0, [.d (.int .i64 p_0), .d (.int .i64 p_1), .d (.int .i64 p_2), .mref 1]), (1, [.mp .i64 .i64 b1_0])], 2⟩ [] (by kernel_rfl) trivial ?_
  have h := Option.some.inj h
  subst h
  exact At.fin hm ht ⟨[], [], [], [4], [0, 1]⟩ [] (by kernel_rfl) trivial
/-! (*brougham/quota.Pool).Used -/
def f16_quota_Pool_Used_in (p_0 : Int) (p_1 : Int) (p_2 : Int) (b1_0 : List (Int × Int)) : Inn := ⟨[.c (.ptr 0 0)], [], [(0, [.d (.int .i64 p_0), .d (.int .i64 p_1), .d (.int .i64 p_2), .mref 1]), (1, [.mp .i64 .i64 b1_0])], 2⟩
def f16_quota_Pool_Used_out (r : Int × Int × Int × Int × List (Int × Int)) : Out := ⟨.one (.c (.d (.int .i64 r.1))), [], [(0, [.d (.int .i64 r.2.1), .d (.int .i64 r.2.2.1), .d (.int .i64 r.2.2.2.1), .mref 1]), (1, [.mp .i64 .i64 r.2.2.2.2])], 2⟩
def f16_quota_Pool_Used (p_0 : Int) (p_1 : Int) (p_2 : Int) (b1_0 : List (Int × Int)) : Option (Int × Int × Int × Int × List (Int × Int)) :=
  some (p_2, p_0, p_1, p_2, b1_0)
theorem f16_quota_Pool_Used_ok (p_0 : Int) (p_1 : Int) (p_2 : Int) (b1_0 : List (Int × Int)) (r : Int × Int × Int × Int × List (Int × Int)) (h : f16_quota_Pool_Used p_0 p_1 p_2 b1_0 = some r) : FnOK Go.Proofs.Try.prog 16 (f16_quota_Pool_Used_in p_0 p_1 p_2 b1_0) (f16_quota_Pool_Used_out r) := by
  unfold f16_quota_Pool_Used at h
  refine At.fn (r := 0) Go.Proofs.Try.func16 rfl (by kernel_rfl) rfl rfl (by kernel_rfl) ?_
  show At Go.Proofs.Try.prog Go.Proofs.Try.f16 2 0 ⟨[(0, .one (.c (.ptr 0 0)))], [], [(0, [.d (.int .i64 p_0), .d (.int .i64 p_1), .d (.int .i64 p_2), .mref 1]), (1, [.mp .i64 .i64 b1_0])], 2⟩ _
  refine At.step hm ht ⟨[], [], [], [0], [0, 1]⟩ 1 ⟨[(0, .one (.c (.ptr 0 0)))], [], [(0, [.d (.int .i64 p_0), .d (.int .i64 p_1), .d (.int .i64 p_2), .mref 1]), (1, [.mp .i64 .i64 b1_0])], 2⟩ [] (by kernel_rfl) trivial ?_
  have h := Option.some.inj h
  subst h
  exact At.fin hm ht ⟨[], [], [], [2], [0, 1]⟩ [] (by kernel_rfl) trivial
/-! (*brougham/quota.Pool).Give -/
def f31_quota_Pool_Give_in (owner : Int) (n_ : Int) (p_0 : Int) (p_1 : Int) (p_2 : Int) (b1_0 : List (Int × Int)) : Inn := ⟨[.c (.ptr 0 0), .c (.d (.int .i64 owner)), .c (.d (.int .i64 n_))], [], [(0, [.d (.int .i64 p_0), .d (.int .i64 p_1), .d (.int .i64 p_2), .mref 1]), (1, [.mp .i64 .i64 b1_0])], 2⟩
def f31_quota_Pool_Give_out (r : Int × Int × Int × Int × List (Int × Int)) : Out := ⟨.one (.c (.d (.int .i64 r.1))), [], [(0, [.d (.int .i64 r.2.1), .d (.int .i64 r.2.2.1), .d (.int .i64 r.2.2.2.1), .mref 1]), (1, [.mp .i64 .i64 r.2.2.2.2])], 2⟩
def f31_quota_Pool_Give (owner : Int) (n_ : Int) (p_0 : Int) (p_1 : Int) (p_2 : Int) (b1_0 : List (Int × Int)) : Option (Int × Int × Int × Int × List (Int × Int)) :=
  (f66_quota_Pool_set owner (IntKind.wrap .i64 ((getM b1_0 owner) - (if (getM b1_0 owner) < (if n_ < 0 then 0 else n_) then (getM b1_0 owner) else (if n_ < 0 then 0 else n_)))) p_0 p_1 p_2 b1_0).bind fun r57_0 =>
  some ((if (getM b1_0 owner) < (if n_ < 0 then 0 else n_) then (getM b1_0 owner) else (if n_ < 0 then 0 else n_)), r57_0.1, r57_0.2.1, r57_0.2.2.1, r57_0.2.2.2)
theorem f31_quota_Pool_Give_ok (owner : Int) (n_ : Int) (p_0 : Int) (p_1 : Int) (p_2 : Int) (b1_0 : List (Int × Int)) (r : Int × Int × Int × Int × List (Int × Int)) (h : f31_quota_Pool_Give owner n_ p_0 p_1 p_2 b1_0 = some r) : FnOK Go.Proofs.Try.prog 31 (f31_quota_Pool_Give_in owner n_ p_0 p_1 p_2 b1_0) (f31_quota_Pool_Give_out r) := by
  unfold f31_quota_Pool_Give at h
  refine At.fn (r := 0) Go.Proofs.Try.func31 rfl (by kernel_rfl) rfl rfl (by kernel_rfl) ?_
  show At Go.Proofs.Try.prog Go.Proofs.Try.f31 2 0 ⟨[(0, .one (.c (.ptr 0 0))), (1, .one (.c (.d (.int .i64 owner)))), (2, .one (.c (.d (.int .i64 n_))))], [], [(0, [.d (.int .i64 p_0), .d (.int .i64 p_1), .d (.int .i64 p_2), .mref 1]), (1, [.mp .i64 .i64 b1_0])], 2⟩ _
  refine At.step hm ht ⟨[], [], [], [0, 1, 2], [0, 1]⟩ 1 ⟨[(0, .one (.c (.ptr 0 0))), (1, .one (.c (.d (.int .i64 owner)))), (2, .one (.c (.d (.int .i64 n_))))], [], [(0, [.d (.int .i64 p_0), .d (.int .i64 p_1), .d (.int .i64 p_2), .mref 1]), (1, [.mp .i64 .i64 b1_0])], 2⟩ [] (by kernel_rfl) trivial ?_
  refine At.step hm ht ⟨[], [], [], [0, 1, 2], [0, 1]⟩ 2 ⟨[(0, .one (.c (.ptr 0 0))), (1, .one (.c (.d (.int .i64 owner)))), (2, .one (.c (.d (.int .i64 (if (getM b1_0 owner) < (if n_ < 0 then 0 else n_) then (getM b1_0 owner) else (if n_ < 0 then 0 else n_))))))], [], [(0, [.d (.int .i64 p_0), .d (.int .i64 p_1), .d (.int .i64 p_2), .mref 1]), (1, [.mp .i64 .i64 b1_0])], 2⟩ [] (by kernel_rfl) trivial ?_
  obtain ⟨r57_0, cr57_0, h⟩ := bindS h
  refine At.step hm ht ⟨[(10, .call [0, 1] [] (f66_quota_Pool_set_out r57_0))], [], [], [2], [0, 1]⟩ 3 ⟨[(2, .one (.c (.d (.int .i64 (if (getM b1_0 owner) < (if n_ < 0 then 0 else n_) then (getM b1_0 owner) else (if n_ < 0 then 0 else n_))))))], [], [(0, [.d (.int .i64 r57_0.1), .d (.int .i64 r57_0.2.1), .d (.int .i64 r57_0.2.2.1), .mref 1]), (1, [.mp .i64 .i64 r57_0.2.2.2])], 2⟩ [FnOK Go.Proofs.Try.prog 66 (f66_quota_Pool_set_in owner (IntKind.wrap .i64 ((getM b1_0 owner) - (if (getM b1_0 owner) < (if n_ < 0 then 0 else n_) then (getM b1_0 owner) else (if n_ < 0 then 0 else n_)))) p_0 p_1 p_2 b1_0) (f66_quota_Pool_set_out r57_0)] (by kernel_rfl) ⟨(f66_quota_Pool_set_ok owner (IntKind.wrap .i64 ((getM b1_0 owner) - (if (getM b1_0 owner) < (if n_ < 0 then 0 else n_) then (getM b1_0 owner) else (if n_ < 0 then 0 else n_)))) p_0 p_1 p_2 b1_0 r57_0 cr57_0), trivial⟩ ?_
  have h := Option.some.inj h
  subst h
  exact At.fin hm ht ⟨[], [], [], [6], [0, 1]⟩ [] (by kernel_rfl) trivial
/-! (*brougham/quota.Pool).Drop -/
def f17_quota_Pool_Drop_in (owner : Int) (p_0 : Int) (p_1 : Int) (p_2 : Int) (b1_0 : List (Int × Int)) : Inn := ⟨[.c (.ptr 0 0), .c (.d (.int .i64 owner))], [], [(0, [.d (.int .i64 p_0), .d (.int .i64 p_1), .d (.int .i64 p_2), .mref 1]), (1, [.mp .i64 .i64 b1_0])], 2⟩
def f17_quota_Pool_Drop_out (r : Int × Int × Int × Int × List (Int × Int)) : Out := ⟨.one (.c (.d (.int .i64 r.1))), [], [(0, [.d (.int .i64 r.2.1), .d (.int .i64 r.2.2.1), .d (.int .i64 r.2.2.2.1), .mref 1]), (1, [.mp .i64 .i64 r.2.2.2.2])], 2⟩
def f17_quota_Pool_Drop (owner : Int) (p_0 : Int) (p_1 : Int) (p_2 : Int) (b1_0 : List (Int × Int)) : Option (Int × Int × Int × Int × List (Int × Int)) :=
  (f31_quota_Pool_Give owner (getM b1_0 owner) p_0 p_1 p_2 b1_0).bind fun r54_0 =>
  some (r54_0.1, r54_0.2.1, r54_0.2.2.1, r54_0.2.2.2.1, r54_0.2.2.2.2)
theorem f17_quota_Pool_Drop_ok (owner : Int) (p_0 : Int) (p_1 : Int) (p_2 : Int) (b1_0 : List (Int × Int)) (r : Int × Int × Int × Int × List (Int × Int)) (h : f17_quota_Pool_Drop owner p_0 p_1 p_2 b1_0 = some r) : FnOK Go.Proofs.Try.prog 17 (f17_quota_Pool_Drop_in owner p_0 p_1 p_2 b1_0) (f17_quota_Pool_Drop_out r) := by
  unfold f17_quota_Pool_Drop at h
  refine At.fn (r := 0) Go.Proofs.Try.func17 rfl (by kernel_rfl) rfl rfl (by kernel_rfl) ?_
  show At Go.Proofs.Try.prog Go.Proofs.Try.f17 2 0 ⟨[(0, .one (.c (.ptr 0 0))), (1, .one (.c (.d (.int .i64 owner))))], [], [(0, [.d (.int .i64 p_0), .d (.int .i64 p_1), .d (.int .i64 p_2), .mref 1]), (1, [.mp .i64 .i64 b1_0])], 2⟩ _
  refine At.step hm ht ⟨[], [], [], [0, 1], [0, 1]⟩ 1 ⟨[(0, .one (.c (.ptr 0 0))), (1, .one (.c (.d (.int .i64 owner))))], [], [(0, [.d (.int .i64 p_0), .d (.int .i64 p_1), .d (.int .i64 p_2), .mref 1]), (1, [.mp .i64 .i64 b1_0])], 2⟩ [] (by kernel_rfl) trivial ?_
  obtain ⟨r54_0, cr54_0, h⟩ := bindS h
  have h := Option.some.inj h
  subst h
  exact At.fin hm ht ⟨[(8, .call [0, 1] [] (f31_quota_Pool_Give_out r54_0))], [], [], [4], [0, 1]⟩ [FnOK Go.Proofs.Try.prog 31 (f31_quota_Pool_Give_in owner (getM b1_0 owner) p_0 p_1 p_2 b1_0) (f31_quota_Pool_Give_out r54_0)] (by kernel_rfl) ⟨(f31_quota_Pool_Give_ok owner (getM b1_0 owner) p_0 p_1 p_2 b1_0 r54_0 cr54_0), trivial⟩
/-! (*brougham/quota.Pool).Fair -/
def f18_quota_Pool_Fair_in (owners : Int) (p_0 : Int) (p_1 : Int) (p_2 : Int) (b1_0 : List (Int × Int)) : Inn := ⟨[.c (.ptr 0 0), .c (.d (.int .i64 owners))], [], [(0, [.d (.int .i64 p_0), .d (.int .i64 p_1), .d (.int .i64 p_2), .mref 1]), (1, [.mp .i64 .i64 b1_0])], 2⟩
def f18_quota_Pool_Fair_out (r : Int × Int × Int × Int × List (Int × Int)) : Out := ⟨.one (.c (.d (.int .i64 r.1))), [], [(0, [.d (.int .i64 r.2.1), .d (.int .i64 r.2.2.1), .d (.int .i64 r.2.2.2.1), .mref 1]), (1, [.mp .i64 .i64 r.2.2.2.2])], 2⟩
def f18_quota_Pool_Fair (owners : Int) (p_0 : Int) (p_1 : Int) (p_2 : Int) (b1_0 : List (Int × Int)) : Option (Int × Int × Int × Int × List (Int × Int)) :=
  if (decide ((owners : Int) < 1)) = true then
    some (0, p_0, p_1, p_2, b1_0)
  else
    if (owners : Int) ≠ 0 then
    some ((if (IntKind.wrap .i64 (Int.tdiv p_0 owners)) < p_1 then (IntKind.wrap .i64 (Int.tdiv p_0 owners)) else p_1), p_0, p_1, p_2, b1_0)
    else none
theorem f18_quota_Pool_Fair_ok (owners : Int) (p_0 : Int) (p_1 : Int) (p_2 : Int) (b1_0 : List (Int × Int)) (r : Int × Int × Int × Int × List (Int × Int)) (h : f18_quota_Pool_Fair owners p_0 p_1 p_2 b1_0 = some r) : FnOK Go.Proofs.Try.prog 18 (f18_quota_Pool_Fair_in owners p_0 p_1 p_2 b1_0) (f18_quota_Pool_Fair_out r) := by
  unfold f18_quota_Pool_Fair at h
  refine At.fn (r := 0) Go.Proofs.Try.func18 rfl (by kernel_rfl) rfl rfl (by kernel_rfl) ?_
  show At Go.Proofs.Try.prog Go.Proofs.Try.f18 2 0 ⟨[(0, .one (.c (.ptr 0 0))), (1, .one (.c (.d (.int .i64 owners))))], [], [(0, [.d (.int .i64 p_0), .d (.int .i64 p_1), .d (.int .i64 p_2), .mref 1]), (1, [.mp .i64 .i64 b1_0])], 2⟩ _
  refine At.step hm ht ⟨[], [], [], [0, 1], [0, 1]⟩ 1 ⟨[(0, .one (.c (.ptr 0 0))), (1, .one (.c (.d (.int .i64 owners))))], [], [(0, [.d (.int .i64 p_0), .d (.int .i64 p_1), .d (.int .i64 p_2), .mref 1]), (1, [.mp .i64 .i64 b1_0])], 2⟩ [] (by kernel_rfl) trivial ?_
  rcases iteS h with ⟨b66_e0, h⟩ | ⟨b66_e0, h⟩
  · refine At.step hm ht ⟨[], [true], [], [], [0, 1]⟩ 2 ⟨[], [], [(0, [.d (.int .i64 p_0), .d (.int .i64 p_1), .d (.int .i64 p_2), .mref 1]), (1, [.mp .i64 .i64 b1_0])], 2⟩ [(decide ((owners : Int) < 1)) = true] (by kernel_rfl) ⟨b66_e0, trivial⟩ ?_
    have h := Option.some.inj h
    subst h
    exact At.fin hm ht ⟨[], [], [], [4], [0, 1]⟩ [] (by kernel_rfl) trivial
  · refine At.step hm ht ⟨[], [false], [], [0, 1], [0, 1]⟩ 3 ⟨[(0, .one (.c (.ptr 0 0))), (1, .one (.c (.d (.int .i64 owners))))], [], [(0, [.d (.int .i64 p_0), .d (.int .i64 p_1), .d (.int .i64 p_2), .mref 1]), (1, [.mp .i64 .i64 b1_0])], 2⟩ [(decide ((owners : Int) < 1)) = false] (by kernel_rfl) ⟨b66_e0, trivial⟩ ?_
    obtain ⟨g68_0, h⟩ := ifS h
    have h := Option.some.inj h
    subst h
    exact At.fin hm ht ⟨[], [], [], [4], [0, 1]⟩ [(owners : Int) ≠ 0] (by kernel_rfl) ⟨g68_0, trivial⟩
/-! (*brougham/quota.Pool).Owners -/
def f37_quota_Pool_Owners_in (p_0 : Int) (p_1 : Int) (p_2 : Int) (b1_0 : List (Int × Int)) : Inn := ⟨[.c (.ptr 0 0)], [], [(0, [.d (.int .i64 p_0), .d (.int .i64 p_1), .d (.int .i64 p_2), .mref 1]), (1, [.mp .i64 .i64 b1_0])], 2⟩
def f37_quota_Pool_Owners_out (r : Int × Int × Int × Int × List (Int × Int)) : Out := ⟨.one (.c (.d (.int .i64 r.1))), [], [(0, [.d (.int .i64 r.2.1), .d (.int .i64 r.2.2.1), .d (.int .i64 r.2.2.2.1), .mref 1]), (1, [.mp .i64 .i64 r.2.2.2.2])], 2⟩
def f37_quota_Pool_Owners (p_0 : Int) (p_1 : Int) (p_2 : Int) (b1_0 : List (Int × Int)) : Option (Int × Int × Int × Int × List (Int × Int)) :=
  some (((b1_0.length : Nat) : Int), p_0, p_1, p_2, b1_0)
theorem f37_quota_Pool_Owners_ok (p_0 : Int) (p_1 : Int) (p_2 : Int) (b1_0 : List (Int × Int)) (r : Int × Int × Int × Int × List (Int × Int)) (h : f37_quota_Pool_Owners p_0 p_1 p_2 b1_0 = some r) : FnOK Go.Proofs.Try.prog 37 (f37_quota_Pool_Owners_in p_0 p_1 p_2 b1_0) (f37_quota_Pool_Owners_out r) := by
  unfold f37_quota_Pool_Owners at h
  refine At.fn (r := 0) Go.Proofs.Try.func37 rfl (by kernel_rfl) rfl rfl (by kernel_rfl) ?_
  show At Go.Proofs.Try.prog Go.Proofs.Try.f37 2 0 ⟨[(0, .one (.c (.ptr 0 0)))], [], [(0, [.d (.int .i64 p_0), .d (.int .i64 p_1), .d (.int .i64 p_2), .mref 1]), (1, [.mp .i64 .i64 b1_0])], 2⟩ _
  refine At.step hm ht ⟨[], [], [], [0], [0, 1]⟩ 1 ⟨[(0, .one (.c (.ptr 0 0)))], [], [(0, [.d (.int .i64 p_0), .d (.int .i64 p_1), .d (.int .i64 p_2), .mref 1]), (1, [.mp .i64 .i64 b1_0])], 2⟩ [] (by kernel_rfl) trivial ?_
  have h := Option.some.inj h
  subst h
  exact At.fin hm ht ⟨[], [], [], [2], [0, 1]⟩ [] (by kernel_rfl) trivial
/-! brougham/broughamlaw39.alive -/
def f19_broughamlaw39_alive_in : Inn := ⟨[], [], [], 0⟩
def f19_broughamlaw39_alive_out (r : Bool) : Out := ⟨.one (.c (.d (.bool r))), [], [], 0⟩
def f19_broughamlaw39_alive : Option (Bool) :=
  (f13_quota_New 10 6).bind fun r76_0 =>
  (f14_quota_Pool_Take 1 6 r76_0.1 r76_0.2.1 r76_0.2.2.1 r76_0.2.2.2).bind fun r78_0 =>
  (f14_quota_Pool_Take 2 5 r78_0.2.1 r78_0.2.2.1 r78_0.2.2.2.1 r78_0.2.2.2.2).bind fun r78_1 =>
  (f14_quota_Pool_Take 2 4 r78_1.2.1 r78_1.2.2.1 r78_1.2.2.2.1 r78_1.2.2.2.2).bind fun r78_2 =>
  if r78_0.1 = true then
    if (!r78_1.1) = true then
      if r78_2.1 = true then
        (f16_quota_Pool_Used r78_2.2.1 r78_2.2.2.1 r78_2.2.2.2.1 r78_2.2.2.2.2).bind fun r79_0 =>
        if ((r79_0.1 : Int) == 10) = true then
          (f37_quota_Pool_Owners r79_0.2.1 r79_0.2.2.1 r79_0.2.2.2.1 r79_0.2.2.2.2).bind fun r79_1 =>
          if ((r79_1.1 : Int) == 2) = true then
            (f18_quota_Pool_Fair 3 r79_1.2.1 r79_1.2.2.1 r79_1.2.2.2.1 r79_1.2.2.2.2).bind fun r79_2 =>
            some ((r79_2.1 : Int) == 3)
          else
            some false
        else
          some false
      else
        some false
    else
      some false
  else
    some false
theorem f19_broughamlaw39_alive_ok (r : Bool) (h : f19_broughamlaw39_alive = some r) : FnOK Go.Proofs.Try.prog 19 (f19_broughamlaw39_alive_in) (f19_broughamlaw39_alive_out r) := by
  unfold f19_broughamlaw39_alive at h
  refine At.fn (r := 0) Go.Proofs.Try.func19 rfl (by kernel_rfl) rfl rfl (by kernel_rfl) ?_
  show At Go.Proofs.Try.prog Go.Proofs.Try.f19 0 0 ⟨[], [], [], 0⟩ _
  refine At.step hm ht ⟨[], [], [], [], []⟩ 1 ⟨[], [], [], 0⟩ [] (by kernel_rfl) trivial ?_
  obtain ⟨r76_0, cr76_0, h⟩ := bindS h
  refine At.step hm ht ⟨[(0, .call [] [] (f13_quota_New_out r76_0))], [], [], [1], [0, 1]⟩ 2 ⟨[(1, .one (.c (.ptr 0 0)))], [], [(0, [.d (.int .i64 r76_0.1), .d (.int .i64 r76_0.2.1), .d (.int .i64 r76_0.2.2.1), .mref 1]), (1, [.mp .i64 .i64 r76_0.2.2.2])], 2⟩ [FnOK Go.Proofs.Try.prog 13 (f13_quota_New_in 10 6) (f13_quota_New_out r76_0)] (by kernel_rfl) ⟨(f13_quota_New_ok 10 6 r76_0 cr76_0), trivial⟩ ?_
  refine At.step hm ht ⟨[], [false], [], [1], [0, 1]⟩ 4 ⟨[(1, .one (.c (.ptr 0 0)))], [], [(0, [.d (.int .i64 r76_0.1), .d (.int .i64 r76_0.2.1), .d (.int .i64 r76_0.2.2.1), .mref 1]), (1, [.mp .i64 .i64 r76_0.2.2.2])], 2⟩ [false = false] (by kernel_rfl) ⟨rfl, trivial⟩ ?_
  obtain ⟨r78_0, cr78_0, h⟩ := bindS h
  obtain ⟨r78_1, cr78_1, h⟩ := bindS h
  obtain ⟨r78_2, cr78_2, h⟩ := bindS h
  refine At.step hm ht ⟨[(1, .call [0, 1] [] (f14_quota_Pool_Take_out r78_0)), (3, .call [0, 1] [] (f14_quota_Pool_Take_out r78_1)), (5, .call [0, 1] [] (f14_quota_Pool_Take_out r78_2))], [], [], [1, 2, 3, 4], [0, 1]⟩ 5 ⟨[(1, .one (.c (.ptr 0 0))), (2, .one (.c (.d (.bool r78_0.1)))), (3, .one (.c (.d (.bool r78_1.1)))), (4, .one (.c (.d (.bool r78_2.1))))], [], [(0, [.d (.int .i64 r78_2.2.1), .d (.int .i64 r78_2.2.2.1), .d (.int .i64 r78_2.2.2.2.1), .mref 1]), (1, [.mp .i64 .i64 r78_2.2.2.2.2])], 2⟩ [FnOK Go.Proofs.Try.prog 14 (f14_quota_Pool_Take_in 1 6 r76_0.1 r76_0.2.1 r76_0.2.2.1 r76_0.2.2.2) (f14_quota_Pool_Take_out r78_0), FnOK Go.Proofs.Try.prog 14 (f14_quota_Pool_Take_in 2 5 r78_0.2.1 r78_0.2.2.1 r78_0.2.2.2.1 r78_0.2.2.2.2) (f14_quota_Pool_Take_out r78_1), FnOK Go.Proofs.Try.prog 14 (f14_quota_Pool_Take_in 2 4 r78_1.2.1 r78_1.2.2.1 r78_1.2.2.2.1 r78_1.2.2.2.2) (f14_quota_Pool_Take_out r78_2)] (by kernel_rfl) ⟨(f14_quota_Pool_Take_ok 1 6 r76_0.1 r76_0.2.1 r76_0.2.2.1 r76_0.2.2.2 r78_0 cr78_0), (f14_quota_Pool_Take_ok 2 5 r78_0.2.1 r78_0.2.2.1 r78_0.2.2.2.1 r78_0.2.2.2.2 r78_1 cr78_1), (f14_quota_Pool_Take_ok 2 4 r78_1.2.1 r78_1.2.2.1 r78_1.2.2.2.1 r78_1.2.2.2.2 r78_2 cr78_2), trivial⟩ ?_
  rcases iteS h with ⟨b79_1, h⟩ | ⟨b79_1, h⟩
  · rcases iteS h with ⟨b79_5, h⟩ | ⟨b79_5, h⟩
    · rcases iteS h with ⟨b79_8, h⟩ | ⟨b79_8, h⟩
      · obtain ⟨r79_0, cr79_0, h⟩ := bindS h
        rcases iteS h with ⟨b79_13, h⟩ | ⟨b79_13, h⟩
        · obtain ⟨r79_1, cr79_1, h⟩ := bindS h
          rcases iteS h with ⟨b79_18, h⟩ | ⟨b79_18, h⟩
          · obtain ⟨r79_2, cr79_2, h⟩ := bindS h
            have h := Option.some.inj h
            subst h
            exact At.fin hm ht ⟨[(1, .b true), (5, .b true), (8, .b true), (10, .call [0, 1] [] (f16_quota_Pool_Used_out r79_0)), (13, .b true), (15, .call [0, 1] [] (f37_quota_Pool_Owners_out r79_1)), (18, .b true), (20, .call [0, 1] [] (f18_quota_Pool_Fair_out r79_2))], [], [], [0], []⟩ [r78_0.1 = true, (!r78_1.1) = true, r78_2.1 = true, FnOK Go.Proofs.Try.prog 16 (f16_quota_Pool_Used_in r78_2.2.1 r78_2.2.2.1 r78_2.2.2.2.1 r78_2.2.2.2.2) (f16_quota_Pool_Used_out r79_0), ((r79_0.1 : Int) == 10) = true, FnOK Go.Proofs.Try.prog 37 (f37_quota_Pool_Owners_in r79_0.2.1 r79_0.2.2.1 r79_0.2.2.2.1 r79_0.2.2.2.2) (f37_quota_Pool_Owners_out r79_1), ((r79_1.1 : Int) == 2) = true, FnOK Go.Proofs.Try.prog 18 (f18_quota_Pool_Fair_in 3 r79_1.2.1 r79_1.2.2.1 r79_1.2.2.2.1 r79_1.2.2.2.2) (f18_quota_Pool_Fair_out r79_2)] (by kernel_rfl) ⟨b79_1, b79_5, b79_8, (f16_quota_Pool_Used_ok r78_2.2.1 r78_2.2.2.1 r78_2.2.2.2.1 r78_2.2.2.2.2 r79_0 cr79_0), b79_13, (f37_quota_Pool_Owners_ok r79_0.2.1 r79_0.2.2.1 r79_0.2.2.2.1 r79_0.2.2.2.2 r79_1 cr79_1), b79_18, (f18_quota_Pool_Fair_ok 3 r79_1.2.1 r79_1.2.2.1 r79_1.2.2.2.1 r79_1.2.2.2.2 r79_2 cr79_2), trivial⟩
          · have h := Option.some.inj h
            subst h
            exact At.fin hm ht ⟨[(1, .b true), (5, .b true), (8, .b true), (10, .call [0, 1] [] (f16_quota_Pool_Used_out r79_0)), (13, .b true), (15, .call [0, 1] [] (f37_quota_Pool_Owners_out r79_1)), (18, .b false)], [], [], [0], []⟩ [r78_0.1 = true, (!r78_1.1) = true, r78_2.1 = true, FnOK Go.Proofs.Try.prog 16 (f16_quota_Pool_Used_in r78_2.2.1 r78_2.2.2.1 r78_2.2.2.2.1 r78_2.2.2.2.2) (f16_quota_Pool_Used_out r79_0), ((r79_0.1 : Int) == 10) = true, FnOK Go.Proofs.Try.prog 37 (f37_quota_Pool_Owners_in r79_0.2.1 r79_0.2.2.1 r79_0.2.2.2.1 r79_0.2.2.2.2) (f37_quota_Pool_Owners_out r79_1), ((r79_1.1 : Int) == 2) = false] (by kernel_rfl) ⟨b79_1, b79_5, b79_8, (f16_quota_Pool_Used_ok r78_2.2.1 r78_2.2.2.1 r78_2.2.2.2.1 r78_2.2.2.2.2 r79_0 cr79_0), b79_13, (f37_quota_Pool_Owners_ok r79_0.2.1 r79_0.2.2.1 r79_0.2.2.2.1 r79_0.2.2.2.2 r79_1 cr79_1), b79_18, trivial⟩
        · have h := Option.some.inj h
          subst h
          exact At.fin hm ht ⟨[(1, .b true), (5, .b true), (8, .b true), (10, .call [0, 1] [] (f16_quota_Pool_Used_out r79_0)), (13, .b false)], [], [], [0], []⟩ [r78_0.1 = true, (!r78_1.1) = true, r78_2.1 = true, FnOK Go.Proofs.Try.prog 16 (f16_quota_Pool_Used_in r78_2.2.1 r78_2.2.2.1 r78_2.2.2.2.1 r78_2.2.2.2.2) (f16_quota_Pool_Used_out r79_0), ((r79_0.1 : Int) == 10) = false] (by kernel_rfl) ⟨b79_1, b79_5, b79_8, (f16_quota_Pool_Used_ok r78_2.2.1 r78_2.2.2.1 r78_2.2.2.2.1 r78_2.2.2.2.2 r79_0 cr79_0), b79_13, trivial⟩
      · have h := Option.some.inj h
        subst h
        exact At.fin hm ht ⟨[(1, .b true), (5, .b true), (8, .b false)], [], [], [0], []⟩ [r78_0.1 = true, (!r78_1.1) = true, r78_2.1 = false] (by kernel_rfl) ⟨b79_1, b79_5, b79_8, trivial⟩
    · have h := Option.some.inj h
      subst h
      exact At.fin hm ht ⟨[(1, .b true), (5, .b false)], [], [], [0], []⟩ [r78_0.1 = true, (!r78_1.1) = false] (by kernel_rfl) ⟨b79_1, b79_5, trivial⟩
  · have h := Option.some.inj h
    subst h
    exact At.fin hm ht ⟨[(1, .b false)], [], [], [0], []⟩ [r78_0.1 = false] (by kernel_rfl) ⟨b79_1, trivial⟩
/-! brougham/broughamlaw39.QuotaBounds -/
def f3_broughamlaw39_QuotaBounds_in (all : Int) (each : Int) (x_0 : Int) (x_1 : List (Int × Int × Int × Int)) : Inn := ⟨[.c (.d (.int .i64 all)), .c (.d (.int .i64 each)), .agg [.d (.int .i64 x_0), .d (.sl (.pair (.int .i64) (.pair (.int .i64) (.pair (.int .i64) (.int .i64)))) x_1)]], [], [], 0⟩
def f3_broughamlaw39_QuotaBounds_out (r : Bool) : Out := ⟨.one (.c (.d (.bool r))), [], [], 0⟩
def f3_broughamlaw39_QuotaBounds_L12 : Nat → Int → Int → Int → Int → Int → Int → (List (Int × Int × Int × Int)) → Int → Int → Int → (List (Int × Int)) → Option ((Bool) ⊕ (Int × Int × Int × Int × Int × (List (Int × Int × Int × Int)) × Int × Int × Int × List (Int × Int)))
  | 0, _, _, _, _, _, _, _, _, _, _, _ => none
  | n + 1, all, each, i, sum, o_, x_0, x_1, p_0, p_1, p_2, b2_0 =>
    if (decide ((o_ : Int) < x_0)) = true then
      (f15_quota_Pool_Of o_ p_0 p_1 p_2 b2_0).bind fun r31_0 =>
      if (decide ((r31_0.1 : Int) > each)) = true then
        some (.inl false)
      else
        (f15_quota_Pool_Of o_ r31_0.2.1 r31_0.2.2.1 r31_0.2.2.2.1 r31_0.2.2.2.2).bind fun r31_1 =>
        if (decide ((r31_1.1 : Int) < 0)) = true then
          some (.inl false)
        else
          (f15_quota_Pool_Of o_ r31_1.2.1 r31_1.2.2.1 r31_1.2.2.2.1 r31_1.2.2.2.2).bind fun r36_0 =>
          f3_broughamlaw39_QuotaBounds_L12 n all each i (IntKind.wrap .i64 (sum + r36_0.1)) (IntKind.wrap .i64 (o_ + 1)) x_0 x_1 r36_0.2.1 r36_0.2.2.1 r36_0.2.2.2.1 r36_0.2.2.2.2
    else
      some (.inr ((all, each, i, sum, x_0, x_1, p_0, p_1, p_2, b2_0)))
def f3_broughamlaw39_QuotaBounds_L12_k (w : (Bool) ⊕ (Int × Int × Int × Int × Int × (List (Int × Int × Int × Int)) × Int × Int × Int × List (Int × Int))) (o : Out) : Prop := match w with
  | .inl e => o = f3_broughamlaw39_QuotaBounds_out e
  | .inr e => At Go.Proofs.Try.prog Go.Proofs.Try.f3 0 17 ⟨[(0, .one (.c (.d (.int .i64 e.1)))), (1, .one (.c (.d (.int .i64 e.2.1)))), (5, .one (.c (.ptr 0 0))), (7, .one (.c (.ptr 1 0))), (8, .one (.c (.d (.int .i64 e.2.2.1)))), (9, .one (.c (.d (.int .i64 e.2.2.2.1))))], [], [(0, [.d (.int .i64 e.2.2.2.2.1), .d (.sl (.pair (.int .i64) (.pair (.int .i64) (.pair (.int .i64) (.int .i64)))) e.2.2.2.2.2.1)]), (1, [.d (.int .i64 e.2.2.2.2.2.2.1), .d (.int .i64 e.2.2.2.2.2.2.2.1), .d (.int .i64 e.2.2.2.2.2.2.2.2.1), .mref 2]), (2, [.mp .i64 .i64 e.2.2.2.2.2.2.2.2.2])], 3⟩ o
theorem f3_broughamlaw39_QuotaBounds_L12_ok (n : Nat) : ∀ (all : Int) (each : Int) (i : Int) (sum : Int) (o_ : Int) (x_0 : Int) (x_1 : List (Int × Int × Int × Int)) (p_0 : Int) (p_1 : Int) (p_2 : Int) (b2_0 : List (Int × Int)) (w : (Bool) ⊕ (Int × Int × Int × Int × Int × (List (Int × Int × Int × Int)) × Int × Int × Int × List (Int × Int))) (h : f3_broughamlaw39_QuotaBounds_L12 n all each i sum o_ x_0 x_1 p_0 p_1 p_2 b2_0 = some w) (o : Out) (hk : f3_broughamlaw39_QuotaBounds_L12_k w o), At Go.Proofs.Try.prog Go.Proofs.Try.f3 0 12 ⟨[(0, .one (.c (.d (.int .i64 all)))), (1, .one (.c (.d (.int .i64 each)))), (5, .one (.c (.ptr 0 0))), (7, .one (.c (.ptr 1 0))), (8, .one (.c (.d (.int .i64 i)))), (9, .one (.c (.d (.int .i64 sum)))), (10, .one (.c (.d (.int .i64 o_))))], [], [(0, [.d (.int .i64 x_0), .d (.sl (.pair (.int .i64) (.pair (.int .i64) (.pair (.int .i64) (.int .i64)))) x_1)]), (1, [.d (.int .i64 p_0), .d (.int .i64 p_1), .d (.int .i64 p_2), .mref 2]), (2, [.mp .i64 .i64 b2_0])], 3⟩ o := by
  induction n with
  | zero => intro all each i sum o_ x_0 x_1 p_0 p_1 p_2 b2_0 w h; rw [f3_broughamlaw39_QuotaBounds_L12] at h; cases h
  | succ n ih =>
    intro all each i sum o_ x_0 x_1 p_0 p_1 p_2 b2_0 w h o hk
    rw [f3_broughamlaw39_QuotaBounds_L12] at h
    rcases iteS h with ⟨b30_e0, h⟩ | ⟨b30_e0, h⟩
    · refine At.step hm ht ⟨[], [true], [], [0, 1, 5, 7, 8, 9, 10], [0, 1, 2]⟩ 14 ⟨[(0, .one (.c (.d (.int .i64 all)))), (1, .one (.c (.d (.int .i64 each)))), (5, .one (.c (.ptr 0 0))), (7, .one (.c (.ptr 1 0))), (8, .one (.c (.d (.int .i64 i)))), (9, .one (.c (.d (.int .i64 sum)))), (10, .one (.c (.d (.int .i64 o_))))], [], [(0, [.d (.int .i64 x_0), .d (.sl (.pair (.int .i64) (.pair (.int .i64) (.pair (.int .i64) (.int .i64)))) x_1)]), (1, [.d (.int .i64 p_0), .d (.int .i64 p_1), .d (.int .i64 p_2), .mref 2]), (2, [.mp .i64 .i64 b2_0])], 3⟩ [(decide ((o_ : Int) < x_0)) = true] (by kernel_rfl) ⟨b30_e0, trivial⟩ ?_
      obtain ⟨r31_0, cr31_0, h⟩ := bindS h
      rcases iteS h with ⟨b31_5, h⟩ | ⟨b31_5, h⟩
      · refine At.step hm ht ⟨[(2, .call [1, 2] [] (f15_quota_Pool_Of_out r31_0)), (5, .b true)], [true], [], [], []⟩ 15 ⟨[], [], [], 0⟩ [FnOK Go.Proofs.Try.prog 15 (f15_quota_Pool_Of_in o_ p_0 p_1 p_2 b2_0) (f15_quota_Pool_Of_out r31_0), (decide ((r31_0.1 : Int) > each)) = true, true = true] (by kernel_rfl) ⟨(f15_quota_Pool_Of_ok o_ p_0 p_1 p_2 b2_0 r31_0 cr31_0), b31_5, rfl, trivial⟩ ?_
        have h := Option.some.inj h
        subst h
        have hk : o = f3_broughamlaw39_QuotaBounds_out false := hk
        subst hk
        exact At.fin hm ht ⟨[], [], [], [6], []⟩ [] (by kernel_rfl) trivial
      · obtain ⟨r31_1, cr31_1, h⟩ := bindS h
        rcases iteS h with ⟨b31_e0, h⟩ | ⟨b31_e0, h⟩
        · refine At.step hm ht ⟨[(2, .call [1, 2] [] (f15_quota_Pool_Of_out r31_0)), (5, .b false), (8, .call [1, 2] [] (f15_quota_Pool_Of_out r31_1))], [true], [], [], []⟩ 15 ⟨[], [], [], 0⟩ [FnOK Go.Proofs.Try.prog 15 (f15_quota_Pool_Of_in o_ p_0 p_1 p_2 b2_0) (f15_quota_Pool_Of_out r31_0), (decide ((r31_0.1 : Int) > each)) = false, FnOK Go.Proofs.Try.prog 15 (f15_quota_Pool_Of_in o_ r31_0.2.1 r31_0.2.2.1 r31_0.2.2.2.1 r31_0.2.2.2.2) (f15_quota_Pool_Of_out r31_1), (decide ((r31_1.1 : Int) < 0)) = true] (by kernel_rfl) ⟨(f15_quota_Pool_Of_ok o_ p_0 p_1 p_2 b2_0 r31_0 cr31_0), b31_5, (f15_quota_Pool_Of_ok o_ r31_0.2.1 r31_0.2.2.1 r31_0.2.2.2.1 r31_0.2.2.2.2 r31_1 cr31_1), b31_e0, trivial⟩ ?_
          have h := Option.some.inj h
          subst h
          have hk : o = f3_broughamlaw39_QuotaBounds_out false := hk
          subst hk
          exact At.fin hm ht ⟨[], [], [], [6], []⟩ [] (by kernel_rfl) trivial
        · refine At.step hm ht ⟨[(2, .call [1, 2] [] (f15_quota_Pool_Of_out r31_0)), (5, .b false), (8, .call [1, 2] [] (f15_quota_Pool_Of_out r31_1))], [false], [], [0, 1, 5, 7, 8, 9, 10], [0, 1, 2]⟩ 16 ⟨[(0, .one (.c (.d (.int .i64 all)))), (1, .one (.c (.d (.int .i64 each)))), (5, .one (.c (.ptr 0 0))), (7, .one (.c (.ptr 1 0))), (8, .one (.c (.d (.int .i64 i)))), (9, .one (.c (.d (.int .i64 sum)))), (10, .one (.c (.d (.int .i64 o_))))], [], [(0, [.d (.int .i64 x_0), .d (.sl (.pair (.int .i64) (.pair (.int .i64) (.pair (.int .i64) (.int .i64)))) x_1)]), (1, [.d (.int .i64 r31_1.2.1), .d (.int .i64 r31_1.2.2.1), .d (.int .i64 r31_1.2.2.2.1), .mref 2]), (2, [.mp .i64 .i64 r31_1.2.2.2.2])], 3⟩ [FnOK Go.Proofs.Try.prog 15 (f15_quota_Pool_Of_in o_ p_0 p_1 p_2 b2_0) (f15_quota_Pool_Of_out r31_0), (decide ((r31_0.1 : Int) > each)) = false, FnOK Go.Proofs.Try.prog 15 (f15_quota_Pool_Of_in o_ r31_0.2.1 r31_0.2.2.1 r31_0.2.2.2.1 r31_0.2.2.2.2) (f15_quota_Pool_Of_out r31_1), (decide ((r31_1.1 : Int) < 0)) = false] (by kernel_rfl) ⟨(f15_quota_Pool_Of_ok o_ p_0 p_1 p_2 b2_0 r31_0 cr31_0), b31_5, (f15_quota_Pool_Of_ok o_ r31_0.2.1 r31_0.2.2.1 r31_0.2.2.2.1 r31_0.2.2.2.2 r31_1 cr31_1), b31_e0, trivial⟩ ?_
          obtain ⟨r36_0, cr36_0, h⟩ := bindS h
          refine At.step hm ht ⟨[(3, .call [1, 2] [] (f15_quota_Pool_Of_out r36_0))], [], [], [0, 1, 5, 7, 8, 9, 10], [0, 1, 2]⟩ 13 ⟨[(0, .one (.c (.d (.int .i64 all)))), (1, .one (.c (.d (.int .i64 each)))), (5, .one (.c (.ptr 0 0))), (7, .one (.c (.ptr 1 0))), (8, .one (.c (.d (.int .i64 i)))), (9, .one (.c (.d (.int .i64 (IntKind.wrap .i64 (sum + r36_0.1)))))), (10, .one (.c (.d (.int .i64 o_))))], [], [(0, [.d (.int .i64 x_0), .d (.sl (.pair (.int .i64) (.pair (.int .i64) (.pair (.int .i64) (.int .i64)))) x_1)]), (1, [.d (.int .i64 r36_0.2.1), .d (.int .i64 r36_0.2.2.1), .d (.int .i64 r36_0.2.2.2.1), .mref 2]), (2, [.mp .i64 .i64 r36_0.2.2.2.2])], 3⟩ [FnOK Go.Proofs.Try.prog 15 (f15_quota_Pool_Of_in o_ r31_1.2.1 r31_1.2.2.1 r31_1.2.2.2.1 r31_1.2.2.2.2) (f15_quota_Pool_Of_out r36_0)] (by kernel_rfl) ⟨(f15_quota_Pool_Of_ok o_ r31_1.2.1 r31_1.2.2.1 r31_1.2.2.2.1 r31_1.2.2.2.2 r36_0 cr36_0), trivial⟩ ?_
          refine At.step hm ht ⟨[], [], [], [0, 1, 5, 7, 8, 9, 10], [0, 1, 2]⟩ 12 ⟨[(0, .one (.c (.d (.int .i64 all)))), (1, .one (.c (.d (.int .i64 each)))), (5, .one (.c (.ptr 0 0))), (7, .one (.c (.ptr 1 0))), (8, .one (.c (.d (.int .i64 i)))), (9, .one (.c (.d (.int .i64 (IntKind.wrap .i64 (sum + r36_0.1)))))), (10, .one (.c (.d (.int .i64 (IntKind.wrap .i64 (o_ + 1))))))], [], [(0, [.d (.int .i64 x_0), .d (.sl (.pair (.int .i64) (.pair (.int .i64) (.pair (.int .i64) (.int .i64)))) x_1)]), (1, [.d (.int .i64 r36_0.2.1), .d (.int .i64 r36_0.2.2.1), .d (.int .i64 r36_0.2.2.2.1), .mref 2]), (2, [.mp .i64 .i64 r36_0.2.2.2.2])], 3⟩ [] (by kernel_rfl) trivial ?_
          exact ih all each i (IntKind.wrap .i64 (sum + r36_0.1)) (IntKind.wrap .i64 (o_ + 1)) x_0 x_1 r36_0.2.1 r36_0.2.2.1 r36_0.2.2.2.1 r36_0.2.2.2.2 w h o hk
    · refine At.step hm ht ⟨[], [false], [], [0, 1, 5, 7, 8, 9], [0, 1, 2]⟩ 17 ⟨[(0, .one (.c (.d (.int .i64 all)))), (1, .one (.c (.d (.int .i64 each)))), (5, .one (.c (.ptr 0 0))), (7, .one (.c (.ptr 1 0))), (8, .one (.c (.d (.int .i64 i)))), (9, .one (.c (.d (.int .i64 sum))))], [], [(0, [.d (.int .i64 x_0), .d (.sl (.pair (.int .i64) (.pair (.int .i64) (.pair (.int .i64) (.int .i64)))) x_1)]), (1, [.d (.int .i64 p_0), .d (.int .i64 p_1), .d (.int .i64 p_2), .mref 2]), (2, [.mp .i64 .i64 b2_0])], 3⟩ [(decide ((o_ : Int) < x_0)) = false] (by kernel_rfl) ⟨b30_e0, trivial⟩ ?_
      have h := Option.some.inj h
      subst h
      exact hk
def f3_broughamlaw39_QuotaBounds_L7 : Nat → Int → Int → Int → Int → (List (Int × Int × Int × Int)) → Int → Int → Int → (List (Int × Int)) → Option ((Bool) ⊕ (Int × Int × (List (Int × Int × Int × Int)) × Int × Int × Int × List (Int × Int)))
  | 0, _, _, _, _, _, _, _, _, _ => none
  | n + 1, all, each, i, x_0, x_1, p_0, p_1, p_2, b2_0 =>
    if (decide ((i : Int) < ((x_1.length : Nat) : Int))) = true then
      if (0 : Int) ≤ i ∧ i < (((x_1).length : Nat) : Int) then
      if (x_0 : Int) ≠ 0 then
      if (x_0 : Int) ≠ 0 then
      if (0 : Int) ≤ i ∧ i < (((x_1).length : Nat) : Int) then
      (f14_quota_Pool_Take (Int.tmod (IntKind.wrap .i64 ((Int.tmod (((x_1.getD i.toNat (0, (0, (0, 0)))).2).1) x_0) + x_0)) x_0) ((((x_1.getD i.toNat (0, (0, (0, 0)))).2).2).2) p_0 p_1 p_2 b2_0).bind fun r16_4 =>
      (f3_broughamlaw39_QuotaBounds_L12 n all each i 0 0 x_0 x_1 r16_4.2.1 r16_4.2.2.1 r16_4.2.2.2.1 r16_4.2.2.2.2).bind fun w38 =>
      match w38 with
      | .inl e39 =>
        some (.inl e39)
      | .inr e40 =>
        (f16_quota_Pool_Used e40.2.2.2.2.2.2.1 e40.2.2.2.2.2.2.2.1 e40.2.2.2.2.2.2.2.2.1 e40.2.2.2.2.2.2.2.2.2).bind fun r41_0 =>
        if ((e40.2.2.2.1 : Int) != r41_0.1) = true then
          some (.inl false)
        else
          if (decide ((e40.2.2.2.1 : Int) > e40.1)) = true then
            some (.inl false)
          else
            f3_broughamlaw39_QuotaBounds_L7 n e40.1 e40.2.1 (IntKind.wrap .i64 (e40.2.2.1 + 1)) e40.2.2.2.2.1 e40.2.2.2.2.2.1 r41_0.2.1 r41_0.2.2.1 r41_0.2.2.2.1 r41_0.2.2.2.2
      else none
      else none
      else none
      else none
    else
      some (.inr ((all, x_0, x_1, p_0, p_1, p_2, b2_0)))
def f3_broughamlaw39_QuotaBounds_L7_k (w : (Bool) ⊕ (Int × Int × (List (Int × Int × Int × Int)) × Int × Int × Int × List (Int × Int))) (o : Out) : Prop := match w with
  | .inl e => o = f3_broughamlaw39_QuotaBounds_out e
  | .inr e => At Go.Proofs.Try.prog Go.Proofs.Try.f3 0 19 ⟨[(0, .one (.c (.d (.int .i64 e.1)))), (5, .one (.c (.ptr 0 0))), (7, .one (.c (.ptr 1 0)))], [], [(0, [.d (.int .i64 e.2.1), .d (.sl (.pair (.int .i64) (.pair (.int .i64) (.pair (.int .i64) (.int .i64)))) e.2.2.1)]), (1, [.d (.int .i64 e.2.2.2.1), .d (.int .i64 e.2.2.2.2.1), .d (.int .i64 e.2.2.2.2.2.1), .mref 2]), (2, [.mp .i64 .i64 e.2.2.2.2.2.2])], 3⟩ o
theorem f3_broughamlaw39_QuotaBounds_L7_ok (n : Nat) : ∀ (all : Int) (each : Int) (i : Int) (x_0 : Int) (x_1 : List (Int × Int × Int × Int)) (p_0 : Int) (p_1 : Int) (p_2 : Int) (b2_0 : List (Int × Int)) (w : (Bool) ⊕ (Int × Int × (List (Int × Int × Int × Int)) × Int × Int × Int × List (Int × Int))) (h : f3_broughamlaw39_QuotaBounds_L7 n all each i x_0 x_1 p_0 p_1 p_2 b2_0 = some w) (o : Out) (hk : f3_broughamlaw39_QuotaBounds_L7_k w o), At Go.Proofs.Try.prog Go.Proofs.Try.f3 0 7 ⟨[(0, .one (.c (.d (.int .i64 all)))), (1, .one (.c (.d (.int .i64 each)))), (5, .one (.c (.ptr 0 0))), (7, .one (.c (.ptr 1 0))), (8, .one (.c (.d (.int .i64 i))))], [], [(0, [.d (.int .i64 x_0), .d (.sl (.pair (.int .i64) (.pair (.int .i64) (.pair (.int .i64) (.int .i64)))) x_1)]), (1, [.d (.int .i64 p_0), .d (.int .i64 p_1), .d (.int .i64 p_2), .mref 2]), (2, [.mp .i64 .i64 b2_0])], 3⟩ o := by
  induction n with
  | zero => intro all each i x_0 x_1 p_0 p_1 p_2 b2_0 w h; rw [f3_broughamlaw39_QuotaBounds_L7] at h; cases h
  | succ n ih =>
    intro all each i x_0 x_1 p_0 p_1 p_2 b2_0 w h o hk
    rw [f3_broughamlaw39_QuotaBounds_L7] at h
    rcases iteS h with ⟨b15_e0, h⟩ | ⟨b15_e0, h⟩
    · refine At.step hm ht ⟨[], [true], [], [0, 1, 5, 7, 8], [0, 1, 2]⟩ 9 ⟨[(0, .one (.c (.d (.int .i64 all)))), (1, .one (.c (.d (.int .i64 each)))), (5, .one (.c (.ptr 0 0))), (7, .one (.c (.ptr 1 0))), (8, .one (.c (.d (.int .i64 i))))], [], [(0, [.d (.int .i64 x_0), .d (.sl (.pair (.int .i64) (.pair (.int .i64) (.pair (.int .i64) (.int .i64)))) x_1)]), (1, [.d (.int .i64 p_0), .d (.int .i64 p_1), .d (.int .i64 p_2), .mref 2]), (2, [.mp .i64 .i64 b2_0])], 3⟩ [(decide ((i : Int) < ((x_1.length : Nat) : Int))) = true] (by kernel_rfl) ⟨b15_e0, trivial⟩ ?_
      obtain ⟨g16_0, h⟩ := ifS h
      obtain ⟨g16_1, h⟩ := ifS h
      obtain ⟨g16_2, h⟩ := ifS h
      obtain ⟨g16_3, h⟩ := ifS h
      obtain ⟨r16_4, cr16_4, h⟩ := bindS h
      refine At.step hm ht ⟨[(22, .call [1, 2] [] (f14_quota_Pool_Take_out r16_4))], [], [], [0, 1, 5, 7, 8], [0, 1, 2]⟩ 10 ⟨[(0, .one (.c (.d (.int .i64 all)))), (1, .one (.c (.d (.int .i64 each)))), (5, .one (.c (.ptr 0 0))), (7, .one (.c (.ptr 1 0))), (8, .one (.c (.d (.int .i64 i))))], [], [(0, [.d (.int .i64 x_0), .d (.sl (.pair (.int .i64) (.pair (.int .i64) (.pair (.int .i64) (.int .i64)))) x_1)]), (1, [.d (.int .i64 r16_4.2.1), .d (.int .i64 r16_4.2.2.1), .d (.int .i64 r16_4.2.2.2.1), .mref 2]), (2, [.mp .i64 .i64 r16_4.2.2.2.2])], 3⟩ [(0 : Int) ≤ i ∧ i < (((x_1).length : Nat) : Int), (x_0 : Int) ≠ 0, (x_0 : Int) ≠ 0, (0 : Int) ≤ i ∧ i < (((x_1).length : Nat) : Int), FnOK Go.Proofs.Try.prog 14 (f14_quota_Pool_Take_in (Int.tmod (IntKind.wrap .i64 ((Int.tmod (((x_1.getD i.toNat (0, (0, (0, 0)))).2).1) x_0) + x_0)) x_0) ((((x_1.getD i.toNat (0, (0, (0, 0)))).2).2).2) p_0 p_1 p_2 b2_0) (f14_quota_Pool_Take_out r16_4)] (by kernel_rfl) ⟨g16_0, g16_1, g16_2, g16_3, (f14_quota_Pool_Take_ok (Int.tmod (IntKind.wrap .i64 ((Int.tmod (((x_1.getD i.toNat (0, (0, (0, 0)))).2).1) x_0) + x_0)) x_0) ((((x_1.getD i.toNat (0, (0, (0, 0)))).2).2).2) p_0 p_1 p_2 b2_0 r16_4 cr16_4), trivial⟩ ?_
      refine At.step hm ht ⟨[], [], [], [0, 1, 5, 7, 8, 9], [0, 1, 2]⟩ 11 ⟨[(0, .one (.c (.d (.int .i64 all)))), (1, .one (.c (.d (.int .i64 each)))), (5, .one (.c (.ptr 0 0))), (7, .one (.c (.ptr 1 0))), (8, .one (.c (.d (.int .i64 i)))), (9, .one (.c (.d (.int .i64 0))))], [], [(0, [.d (.int .i64 x_0), .d (.sl (.pair (.int .i64) (.pair (.int .i64) (.pair (.int .i64) (.int .i64)))) x_1)]), (1, [.d (.int .i64 r16_4.2.1), .d (.int .i64 r16_4.2.2.1), .d (.int .i64 r16_4.2.2.2.1), .mref 2]), (2, [.mp .i64 .i64 r16_4.2.2.2.2])], 3⟩ [] (by kernel_rfl) trivial ?_
      refine At.step hm ht ⟨[], [], [], [0, 1, 5, 7, 8, 9, 10], [0, 1, 2]⟩ 12 ⟨[(0, .one (.c (.d (.int .i64 all)))), (1, .one (.c (.d (.int .i64 each)))), (5, .one (.c (.ptr 0 0))), (7, .one (.c (.ptr 1 0))), (8, .one (.c (.d (.int .i64 i)))), (9, .one (.c (.d (.int .i64 0)))), (10, .one (.c (.d (.int .i64 0))))], [], [(0, [.d (.int .i64 x_0), .d (.sl (.pair (.int .i64) (.pair (.int .i64) (.pair (.int .i64) (.int .i64)))) x_1)]), (1, [.d (.int .i64 r16_4.2.1), .d (.int .i64 r16_4.2.2.1), .d (.int .i64 r16_4.2.2.2.1), .mref 2]), (2, [.mp .i64 .i64 r16_4.2.2.2.2])], 3⟩ [] (by kernel_rfl) trivial ?_
      obtain ⟨w38, cw38, h⟩ := bindS h
      refine f3_broughamlaw39_QuotaBounds_L12_ok n all each i 0 0 x_0 x_1 r16_4.2.1 r16_4.2.2.1 r16_4.2.2.2.1 r16_4.2.2.2.2 w38 cw38 _ ?_
      rcases w38 with e39 | e40
      · have h := Option.some.inj h
        subst h
        exact hk
      · show At Go.Proofs.Try.prog Go.Proofs.Try.f3 0 17 ⟨[(0, .one (.c (.d (.int .i64 e40.1)))), (1, .one (.c (.d (.int .i64 e40.2.1)))), (5, .one (.c (.ptr 0 0))), (7, .one (.c (.ptr 1 0))), (8, .one (.c (.d (.int .i64 e40.2.2.1)))), (9, .one (.c (.d (.int .i64 e40.2.2.2.1))))], [], [(0, [.d (.int .i64 e40.2.2.2.2.1), .d (.sl (.pair (.int .i64) (.pair (.int .i64) (.pair (.int .i64) (.int .i64)))) e40.2.2.2.2.2.1)]), (1, [.d (.int .i64 e40.2.2.2.2.2.2.1), .d (.int .i64 e40.2.2.2.2.2.2.2.1), .d (.int .i64 e40.2.2.2.2.2.2.2.2.1), .mref 2]), (2, [.mp .i64 .i64 e40.2.2.2.2.2.2.2.2.2])], 3⟩ _
        obtain ⟨r41_0, cr41_0, h⟩ := bindS h
        rcases iteS h with ⟨b41_4, h⟩ | ⟨b41_4, h⟩
        · refine At.step hm ht ⟨[(2, .call [1, 2] [] (f16_quota_Pool_Used_out r41_0)), (4, .b true)], [true], [], [], []⟩ 18 ⟨[], [], [], 0⟩ [FnOK Go.Proofs.Try.prog 16 (f16_quota_Pool_Used_in e40.2.2.2.2.2.2.1 e40.2.2.2.2.2.2.2.1 e40.2.2.2.2.2.2.2.2.1 e40.2.2.2.2.2.2.2.2.2) (f16_quota_Pool_Used_out r41_0), ((e40.2.2.2.1 : Int) != r41_0.1) = true, true = true] (by kernel_rfl) ⟨(f16_quota_Pool_Used_ok e40.2.2.2.2.2.2.1 e40.2.2.2.2.2.2.2.1 e40.2.2.2.2.2.2.2.2.1 e40.2.2.2.2.2.2.2.2.2 r41_0 cr41_0), b41_4, rfl, trivial⟩ ?_
          have h := Option.some.inj h
          subst h
          have hk : o = f3_broughamlaw39_QuotaBounds_out false := hk
          subst hk
          exact At.fin hm ht ⟨[], [], [], [6], []⟩ [] (by kernel_rfl) trivial
        · rcases iteS h with ⟨b41_e0, h⟩ | ⟨b41_e0, h⟩
          · refine At.step hm ht ⟨[(2, .call [1, 2] [] (f16_quota_Pool_Used_out r41_0)), (4, .b false)], [true], [], [], []⟩ 18 ⟨[], [], [], 0⟩ [FnOK Go.Proofs.Try.prog 16 (f16_quota_Pool_Used_in e40.2.2.2.2.2.2.1 e40.2.2.2.2.2.2.2.1 e40.2.2.2.2.2.2.2.2.1 e40.2.2.2.2.2.2.2.2.2) (f16_quota_Pool_Used_out r41_0), ((e40.2.2.2.1 : Int) != r41_0.1) = false, (decide ((e40.2.2.2.1 : Int) > e40.1)) = true] (by kernel_rfl) ⟨(f16_quota_Pool_Used_ok e40.2.2.2.2.2.2.1 e40.2.2.2.2.2.2.2.1 e40.2.2.2.2.2.2.2.2.1 e40.2.2.2.2.2.2.2.2.2 r41_0 cr41_0), b41_4, b41_e0, trivial⟩ ?_
            have h := Option.some.inj h
            subst h
            have hk : o = f3_broughamlaw39_QuotaBounds_out false := hk
            subst hk
            exact At.fin hm ht ⟨[], [], [], [6], []⟩ [] (by kernel_rfl) trivial
          · refine At.step hm ht ⟨[(2, .call [1, 2] [] (f16_quota_Pool_Used_out r41_0)), (4, .b false)], [false], [], [0, 1, 5, 7, 8], [0, 1, 2]⟩ 8 ⟨[(0, .one (.c (.d (.int .i64 e40.1)))), (1, .one (.c (.d (.int .i64 e40.2.1)))), (5, .one (.c (.ptr 0 0))), (7, .one (.c (.ptr 1 0))), (8, .one (.c (.d (.int .i64 e40.2.2.1))))], [], [(0, [.d (.int .i64 e40.2.2.2.2.1), .d (.sl (.pair (.int .i64) (.pair (.int .i64) (.pair (.int .i64) (.int .i64)))) e40.2.2.2.2.2.1)]), (1, [.d (.int .i64 r41_0.2.1), .d (.int .i64 r41_0.2.2.1), .d (.int .i64 r41_0.2.2.2.1), .mref 2]), (2, [.mp .i64 .i64 r41_0.2.2.2.2])], 3⟩ [FnOK Go.Proofs.Try.prog 16 (f16_quota_Pool_Used_in e40.2.2.2.2.2.2.1 e40.2.2.2.2.2.2.2.1 e40.2.2.2.2.2.2.2.2.1 e40.2.2.2.2.2.2.2.2.2) (f16_quota_Pool_Used_out r41_0), ((e40.2.2.2.1 : Int) != r41_0.1) = false, (decide ((e40.2.2.2.1 : Int) > e40.1)) = false] (by kernel_rfl) ⟨(f16_quota_Pool_Used_ok e40.2.2.2.2.2.2.1 e40.2.2.2.2.2.2.2.1 e40.2.2.2.2.2.2.2.2.1 e40.2.2.2.2.2.2.2.2.2 r41_0 cr41_0), b41_4, b41_e0, trivial⟩ ?_
            refine At.step hm ht ⟨[], [], [], [0, 1, 5, 7, 8], [0, 1, 2]⟩ 7 ⟨[(0, .one (.c (.d (.int .i64 e40.1)))), (1, .one (.c (.d (.int .i64 e40.2.1)))), (5, .one (.c (.ptr 0 0))), (7, .one (.c (.ptr 1 0))), (8, .one (.c (.d (.int .i64 (IntKind.wrap .i64 (e40.2.2.1 + 1))))))], [], [(0, [.d (.int .i64 e40.2.2.2.2.1), .d (.sl (.pair (.int .i64) (.pair (.int .i64) (.pair (.int .i64) (.int .i64)))) e40.2.2.2.2.2.1)]), (1, [.d (.int .i64 r41_0.2.1), .d (.int .i64 r41_0.2.2.1), .d (.int .i64 r41_0.2.2.2.1), .mref 2]), (2, [.mp .i64 .i64 r41_0.2.2.2.2])], 3⟩ [] (by kernel_rfl) trivial ?_
            exact ih e40.1 e40.2.1 (IntKind.wrap .i64 (e40.2.2.1 + 1)) e40.2.2.2.2.1 e40.2.2.2.2.2.1 r41_0.2.1 r41_0.2.2.1 r41_0.2.2.2.1 r41_0.2.2.2.2 w h o hk
    · refine At.step hm ht ⟨[], [false], [], [0, 5, 7], [0, 1, 2]⟩ 19 ⟨[(0, .one (.c (.d (.int .i64 all)))), (5, .one (.c (.ptr 0 0))), (7, .one (.c (.ptr 1 0)))], [], [(0, [.d (.int .i64 x_0), .d (.sl (.pair (.int .i64) (.pair (.int .i64) (.pair (.int .i64) (.int .i64)))) x_1)]), (1, [.d (.int .i64 p_0), .d (.int .i64 p_1), .d (.int .i64 p_2), .mref 2]), (2, [.mp .i64 .i64 b2_0])], 3⟩ [(decide ((i : Int) < ((x_1.length : Nat) : Int))) = false] (by kernel_rfl) ⟨b15_e0, trivial⟩ ?_
      have h := Option.some.inj h
      subst h
      exact hk
def f3_broughamlaw39_QuotaBounds_L20 : Nat → Int → Int → Int → (List (Int × Int × Int × Int)) → Int → Int → Int → (List (Int × Int)) → Option (Int × Int × (List (Int × Int × Int × Int)) × Int × Int × Int × List (Int × Int))
  | 0, _, _, _, _, _, _, _, _ => none
  | n + 1, all, o_, x_0, x_1, p_0, p_1, p_2, b2_0 =>
    if (decide ((o_ : Int) < x_0)) = true then
      (f17_quota_Pool_Drop o_ p_0 p_1 p_2 b2_0).bind fun r52_0 =>
      f3_broughamlaw39_QuotaBounds_L20 n all (IntKind.wrap .i64 (o_ + 1)) x_0 x_1 r52_0.2.1 r52_0.2.2.1 r52_0.2.2.2.1 r52_0.2.2.2.2
    else
      some ((all, x_0, x_1, p_0, p_1, p_2, b2_0))
def f3_broughamlaw39_QuotaBounds_L20_k (e : Int × Int × (List (Int × Int × Int × Int)) × Int × Int × Int × List (Int × Int)) (o : Out) : Prop := At Go.Proofs.Try.prog Go.Proofs.Try.f3 0 23 ⟨[(0, .one (.c (.d (.int .i64 e.1)))), (5, .one (.c (.ptr 0 0))), (7, .one (.c (.ptr 1 0)))], [], [(0, [.d (.int .i64 e.2.1), .d (.sl (.pair (.int .i64) (.pair (.int .i64) (.pair (.int .i64) (.int .i64)))) e.2.2.1)]), (1, [.d (.int .i64 e.2.2.2.1), .d (.int .i64 e.2.2.2.2.1), .d (.int .i64 e.2.2.2.2.2.1), .mref 2]), (2, [.mp .i64 .i64 e.2.2.2.2.2.2])], 3⟩ o
theorem f3_broughamlaw39_QuotaBounds_L20_ok (n : Nat) : ∀ (all : Int) (o_ : Int) (x_0 : Int) (x_1 : List (Int × Int × Int × Int)) (p_0 : Int) (p_1 : Int) (p_2 : Int) (b2_0 : List (Int × Int)) (w : Int × Int × (List (Int × Int × Int × Int)) × Int × Int × Int × List (Int × Int)) (h : f3_broughamlaw39_QuotaBounds_L20 n all o_ x_0 x_1 p_0 p_1 p_2 b2_0 = some w) (o : Out) (hk : f3_broughamlaw39_QuotaBounds_L20_k w o), At Go.Proofs.Try.prog Go.Proofs.Try.f3 0 20 ⟨[(0, .one (.c (.d (.int .i64 all)))), (5, .one (.c (.ptr 0 0))), (7, .one (.c (.ptr 1 0))), (11, .one (.c (.d (.int .i64 o_))))], [], [(0, [.d (.int .i64 x_0), .d (.sl (.pair (.int .i64) (.pair (.int .i64) (.pair (.int .i64) (.int .i64)))) x_1)]), (1, [.d (.int .i64 p_0), .d (.int .i64 p_1), .d (.int .i64 p_2), .mref 2]), (2, [.mp .i64 .i64 b2_0])], 3⟩ o := by
  induction n with
  | zero => intro all o_ x_0 x_1 p_0 p_1 p_2 b2_0 w h; rw [f3_broughamlaw39_QuotaBounds_L20] at h; cases h
  | succ n ih =>
    intro all o_ x_0 x_1 p_0 p_1 p_2 b2_0 w h o hk
    rw [f3_broughamlaw39_QuotaBounds_L20] at h
    rcases iteS h with ⟨b51_e0, h⟩ | ⟨b51_e0, h⟩
    · refine At.step hm ht ⟨[], [true], [], [0, 5, 7, 11], [0, 1, 2]⟩ 22 ⟨[(0, .one (.c (.d (.int .i64 all)))), (5, .one (.c (.ptr 0 0))), (7, .one (.c (.ptr 1 0))), (11, .one (.c (.d (.int .i64 o_))))], [], [(0, [.d (.int .i64 x_0), .d (.sl (.pair (.int .i64) (.pair (.int .i64) (.pair (.int .i64) (.int .i64)))) x_1)]), (1, [.d (.int .i64 p_0), .d (.int .i64 p_1), .d (.int .i64 p_2), .mref 2]), (2, [.mp .i64 .i64 b2_0])], 3⟩ [(decide ((o_ : Int) < x_0)) = true] (by kernel_rfl) ⟨b51_e0, trivial⟩ ?_
      obtain ⟨r52_0, cr52_0, h⟩ := bindS h
      refine At.step hm ht ⟨[(2, .call [1, 2] [] (f17_quota_Pool_Drop_out r52_0))], [], [], [0, 5, 7, 11], [0, 1, 2]⟩ 21 ⟨[(0, .one (.c (.d (.int .i64 all)))), (5, .one (.c (.ptr 0 0))), (7, .one (.c (.ptr 1 0))), (11, .one (.c (.d (.int .i64 o_))))], [], [(0, [.d (.int .i64 x_0), .d (.sl (.pair (.int .i64) (.pair (.int .i64) (.pair (.int .i64) (.int .i64)))) x_1)]), (1, [.d (.int .i64 r52_0.2.1), .d (.int .i64 r52_0.2.2.1), .d (.int .i64 r52_0.2.2.2.1), .mref 2]), (2, [.mp .i64 .i64 r52_0.2.2.2.2])], 3⟩ [FnOK Go.Proofs.Try.prog 17 (f17_quota_Pool_Drop_in o_ p_0 p_1 p_2 b2_0) (f17_quota_Pool_Drop_out r52_0)] (by kernel_rfl) ⟨(f17_quota_Pool_Drop_ok o_ p_0 p_1 p_2 b2_0 r52_0 cr52_0), trivial⟩ ?_
      refine At.step hm ht ⟨[], [], [], [0, 5, 7, 11], [0, 1, 2]⟩ 20 ⟨[(0, .one (.c (.d (.int .i64 all)))), (5, .one (.c (.ptr 0 0))), (7, .one (.c (.ptr 1 0))), (11, .one (.c (.d (.int .i64 (IntKind.wrap .i64 (o_ + 1))))))], [], [(0, [.d (.int .i64 x_0), .d (.sl (.pair (.int .i64) (.pair (.int .i64) (.pair (.int .i64) (.int .i64)))) x_1)]), (1, [.d (.int .i64 r52_0.2.1), .d (.int .i64 r52_0.2.2.1), .d (.int .i64 r52_0.2.2.2.1), .mref 2]), (2, [.mp .i64 .i64 r52_0.2.2.2.2])], 3⟩ [] (by kernel_rfl) trivial ?_
      exact ih all (IntKind.wrap .i64 (o_ + 1)) x_0 x_1 r52_0.2.1 r52_0.2.2.1 r52_0.2.2.2.1 r52_0.2.2.2.2 w h o hk
    · refine At.step hm ht ⟨[], [false], [], [0, 5, 7], [0, 1, 2]⟩ 23 ⟨[(0, .one (.c (.d (.int .i64 all)))), (5, .one (.c (.ptr 0 0))), (7, .one (.c (.ptr 1 0)))], [], [(0, [.d (.int .i64 x_0), .d (.sl (.pair (.int .i64) (.pair (.int .i64) (.pair (.int .i64) (.int .i64)))) x_1)]), (1, [.d (.int .i64 p_0), .d (.int .i64 p_1), .d (.int .i64 p_2), .mref 2]), (2, [.mp .i64 .i64 b2_0])], 3⟩ [(decide ((o_ : Int) < x_0)) = false] (by kernel_rfl) ⟨b51_e0, trivial⟩ ?_
      have h := Option.some.inj h
      subst h
      exact hk
def f3_broughamlaw39_QuotaBounds_L24 : Nat → Int → Int → Int → (List (Int × Int × Int × Int)) → Int → Int → Int → (List (Int × Int)) → Option ((Bool) ⊕ (Int × Int × Int × Int × List (Int × Int)))
  | 0, _, _, _, _, _, _, _, _ => none
  | n + 1, all, o_, x_0, x_1, p_0, p_1, p_2, b2_0 =>
    if (decide ((o_ : Int) < x_0)) = true then
      (f18_quota_Pool_Fair x_0 p_0 p_1 p_2 b2_0).bind fun r64_0 =>
      (f14_quota_Pool_Take o_ r64_0.1 r64_0.2.1 r64_0.2.2.1 r64_0.2.2.2.1 r64_0.2.2.2.2).bind fun r64_1 =>
      if (!r64_1.1) = true then
        some (.inl false)
      else
        f3_broughamlaw39_QuotaBounds_L24 n all (IntKind.wrap .i64 (o_ + 1)) x_0 x_1 r64_1.2.1 r64_1.2.2.1 r64_1.2.2.2.1 r64_1.2.2.2.2
    else
      some (.inr ((all, p_0, p_1, p_2, b2_0)))
def f3_broughamlaw39_QuotaBounds_L24_k (w : (Bool) ⊕ (Int × Int × Int × Int × List (Int × Int))) (o : Out) : Prop := match w with
  | .inl e => o = f3_broughamlaw39_QuotaBounds_out e
  | .inr e => At Go.Proofs.Try.prog Go.Proofs.Try.f3 0 28 ⟨[(0, .one (.c (.d (.int .i64 e.1)))), (7, .one (.c (.ptr 0 0)))], [], [(0, [.d (.int .i64 e.2.1), .d (.int .i64 e.2.2.1), .d (.int .i64 e.2.2.2.1), .mref 1]), (1, [.mp .i64 .i64 e.2.2.2.2])], 2⟩ o
theorem f3_broughamlaw39_QuotaBounds_L24_ok (n : Nat) : ∀ (all : Int) (o_ : Int) (x_0 : Int) (x_1 : List (Int × Int × Int × Int)) (p_0 : Int) (p_1 : Int) (p_2 : Int) (b2_0 : List (Int × Int)) (w : (Bool) ⊕ (Int × Int × Int × Int × List (Int × Int))) (h : f3_broughamlaw39_QuotaBounds_L24 n all o_ x_0 x_1 p_0 p_1 p_2 b2_0 = some w) (o : Out) (hk : f3_broughamlaw39_QuotaBounds_L24_k w o), At Go.Proofs.Try.prog Go.Proofs.Try.f3 0 24 ⟨[(0, .one (.c (.d (.int .i64 all)))), (5, .one (.c (.ptr 0 0))), (7, .one (.c (.ptr 1 0))), (12, .one (.c (.d (.int .i64 o_))))], [], [(0, [.d (.int .i64 x_0), .d (.sl (.pair (.int .i64) (.pair (.int .i64) (.pair (.int .i64) (.int .i64)))) x_1)]), (1, [.d (.int .i64 p_0), .d (.int .i64 p_1), .d (.int .i64 p_2), .mref 2]), (2, [.mp .i64 .i64 b2_0])], 3⟩ o := by
  induction n with
  | zero => intro all o_ x_0 x_1 p_0 p_1 p_2 b2_0 w h; rw [f3_broughamlaw39_QuotaBounds_L24] at h; cases h
  | succ n ih =>
    intro all o_ x_0 x_1 p_0 p_1 p_2 b2_0 w h o hk
    rw [f3_broughamlaw39_QuotaBounds_L24] at h
    rcases iteS h with ⟨b63_e0, h⟩ | ⟨b63_e0, h⟩
    · refine At.step hm ht ⟨[], [true], [], [0, 5, 7, 12], [0, 1, 2]⟩ 26 ⟨[(0, .one (.c (.d (.int .i64 all)))), (5, .one (.c (.ptr 0 0))), (7, .one (.c (.ptr 1 0))), (12, .one (.c (.d (.int .i64 o_))))], [], [(0, [.d (.int .i64 x_0), .d (.sl (.pair (.int .i64) (.pair (.int .i64) (.pair (.int .i64) (.int .i64)))) x_1)]), (1, [.d (.int .i64 p_0), .d (.int .i64 p_1), .d (.int .i64 p_2), .mref 2]), (2, [.mp .i64 .i64 b2_0])], 3⟩ [(decide ((o_ : Int) < x_0)) = true] (by kernel_rfl) ⟨b63_e0, trivial⟩ ?_
      obtain ⟨r64_0, cr64_0, h⟩ := bindS h
      obtain ⟨r64_1, cr64_1, h⟩ := bindS h
      rcases iteS h with ⟨b64_e0, h⟩ | ⟨b64_e0, h⟩
      · refine At.step hm ht ⟨[(5, .call [1, 2] [] (f18_quota_Pool_Fair_out r64_0)), (6, .call [1, 2] [] (f14_quota_Pool_Take_out r64_1))], [true], [], [], []⟩ 27 ⟨[], [], [], 0⟩ [FnOK Go.Proofs.Try.prog 18 (f18_quota_Pool_Fair_in x_0 p_0 p_1 p_2 b2_0) (f18_quota_Pool_Fair_out r64_0), FnOK Go.Proofs.Try.prog 14 (f14_quota_Pool_Take_in o_ r64_0.1 r64_0.2.1 r64_0.2.2.1 r64_0.2.2.2.1 r64_0.2.2.2.2) (f14_quota_Pool_Take_out r64_1), (!r64_1.1) = true] (by kernel_rfl) ⟨(f18_quota_Pool_Fair_ok x_0 p_0 p_1 p_2 b2_0 r64_0 cr64_0), (f14_quota_Pool_Take_ok o_ r64_0.1 r64_0.2.1 r64_0.2.2.1 r64_0.2.2.2.1 r64_0.2.2.2.2 r64_1 cr64_1), b64_e0, trivial⟩ ?_
        have h := Option.some.inj h
        subst h
        have hk : o = f3_broughamlaw39_QuotaBounds_out false := hk
        subst hk
        exact At.fin hm ht ⟨[], [], [], [6], []⟩ [] (by kernel_rfl) trivial
      · refine At.step hm ht ⟨[(5, .call [1, 2] [] (f18_quota_Pool_Fair_out r64_0)), (6, .call [1, 2] [] (f14_quota_Pool_Take_out r64_1))], [false], [], [0, 5, 7, 12], [0, 1, 2]⟩ 25 ⟨[(0, .one (.c (.d (.int .i64 all)))), (5, .one (.c (.ptr 0 0))), (7, .one (.c (.ptr 1 0))), (12, .one (.c (.d (.int .i64 o_))))], [], [(0, [.d (.int .i64 x_0), .d (.sl (.pair (.int .i64) (.pair (.int .i64) (.pair (.int .i64) (.int .i64)))) x_1)]), (1, [.d (.int .i64 r64_1.2.1), .d (.int .i64 r64_1.2.2.1), .d (.int .i64 r64_1.2.2.2.1), .mref 2]), (2, [.mp .i64 .i64 r64_1.2.2.2.2])], 3⟩ [FnOK Go.Proofs.Try.prog 18 (f18_quota_Pool_Fair_in x_0 p_0 p_1 p_2 b2_0) (f18_quota_Pool_Fair_out r64_0), FnOK Go.Proofs.Try.prog 14 (f14_quota_Pool_Take_in o_ r64_0.1 r64_0.2.1 r64_0.2.2.1 r64_0.2.2.2.1 r64_0.2.2.2.2) (f14_quota_Pool_Take_out r64_1), (!r64_1.1) = false] (by kernel_rfl) ⟨(f18_quota_Pool_Fair_ok x_0 p_0 p_1 p_2 b2_0 r64_0 cr64_0), (f14_quota_Pool_Take_ok o_ r64_0.1 r64_0.2.1 r64_0.2.2.1 r64_0.2.2.2.1 r64_0.2.2.2.2 r64_1 cr64_1), b64_e0, trivial⟩ ?_
        refine At.step hm ht ⟨[], [], [], [0, 5, 7, 12], [0, 1, 2]⟩ 24 ⟨[(0, .one (.c (.d (.int .i64 all)))), (5, .one (.c (.ptr 0 0))), (7, .one (.c (.ptr 1 0))), (12, .one (.c (.d (.int .i64 (IntKind.wrap .i64 (o_ + 1))))))], [], [(0, [.d (.int .i64 x_0), .d (.sl (.pair (.int .i64) (.pair (.int .i64) (.pair (.int .i64) (.int .i64)))) x_1)]), (1, [.d (.int .i64 r64_1.2.1), .d (.int .i64 r64_1.2.2.1), .d (.int .i64 r64_1.2.2.2.1), .mref 2]), (2, [.mp .i64 .i64 r64_1.2.2.2.2])], 3⟩ [] (by kernel_rfl) trivial ?_
        exact ih all (IntKind.wrap .i64 (o_ + 1)) x_0 x_1 r64_1.2.1 r64_1.2.2.1 r64_1.2.2.2.1 r64_1.2.2.2.2 w h o hk
    · refine At.step hm ht ⟨[], [false], [], [0, 7], [1, 2]⟩ 28 ⟨[(0, .one (.c (.d (.int .i64 all)))), (7, .one (.c (.ptr 0 0)))], [], [(0, [.d (.int .i64 p_0), .d (.int .i64 p_1), .d (.int .i64 p_2), .mref 1]), (1, [.mp .i64 .i64 b2_0])], 2⟩ [(decide ((o_ : Int) < x_0)) = false] (by kernel_rfl) ⟨b63_e0, trivial⟩ ?_
      have h := Option.some.inj h
      subst h
      exact hk
def f3_broughamlaw39_QuotaBounds (n : Nat) (all : Int) (each : Int) (x_0 : Int) (x_1 : List (Int × Int × Int × Int)) : Option (Bool) :=
  if (decide ((all : Int) < 0)) = true then
    some true
  else
    if (decide ((all : Int) > 1000000)) = true then
      some true
    else
      if (decide ((each : Int) < 0)) = true then
        some true
      else
        if (decide ((each : Int) > 1000000)) = true then
          some true
        else
          if (decide ((x_0 : Int) < 1)) = true then
            some true
          else
            if (decide ((x_0 : Int) > 40)) = true then
              some true
            else
              if (decide ((((x_1.length : Nat) : Int) : Int) > 100)) = true then
                some true
              else
                (f13_quota_New all each).bind fun r10_0 =>
                (f3_broughamlaw39_QuotaBounds_L7 n all each 0 x_0 x_1 r10_0.1 r10_0.2.1 r10_0.2.2.1 r10_0.2.2.2).bind fun w47 =>
                match w47 with
                | .inl e48 =>
                  some e48
                | .inr e49 =>
                  (f3_broughamlaw39_QuotaBounds_L20 n e49.1 0 e49.2.1 e49.2.2.1 e49.2.2.2.1 e49.2.2.2.2.1 e49.2.2.2.2.2.1 e49.2.2.2.2.2.2).bind fun w60 =>
                  (f3_broughamlaw39_QuotaBounds_L24 n w60.1 0 w60.2.1 w60.2.2.1 w60.2.2.2.1 w60.2.2.2.2.1 w60.2.2.2.2.2.1 w60.2.2.2.2.2.2).bind fun w71 =>
                  match w71 with
                  | .inl e72 =>
                    some e72
                  | .inr e73 =>
                    (f16_quota_Pool_Used e73.2.1 e73.2.2.1 e73.2.2.2.1 e73.2.2.2.2).bind fun r74_0 =>
                    if (decide ((r74_0.1 : Int) ≤ e73.1)) = true then
                      (f19_broughamlaw39_alive).bind fun r74_1 =>
                      some r74_1
                    else
                      some false
theorem f3_broughamlaw39_QuotaBounds_ok (n : Nat) (all : Int) (each : Int) (x_0 : Int) (x_1 : List (Int × Int × Int × Int)) (r : Bool) (h : f3_broughamlaw39_QuotaBounds n all each x_0 x_1 = some r) : FnOK Go.Proofs.Try.prog 3 (f3_broughamlaw39_QuotaBounds_in all each x_0 x_1) (f3_broughamlaw39_QuotaBounds_out r) := by
  unfold f3_broughamlaw39_QuotaBounds at h
  refine At.fn (r := 0) Go.Proofs.Try.func3 rfl (by kernel_rfl) rfl rfl (by kernel_rfl) ?_
  show At Go.Proofs.Try.prog Go.Proofs.Try.f3 0 0 ⟨[(0, .one (.c (.d (.int .i64 all)))), (1, .one (.c (.d (.int .i64 each)))), (2, .one (.agg [.d (.int .i64 x_0), .d (.sl (.pair (.int .i64) (.pair (.int .i64) (.pair (.int .i64) (.int .i64)))) x_1)]))], [], [], 0⟩ _
  refine At.step hm ht ⟨[], [], [], [0, 1, 5], [0]⟩ 1 ⟨[(0, .one (.c (.d (.int .i64 all)))), (1, .one (.c (.d (.int .i64 each)))), (5, .one (.c (.ptr 0 0)))], [], [(0, [.d (.int .i64 x_0), .d (.sl (.pair (.int .i64) (.pair (.int .i64) (.pair (.int .i64) (.int .i64)))) x_1)])], 1⟩ [] (by kernel_rfl) trivial ?_
  rcases iteS h with ⟨b2_2, h⟩ | ⟨b2_2, h⟩
  · refine At.step hm ht ⟨[(2, .b true)], [true], [], [], []⟩ 2 ⟨[], [], [], 0⟩ [(decide ((all : Int) < 0)) = true, true = true] (by kernel_rfl) ⟨b2_2, rfl, trivial⟩ ?_
    have h := Option.some.inj h
    subst h
    exact At.fin hm ht ⟨[], [], [], [6], []⟩ [] (by kernel_rfl) trivial
  · rcases iteS h with ⟨b2_6, h⟩ | ⟨b2_6, h⟩
    · refine At.step hm ht ⟨[(2, .b false), (6, .b true)], [true], [], [], []⟩ 2 ⟨[], [], [], 0⟩ [(decide ((all : Int) < 0)) = false, (decide ((all : Int) > 1000000)) = true, true = true] (by kernel_rfl) ⟨b2_2, b2_6, rfl, trivial⟩ ?_
      have h := Option.some.inj h
      subst h
      exact At.fin hm ht ⟨[], [], [], [6], []⟩ [] (by kernel_rfl) trivial
    · rcases iteS h with ⟨b2_10, h⟩ | ⟨b2_10, h⟩
      · refine At.step hm ht ⟨[(2, .b false), (6, .b false), (10, .b true)], [true], [], [], []⟩ 2 ⟨[], [], [], 0⟩ [(decide ((all : Int) < 0)) = false, (decide ((all : Int) > 1000000)) = false, (decide ((each : Int) < 0)) = true, true = true] (by kernel_rfl) ⟨b2_2, b2_6, b2_10, rfl, trivial⟩ ?_
        have h := Option.some.inj h
        subst h
        exact At.fin hm ht ⟨[], [], [], [6], []⟩ [] (by kernel_rfl) trivial
      · rcases iteS h with ⟨b2_14, h⟩ | ⟨b2_14, h⟩
        · refine At.step hm ht ⟨[(2, .b false), (6, .b false), (10, .b false), (14, .b true)], [true], [], [], []⟩ 2 ⟨[], [], [], 0⟩ [(decide ((all : Int) < 0)) = false, (decide ((all : Int) > 1000000)) = false, (decide ((each : Int) < 0)) = false, (decide ((each : Int) > 1000000)) = true, true = true] (by kernel_rfl) ⟨b2_2, b2_6, b2_10, b2_14, rfl, trivial⟩ ?_
          have h := Option.some.inj h
          subst h
          exact At.fin hm ht ⟨[], [], [], [6], []⟩ [] (by kernel_rfl) trivial
        · rcases iteS h with ⟨b2_19, h⟩ | ⟨b2_19, h⟩
          · refine At.step hm ht ⟨[(2, .b false), (6, .b false), (10, .b false), (14, .b false), (19, .b true)], [true], [], [], []⟩ 2 ⟨[], [], [], 0⟩ [(decide ((all : Int) < 0)) = false, (decide ((all : Int) > 1000000)) = false, (decide ((each : Int) < 0)) = false, (decide ((each : Int) > 1000000)) = false, (decide ((x_0 : Int) < 1)) = true, true = true] (by kernel_rfl) ⟨b2_2, b2_6, b2_10, b2_14, b2_19, rfl, trivial⟩ ?_
            have h := Option.some.inj h
            subst h
            exact At.fin hm ht ⟨[], [], [], [6], []⟩ [] (by kernel_rfl) trivial
          · rcases iteS h with ⟨b2_24, h⟩ | ⟨b2_24, h⟩
            · refine At.step hm ht ⟨[(2, .b false), (6, .b false), (10, .b false), (14, .b false), (19, .b false), (24, .b true)], [true], [], [], []⟩ 2 ⟨[], [], [], 0⟩ [(decide ((all : Int) < 0)) = false, (decide ((all : Int) > 1000000)) = false, (decide ((each : Int) < 0)) = false, (decide ((each : Int) > 1000000)) = false, (decide ((x_0 : Int) < 1)) = false, (decide ((x_0 : Int) > 40)) = true, true = true] (by kernel_rfl) ⟨b2_2, b2_6, b2_10, b2_14, b2_19, b2_24, rfl, trivial⟩ ?_
              have h := Option.some.inj h
              subst h
              exact At.fin hm ht ⟨[], [], [], [6], []⟩ [] (by kernel_rfl) trivial
            · rcases iteS h with ⟨b2_e0, h⟩ | ⟨b2_e0, h⟩
              · refine At.step hm ht ⟨[(2, .b false), (6, .b false), (10, .b false), (14, .b false), (19, .b false), (24, .b false)], [true], [], [], []⟩ 2 ⟨[], [], [], 0⟩ [(decide ((all : Int) < 0)) = false, (decide ((all : Int) > 1000000)) = false, (decide ((each : Int) < 0)) = false, (decide ((each : Int) > 1000000)) = false, (decide ((x_0 : Int) < 1)) = false, (decide ((x_0 : Int) > 40)) = false, (decide ((((x_1.length : Nat) : Int) : Int) > 100)) = true] (by kernel_rfl) ⟨b2_2, b2_6, b2_10, b2_14, b2_19, b2_24, b2_e0, trivial⟩ ?_
                have h := Option.some.inj h
                subst h
                exact At.fin hm ht ⟨[], [], [], [6], []⟩ [] (by kernel_rfl) trivial
              · refine At.step hm ht ⟨[(2, .b false), (6, .b false), (10, .b false), (14, .b false), (19, .b false), (24, .b false)], [false], [], [0, 1, 5], [0]⟩ 3 ⟨[(0, .one (.c (.d (.int .i64 all)))), (1, .one (.c (.d (.int .i64 each)))), (5, .one (.c (.ptr 0 0)))], [], [(0, [.d (.int .i64 x_0), .d (.sl (.pair (.int .i64) (.pair (.int .i64) (.pair (.int .i64) (.int .i64)))) x_1)])], 1⟩ [(decide ((all : Int) < 0)) = false, (decide ((all : Int) > 1000000)) = false, (decide ((each : Int) < 0)) = false, (decide ((each : Int) > 1000000)) = false, (decide ((x_0 : Int) < 1)) = false, (decide ((x_0 : Int) > 40)) = false, (decide ((((x_1.length : Nat) : Int) : Int) > 100)) = false] (by kernel_rfl) ⟨b2_2, b2_6, b2_10, b2_14, b2_19, b2_24, b2_e0, trivial⟩ ?_
                obtain ⟨r10_0, cr10_0, h⟩ := bindS h
                refine At.step hm ht ⟨[(2, .call [] [] (f13_quota_New_out r10_0))], [], [], [0, 1, 5, 7], [0, 3, 4]⟩ 4 ⟨[(0, .one (.c (.d (.int .i64 all)))), (1, .one (.c (.d (.int .i64 each)))), (5, .one (.c (.ptr 0 0))), (7, .one (.c (.ptr 1 0)))], [], [(0, [.d (.int .i64 x_0), .d (.sl (.pair (.int .i64) (.pair (.int .i64) (.pair (.int .i64) (.int .i64)))) x_1)]), (1, [.d (.int .i64 r10_0.1), .d (.int .i64 r10_0.2.1), .d (.int .i64 r10_0.2.2.1), .mref 2]), (2, [.mp .i64 .i64 r10_0.2.2.2])], 3⟩ [FnOK Go.Proofs.Try.prog 13 (f13_quota_New_in all each) (f13_quota_New_out r10_0)] (by kernel_rfl) ⟨(f13_quota_New_ok all each r10_0 cr10_0), trivial⟩ ?_
                refine At.step hm ht ⟨[], [false], [], [0, 1, 5, 7], [0, 1, 2]⟩ 6 ⟨[(0, .one (.c (.d (.int .i64 all)))), (1, .one (.c (.d (.int .i64 each)))), (5, .one (.c (.ptr 0 0))), (7, .one (.c (.ptr 1 0)))], [], [(0, [.d (.int .i64 x_0), .d (.sl (.pair (.int .i64) (.pair (.int .i64) (.pair (.int .i64) (.int .i64)))) x_1)]), (1, [.d (.int .i64 r10_0.1), .d (.int .i64 r10_0.2.1), .d (.int .i64 r10_0.2.2.1), .mref 2]), (2, [.mp .i64 .i64 r10_0.2.2.2])], 3⟩ [false = false] (by kernel_rfl) ⟨rfl, trivial⟩ ?_
                refine At.step hm ht ⟨[], [], [], [0, 1, 5, 7, 8], [0, 1, 2]⟩ 7 ⟨[(0, .one (.c (.d (.int .i64 all)))), (1, .one (.c (.d (.int .i64 each)))), (5, .one (.c (.ptr 0 0))), (7, .one (.c (.ptr 1 0))), (8, .one (.c (.d (.int .i64 0))))], [], [(0, [.d (.int .i64 x_0), .d (.sl (.pair (.int .i64) (.pair (.int .i64) (.pair (.int .i64) (.int .i64)))) x_1)]), (1, [.d (.int .i64 r10_0.1), .d (.int .i64 r10_0.2.1), .d (.int .i64 r10_0.2.2.1), .mref 2]), (2, [.mp .i64 .i64 r10_0.2.2.2])], 3⟩ [] (by kernel_rfl) trivial ?_
                obtain ⟨w47, cw47, h⟩ := bindS h
                refine f3_broughamlaw39_QuotaBounds_L7_ok n all each 0 x_0 x_1 r10_0.1 r10_0.2.1 r10_0.2.2.1 r10_0.2.2.2 w47 cw47 _ ?_
                rcases w47 with e48 | e49
                · have h := Option.some.inj h
                  subst h
                  rfl
                · show At Go.Proofs.Try.prog Go.Proofs.Try.f3 0 19 ⟨[(0, .one (.c (.d (.int .i64 e49.1)))), (5, .one (.c (.ptr 0 0))), (7, .one (.c (.ptr 1 0)))], [], [(0, [.d (.int .i64 e49.2.1), .d (.sl (.pair (.int .i64) (.pair (.int .i64) (.pair (.int .i64) (.int .i64)))) e49.2.2.1)]), (1, [.d (.int .i64 e49.2.2.2.1), .d (.int .i64 e49.2.2.2.2.1), .d (.int .i64 e49.2.2.2.2.2.1), .mref 2]), (2, [.mp .i64 .i64 e49.2.2.2.2.2.2])], 3⟩ _
                  refine At.step hm ht ⟨[], [], [], [0, 5, 7, 11], [0, 1, 2]⟩ 20 ⟨[(0, .one (.c (.d (.int .i64 e49.1)))), (5, .one (.c (.ptr 0 0))), (7, .one (.c (.ptr 1 0))), (11, .one (.c (.d (.int .i64 0))))], [], [(0, [.d (.int .i64 e49.2.1), .d (.sl (.pair (.int .i64) (.pair (.int .i64) (.pair (.int .i64) (.int .i64)))) e49.2.2.1)]), (1, [.d (.int .i64 e49.2.2.2.1), .d (.int .i64 e49.2.2.2.2.1), .d (.int .i64 e49.2.2.2.2.2.1), .mref 2]), (2, [.mp .i64 .i64 e49.2.2.2.2.2.2])], 3⟩ [] (by kernel_rfl) trivial ?_
                  obtain ⟨w60, cw60, h⟩ := bindS h
                  refine f3_broughamlaw39_QuotaBounds_L20_ok n e49.1 0 e49.2.1 e49.2.2.1 e49.2.2.2.1 e49.2.2.2.2.1 e49.2.2.2.2.2.1 e49.2.2.2.2.2.2 w60 cw60 _ ?_
                  show At Go.Proofs.Try.prog Go.Proofs.Try.f3 0 23 ⟨[(0, .one (.c (.d (.int .i64 w60.1)))), (5, .one (.c (.ptr 0 0))), (7, .one (.c (.ptr 1 0)))], [], [(0, [.d (.int .i64 w60.2.1), .d (.sl (.pair (.int .i64) (.pair (.int .i64) (.pair (.int .i64) (.int .i64)))) w60.2.2.1)]), (1, [.d (.int .i64 w60.2.2.2.1), .d (.int .i64 w60.2.2.2.2.1), .d (.int .i64 w60.2.2.2.2.2.1), .mref 2]), (2, [.mp .i64 .i64 w60.2.2.2.2.2.2])], 3⟩ _
                  refine At.step hm ht ⟨[], [], [], [0, 5, 7, 12], [0, 1, 2]⟩ 24 ⟨[(0, .one (.c (.d (.int .i64 w60.1)))), (5, .one (.c (.ptr 0 0))), (7, .one (.c (.ptr 1 0))), (12, .one (.c (.d (.int .i64 0))))], [], [(0, [.d (.int .i64 w60.2.1), .d (.sl (.pair (.int .i64) (.pair (.int .i64) (.pair (.int .i64) (.int .i64)))) w60.2.2.1)]), (1, [.d (.int .i64 w60.2.2.2.1), .d (.int .i64 w60.2.2.2.2.1), .d (.int .i64 w60.2.2.2.2.2.1), .mref 2]), (2, [.mp .i64 .i64 w60.2.2.2.2.2.2])], 3⟩ [] (by kernel_rfl) trivial ?_
                  obtain ⟨w71, cw71, h⟩ := bindS h
                  refine f3_broughamlaw39_QuotaBounds_L24_ok n w60.1 0 w60.2.1 w60.2.2.1 w60.2.2.2.1 w60.2.2.2.2.1 w60.2.2.2.2.2.1 w60.2.2.2.2.2.2 w71 cw71 _ ?_
                  rcases w71 with e72 | e73
                  · have h := Option.some.inj h
                    subst h
                    rfl
                  · show At Go.Proofs.Try.prog Go.Proofs.Try.f3 0 28 ⟨[(0, .one (.c (.d (.int .i64 e73.1)))), (7, .one (.c (.ptr 0 0)))], [], [(0, [.d (.int .i64 e73.2.1), .d (.int .i64 e73.2.2.1), .d (.int .i64 e73.2.2.2.1), .mref 1]), (1, [.mp .i64 .i64 e73.2.2.2.2])], 2⟩ _
                    obtain ⟨r74_0, cr74_0, h⟩ := bindS h
                    rcases iteS h with ⟨b74_4, h⟩ | ⟨b74_4, h⟩
                    · obtain ⟨r74_1, cr74_1, h⟩ := bindS h
                      have h := Option.some.inj h
                      subst h
                      exact At.fin hm ht ⟨[(1, .call [0, 1] [] (f16_quota_Pool_Used_out r74_0)), (4, .b true), (5, .call [] [] (f19_broughamlaw39_alive_out r74_1))], [], [], [6], []⟩ [FnOK Go.Proofs.Try.prog 16 (f16_quota_Pool_Used_in e73.2.1 e73.2.2.1 e73.2.2.2.1 e73.2.2.2.2) (f16_quota_Pool_Used_out r74_0), (decide ((r74_0.1 : Int) ≤ e73.1)) = true, FnOK Go.Proofs.Try.prog 19 (f19_broughamlaw39_alive_in) (f19_broughamlaw39_alive_out r74_1)] (by kernel_rfl) ⟨(f16_quota_Pool_Used_ok e73.2.1 e73.2.2.1 e73.2.2.2.1 e73.2.2.2.2 r74_0 cr74_0), b74_4, (f19_broughamlaw39_alive_ok r74_1 cr74_1), trivial⟩
                    · have h := Option.some.inj h
                      subst h
                      exact At.fin hm ht ⟨[(1, .call [0, 1] [] (f16_quota_Pool_Used_out r74_0)), (4, .b false)], [], [], [6], []⟩ [FnOK Go.Proofs.Try.prog 16 (f16_quota_Pool_Used_in e73.2.1 e73.2.2.1 e73.2.2.2.1 e73.2.2.2.2) (f16_quota_Pool_Used_out r74_0), (decide ((r74_0.1 : Int) ≤ e73.1)) = false] (by kernel_rfl) ⟨(f16_quota_Pool_Used_ok e73.2.1 e73.2.2.1 e73.2.2.2.1 e73.2.2.2.2 r74_0 cr74_0), b74_4, trivial⟩
/-! brougham/broughamref39.within -/
def f67_broughamref39_within_in (n_ : Int) : Inn := ⟨[.c (.d (.int .i64 n_))], [], [], 0⟩
def f67_broughamref39_within_out (r : Int) : Out := ⟨.one (.c (.d (.int .i64 r))), [], [], 0⟩
def f67_broughamref39_within (n_ : Int) : Option (Int) :=
  if (decide ((n_ : Int) < 0)) = true then
    some 0
  else
    if (decide ((n_ : Int) > 1073741824)) = true then
      some 1073741824
    else
      some n_
theorem f67_broughamref39_within_ok (n_ : Int) (r : Int) (h : f67_broughamref39_within n_ = some r) : FnOK Go.Proofs.Try.prog 67 (f67_broughamref39_within_in n_) (f67_broughamref39_within_out r) := by
  unfold f67_broughamref39_within at h
  refine At.fn (r := 0) Go.Proofs.Try.func67 rfl (by kernel_rfl) rfl rfl (by kernel_rfl) ?_
  show At Go.Proofs.Try.prog Go.Proofs.Try.f67 0 0 ⟨[(0, .one (.c (.d (.int .i64 n_))))], [], [], 0⟩ _
  refine At.step hm ht ⟨[], [], [], [0], []⟩ 1 ⟨[(0, .one (.c (.d (.int .i64 n_))))], [], [], 0⟩ [] (by kernel_rfl) trivial ?_
  rcases iteS h with ⟨b92_e0, h⟩ | ⟨b92_e0, h⟩
  · refine At.step hm ht ⟨[], [true], [], [], []⟩ 2 ⟨[], [], [], 0⟩ [(decide ((n_ : Int) < 0)) = true] (by kernel_rfl) ⟨b92_e0, trivial⟩ ?_
    have h := Option.some.inj h
    subst h
    exact At.fin hm ht ⟨[], [], [], [2], []⟩ [] (by kernel_rfl) trivial
  · refine At.step hm ht ⟨[], [false], [], [0], []⟩ 3 ⟨[(0, .one (.c (.d (.int .i64 n_))))], [], [], 0⟩ [(decide ((n_ : Int) < 0)) = false] (by kernel_rfl) ⟨b92_e0, trivial⟩ ?_
    rcases iteS h with ⟨b94_e0, h⟩ | ⟨b94_e0, h⟩
    · refine At.step hm ht ⟨[], [true], [], [], []⟩ 4 ⟨[], [], [], 0⟩ [(decide ((n_ : Int) > 1073741824)) = true] (by kernel_rfl) ⟨b94_e0, trivial⟩ ?_
      have h := Option.some.inj h
      subst h
      exact At.fin hm ht ⟨[], [], [], [2], []⟩ [] (by kernel_rfl) trivial
    · refine At.step hm ht ⟨[], [false], [], [0], []⟩ 5 ⟨[(0, .one (.c (.d (.int .i64 n_))))], [], [], 0⟩ [(decide ((n_ : Int) > 1073741824)) = false] (by kernel_rfl) ⟨b94_e0, trivial⟩ ?_
      have h := Option.some.inj h
      subst h
      exact At.fin hm ht ⟨[], [], [], [2], []⟩ [] (by kernel_rfl) trivial
/-! brougham/broughamref39.New -/
def f29_broughamref39_New_in (all : Int) (each : Int) : Inn := ⟨[.c (.d (.int .i64 all)), .c (.d (.int .i64 each))], [], [], 0⟩
def f29_broughamref39_New_out (r : Int × Int) : Out := ⟨.one (.agg [.d (.int .i64 r.1), .d (.int .i64 r.2), .d (.sl .unit [])]), [], [(0, [.d (.int .i64 r.1), .d (.int .i64 r.2), .d (.sl .unit [])])], 1⟩
def f29_broughamref39_New (all : Int) (each : Int) : Option (Int × Int) :=
  (f67_broughamref39_within all).bind fun r90_0 =>
  (f67_broughamref39_within each).bind fun r90_1 =>
  some (r90_0, r90_1)
theorem f29_broughamref39_New_ok (all : Int) (each : Int) (r : Int × Int) (h : f29_broughamref39_New all each = some r) : FnOK Go.Proofs.Try.prog 29 (f29_broughamref39_New_in all each) (f29_broughamref39_New_out r) := by
  unfold f29_broughamref39_New at h
  refine At.fn (r := 0) Go.Proofs.Try.func29 rfl (by kernel_rfl) rfl rfl (by kernel_rfl) ?_
  show At Go.Proofs.Try.prog Go.Proofs.Try.f29 0 0 ⟨[(0, .one (.c (.d (.int .i64 all)))), (1, .one (.c (.d (.int .i64 each))))], [], [], 0⟩ _
  refine At.step hm ht ⟨[], [], [], [0, 1, 4], [0]⟩ 1 ⟨[(0, .one (.c (.d (.int .i64 all)))), (1, .one (.c (.d (.int .i64 each)))), (4, .one (.c (.ptr 0 0)))], [], [(0, [.d (.int .i64 0), .d (.int .i64 0), .d (.sl .unit [])])], 1⟩ [] (by kernel_rfl) trivial ?_
  obtain ⟨r90_0, cr90_0, h⟩ := bindS h
  obtain ⟨r90_1, cr90_1, h⟩ := bindS h
  have h := Option.some.inj h
  subst h
  exact At.fin hm ht ⟨[(1, .call [] [] (f67_broughamref39_within_out r90_0)), (3, .call [] [] (f67_broughamref39_within_out r90_1))], [], [], [4], [0]⟩ [FnOK Go.Proofs.Try.prog 67 (f67_broughamref39_within_in all) (f67_broughamref39_within_out r90_0), FnOK Go.Proofs.Try.prog 67 (f67_broughamref39_within_in each) (f67_broughamref39_within_out r90_1), 0 + 3 ≤ 3] (by kernel_rfl) ⟨(f67_broughamref39_within_ok all r90_0 cr90_0), (f67_broughamref39_within_ok each r90_1 cr90_1), (by decide), trivial⟩
/-! brougham/broughamref39.Of -/
def f32_broughamref39_Of_in (p_0 : Int) (p_1 : Int) (p_2 : List (Int × Int)) (id : Int) : Inn := ⟨[.agg [.d (.int .i64 p_0), .d (.int .i64 p_1), .d (.sl (.pair (.int .i64) (.int .i64)) p_2)], .c (.d (.int .i64 id))], [], [], 0⟩
def f32_broughamref39_Of_out (r : Int) : Out := ⟨.one (.c (.d (.int .i64 r))), [], [], 0⟩
def f32_broughamref39_Of_L2 : Nat → Int → Int → Int → Int → (List (Int × Int)) → Option ((Int) ⊕ (Unit))
  | 0, _, _, _, _, _ => none
  | n + 1, id, i, p_0, p_1, p_2 =>
    if (decide ((i : Int) < ((p_2.length : Nat) : Int))) = true then
      if (0 : Int) ≤ i ∧ i < (((p_2).length : Nat) : Int) then
      if ((((p_2.getD i.toNat (0, 0)).1) : Int) == id) = true then
        if (0 : Int) ≤ i ∧ i < (((p_2).length : Nat) : Int) then
        some (.inl ((p_2.getD i.toNat (0, 0)).2))
        else none
      else
        f32_broughamref39_Of_L2 n id (IntKind.wrap .i64 (i + 1)) p_0 p_1 p_2
      else none
    else
      some (.inr ())
def f32_broughamref39_Of_L2_k (w : (Int) ⊕ (Unit)) (o : Out) : Prop := match w with
  | .inl e => o = f32_broughamref39_Of_out e
  | .inr e => At Go.Proofs.Try.prog Go.Proofs.Try.f32 0 6 ⟨[], [], [], 0⟩ o
theorem f32_broughamref39_Of_L2_ok (n : Nat) : ∀ (id : Int) (i : Int) (p_0 : Int) (p_1 : Int) (p_2 : List (Int × Int)) (w : (Int) ⊕ (Unit)) (h : f32_broughamref39_Of_L2 n id i p_0 p_1 p_2 = some w) (o : Out) (hk : f32_broughamref39_Of_L2_k w o), At Go.Proofs.Try.prog Go.Proofs.Try.f32 0 2 ⟨[(1, .one (.c (.d (.int .i64 id)))), (2, .one (.c (.ptr 0 0))), (5, .one (.c (.d (.int .i64 i))))], [], [(0, [.d (.int .i64 p_0), .d (.int .i64 p_1), .d (.sl (.pair (.int .i64) (.int .i64)) p_2)])], 1⟩ o := by
  induction n with
  | zero => intro id i p_0 p_1 p_2 w h; rw [f32_broughamref39_Of_L2] at h; cases h
  | succ n ih =>
    intro id i p_0 p_1 p_2 w h o hk
    rw [f32_broughamref39_Of_L2] at h
    rcases iteS h with ⟨b110_e0, h⟩ | ⟨b110_e0, h⟩
    · refine At.step hm ht ⟨[], [true], [], [1, 2, 5], [0]⟩ 4 ⟨[(1, .one (.c (.d (.int .i64 id)))), (2, .one (.c (.ptr 0 0))), (5, .one (.c (.d (.int .i64 i))))], [], [(0, [.d (.int .i64 p_0), .d (.int .i64 p_1), .d (.sl (.pair (.int .i64) (.int .i64)) p_2)])], 1⟩ [(decide ((i : Int) < ((p_2.length : Nat) : Int))) = true] (by kernel_rfl) ⟨b110_e0, trivial⟩ ?_
      obtain ⟨g111_0, h⟩ := ifS h
      rcases iteS h with ⟨b111_e0, h⟩ | ⟨b111_e0, h⟩
      · refine At.step hm ht ⟨[], [true], [], [2, 5], [0]⟩ 5 ⟨[(2, .one (.c (.ptr 0 0))), (5, .one (.c (.d (.int .i64 i))))], [], [(0, [.d (.int .i64 p_0), .d (.int .i64 p_1), .d (.sl (.pair (.int .i64) (.int .i64)) p_2)])], 1⟩ [(0 : Int) ≤ i ∧ i < (((p_2).length : Nat) : Int), ((((p_2.getD i.toNat (0, 0)).1) : Int) == id) = true] (by kernel_rfl) ⟨g111_0, b111_e0, trivial⟩ ?_
        obtain ⟨g112_0, h⟩ := ifS h
        have h := Option.some.inj h
        subst h
        have hk : o = f32_broughamref39_Of_out ((p_2.getD i.toNat (0, 0)).2) := hk
        subst hk
        exact At.fin hm ht ⟨[], [], [], [4], []⟩ [(0 : Int) ≤ i ∧ i < (((p_2).length : Nat) : Int)] (by kernel_rfl) ⟨g112_0, trivial⟩
      · refine At.step hm ht ⟨[], [false], [], [1, 2, 5], [0]⟩ 3 ⟨[(1, .one (.c (.d (.int .i64 id)))), (2, .one (.c (.ptr 0 0))), (5, .one (.c (.d (.int .i64 i))))], [], [(0, [.d (.int .i64 p_0), .d (.int .i64 p_1), .d (.sl (.pair (.int .i64) (.int .i64)) p_2)])], 1⟩ [(0 : Int) ≤ i ∧ i < (((p_2).length : Nat) : Int), ((((p_2.getD i.toNat (0, 0)).1) : Int) == id) = false] (by kernel_rfl) ⟨g111_0, b111_e0, trivial⟩ ?_
        refine At.step hm ht ⟨[], [], [], [1, 2, 5], [0]⟩ 2 ⟨[(1, .one (.c (.d (.int .i64 id)))), (2, .one (.c (.ptr 0 0))), (5, .one (.c (.d (.int .i64 (IntKind.wrap .i64 (i + 1))))))], [], [(0, [.d (.int .i64 p_0), .d (.int .i64 p_1), .d (.sl (.pair (.int .i64) (.int .i64)) p_2)])], 1⟩ [] (by kernel_rfl) trivial ?_
        exact ih id (IntKind.wrap .i64 (i + 1)) p_0 p_1 p_2 w h o hk
    · refine At.step hm ht ⟨[], [false], [], [], []⟩ 6 ⟨[], [], [], 0⟩ [(decide ((i : Int) < ((p_2.length : Nat) : Int))) = false] (by kernel_rfl) ⟨b110_e0, trivial⟩ ?_
      have h := Option.some.inj h
      subst h
      exact hk
def f32_broughamref39_Of (n : Nat) (p_0 : Int) (p_1 : Int) (p_2 : List (Int × Int)) (id : Int) : Option (Int) :=
  (f32_broughamref39_Of_L2 n id 0 p_0 p_1 p_2).bind fun w114 =>
  match w114 with
  | .inl e115 =>
    some e115
  | .inr e116 =>
    some 0
theorem f32_broughamref39_Of_ok (n : Nat) (p_0 : Int) (p_1 : Int) (p_2 : List (Int × Int)) (id : Int) (r : Int) (h : f32_broughamref39_Of n p_0 p_1 p_2 id = some r) : FnOK Go.Proofs.Try.prog 32 (f32_broughamref39_Of_in p_0 p_1 p_2 id) (f32_broughamref39_Of_out r) := by
  unfold f32_broughamref39_Of at h
  refine At.fn (r := 0) Go.Proofs.Try.func32 rfl (by kernel_rfl) rfl rfl (by kernel_rfl) ?_
  show At Go.Proofs.Try.prog Go.Proofs.Try.f32 0 0 ⟨[(0, .one (.agg [.d (.int .i64 p_0), .d (.int .i64 p_1), .d (.sl (.pair (.int .i64) (.int .i64)) p_2)])), (1, .one (.c (.d (.int .i64 id))))], [], [], 0⟩ _
  refine At.step hm ht ⟨[], [], [], [1, 2], [0]⟩ 1 ⟨[(1, .one (.c (.d (.int .i64 id)))), (2, .one (.c (.ptr 0 0)))], [], [(0, [.d (.int .i64 p_0), .d (.int .i64 p_1), .d (.sl (.pair (.int .i64) (.int .i64)) p_2)])], 1⟩ [] (by kernel_rfl) trivial ?_
  refine At.step hm ht ⟨[], [], [], [1, 2, 5], [0]⟩ 2 ⟨[(1, .one (.c (.d (.int .i64 id)))), (2, .one (.c (.ptr 0 0))), (5, .one (.c (.d (.int .i64 0))))], [], [(0, [.d (.int .i64 p_0), .d (.int .i64 p_1), .d (.sl (.pair (.int .i64) (.int .i64)) p_2)])], 1⟩ [] (by kernel_rfl) trivial ?_
  obtain ⟨w114, cw114, h⟩ := bindS h
  refine f32_broughamref39_Of_L2_ok n id 0 p_0 p_1 p_2 w114 cw114 _ ?_
  rcases w114 with e115 | e116
  · have h := Option.some.inj h
    subst h
    rfl
  · show At Go.Proofs.Try.prog Go.Proofs.Try.f32 0 6 ⟨[], [], [], 0⟩ _
    have h := Option.some.inj h
    subst h
    exact At.fin hm ht ⟨[], [], [], [4], []⟩ [] (by kernel_rfl) trivial
/-! brougham/broughamref39.set -/
def f68_broughamref39_set_in (p_0 : Int) (p_1 : Int) (p_2 : List (Int × Int)) (id : Int) (n_ : Int) : Inn := ⟨[.agg [.d (.int .i64 p_0), .d (.int .i64 p_1), .d (.sl (.pair (.int .i64) (.int .i64)) p_2)], .c (.d (.int .i64 id)), .c (.d (.int .i64 n_))], [], [], 0⟩
def f68_broughamref39_set_out (r : Int × Int × List (Int × Int)) : Out := ⟨.one (.agg [.d (.int .i64 r.1), .d (.int .i64 r.2.1), .own 1 (.pair (.int .i64) (.int .i64)) r.2.2]), [(1, ⟨106, 0⟩)], [(0, [.d (.int .i64 r.1), .d (.int .i64 r.2.1), .own 1 (.pair (.int .i64) (.int .i64)) r.2.2])], 2⟩
def f68_broughamref39_set_L3 : Nat → Int → Int → (List (Int × Int)) → Int → Int → Int → (List (Int × Int)) → Int → Int → Option (Int × Int × (List (Int × Int)) × Int × Int × (List (Int × Int)) × Int × Int)
  | 0, _, _, _, _, _, _, _, _, _ => none
  | n + 1, id, n_, out, i, p_0, p_1, p_2, t6_0, t6_1 =>
    if (decide ((i : Int) < ((p_2.length : Nat) : Int))) = true then
      if (0 : Int) ≤ i ∧ i < (((p_2).length : Nat) : Int) then
      if ((((p_2.getD i.toNat (0, 0)).1) : Int) != id) = true then
        if (0 : Int) ≤ i ∧ i < (((p_2).length : Nat) : Int) then
        if out.length + [(p_2.getD i.toNat (0, 0))].length ≤ maxLen ∧ (out.length + [(p_2.getD i.toNat (0, 0))].length) * 16 ≤ 140737488355328 then
        f68_broughamref39_set_L3 n id n_ (out ++ [(p_2.getD i.toNat (0, 0))]) (IntKind.wrap .i64 (i + 1)) p_0 p_1 p_2 t6_0 t6_1
        else none
        else none
      else
        f68_broughamref39_set_L3 n id n_ out (IntKind.wrap .i64 (i + 1)) p_0 p_1 p_2 t6_0 t6_1
      else none
    else
      some ((id, n_, out, p_0, p_1, p_2, t6_0, t6_1))
def f68_broughamref39_set_L3_k (e : Int × Int × (List (Int × Int)) × Int × Int × (List (Int × Int)) × Int × Int) (o : Out) : Prop := At Go.Proofs.Try.prog Go.Proofs.Try.f68 0 7 ⟨[(1, .one (.c (.d (.int .i64 e.1)))), (2, .one (.c (.d (.int .i64 e.2.1)))), (3, .one (.c (.ptr 0 0))), (6, .one (.c (.ptr 1 0))), (7, .one (.c (.own 2 (.pair (.int .i64) (.int .i64)) e.2.2.1)))], [(2, some ⟨106, 0⟩)], [(0, [.d (.int .i64 e.2.2.2.1), .d (.int .i64 e.2.2.2.2.1), .d (.sl (.pair (.int .i64) (.int .i64)) e.2.2.2.2.2.1)]), (1, [.d (.int .i64 e.2.2.2.2.2.2.1), .d (.int .i64 e.2.2.2.2.2.2.2), .d (.sl .unit [])])], 3⟩ o
theorem f68_broughamref39_set_L3_ok (n : Nat) : ∀ (id : Int) (n_ : Int) (out : List (Int × Int)) (i : Int) (p_0 : Int) (p_1 : Int) (p_2 : List (Int × Int)) (t6_0 : Int) (t6_1 : Int) (w : Int × Int × (List (Int × Int)) × Int × Int × (List (Int × Int)) × Int × Int) (h : f68_broughamref39_set_L3 n id n_ out i p_0 p_1 p_2 t6_0 t6_1 = some w) (o : Out) (hk : f68_broughamref39_set_L3_k w o), At Go.Proofs.Try.prog Go.Proofs.Try.f68 0 3 ⟨[(1, .one (.c (.d (.int .i64 id)))), (2, .one (.c (.d (.int .i64 n_)))), (3, .one (.c (.ptr 0 0))), (6, .one (.c (.ptr 1 0))), (7, .one (.c (.own 2 (.pair (.int .i64) (.int .i64)) out))), (8, .one (.c (.d (.int .i64 i))))], [(2, some ⟨106, 0⟩)], [(0, [.d (.int .i64 p_0), .d (.int .i64 p_1), .d (.sl (.pair (.int .i64) (.int .i64)) p_2)]), (1, [.d (.int .i64 t6_0), .d (.int .i64 t6_1), .d (.sl .unit [])])], 3⟩ o := by
  induction n with
  | zero => intro id n_ out i p_0 p_1 p_2 t6_0 t6_1 w h; rw [f68_broughamref39_set_L3] at h; cases h
  | succ n ih =>
    intro id n_ out i p_0 p_1 p_2 t6_0 t6_1 w h o hk
    rw [f68_broughamref39_set_L3] at h
    rcases iteS h with ⟨b130_e0, h⟩ | ⟨b130_e0, h⟩
    · refine At.step hm ht ⟨[], [true], [], [1, 2, 3, 6, 7, 8], [0, 1, 2]⟩ 5 ⟨[(1, .one (.c (.d (.int .i64 id)))), (2, .one (.c (.d (.int .i64 n_)))), (3, .one (.c (.ptr 0 0))), (6, .one (.c (.ptr 1 0))), (7, .one (.c (.own 2 (.pair (.int .i64) (.int .i64)) out))), (8, .one (.c (.d (.int .i64 i))))], [(2, some ⟨106, 0⟩)], [(0, [.d (.int .i64 p_0), .d (.int .i64 p_1), .d (.sl (.pair (.int .i64) (.int .i64)) p_2)]), (1, [.d (.int .i64 t6_0), .d (.int .i64 t6_1), .d (.sl .unit [])])], 3⟩ [(decide ((i : Int) < ((p_2.length : Nat) : Int))) = true] (by kernel_rfl) ⟨b130_e0, trivial⟩ ?_
      obtain ⟨g131_0, h⟩ := ifS h
      rcases iteS h with ⟨b131_e0, h⟩ | ⟨b131_e0, h⟩
      · refine At.step hm ht ⟨[], [true], [], [1, 2, 3, 6, 7, 8], [0, 1, 2]⟩ 6 ⟨[(1, .one (.c (.d (.int .i64 id)))), (2, .one (.c (.d (.int .i64 n_)))), (3, .one (.c (.ptr 0 0))), (6, .one (.c (.ptr 1 0))), (7, .one (.c (.own 2 (.pair (.int .i64) (.int .i64)) out))), (8, .one (.c (.d (.int .i64 i))))], [(2, some ⟨106, 0⟩)], [(0, [.d (.int .i64 p_0), .d (.int .i64 p_1), .d (.sl (.pair (.int .i64) (.int .i64)) p_2)]), (1, [.d (.int .i64 t6_0), .d (.int .i64 t6_1), .d (.sl .unit [])])], 3⟩ [(0 : Int) ≤ i ∧ i < (((p_2).length : Nat) : Int), ((((p_2.getD i.toNat (0, 0)).1) : Int) != id) = true] (by kernel_rfl) ⟨g131_0, b131_e0, trivial⟩ ?_
        obtain ⟨g132_0, h⟩ := ifS h
        obtain ⟨g132_1, h⟩ := ifS h
        refine At.step hm ht ⟨[], [], [], [1, 2, 3, 6, 7, 8], [0, 1, 10]⟩ 4 ⟨[(1, .one (.c (.d (.int .i64 id)))), (2, .one (.c (.d (.int .i64 n_)))), (3, .one (.c (.ptr 0 0))), (6, .one (.c (.ptr 1 0))), (7, .one (.c (.own 2 (.pair (.int .i64) (.int .i64)) (out ++ [(p_2.getD i.toNat (0, 0))])))), (8, .one (.c (.d (.int .i64 i))))], [(2, some ⟨106, 0⟩)], [(0, [.d (.int .i64 p_0), .d (.int .i64 p_1), .d (.sl (.pair (.int .i64) (.int .i64)) p_2)]), (1, [.d (.int .i64 t6_0), .d (.int .i64 t6_1), .d (.sl .unit [])])], 3⟩ [(0 : Int) ≤ i ∧ i < (((p_2).length : Nat) : Int), out.length + [(p_2.getD i.toNat (0, 0))].length ≤ maxLen ∧ (out.length + [(p_2.getD i.toNat (0, 0))].length) * 16 ≤ 140737488355328] (by kernel_rfl) ⟨g132_0, g132_1, trivial⟩ ?_
        refine At.step hm ht ⟨[], [], [], [1, 2, 3, 6, 7, 8], [0, 1, 2]⟩ 3 ⟨[(1, .one (.c (.d (.int .i64 id)))), (2, .one (.c (.d (.int .i64 n_)))), (3, .one (.c (.ptr 0 0))), (6, .one (.c (.ptr 1 0))), (7, .one (.c (.own 2 (.pair (.int .i64) (.int .i64)) (out ++ [(p_2.getD i.toNat (0, 0))])))), (8, .one (.c (.d (.int .i64 (IntKind.wrap .i64 (i + 1))))))], [(2, some ⟨106, 0⟩)], [(0, [.d (.int .i64 p_0), .d (.int .i64 p_1), .d (.sl (.pair (.int .i64) (.int .i64)) p_2)]), (1, [.d (.int .i64 t6_0), .d (.int .i64 t6_1), .d (.sl .unit [])])], 3⟩ [] (by kernel_rfl) trivial ?_
        exact ih id n_ (out ++ [(p_2.getD i.toNat (0, 0))]) (IntKind.wrap .i64 (i + 1)) p_0 p_1 p_2 t6_0 t6_1 w h o hk
      · refine At.step hm ht ⟨[], [false], [], [1, 2, 3, 6, 7, 8], [0, 1, 2]⟩ 4 ⟨[(1, .one (.c (.d (.int .i64 id)))), (2, .one (.c (.d (.int .i64 n_)))), (3, .one (.c (.ptr 0 0))), (6, .one (.c (.ptr 1 0))), (7, .one (.c (.own 2 (.pair (.int .i64) (.int .i64)) out))), (8, .one (.c (.d (.int .i64 i))))], [(2, some ⟨106, 0⟩)], [(0, [.d (.int .i64 p_0), .d (.int .i64 p_1), .d (.sl (.pair (.int .i64) (.int .i64)) p_2)]), (1, [.d (.int .i64 t6_0), .d (.int .i64 t6_1), .d (.sl .unit [])])], 3⟩ [(0 : Int) ≤ i ∧ i < (((p_2).length : Nat) : Int), ((((p_2.getD i.toNat (0, 0)).1) : Int) != id) = false] (by kernel_rfl) ⟨g131_0, b131_e0, trivial⟩ ?_
        refine At.step hm ht ⟨[], [], [], [1, 2, 3, 6, 7, 8], [0, 1, 2]⟩ 3 ⟨[(1, .one (.c (.d (.int .i64 id)))), (2, .one (.c (.d (.int .i64 n_)))), (3, .one (.c (.ptr 0 0))), (6, .one (.c (.ptr 1 0))), (7, .one (.c (.own 2 (.pair (.int .i64) (.int .i64)) out))), (8, .one (.c (.d (.int .i64 (IntKind.wrap .i64 (i + 1))))))], [(2, some ⟨106, 0⟩)], [(0, [.d (.int .i64 p_0), .d (.int .i64 p_1), .d (.sl (.pair (.int .i64) (.int .i64)) p_2)]), (1, [.d (.int .i64 t6_0), .d (.int .i64 t6_1), .d (.sl .unit [])])], 3⟩ [] (by kernel_rfl) trivial ?_
        exact ih id n_ out (IntKind.wrap .i64 (i + 1)) p_0 p_1 p_2 t6_0 t6_1 w h o hk
    · refine At.step hm ht ⟨[], [false], [], [1, 2, 3, 6, 7], [0, 1, 2]⟩ 7 ⟨[(1, .one (.c (.d (.int .i64 id)))), (2, .one (.c (.d (.int .i64 n_)))), (3, .one (.c (.ptr 0 0))), (6, .one (.c (.ptr 1 0))), (7, .one (.c (.own 2 (.pair (.int .i64) (.int .i64)) out)))], [(2, some ⟨106, 0⟩)], [(0, [.d (.int .i64 p_0), .d (.int .i64 p_1), .d (.sl (.pair (.int .i64) (.int .i64)) p_2)]), (1, [.d (.int .i64 t6_0), .d (.int .i64 t6_1), .d (.sl .unit [])])], 3⟩ [(decide ((i : Int) < ((p_2.length : Nat) : Int))) = false] (by kernel_rfl) ⟨b130_e0, trivial⟩ ?_
      have h := Option.some.inj h
      subst h
      exact hk
def f68_broughamref39_set (n : Nat) (p_0 : Int) (p_1 : Int) (p_2 : List (Int × Int)) (id : Int) (n_ : Int) : Option (Int × Int × List (Int × Int)) :=
  (f68_broughamref39_set_L3 n id n_ [] 0 p_0 p_1 p_2 0 0).bind fun w135 =>
  if (decide ((w135.2.1 : Int) > 0)) = true then
    if w135.2.2.1.length + [(w135.1, w135.2.1)].length ≤ maxLen ∧ (w135.2.2.1.length + [(w135.1, w135.2.1)].length) * 16 ≤ 140737488355328 then
    some (w135.2.2.2.1, w135.2.2.2.2.1, (w135.2.2.1 ++ [(w135.1, w135.2.1)]))
    else none
  else
    some (w135.2.2.2.1, w135.2.2.2.2.1, w135.2.2.1)
theorem f68_broughamref39_set_ok (n : Nat) (p_0 : Int) (p_1 : Int) (p_2 : List (Int × Int)) (id : Int) (n_ : Int) (r : Int × Int × List (Int × Int)) (h : f68_broughamref39_set n p_0 p_1 p_2 id n_ = some r) : FnOK Go.Proofs.Try.prog 68 (f68_broughamref39_set_in p_0 p_1 p_2 id n_) (f68_broughamref39_set_out r) := by
  unfold f68_broughamref39_set at h
  refine At.fn (r := 0) Go.Proofs.Try.func68 rfl (by kernel_rfl) rfl rfl (by kernel_rfl) ?_
  show At Go.Proofs.Try.prog Go.Proofs.Try.f68 0 0 ⟨[(0, .one (.agg [.d (.int .i64 p_0), .d (.int .i64 p_1), .d (.sl (.pair (.int .i64) (.int .i64)) p_2)])), (1, .one (.c (.d (.int .i64 id)))), (2, .one (.c (.d (.int .i64 n_))))], [], [], 0⟩ _
  refine At.step hm ht ⟨[], [], [], [1, 2, 3, 6], [0, 1]⟩ 1 ⟨[(1, .one (.c (.d (.int .i64 id)))), (2, .one (.c (.d (.int .i64 n_)))), (3, .one (.c (.ptr 0 0))), (6, .one (.c (.ptr 1 0)))], [], [(0, [.d (.int .i64 p_0), .d (.int .i64 p_1), .d (.sl (.pair (.int .i64) (.int .i64)) p_2)]), (1, [.d (.int .i64 0), .d (.int .i64 0), .d (.sl .unit [])])], 2⟩ [] (by kernel_rfl) trivial ?_
  refine At.step hm ht ⟨[], [], [], [1, 2, 3, 6, 7], [0, 1]⟩ 2 ⟨[(1, .one (.c (.d (.int .i64 id)))), (2, .one (.c (.d (.int .i64 n_)))), (3, .one (.c (.ptr 0 0))), (6, .one (.c (.ptr 1 0))), (7, .one (.c (.d (.sl .unit []))))], [], [(0, [.d (.int .i64 p_0), .d (.int .i64 p_1), .d (.sl (.pair (.int .i64) (.int .i64)) p_2)]), (1, [.d (.int .i64 0), .d (.int .i64 0), .d (.sl .unit [])])], 2⟩ [] (by kernel_rfl) trivial ?_
  refine At.step hm ht ⟨[], [], [.nil false 7 0 (.pair (.int .i64) (.int .i64)) (some 106)], [1, 2, 3, 6, 7, 8], [0, 1, 3]⟩ 3 ⟨[(1, .one (.c (.d (.int .i64 id)))), (2, .one (.c (.d (.int .i64 n_)))), (3, .one (.c (.ptr 0 0))), (6, .one (.c (.ptr 1 0))), (7, .one (.c (.own 2 (.pair (.int .i64) (.int .i64)) []))), (8, .one (.c (.d (.int .i64 0))))], [(2, some ⟨106, 0⟩)], [(0, [.d (.int .i64 p_0), .d (.int .i64 p_1), .d (.sl (.pair (.int .i64) (.int .i64)) p_2)]), (1, [.d (.int .i64 0), .d (.int .i64 0), .d (.sl .unit [])])], 3⟩ [] (by kernel_rfl) trivial ?_
  obtain ⟨w135, cw135, h⟩ := bindS h
  refine f68_broughamref39_set_L3_ok n id n_ [] 0 p_0 p_1 p_2 0 0 w135 cw135 _ ?_
  show At Go.Proofs.Try.prog Go.Proofs.Try.f68 0 7 ⟨[(1, .one (.c (.d (.int .i64 w135.1)))), (2, .one (.c (.d (.int .i64 w135.2.1)))), (3, .one (.c (.ptr 0 0))), (6, .one (.c (.ptr 1 0))), (7, .one (.c (.own 2 (.pair (.int .i64) (.int .i64)) w135.2.2.1)))], [(2, some ⟨106, 0⟩)], [(0, [.d (.int .i64 w135.2.2.2.1), .d (.int .i64 w135.2.2.2.2.1), .d (.sl (.pair (.int .i64) (.int .i64)) w135.2.2.2.2.2.1)]), (1, [.d (.int .i64 w135.2.2.2.2.2.2.1), .d (.int .i64 w135.2.2.2.2.2.2.2), .d (.sl .unit [])])], 3⟩ _
  rcases iteS h with ⟨b137_e0, h⟩ | ⟨b137_e0, h⟩
  · refine At.step hm ht ⟨[], [true], [], [1, 2, 3, 6, 7], [0, 1, 2]⟩ 8 ⟨[(1, .one (.c (.d (.int .i64 w135.1)))), (2, .one (.c (.d (.int .i64 w135.2.1)))), (3, .one (.c (.ptr 0 0))), (6, .one (.c (.ptr 1 0))), (7, .one (.c (.own 2 (.pair (.int .i64) (.int .i64)) w135.2.2.1)))], [(2, some ⟨106, 0⟩)], [(0, [.d (.int .i64 w135.2.2.2.1), .d (.int .i64 w135.2.2.2.2.1), .d (.sl (.pair (.int .i64) (.int .i64)) w135.2.2.2.2.2.1)]), (1, [.d (.int .i64 w135.2.2.2.2.2.2.1), .d (.int .i64 w135.2.2.2.2.2.2.2), .d (.sl .unit [])])], 3⟩ [(decide ((w135.2.1 : Int) > 0)) = true] (by kernel_rfl) ⟨b137_e0, trivial⟩ ?_
    obtain ⟨g138_0, h⟩ := ifS h
    refine At.step hm ht ⟨[], [], [], [3, 6, 7], [0, 1, 8]⟩ 9 ⟨[(3, .one (.c (.ptr 0 0))), (6, .one (.c (.ptr 1 0))), (7, .one (.c (.own 2 (.pair (.int .i64) (.int .i64)) (w135.2.2.1 ++ [(w135.1, w135.2.1)]))))], [(2, some ⟨106, 0⟩)], [(0, [.d (.int .i64 w135.2.2.2.1), .d (.int .i64 w135.2.2.2.2.1), .d (.sl (.pair (.int .i64) (.int .i64)) w135.2.2.2.2.2.1)]), (1, [.d (.int .i64 w135.2.2.2.2.2.2.1), .d (.int .i64 w135.2.2.2.2.2.2.2), .d (.sl .unit [])])], 3⟩ [w135.2.2.1.length + [(w135.1, w135.2.1)].length ≤ maxLen ∧ (w135.2.2.1.length + [(w135.1, w135.2.1)].length) * 16 ≤ 140737488355328] (by kernel_rfl) ⟨g138_0, trivial⟩ ?_
    refine At.step hm ht ⟨[], [], [], [3, 6], [0, 1, 2]⟩ 10 ⟨[(3, .one (.c (.ptr 0 0))), (6, .one (.c (.ptr 1 0)))], [(2, some ⟨106, 0⟩)], [(0, [.d (.int .i64 w135.2.2.2.1), .d (.int .i64 w135.2.2.2.2.1), .own 2 (.pair (.int .i64) (.int .i64)) (w135.2.2.1 ++ [(w135.1, w135.2.1)])]), (1, [.d (.int .i64 w135.2.2.2.2.2.2.1), .d (.int .i64 w135.2.2.2.2.2.2.2), .d (.sl .unit [])])], 3⟩ [2 + 1 ≤ 3] (by kernel_rfl) ⟨(by decide), trivial⟩ ?_
    have h := Option.some.inj h
    subst h
    exact At.fin hm ht ⟨[], [], [], [6], [1, 2]⟩ [0 + 3 ≤ 3] (by kernel_rfl) ⟨(by decide), trivial⟩
  · refine At.step hm ht ⟨[], [false], [], [3, 6, 7], [0, 1, 2]⟩ 9 ⟨[(3, .one (.c (.ptr 0 0))), (6, .one (.c (.ptr 1 0))), (7, .one (.c (.own 2 (.pair (.int .i64) (.int .i64)) w135.2.2.1)))], [(2, some ⟨106, 0⟩)], [(0, [.d (.int .i64 w135.2.2.2.1), .d (.int .i64 w135.2.2.2.2.1), .d (.sl (.pair (.int .i64) (.int .i64)) w135.2.2.2.2.2.1)]), (1, [.d (.int .i64 w135.2.2.2.2.2.2.1), .d (.int .i64 w135.2.2.2.2.2.2.2), .d (.sl .unit [])])], 3⟩ [(decide ((w135.2.1 : Int) > 0)) = false] (by kernel_rfl) ⟨b137_e0, trivial⟩ ?_
    refine At.step hm ht ⟨[], [], [], [3, 6], [0, 1, 2]⟩ 10 ⟨[(3, .one (.c (.ptr 0 0))), (6, .one (.c (.ptr 1 0)))], [(2, some ⟨106, 0⟩)], [(0, [.d (.int .i64 w135.2.2.2.1), .d (.int .i64 w135.2.2.2.2.1), .own 2 (.pair (.int .i64) (.int .i64)) w135.2.2.1]), (1, [.d (.int .i64 w135.2.2.2.2.2.2.1), .d (.int .i64 w135.2.2.2.2.2.2.2), .d (.sl .unit [])])], 3⟩ [2 + 1 ≤ 3] (by kernel_rfl) ⟨(by decide), trivial⟩ ?_
    have h := Option.some.inj h
    subst h
    exact At.fin hm ht ⟨[], [], [], [6], [1, 2]⟩ [0 + 3 ≤ 3] (by kernel_rfl) ⟨(by decide), trivial⟩
/-! brougham/broughamref39.Give -/
def f30_broughamref39_Give_in (p_0 : Int) (p_1 : Int) (p_2 : List (Int × Int)) (id : Int) (n_ : Int) : Inn := ⟨[.agg [.d (.int .i64 p_0), .d (.int .i64 p_1), .d (.sl (.pair (.int .i64) (.int .i64)) p_2)], .c (.d (.int .i64 id)), .c (.d (.int .i64 n_))], [], [], 0⟩
def f30_broughamref39_Give_out (r : Int × Int × Int × List (Int × Int)) : Out := ⟨.tup [.agg [.d (.int .i64 r.2.1), .d (.int .i64 r.2.2.1), .own 1 (.pair (.int .i64) (.int .i64)) r.2.2.2], .c (.d (.int .i64 r.1))], [(1, ⟨106, 0⟩)], [(0, [.d (.int .i64 r.2.1), .d (.int .i64 r.2.2.1), .own 1 (.pair (.int .i64) (.int .i64)) r.2.2.2])], 2⟩
def f30_broughamref39_Give (n : Nat) (p_0 : Int) (p_1 : Int) (p_2 : List (Int × Int)) (id : Int) (n_ : Int) : Option (Int × Int × Int × List (Int × Int)) :=
  if (decide ((n_ : Int) < 0)) = true then
    (f32_broughamref39_Of n p_0 p_1 p_2 id).bind fun r107_0 =>
    if (decide ((0 : Int) > r107_0)) = true then
      (f32_broughamref39_Of n p_0 p_1 p_2 id).bind fun r118_0 =>
      (f32_broughamref39_Of n p_0 p_1 p_2 id).bind fun r119_0 =>
      (f68_broughamref39_set n p_0 p_1 p_2 id (IntKind.wrap .i64 (r119_0 - r118_0))).bind fun r119_1 =>
      some (r118_0, r119_1.1, r119_1.2.1, r119_1.2.2)
    else
      (f32_broughamref39_Of n p_0 p_1 p_2 id).bind fun r143_0 =>
      (f68_broughamref39_set n p_0 p_1 p_2 id (IntKind.wrap .i64 (r143_0 - 0))).bind fun r143_1 =>
      some (0, r143_1.1, r143_1.2.1, r143_1.2.2)
  else
    (f32_broughamref39_Of n p_0 p_1 p_2 id).bind fun r144_0 =>
    if (decide ((n_ : Int) > r144_0)) = true then
      (f32_broughamref39_Of n p_0 p_1 p_2 id).bind fun r145_0 =>
      (f32_broughamref39_Of n p_0 p_1 p_2 id).bind fun r146_0 =>
      (f68_broughamref39_set n p_0 p_1 p_2 id (IntKind.wrap .i64 (r146_0 - r145_0))).bind fun r146_1 =>
      some (r145_0, r146_1.1, r146_1.2.1, r146_1.2.2)
    else
      (f32_broughamref39_Of n p_0 p_1 p_2 id).bind fun r147_0 =>
      (f68_broughamref39_set n p_0 p_1 p_2 id (IntKind.wrap .i64 (r147_0 - n_))).bind fun r147_1 =>
      some (n_, r147_1.1, r147_1.2.1, r147_1.2.2)
theorem f30_broughamref39_Give_ok (n : Nat) (p_0 : Int) (p_1 : Int) (p_2 : List (Int × Int)) (id : Int) (n_ : Int) (r : Int × Int × Int × List (Int × Int)) (h : f30_broughamref39_Give n p_0 p_1 p_2 id n_ = some r) : FnOK Go.Proofs.Try.prog 30 (f30_broughamref39_Give_in p_0 p_1 p_2 id n_) (f30_broughamref39_Give_out r) := by
  unfold f30_broughamref39_Give at h
  refine At.fn (r := 0) Go.Proofs.Try.func30 rfl (by kernel_rfl) rfl rfl (by kernel_rfl) ?_
  show At Go.Proofs.Try.prog Go.Proofs.Try.f30 0 0 ⟨[(0, .one (.agg [.d (.int .i64 p_0), .d (.int .i64 p_1), .d (.sl (.pair (.int .i64) (.int .i64)) p_2)])), (1, .one (.c (.d (.int .i64 id)))), (2, .one (.c (.d (.int .i64 n_))))], [], [], 0⟩ _
  refine At.step hm ht ⟨[], [], [], [1, 2, 3, 6], [0, 1]⟩ 1 ⟨[(1, .one (.c (.d (.int .i64 id)))), (2, .one (.c (.d (.int .i64 n_)))), (3, .one (.c (.ptr 0 0))), (6, .one (.c (.ptr 1 0)))], [], [(0, [.d (.int .i64 p_0), .d (.int .i64 p_1), .d (.sl (.pair (.int .i64) (.int .i64)) p_2)]), (1, [.d (.int .i64 0), .d (.int .i64 0), .d (.sl .unit [])])], 2⟩ [] (by kernel_rfl) trivial ?_
  rcases iteS h with ⟨b105_e0, h⟩ | ⟨b105_e0, h⟩
  · refine At.step hm ht ⟨[], [true], [], [1, 3, 6], [0, 1]⟩ 2 ⟨[(1, .one (.c (.d (.int .i64 id)))), (3, .one (.c (.ptr 0 0))), (6, .one (.c (.ptr 1 0)))], [], [(0, [.d (.int .i64 p_0), .d (.int .i64 p_1), .d (.sl (.pair (.int .i64) (.int .i64)) p_2)]), (1, [.d (.int .i64 0), .d (.int .i64 0), .d (.sl .unit [])])], 2⟩ [(decide ((n_ : Int) < 0)) = true] (by kernel_rfl) ⟨b105_e0, trivial⟩ ?_
    refine At.step hm ht ⟨[], [], [], [1, 2, 3, 6], [0, 1]⟩ 3 ⟨[(1, .one (.c (.d (.int .i64 id)))), (2, .one (.c (.d (.int .i64 0)))), (3, .one (.c (.ptr 0 0))), (6, .one (.c (.ptr 1 0)))], [], [(0, [.d (.int .i64 p_0), .d (.int .i64 p_1), .d (.sl (.pair (.int .i64) (.int .i64)) p_2)]), (1, [.d (.int .i64 0), .d (.int .i64 0), .d (.sl .unit [])])], 2⟩ [] (by kernel_rfl) trivial ?_
    obtain ⟨r107_0, cr107_0, h⟩ := bindS h
    rcases iteS h with ⟨b107_e0, h⟩ | ⟨b107_e0, h⟩
    · refine At.step hm ht ⟨[(3, .call [] [] (f32_broughamref39_Of_out r107_0))], [true], [], [1, 3, 6], [0, 1]⟩ 4 ⟨[(1, .one (.c (.d (.int .i64 id)))), (3, .one (.c (.ptr 0 0))), (6, .one (.c (.ptr 1 0)))], [], [(0, [.d (.int .i64 p_0), .d (.int .i64 p_1), .d (.sl (.pair (.int .i64) (.int .i64)) p_2)]), (1, [.d (.int .i64 0), .d (.int .i64 0), .d (.sl .unit [])])], 2⟩ [FnOK Go.Proofs.Try.prog 32 (f32_broughamref39_Of_in p_0 p_1 p_2 id) (f32_broughamref39_Of_out r107_0), (decide ((0 : Int) > r107_0)) = true] (by kernel_rfl) ⟨(f32_broughamref39_Of_ok n p_0 p_1 p_2 id r107_0 cr107_0), b107_e0, trivial⟩ ?_
      obtain ⟨r118_0, cr118_0, h⟩ := bindS h
      refine At.step hm ht ⟨[(2, .call [] [] (f32_broughamref39_Of_out r118_0))], [], [], [1, 2, 3, 6], [0, 1]⟩ 5 ⟨[(1, .one (.c (.d (.int .i64 id)))), (2, .one (.c (.d (.int .i64 r118_0)))), (3, .one (.c (.ptr 0 0))), (6, .one (.c (.ptr 1 0)))], [], [(0, [.d (.int .i64 p_0), .d (.int .i64 p_1), .d (.sl (.pair (.int .i64) (.int .i64)) p_2)]), (1, [.d (.int .i64 0), .d (.int .i64 0), .d (.sl .unit [])])], 2⟩ [FnOK Go.Proofs.Try.prog 32 (f32_broughamref39_Of_in p_0 p_1 p_2 id) (f32_broughamref39_Of_out r118_0)] (by kernel_rfl) ⟨(f32_broughamref39_Of_ok n p_0 p_1 p_2 id r118_0 cr118_0), trivial⟩ ?_
      obtain ⟨r119_0, cr119_0, h⟩ := bindS h
      obtain ⟨r119_1, cr119_1, h⟩ := bindS h
      have h := Option.some.inj h
      subst h
      exact At.fin hm ht ⟨[(4, .call [] [] (f32_broughamref39_Of_out r119_0)), (7, .call [] [] (f68_broughamref39_set_out r119_1))], [], [], [6, 7], [1, 9]⟩ [FnOK Go.Proofs.Try.prog 32 (f32_broughamref39_Of_in p_0 p_1 p_2 id) (f32_broughamref39_Of_out r119_0), FnOK Go.Proofs.Try.prog 68 (f68_broughamref39_set_in p_0 p_1 p_2 id (IntKind.wrap .i64 (r119_0 - r118_0))) (f68_broughamref39_set_out r119_1), 0 + 3 ≤ 3] (by kernel_rfl) ⟨(f32_broughamref39_Of_ok n p_0 p_1 p_2 id r119_0 cr119_0), (f68_broughamref39_set_ok n p_0 p_1 p_2 id (IntKind.wrap .i64 (r119_0 - r118_0)) r119_1 cr119_1), (by decide), trivial⟩
    · refine At.step hm ht ⟨[(3, .call [] [] (f32_broughamref39_Of_out r107_0))], [false], [], [1, 2, 3, 6], [0, 1]⟩ 5 ⟨[(1, .one (.c (.d (.int .i64 id)))), (2, .one (.c (.d (.int .i64 0)))), (3, .one (.c (.ptr 0 0))), (6, .one (.c (.ptr 1 0)))], [], [(0, [.d (.int .i64 p_0), .d (.int .i64 p_1), .d (.sl (.pair (.int .i64) (.int .i64)) p_2)]), (1, [.d (.int .i64 0), .d (.int .i64 0), .d (.sl .unit [])])], 2⟩ [FnOK Go.Proofs.Try.prog 32 (f32_broughamref39_Of_in p_0 p_1 p_2 id) (f32_broughamref39_Of_out r107_0), (decide ((0 : Int) > r107_0)) = false] (by kernel_rfl) ⟨(f32_broughamref39_Of_ok n p_0 p_1 p_2 id r107_0 cr107_0), b107_e0, trivial⟩ ?_
      obtain ⟨r143_0, cr143_0, h⟩ := bindS h
      obtain ⟨r143_1, cr143_1, h⟩ := bindS h
      have h := Option.some.inj h
      subst h
      exact At.fin hm ht ⟨[(4, .call [] [] (f32_broughamref39_Of_out r143_0)), (7, .call [] [] (f68_broughamref39_set_out r143_1))], [], [], [6, 7], [1, 9]⟩ [FnOK Go.Proofs.Try.prog 32 (f32_broughamref39_Of_in p_0 p_1 p_2 id) (f32_broughamref39_Of_out r143_0), FnOK Go.Proofs.Try.prog 68 (f68_broughamref39_set_in p_0 p_1 p_2 id (IntKind.wrap .i64 (r143_0 - 0))) (f68_broughamref39_set_out r143_1), 0 + 3 ≤ 3] (by kernel_rfl) ⟨(f32_broughamref39_Of_ok n p_0 p_1 p_2 id r143_0 cr143_0), (f68_broughamref39_set_ok n p_0 p_1 p_2 id (IntKind.wrap .i64 (r143_0 - 0)) r143_1 cr143_1), (by decide), trivial⟩
  · refine At.step hm ht ⟨[], [false], [], [1, 2, 3, 6], [0, 1]⟩ 3 ⟨[(1, .one (.c (.d (.int .i64 id)))), (2, .one (.c (.d (.int .i64 n_)))), (3, .one (.c (.ptr 0 0))), (6, .one (.c (.ptr 1 0)))], [], [(0, [.d (.int .i64 p_0), .d (.int .i64 p_1), .d (.sl (.pair (.int .i64) (.int .i64)) p_2)]), (1, [.d (.int .i64 0), .d (.int .i64 0), .d (.sl .unit [])])], 2⟩ [(decide ((n_ : Int) < 0)) = false] (by kernel_rfl) ⟨b105_e0, trivial⟩ ?_
    obtain ⟨r144_0, cr144_0, h⟩ := bindS h
    rcases iteS h with ⟨b144_e0, h⟩ | ⟨b144_e0, h⟩
    · refine At.step hm ht ⟨[(3, .call [] [] (f32_broughamref39_Of_out r144_0))], [true], [], [1, 3, 6], [0, 1]⟩ 4 ⟨[(1, .one (.c (.d (.int .i64 id)))), (3, .one (.c (.ptr 0 0))), (6, .one (.c (.ptr 1 0)))], [], [(0, [.d (.int .i64 p_0), .d (.int .i64 p_1), .d (.sl (.pair (.int .i64) (.int .i64)) p_2)]), (1, [.d (.int .i64 0), .d (.int .i64 0), .d (.sl .unit [])])], 2⟩ [FnOK Go.Proofs.Try.prog 32 (f32_broughamref39_Of_in p_0 p_1 p_2 id) (f32_broughamref39_Of_out r144_0), (decide ((n_ : Int) > r144_0)) = true] (by kernel_rfl) ⟨(f32_broughamref39_Of_ok n p_0 p_1 p_2 id r144_0 cr144_0), b144_e0, trivial⟩ ?_
      obtain ⟨r145_0, cr145_0, h⟩ := bindS h
      refine At.step hm ht ⟨[(2, .call [] [] (f32_broughamref39_Of_out r145_0))], [], [], [1, 2, 3, 6], [0, 1]⟩ 5 ⟨[(1, .one (.c (.d (.int .i64 id)))), (2, .one (.c (.d (.int .i64 r145_0)))), (3, .one (.c (.ptr 0 0))), (6, .one (.c (.ptr 1 0)))], [], [(0, [.d (.int .i64 p_0), .d (.int .i64 p_1), .d (.sl (.pair (.int .i64) (.int .i64)) p_2)]), (1, [.d (.int .i64 0), .d (.int .i64 0), .d (.sl .unit [])])], 2⟩ [FnOK Go.Proofs.Try.prog 32 (f32_broughamref39_Of_in p_0 p_1 p_2 id) (f32_broughamref39_Of_out r145_0)] (by kernel_rfl) ⟨(f32_broughamref39_Of_ok n p_0 p_1 p_2 id r145_0 cr145_0), trivial⟩ ?_
      obtain ⟨r146_0, cr146_0, h⟩ := bindS h
      obtain ⟨r146_1, cr146_1, h⟩ := bindS h
      have h := Option.some.inj h
      subst h
      exact At.fin hm ht ⟨[(4, .call [] [] (f32_broughamref39_Of_out r146_0)), (7, .call [] [] (f68_broughamref39_set_out r146_1))], [], [], [6, 7], [1, 9]⟩ [FnOK Go.Proofs.Try.prog 32 (f32_broughamref39_Of_in p_0 p_1 p_2 id) (f32_broughamref39_Of_out r146_0), FnOK Go.Proofs.Try.prog 68 (f68_broughamref39_set_in p_0 p_1 p_2 id (IntKind.wrap .i64 (r146_0 - r145_0))) (f68_broughamref39_set_out r146_1), 0 + 3 ≤ 3] (by kernel_rfl) ⟨(f32_broughamref39_Of_ok n p_0 p_1 p_2 id r146_0 cr146_0), (f68_broughamref39_set_ok n p_0 p_1 p_2 id (IntKind.wrap .i64 (r146_0 - r145_0)) r146_1 cr146_1), (by decide), trivial⟩
    · refine At.step hm ht ⟨[(3, .call [] [] (f32_broughamref39_Of_out r144_0))], [false], [], [1, 2, 3, 6], [0, 1]⟩ 5 ⟨[(1, .one (.c (.d (.int .i64 id)))), (2, .one (.c (.d (.int .i64 n_)))), (3, .one (.c (.ptr 0 0))), (6, .one (.c (.ptr 1 0)))], [], [(0, [.d (.int .i64 p_0), .d (.int .i64 p_1), .d (.sl (.pair (.int .i64) (.int .i64)) p_2)]), (1, [.d (.int .i64 0), .d (.int .i64 0), .d (.sl .unit [])])], 2⟩ [FnOK Go.Proofs.Try.prog 32 (f32_broughamref39_Of_in p_0 p_1 p_2 id) (f32_broughamref39_Of_out r144_0), (decide ((n_ : Int) > r144_0)) = false] (by kernel_rfl) ⟨(f32_broughamref39_Of_ok n p_0 p_1 p_2 id r144_0 cr144_0), b144_e0, trivial⟩ ?_
      obtain ⟨r147_0, cr147_0, h⟩ := bindS h
      obtain ⟨r147_1, cr147_1, h⟩ := bindS h
      have h := Option.some.inj h
      subst h
      exact At.fin hm ht ⟨[(4, .call [] [] (f32_broughamref39_Of_out r147_0)), (7, .call [] [] (f68_broughamref39_set_out r147_1))], [], [], [6, 7], [1, 9]⟩ [FnOK Go.Proofs.Try.prog 32 (f32_broughamref39_Of_in p_0 p_1 p_2 id) (f32_broughamref39_Of_out r147_0), FnOK Go.Proofs.Try.prog 68 (f68_broughamref39_set_in p_0 p_1 p_2 id (IntKind.wrap .i64 (r147_0 - n_))) (f68_broughamref39_set_out r147_1), 0 + 3 ≤ 3] (by kernel_rfl) ⟨(f32_broughamref39_Of_ok n p_0 p_1 p_2 id r147_0 cr147_0), (f68_broughamref39_set_ok n p_0 p_1 p_2 id (IntKind.wrap .i64 (r147_0 - n_)) r147_1 cr147_1), (by decide), trivial⟩
/-! brougham/broughamref39.Used -/
def f36_broughamref39_Used_in (p_0 : Int) (p_1 : Int) (p_2 : List (Int × Int)) : Inn := ⟨[.agg [.d (.int .i64 p_0), .d (.int .i64 p_1), .d (.sl (.pair (.int .i64) (.int .i64)) p_2)]], [], [], 0⟩
def f36_broughamref39_Used_out (r : Int) : Out := ⟨.one (.c (.d (.int .i64 r))), [], [], 0⟩
def f36_broughamref39_Used_L3 : Nat → Int → Int → Int → Int → (List (Int × Int)) → Option (Int)
  | 0, _, _, _, _, _ => none
  | n + 1, n_, i, p_0, p_1, p_2 =>
    if (decide ((i : Int) < ((p_2.length : Nat) : Int))) = true then
      if (0 : Int) ≤ i ∧ i < (((p_2).length : Nat) : Int) then
      f36_broughamref39_Used_L3 n (IntKind.wrap .i64 (n_ + ((p_2.getD i.toNat (0, 0)).2))) (IntKind.wrap .i64 (i + 1)) p_0 p_1 p_2
      else none
    else
      some (n_)
def f36_broughamref39_Used_L3_k (e : Int) (o : Out) : Prop := At Go.Proofs.Try.prog Go.Proofs.Try.f36 0 6 ⟨[(3, .one (.c (.d (.int .i64 e))))], [], [], 0⟩ o
theorem f36_broughamref39_Used_L3_ok (n : Nat) : ∀ (n_ : Int) (i : Int) (p_0 : Int) (p_1 : Int) (p_2 : List (Int × Int)) (w : Int) (h : f36_broughamref39_Used_L3 n n_ i p_0 p_1 p_2 = some w) (o : Out) (hk : f36_broughamref39_Used_L3_k w o), At Go.Proofs.Try.prog Go.Proofs.Try.f36 0 3 ⟨[(1, .one (.c (.ptr 0 0))), (3, .one (.c (.d (.int .i64 n_)))), (4, .one (.c (.d (.int .i64 i))))], [], [(0, [.d (.int .i64 p_0), .d (.int .i64 p_1), .d (.sl (.pair (.int .i64) (.int .i64)) p_2)])], 1⟩ o := by
  induction n with
  | zero => intro n_ i p_0 p_1 p_2 w h; rw [f36_broughamref39_Used_L3] at h; cases h
  | succ n ih =>
    intro n_ i p_0 p_1 p_2 w h o hk
    rw [f36_broughamref39_Used_L3] at h
    rcases iteS h with ⟨b161_e0, h⟩ | ⟨b161_e0, h⟩
    · refine At.step hm ht ⟨[], [true], [], [1, 3, 4], [0]⟩ 5 ⟨[(1, .one (.c (.ptr 0 0))), (3, .one (.c (.d (.int .i64 n_)))), (4, .one (.c (.d (.int .i64 i))))], [], [(0, [.d (.int .i64 p_0), .d (.int .i64 p_1), .d (.sl (.pair (.int .i64) (.int .i64)) p_2)])], 1⟩ [(decide ((i : Int) < ((p_2.length : Nat) : Int))) = true] (by kernel_rfl) ⟨b161_e0, trivial⟩ ?_
      obtain ⟨g162_0, h⟩ := ifS h
      refine At.step hm ht ⟨[], [], [], [1, 3, 4], [0]⟩ 4 ⟨[(1, .one (.c (.ptr 0 0))), (3, .one (.c (.d (.int .i64 (IntKind.wrap .i64 (n_ + ((p_2.getD i.toNat (0, 0)).2))))))), (4, .one (.c (.d (.int .i64 i))))], [], [(0, [.d (.int .i64 p_0), .d (.int .i64 p_1), .d (.sl (.pair (.int .i64) (.int .i64)) p_2)])], 1⟩ [(0 : Int) ≤ i ∧ i < (((p_2).length : Nat) : Int)] (by kernel_rfl) ⟨g162_0, trivial⟩ ?_
      refine At.step hm ht ⟨[], [], [], [1, 3, 4], [0]⟩ 3 ⟨[(1, .one (.c (.ptr 0 0))), (3, .one (.c (.d (.int .i64 (IntKind.wrap .i64 (n_ + ((p_2.getD i.toNat (0, 0)).2))))))), (4, .one (.c (.d (.int .i64 (IntKind.wrap .i64 (i + 1))))))], [], [(0, [.d (.int .i64 p_0), .d (.int .i64 p_1), .d (.sl (.pair (.int .i64) (.int .i64)) p_2)])], 1⟩ [] (by kernel_rfl) trivial ?_
      exact ih (IntKind.wrap .i64 (n_ + ((p_2.getD i.toNat (0, 0)).2))) (IntKind.wrap .i64 (i + 1)) p_0 p_1 p_2 w h o hk
    · refine At.step hm ht ⟨[], [false], [], [3], []⟩ 6 ⟨[(3, .one (.c (.d (.int .i64 n_))))], [], [], 0⟩ [(decide ((i : Int) < ((p_2.length : Nat) : Int))) = false] (by kernel_rfl) ⟨b161_e0, trivial⟩ ?_
      have h := Option.some.inj h
      subst h
      exact hk
def f36_broughamref39_Used (n : Nat) (p_0 : Int) (p_1 : Int) (p_2 : List (Int × Int)) : Option (Int) :=
  (f36_broughamref39_Used_L3 n 0 0 p_0 p_1 p_2).bind fun w164 =>
  some w164
theorem f36_broughamref39_Used_ok (n : Nat) (p_0 : Int) (p_1 : Int) (p_2 : List (Int × Int)) (r : Int) (h : f36_broughamref39_Used n p_0 p_1 p_2 = some r) : FnOK Go.Proofs.Try.prog 36 (f36_broughamref39_Used_in p_0 p_1 p_2) (f36_broughamref39_Used_out r) := by
  unfold f36_broughamref39_Used at h
  refine At.fn (r := 0) Go.Proofs.Try.func36 rfl (by kernel_rfl) rfl rfl (by kernel_rfl) ?_
  show At Go.Proofs.Try.prog Go.Proofs.Try.f36 0 0 ⟨[(0, .one (.agg [.d (.int .i64 p_0), .d (.int .i64 p_1), .d (.sl (.pair (.int .i64) (.int .i64)) p_2)]))], [], [], 0⟩ _
  refine At.step hm ht ⟨[], [], [], [1], [0]⟩ 1 ⟨[(1, .one (.c (.ptr 0 0)))], [], [(0, [.d (.int .i64 p_0), .d (.int .i64 p_1), .d (.sl (.pair (.int .i64) (.int .i64)) p_2)])], 1⟩ [] (by kernel_rfl) trivial ?_
  refine At.step hm ht ⟨[], [], [], [1, 3], [0]⟩ 2 ⟨[(1, .one (.c (.ptr 0 0))), (3, .one (.c (.d (.int .i64 0))))], [], [(0, [.d (.int .i64 p_0), .d (.int .i64 p_1), .d (.sl (.pair (.int .i64) (.int .i64)) p_2)])], 1⟩ [] (by kernel_rfl) trivial ?_
  refine At.step hm ht ⟨[], [], [], [1, 3, 4], [0]⟩ 3 ⟨[(1, .one (.c (.ptr 0 0))), (3, .one (.c (.d (.int .i64 0)))), (4, .one (.c (.d (.int .i64 0))))], [], [(0, [.d (.int .i64 p_0), .d (.int .i64 p_1), .d (.sl (.pair (.int .i64) (.int .i64)) p_2)])], 1⟩ [] (by kernel_rfl) trivial ?_
  obtain ⟨w164, cw164, h⟩ := bindS h
  refine f36_broughamref39_Used_L3_ok n 0 0 p_0 p_1 p_2 w164 cw164 _ ?_
  show At Go.Proofs.Try.prog Go.Proofs.Try.f36 0 6 ⟨[(3, .one (.c (.d (.int .i64 w164))))], [], [], 0⟩ _
  have h := Option.some.inj h
  subst h
  exact At.fin hm ht ⟨[], [], [], [2], []⟩ [] (by kernel_rfl) trivial
/-! brougham/broughamref39.Move -/
def f33_broughamref39_Move_in (p_0 : Int) (p_1 : Int) (p_2 : List (Int × Int)) (from_ : Int) (to_ : Int) (n_ : Int) : Inn := ⟨[.agg [.d (.int .i64 p_0), .d (.int .i64 p_1), .d (.sl (.pair (.int .i64) (.int .i64)) p_2)], .c (.d (.int .i64 from_)), .c (.d (.int .i64 to_)), .c (.d (.int .i64 n_))], [], [], 0⟩
def f33_broughamref39_Move_out (r : Bool × Int × Int × List (Int × Int)) : Out := ⟨.tup [.agg [.d (.int .i64 r.2.1), .d (.int .i64 r.2.2.1), .d (.sl (.pair (.int .i64) (.int .i64)) r.2.2.2)], .c (.d (.bool r.1))], [], [(0, [.d (.int .i64 r.2.1), .d (.int .i64 r.2.2.1), .d (.sl (.pair (.int .i64) (.int .i64)) r.2.2.2)])], 1⟩
def f33_broughamref39_Move (n : Nat) (p_0 : Int) (p_1 : Int) (p_2 : List (Int × Int)) (from_ : Int) (to_ : Int) (n_ : Int) : Option (Bool × Int × Int × List (Int × Int)) :=
  if (decide ((n_ : Int) < 0)) = true then
    some (false, p_0, p_1, p_2)
  else
    (f32_broughamref39_Of n p_0 p_1 p_2 from_).bind fun r221_0 =>
    if (decide ((n_ : Int) > r221_0)) = true then
      some (false, p_0, p_1, p_2)
    else
      if ((from_ : Int) == to_) = true then
        some (true, p_0, p_1, p_2)
      else
        (f32_broughamref39_Of n p_0 p_1 p_2 to_).bind fun r226_0 =>
        if (decide ((n_ : Int) > (IntKind.wrap .i64 (p_1 - r226_0)))) = true then
          some (false, p_0, p_1, p_2)
        else
          (f32_broughamref39_Of n p_0 p_1 p_2 from_).bind fun r228_0 =>
          (f68_broughamref39_set n p_0 p_1 p_2 from_ (IntKind.wrap .i64 (r228_0 - n_))).bind fun r228_1 =>
          (f32_broughamref39_Of n r228_1.1 r228_1.2.1 r228_1.2.2 to_).bind fun r229_0 =>
          (f68_broughamref39_set n r228_1.1 r228_1.2.1 r228_1.2.2 to_ (IntKind.wrap .i64 (r229_0 + n_))).bind fun r229_1 =>
          some (true, r229_1.1, r229_1.2.1, r229_1.2.2)
theorem f33_broughamref39_Move_ok (n : Nat) (p_0 : Int) (p_1 : Int) (p_2 : List (Int × Int)) (from_ : Int) (to_ : Int) (n_ : Int) (r : Bool × Int × Int × List (Int × Int)) (h : f33_broughamref39_Move n p_0 p_1 p_2 from_ to_ n_ = some r) : FnOK Go.Proofs.Try.prog 33 (f33_broughamref39_Move_in p_0 p_1 p_2 from_ to_ n_) (f33_broughamref39_Move_out r) := by
  unfold f33_broughamref39_Move at h
  refine At.fn (r := 0) Go.Proofs.Try.func33 rfl (by kernel_rfl) rfl rfl (by kernel_rfl) ?_
  show At Go.Proofs.Try.prog Go.Proofs.Try.f33 0 0 ⟨[(0, .one (.agg [.d (.int .i64 p_0), .d (.int .i64 p_1), .d (.sl (.pair (.int .i64) (.int .i64)) p_2)])), (1, .one (.c (.d (.int .i64 from_)))), (2, .one (.c (.d (.int .i64 to_)))), (3, .one (.c (.d (.int .i64 n_))))], [], [], 0⟩ _
  refine At.step hm ht ⟨[], [], [], [1, 2, 3, 4, 8], [0, 1]⟩ 1 ⟨[(1, .one (.c (.d (.int .i64 from_)))), (2, .one (.c (.d (.int .i64 to_)))), (3, .one (.c (.d (.int .i64 n_)))), (4, .one (.c (.ptr 0 0))), (8, .one (.c (.ptr 1 0)))], [], [(0, [.d (.int .i64 p_0), .d (.int .i64 p_1), .d (.sl (.pair (.int .i64) (.int .i64)) p_2)]), (1, [.d (.int .i64 0), .d (.int .i64 0), .d (.sl .unit [])])], 2⟩ [] (by kernel_rfl) trivial ?_
  rcases iteS h with ⟨b221_2, h⟩ | ⟨b221_2, h⟩
  · refine At.step hm ht ⟨[(2, .b true)], [true], [], [4, 8], [0, 1]⟩ 2 ⟨[(4, .one (.c (.ptr 0 0))), (8, .one (.c (.ptr 1 0)))], [], [(0, [.d (.int .i64 p_0), .d (.int .i64 p_1), .d (.sl (.pair (.int .i64) (.int .i64)) p_2)]), (1, [.d (.int .i64 0), .d (.int .i64 0), .d (.sl .unit [])])], 2⟩ [(decide ((n_ : Int) < 0)) = true, true = true] (by kernel_rfl) ⟨b221_2, rfl, trivial⟩ ?_
    have h := Option.some.inj h
    subst h
    exact At.fin hm ht ⟨[], [], [], [8, 9], [1]⟩ [0 + 3 ≤ 3] (by kernel_rfl) ⟨(by decide), trivial⟩
  · obtain ⟨r221_0, cr221_0, h⟩ := bindS h
    rcases iteS h with ⟨b221_e0, h⟩ | ⟨b221_e0, h⟩
    · refine At.step hm ht ⟨[(2, .b false), (6, .call [] [] (f32_broughamref39_Of_out r221_0))], [true], [], [4, 8], [0, 1]⟩ 2 ⟨[(4, .one (.c (.ptr 0 0))), (8, .one (.c (.ptr 1 0)))], [], [(0, [.d (.int .i64 p_0), .d (.int .i64 p_1), .d (.sl (.pair (.int .i64) (.int .i64)) p_2)]), (1, [.d (.int .i64 0), .d (.int .i64 0), .d (.sl .unit [])])], 2⟩ [(decide ((n_ : Int) < 0)) = false, FnOK Go.Proofs.Try.prog 32 (f32_broughamref39_Of_in p_0 p_1 p_2 from_) (f32_broughamref39_Of_out r221_0), (decide ((n_ : Int) > r221_0)) = true] (by kernel_rfl) ⟨b221_2, (f32_broughamref39_Of_ok n p_0 p_1 p_2 from_ r221_0 cr221_0), b221_e0, trivial⟩ ?_
      have h := Option.some.inj h
      subst h
      exact At.fin hm ht ⟨[], [], [], [8, 9], [1]⟩ [0 + 3 ≤ 3] (by kernel_rfl) ⟨(by decide), trivial⟩
    · refine At.step hm ht ⟨[(2, .b false), (6, .call [] [] (f32_broughamref39_Of_out r221_0))], [false], [], [1, 2, 3, 4, 8], [0, 1]⟩ 3 ⟨[(1, .one (.c (.d (.int .i64 from_)))), (2, .one (.c (.d (.int .i64 to_)))), (3, .one (.c (.d (.int .i64 n_)))), (4, .one (.c (.ptr 0 0))), (8, .one (.c (.ptr 1 0)))], [], [(0, [.d (.int .i64 p_0), .d (.int .i64 p_1), .d (.sl (.pair (.int .i64) (.int .i64)) p_2)]), (1, [.d (.int .i64 0), .d (.int .i64 0), .d (.sl .unit [])])], 2⟩ [(decide ((n_ : Int) < 0)) = false, FnOK Go.Proofs.Try.prog 32 (f32_broughamref39_Of_in p_0 p_1 p_2 from_) (f32_broughamref39_Of_out r221_0), (decide ((n_ : Int) > r221_0)) = false] (by kernel_rfl) ⟨b221_2, (f32_broughamref39_Of_ok n p_0 p_1 p_2 from_ r221_0 cr221_0), b221_e0, trivial⟩ ?_
      rcases iteS h with ⟨b224_e0, h⟩ | ⟨b224_e0, h⟩
      · refine At.step hm ht ⟨[], [true], [], [4, 8], [0, 1]⟩ 4 ⟨[(4, .one (.c (.ptr 0 0))), (8, .one (.c (.ptr 1 0)))], [], [(0, [.d (.int .i64 p_0), .d (.int .i64 p_1), .d (.sl (.pair (.int .i64) (.int .i64)) p_2)]), (1, [.d (.int .i64 0), .d (.int .i64 0), .d (.sl .unit [])])], 2⟩ [((from_ : Int) == to_) = true] (by kernel_rfl) ⟨b224_e0, trivial⟩ ?_
        have h := Option.some.inj h
        subst h
        exact At.fin hm ht ⟨[], [], [], [8, 9], [1]⟩ [0 + 3 ≤ 3] (by kernel_rfl) ⟨(by decide), trivial⟩
      · refine At.step hm ht ⟨[], [false], [], [1, 2, 3, 4, 8], [0, 1]⟩ 5 ⟨[(1, .one (.c (.d (.int .i64 from_)))), (2, .one (.c (.d (.int .i64 to_)))), (3, .one (.c (.d (.int .i64 n_)))), (4, .one (.c (.ptr 0 0))), (8, .one (.c (.ptr 1 0)))], [], [(0, [.d (.int .i64 p_0), .d (.int .i64 p_1), .d (.sl (.pair (.int .i64) (.int .i64)) p_2)]), (1, [.d (.int .i64 0), .d (.int .i64 0), .d (.sl .unit [])])], 2⟩ [((from_ : Int) == to_) = false] (by kernel_rfl) ⟨b224_e0, trivial⟩ ?_
        obtain ⟨r226_0, cr226_0, h⟩ := bindS h
        rcases iteS h with ⟨b226_e0, h⟩ | ⟨b226_e0, h⟩
        · refine At.step hm ht ⟨[(5, .call [] [] (f32_broughamref39_Of_out r226_0))], [true], [], [4, 8], [0, 1]⟩ 6 ⟨[(4, .one (.c (.ptr 0 0))), (8, .one (.c (.ptr 1 0)))], [], [(0, [.d (.int .i64 p_0), .d (.int .i64 p_1), .d (.sl (.pair (.int .i64) (.int .i64)) p_2)]), (1, [.d (.int .i64 0), .d (.int .i64 0), .d (.sl .unit [])])], 2⟩ [FnOK Go.Proofs.Try.prog 32 (f32_broughamref39_Of_in p_0 p_1 p_2 to_) (f32_broughamref39_Of_out r226_0), (decide ((n_ : Int) > (IntKind.wrap .i64 (p_1 - r226_0)))) = true] (by kernel_rfl) ⟨(f32_broughamref39_Of_ok n p_0 p_1 p_2 to_ r226_0 cr226_0), b226_e0, trivial⟩ ?_
          have h := Option.some.inj h
          subst h
          exact At.fin hm ht ⟨[], [], [], [8, 9], [1]⟩ [0 + 3 ≤ 3] (by kernel_rfl) ⟨(by decide), trivial⟩
        · refine At.step hm ht ⟨[(5, .call [] [] (f32_broughamref39_Of_out r226_0))], [false], [], [1, 2, 3, 4, 8], [0, 1]⟩ 7 ⟨[(1, .one (.c (.d (.int .i64 from_)))), (2, .one (.c (.d (.int .i64 to_)))), (3, .one (.c (.d (.int .i64 n_)))), (4, .one (.c (.ptr 0 0))), (8, .one (.c (.ptr 1 0)))], [], [(0, [.d (.int .i64 p_0), .d (.int .i64 p_1), .d (.sl (.pair (.int .i64) (.int .i64)) p_2)]), (1, [.d (.int .i64 0), .d (.int .i64 0), .d (.sl .unit [])])], 2⟩ [FnOK Go.Proofs.Try.prog 32 (f32_broughamref39_Of_in p_0 p_1 p_2 to_) (f32_broughamref39_Of_out r226_0), (decide ((n_ : Int) > (IntKind.wrap .i64 (p_1 - r226_0)))) = false] (by kernel_rfl) ⟨(f32_broughamref39_Of_ok n p_0 p_1 p_2 to_ r226_0 cr226_0), b226_e0, trivial⟩ ?_
          obtain ⟨r228_0, cr228_0, h⟩ := bindS h
          obtain ⟨r228_1, cr228_1, h⟩ := bindS h
          refine At.step hm ht ⟨[(4, .call [] [] (f32_broughamref39_Of_out r228_0)), (7, .call [] [] (f68_broughamref39_set_out r228_1))], [], [], [2, 3, 4, 8], [0, 1, 9]⟩ 8 ⟨[(2, .one (.c (.d (.int .i64 to_)))), (3, .one (.c (.d (.int .i64 n_)))), (4, .one (.c (.ptr 0 0))), (8, .one (.c (.ptr 1 0)))], [(2, some ⟨106, 0⟩)], [(0, [.d (.int .i64 r228_1.1), .d (.int .i64 r228_1.2.1), .own 2 (.pair (.int .i64) (.int .i64)) r228_1.2.2]), (1, [.d (.int .i64 0), .d (.int .i64 0), .d (.sl .unit [])])], 3⟩ [FnOK Go.Proofs.Try.prog 32 (f32_broughamref39_Of_in p_0 p_1 p_2 from_) (f32_broughamref39_Of_out r228_0), FnOK Go.Proofs.Try.prog 68 (f68_broughamref39_set_in p_0 p_1 p_2 from_ (IntKind.wrap .i64 (r228_0 - n_))) (f68_broughamref39_set_out r228_1), 0 + 3 ≤ 3] (by kernel_rfl) ⟨(f32_broughamref39_Of_ok n p_0 p_1 p_2 from_ r228_0 cr228_0), (f68_broughamref39_set_ok n p_0 p_1 p_2 from_ (IntKind.wrap .i64 (r228_0 - n_)) r228_1 cr228_1), (by decide), trivial⟩ ?_
          obtain ⟨r229_0, cr229_0, h⟩ := bindS h
          obtain ⟨r229_1, cr229_1, h⟩ := bindS h
          have h := Option.some.inj h
          subst h
          exact At.fin hm ht ⟨[(4, .call [] [] (f32_broughamref39_Of_out r229_0)), (7, .call [] [] (f68_broughamref39_set_out r229_1))], [], [], [8, 9], [1]⟩ [FnOK Go.Proofs.Try.prog 32 (f32_broughamref39_Of_in r228_1.1 r228_1.2.1 r228_1.2.2 to_) (f32_broughamref39_Of_out r229_0), FnOK Go.Proofs.Try.prog 68 (f68_broughamref39_set_in r228_1.1 r228_1.2.1 r228_1.2.2 to_ (IntKind.wrap .i64 (r229_0 + n_))) (f68_broughamref39_set_out r229_1), 0 + 3 ≤ 3] (by kernel_rfl) ⟨(f32_broughamref39_Of_ok n r228_1.1 r228_1.2.1 r228_1.2.2 to_ r229_0 cr229_0), (f68_broughamref39_set_ok n r228_1.1 r228_1.2.1 r228_1.2.2 to_ (IntKind.wrap .i64 (r229_0 + n_)) r229_1 cr229_1), (by decide), trivial⟩
/-! (*brougham/quota.Pool).Move -/
def f34_quota_Pool_Move_in (from_ : Int) (to_ : Int) (n_ : Int) (p_0 : Int) (p_1 : Int) (p_2 : Int) (b1_0 : List (Int × Int)) : Inn := ⟨[.c (.ptr 0 0), .c (.d (.int .i64 from_)), .c (.d (.int .i64 to_)), .c (.d (.int .i64 n_))], [], [(0, [.d (.int .i64 p_0), .d (.int .i64 p_1), .d (.int .i64 p_2), .mref 1]), (1, [.mp .i64 .i64 b1_0])], 2⟩
def f34_quota_Pool_Move_out (r : Bool × Int × Int × Int × List (Int × Int)) : Out := ⟨.one (.c (.d (.bool r.1))), [], [(0, [.d (.int .i64 r.2.1), .d (.int .i64 r.2.2.1), .d (.int .i64 r.2.2.2.1), .mref 1]), (1, [.mp .i64 .i64 r.2.2.2.2])], 2⟩
def f34_quota_Pool_Move (from_ : Int) (to_ : Int) (n_ : Int) (p_0 : Int) (p_1 : Int) (p_2 : Int) (b1_0 : List (Int × Int)) : Option (Bool × Int × Int × Int × List (Int × Int)) :=
  if (decide ((n_ : Int) < 0)) = true then
    some (false, p_0, p_1, p_2, b1_0)
  else
    if (decide ((n_ : Int) > (getM b1_0 from_))) = true then
      some (false, p_0, p_1, p_2, b1_0)
    else
      if ((from_ : Int) != to_) = true then
        if (decide ((n_ : Int) > (IntKind.wrap .i64 (p_1 - (getM b1_0 to_))))) = true then
          some (false, p_0, p_1, p_2, b1_0)
        else
          if ((from_ : Int) != to_) = true then
            (f66_quota_Pool_set from_ (IntKind.wrap .i64 ((getM b1_0 from_) - n_)) p_0 p_1 p_2 b1_0).bind fun r237_0 =>
            (f66_quota_Pool_set to_ (IntKind.wrap .i64 ((getM r237_0.2.2.2 to_) + n_)) r237_0.1 r237_0.2.1 r237_0.2.2.1 r237_0.2.2.2).bind fun r238_0 =>
            some (true, r238_0.1, r238_0.2.1, r238_0.2.2.1, r238_0.2.2.2)
          else
            some (true, p_0, p_1, p_2, b1_0)
      else
        if ((from_ : Int) != to_) = true then
          (f66_quota_Pool_set from_ (IntKind.wrap .i64 ((getM b1_0 from_) - n_)) p_0 p_1 p_2 b1_0).bind fun r242_0 =>
          (f66_quota_Pool_set to_ (IntKind.wrap .i64 ((getM r242_0.2.2.2 to_) + n_)) r242_0.1 r242_0.2.1 r242_0.2.2.1 r242_0.2.2.2).bind fun r243_0 =>
          some (true, r243_0.1, r243_0.2.1, r243_0.2.2.1, r243_0.2.2.2)
        else
          some (true, p_0, p_1, p_2, b1_0)
theorem f34_quota_Pool_Move_ok (from_ : Int) (to_ : Int) (n_ : Int) (p_0 : Int) (p_1 : Int) (p_2 : Int) (b1_0 : List (Int × Int)) (r : Bool × Int × Int × Int × List (Int × Int)) (h : f34_quota_Pool_Move from_ to_ n_ p_0 p_1 p_2 b1_0 = some r) : FnOK Go.Proofs.Try.prog 34 (f34_quota_Pool_Move_in from_ to_ n_ p_0 p_1 p_2 b1_0) (f34_quota_Pool_Move_out r) := by
  unfold f34_quota_Pool_Move at h
  refine At.fn (r := 0) Go.Proofs.Try.func34 rfl (by kernel_rfl) rfl rfl (by kernel_rfl) ?_
  show At Go.Proofs.Try.prog Go.Proofs.Try.f34 2 0 ⟨[(0, .one (.c (.ptr 0 0))), (1, .one (.c (.d (.int .i64 from_)))), (2, .one (.c (.d (.int .i64 to_)))), (3, .one (.c (.d (.int .i64 n_))))], [], [(0, [.d (.int .i64 p_0), .d (.int .i64 p_1), .d (.int .i64 p_2), .mref 1]), (1, [.mp .i64 .i64 b1_0])], 2⟩ _
  refine At.step hm ht ⟨[], [], [], [0, 1, 2, 3], [0, 1]⟩ 1 ⟨[(0, .one (.c (.ptr 0 0))), (1, .one (.c (.d (.int .i64 from_)))), (2, .one (.c (.d (.int .i64 to_)))), (3, .one (.c (.d (.int .i64 n_))))], [], [(0, [.d (.int .i64 p_0), .d (.int .i64 p_1), .d (.int .i64 p_2), .mref 1]), (1, [.mp .i64 .i64 b1_0])], 2⟩ [] (by kernel_rfl) trivial ?_
  rcases iteS h with ⟨b232_2, h⟩ | ⟨b232_2, h⟩
  · refine At.step hm ht ⟨[(2, .b true)], [true], [], [], [0, 1]⟩ 2 ⟨[], [], [(0, [.d (.int .i64 p_0), .d (.int .i64 p_1), .d (.int .i64 p_2), .mref 1]), (1, [.mp .i64 .i64 b1_0])], 2⟩ [(decide ((n_ : Int) < 0)) = true, true = true] (by kernel_rfl) ⟨b232_2, rfl, trivial⟩ ?_
    have h := Option.some.inj h
    subst h
    exact At.fin hm ht ⟨[], [], [], [8], [0, 1]⟩ [] (by kernel_rfl) trivial
  · rcases iteS h with ⟨b232_12, h⟩ | ⟨b232_12, h⟩
    · refine At.step hm ht ⟨[(2, .b false), (12, .b true)], [true], [], [], [0, 1]⟩ 2 ⟨[], [], [(0, [.d (.int .i64 p_0), .d (.int .i64 p_1), .d (.int .i64 p_2), .mref 1]), (1, [.mp .i64 .i64 b1_0])], 2⟩ [(decide ((n_ : Int) < 0)) = false, (decide ((n_ : Int) > (getM b1_0 from_))) = true, true = true] (by kernel_rfl) ⟨b232_2, b232_12, rfl, trivial⟩ ?_
      have h := Option.some.inj h
      subst h
      exact At.fin hm ht ⟨[], [], [], [8], [0, 1]⟩ [] (by kernel_rfl) trivial
    · rcases iteS h with ⟨b232_16, h⟩ | ⟨b232_16, h⟩
      · rcases iteS h with ⟨b232_e0, h⟩ | ⟨b232_e0, h⟩
        · refine At.step hm ht ⟨[(2, .b false), (12, .b false), (16, .b true)], [true], [], [], [0, 1]⟩ 2 ⟨[], [], [(0, [.d (.int .i64 p_0), .d (.int .i64 p_1), .d (.int .i64 p_2), .mref 1]), (1, [.mp .i64 .i64 b1_0])], 2⟩ [(decide ((n_ : Int) < 0)) = false, (decide ((n_ : Int) > (getM b1_0 from_))) = false, ((from_ : Int) != to_) = true, (decide ((n_ : Int) > (IntKind.wrap .i64 (p_1 - (getM b1_0 to_))))) = true] (by kernel_rfl) ⟨b232_2, b232_12, b232_16, b232_e0, trivial⟩ ?_
          have h := Option.some.inj h
          subst h
          exact At.fin hm ht ⟨[], [], [], [8], [0, 1]⟩ [] (by kernel_rfl) trivial
        · refine At.step hm ht ⟨[(2, .b false), (12, .b false), (16, .b true)], [false], [], [0, 1, 2, 3], [0, 1]⟩ 3 ⟨[(0, .one (.c (.ptr 0 0))), (1, .one (.c (.d (.int .i64 from_)))), (2, .one (.c (.d (.int .i64 to_)))), (3, .one (.c (.d (.int .i64 n_))))], [], [(0, [.d (.int .i64 p_0), .d (.int .i64 p_1), .d (.int .i64 p_2), .mref 1]), (1, [.mp .i64 .i64 b1_0])], 2⟩ [(decide ((n_ : Int) < 0)) = false, (decide ((n_ : Int) > (getM b1_0 from_))) = false, ((from_ : Int) != to_) = true, (decide ((n_ : Int) > (IntKind.wrap .i64 (p_1 - (getM b1_0 to_))))) = false] (by kernel_rfl) ⟨b232_2, b232_12, b232_16, b232_e0, trivial⟩ ?_
          rcases iteS h with ⟨b236_e0, h⟩ | ⟨b236_e0, h⟩
          · refine At.step hm ht ⟨[], [true], [], [0, 1, 2, 3], [0, 1]⟩ 4 ⟨[(0, .one (.c (.ptr 0 0))), (1, .one (.c (.d (.int .i64 from_)))), (2, .one (.c (.d (.int .i64 to_)))), (3, .one (.c (.d (.int .i64 n_))))], [], [(0, [.d (.int .i64 p_0), .d (.int .i64 p_1), .d (.int .i64 p_2), .mref 1]), (1, [.mp .i64 .i64 b1_0])], 2⟩ [((from_ : Int) != to_) = true] (by kernel_rfl) ⟨b236_e0, trivial⟩ ?_
            obtain ⟨r237_0, cr237_0, h⟩ := bindS h
            refine At.step hm ht ⟨[(10, .call [0, 1] [] (f66_quota_Pool_set_out r237_0))], [], [], [0, 2, 3], [0, 1]⟩ 5 ⟨[(0, .one (.c (.ptr 0 0))), (2, .one (.c (.d (.int .i64 to_)))), (3, .one (.c (.d (.int .i64 n_))))], [], [(0, [.d (.int .i64 r237_0.1), .d (.int .i64 r237_0.2.1), .d (.int .i64 r237_0.2.2.1), .mref 1]), (1, [.mp .i64 .i64 r237_0.2.2.2])], 2⟩ [FnOK Go.Proofs.Try.prog 66 (f66_quota_Pool_set_in from_ (IntKind.wrap .i64 ((getM b1_0 from_) - n_)) p_0 p_1 p_2 b1_0) (f66_quota_Pool_set_out r237_0)] (by kernel_rfl) ⟨(f66_quota_Pool_set_ok from_ (IntKind.wrap .i64 ((getM b1_0 from_) - n_)) p_0 p_1 p_2 b1_0 r237_0 cr237_0), trivial⟩ ?_
            obtain ⟨r238_0, cr238_0, h⟩ := bindS h
            refine At.step hm ht ⟨[(10, .call [0, 1] [] (f66_quota_Pool_set_out r238_0))], [], [], [], [0, 1]⟩ 6 ⟨[], [], [(0, [.d (.int .i64 r238_0.1), .d (.int .i64 r238_0.2.1), .d (.int .i64 r238_0.2.2.1), .mref 1]), (1, [.mp .i64 .i64 r238_0.2.2.2])], 2⟩ [FnOK Go.Proofs.Try.prog 66 (f66_quota_Pool_set_in to_ (IntKind.wrap .i64 ((getM r237_0.2.2.2 to_) + n_)) r237_0.1 r237_0.2.1 r237_0.2.2.1 r237_0.2.2.2) (f66_quota_Pool_set_out r238_0)] (by kernel_rfl) ⟨(f66_quota_Pool_set_ok to_ (IntKind.wrap .i64 ((getM r237_0.2.2.2 to_) + n_)) r237_0.1 r237_0.2.1 r237_0.2.2.1 r237_0.2.2.2 r238_0 cr238_0), trivial⟩ ?_
            have h := Option.some.inj h
            subst h
            exact At.fin hm ht ⟨[], [], [], [8], [0, 1]⟩ [] (by kernel_rfl) trivial
          · refine At.step hm ht ⟨[], [false], [], [], [0, 1]⟩ 6 ⟨[], [], [(0, [.d (.int .i64 p_0), .d (.int .i64 p_1), .d (.int .i64 p_2), .mref 1]), (1, [.mp .i64 .i64 b1_0])], 2⟩ [((from_ : Int) != to_) = false] (by kernel_rfl) ⟨b236_e0, trivial⟩ ?_
            have h := Option.some.inj h
            subst h
            exact At.fin hm ht ⟨[], [], [], [8], [0, 1]⟩ [] (by kernel_rfl) trivial
      · refine At.step hm ht ⟨[(2, .b false), (12, .b false), (16, .b false)], [false], [], [0, 1, 2, 3], [0, 1]⟩ 3 ⟨[(0, .one (.c (.ptr 0 0))), (1, .one (.c (.d (.int .i64 from_)))), (2, .one (.c (.d (.int .i64 to_)))), (3, .one (.c (.d (.int .i64 n_))))], [], [(0, [.d (.int .i64 p_0), .d (.int .i64 p_1), .d (.int .i64 p_2), .mref 1]), (1, [.mp .i64 .i64 b1_0])], 2⟩ [(decide ((n_ : Int) < 0)) = false, (decide ((n_ : Int) > (getM b1_0 from_))) = false, ((from_ : Int) != to_) = false, false = false] (by kernel_rfl) ⟨b232_2, b232_12, b232_16, rfl, trivial⟩ ?_
        rcases iteS h with ⟨b241_e0, h⟩ | ⟨b241_e0, h⟩
        · refine At.step hm ht ⟨[], [true], [], [0, 1, 2, 3], [0, 1]⟩ 4 ⟨[(0, .one (.c (.ptr 0 0))), (1, .one (.c (.d (.int .i64 from_)))), (2, .one (.c (.d (.int .i64 to_)))), (3, .one (.c (.d (.int .i64 n_))))], [], [(0, [.d (.int .i64 p_0), .d (.int .i64 p_1), .d (.int .i64 p_2), .mref 1]), (1, [.mp .i64 .i64 b1_0])], 2⟩ [((from_ : Int) != to_) = true] (by kernel_rfl) ⟨b241_e0, trivial⟩ ?_
          obtain ⟨r242_0, cr242_0, h⟩ := bindS h
          refine At.step hm ht ⟨[(10, .call [0, 1] [] (f66_quota_Pool_set_out r242_0))], [], [], [0, 2, 3], [0, 1]⟩ 5 ⟨[(0, .one (.c (.ptr 0 0))), (2, .one (.c (.d (.int .i64 to_)))), (3, .one (.c (.d (.int .i64 n_))))], [], [(0, [.d (.int .i64 r242_0.1), .d (.int .i64 r242_0.2.1), .d (.int .i64 r242_0.2.2.1), .mref 1]), (1, [.mp .i64 .i64 r242_0.2.2.2])], 2⟩ [FnOK Go.Proofs.Try.prog 66 (f66_quota_Pool_set_in from_ (IntKind.wrap .i64 ((getM b1_0 from_) - n_)) p_0 p_1 p_2 b1_0) (f66_quota_Pool_set_out r242_0)] (by kernel_rfl) ⟨(f66_quota_Pool_set_ok from_ (IntKind.wrap .i64 ((getM b1_0 from_) - n_)) p_0 p_1 p_2 b1_0 r242_0 cr242_0), trivial⟩ ?_
          obtain ⟨r243_0, cr243_0, h⟩ := bindS h
          refine At.step hm ht ⟨[(10, .call [0, 1] [] (f66_quota_Pool_set_out r243_0))], [], [], [], [0, 1]⟩ 6 ⟨[], [], [(0, [.d (.int .i64 r243_0.1), .d (.int .i64 r243_0.2.1), .d (.int .i64 r243_0.2.2.1), .mref 1]), (1, [.mp .i64 .i64 r243_0.2.2.2])], 2⟩ [FnOK Go.Proofs.Try.prog 66 (f66_quota_Pool_set_in to_ (IntKind.wrap .i64 ((getM r242_0.2.2.2 to_) + n_)) r242_0.1 r242_0.2.1 r242_0.2.2.1 r242_0.2.2.2) (f66_quota_Pool_set_out r243_0)] (by kernel_rfl) ⟨(f66_quota_Pool_set_ok to_ (IntKind.wrap .i64 ((getM r242_0.2.2.2 to_) + n_)) r242_0.1 r242_0.2.1 r242_0.2.2.1 r242_0.2.2.2 r243_0 cr243_0), trivial⟩ ?_
          have h := Option.some.inj h
          subst h
          exact At.fin hm ht ⟨[], [], [], [8], [0, 1]⟩ [] (by kernel_rfl) trivial
        · refine At.step hm ht ⟨[], [false], [], [], [0, 1]⟩ 6 ⟨[], [], [(0, [.d (.int .i64 p_0), .d (.int .i64 p_1), .d (.int .i64 p_2), .mref 1]), (1, [.mp .i64 .i64 b1_0])], 2⟩ [((from_ : Int) != to_) = false] (by kernel_rfl) ⟨b241_e0, trivial⟩ ?_
          have h := Option.some.inj h
          subst h
          exact At.fin hm ht ⟨[], [], [], [8], [0, 1]⟩ [] (by kernel_rfl) trivial
/-! brougham/broughamref39.Take -/
def f35_broughamref39_Take_in (p_0 : Int) (p_1 : Int) (p_2 : List (Int × Int)) (id : Int) (n_ : Int) : Inn := ⟨[.agg [.d (.int .i64 p_0), .d (.int .i64 p_1), .d (.sl (.pair (.int .i64) (.int .i64)) p_2)], .c (.d (.int .i64 id)), .c (.d (.int .i64 n_))], [], [], 0⟩
def f35_broughamref39_Take_out (r : Bool × Int × Int × List (Int × Int)) : Out := ⟨.tup [.agg [.d (.int .i64 r.2.1), .d (.int .i64 r.2.2.1), .d (.sl (.pair (.int .i64) (.int .i64)) r.2.2.2)], .c (.d (.bool r.1))], [], [(0, [.d (.int .i64 r.2.1), .d (.int .i64 r.2.2.1), .d (.sl (.pair (.int .i64) (.int .i64)) r.2.2.2)])], 1⟩
def f35_broughamref39_Take (n : Nat) (p_0 : Int) (p_1 : Int) (p_2 : List (Int × Int)) (id : Int) (n_ : Int) : Option (Bool × Int × Int × List (Int × Int)) :=
  if (decide ((n_ : Int) < 0)) = true then
    some (false, p_0, p_1, p_2)
  else
    (f32_broughamref39_Of n p_0 p_1 p_2 id).bind fun r403_0 =>
    if (decide ((n_ : Int) > (IntKind.wrap .i64 (p_1 - r403_0)))) = true then
      some (false, p_0, p_1, p_2)
    else
      (f36_broughamref39_Used n p_0 p_1 p_2).bind fun r403_1 =>
      if (decide ((n_ : Int) > (IntKind.wrap .i64 (p_0 - r403_1)))) = true then
        some (false, p_0, p_1, p_2)
      else
        (f32_broughamref39_Of n p_0 p_1 p_2 id).bind fun r407_0 =>
        (f68_broughamref39_set n p_0 p_1 p_2 id (IntKind.wrap .i64 (r407_0 + n_))).bind fun r407_1 =>
        some (true, r407_1.1, r407_1.2.1, r407_1.2.2)
theorem f35_broughamref39_Take_ok (n : Nat) (p_0 : Int) (p_1 : Int) (p_2 : List (Int × Int)) (id : Int) (n_ : Int) (r : Bool × Int × Int × List (Int × Int)) (h : f35_broughamref39_Take n p_0 p_1 p_2 id n_ = some r) : FnOK Go.Proofs.Try.prog 35 (f35_broughamref39_Take_in p_0 p_1 p_2 id n_) (f35_broughamref39_Take_out r) := by
  unfold f35_broughamref39_Take at h
  refine At.fn (r := 0) Go.Proofs.Try.func35 rfl (by kernel_rfl) rfl rfl (by kernel_rfl) ?_
  show At Go.Proofs.Try.prog Go.Proofs.Try.f35 0 0 ⟨[(0, .one (.agg [.d (.int .i64 p_0), .d (.int .i64 p_1), .d (.sl (.pair (.int .i64) (.int .i64)) p_2)])), (1, .one (.c (.d (.int .i64 id)))), (2, .one (.c (.d (.int .i64 n_))))], [], [], 0⟩ _
  refine At.step hm ht ⟨[], [], [], [1, 2, 3, 6], [0, 1]⟩ 1 ⟨[(1, .one (.c (.d (.int .i64 id)))), (2, .one (.c (.d (.int .i64 n_)))), (3, .one (.c (.ptr 0 0))), (6, .one (.c (.ptr 1 0)))], [], [(0, [.d (.int .i64 p_0), .d (.int .i64 p_1), .d (.sl (.pair (.int .i64) (.int .i64)) p_2)]), (1, [.d (.int .i64 0), .d (.int .i64 0), .d (.sl .unit [])])], 2⟩ [] (by kernel_rfl) trivial ?_
  rcases iteS h with ⟨b403_2, h⟩ | ⟨b403_2, h⟩
  · refine At.step hm ht ⟨[(2, .b true)], [true], [], [3, 6], [0, 1]⟩ 2 ⟨[(3, .one (.c (.ptr 0 0))), (6, .one (.c (.ptr 1 0)))], [], [(0, [.d (.int .i64 p_0), .d (.int .i64 p_1), .d (.sl (.pair (.int .i64) (.int .i64)) p_2)]), (1, [.d (.int .i64 0), .d (.int .i64 0), .d (.sl .unit [])])], 2⟩ [(decide ((n_ : Int) < 0)) = true, true = true] (by kernel_rfl) ⟨b403_2, rfl, trivial⟩ ?_
    have h := Option.some.inj h
    subst h
    exact At.fin hm ht ⟨[], [], [], [6, 7], [1]⟩ [0 + 3 ≤ 3] (by kernel_rfl) ⟨(by decide), trivial⟩
  · obtain ⟨r403_0, cr403_0, h⟩ := bindS h
    rcases iteS h with ⟨b403_12, h⟩ | ⟨b403_12, h⟩
    · refine At.step hm ht ⟨[(2, .b false), (8, .call [] [] (f32_broughamref39_Of_out r403_0)), (12, .b true)], [true], [], [3, 6], [0, 1]⟩ 2 ⟨[(3, .one (.c (.ptr 0 0))), (6, .one (.c (.ptr 1 0)))], [], [(0, [.d (.int .i64 p_0), .d (.int .i64 p_1), .d (.sl (.pair (.int .i64) (.int .i64)) p_2)]), (1, [.d (.int .i64 0), .d (.int .i64 0), .d (.sl .unit [])])], 2⟩ [(decide ((n_ : Int) < 0)) = false, FnOK Go.Proofs.Try.prog 32 (f32_broughamref39_Of_in p_0 p_1 p_2 id) (f32_broughamref39_Of_out r403_0), (decide ((n_ : Int) > (IntKind.wrap .i64 (p_1 - r403_0)))) = true, true = true] (by kernel_rfl) ⟨b403_2, (f32_broughamref39_Of_ok n p_0 p_1 p_2 id r403_0 cr403_0), b403_12, rfl, trivial⟩ ?_
      have h := Option.some.inj h
      subst h
      exact At.fin hm ht ⟨[], [], [], [6, 7], [1]⟩ [0 + 3 ≤ 3] (by kernel_rfl) ⟨(by decide), trivial⟩
    · obtain ⟨r403_1, cr403_1, h⟩ := bindS h
      rcases iteS h with ⟨b403_e0, h⟩ | ⟨b403_e0, h⟩
      · refine At.step hm ht ⟨[(2, .b false), (8, .call [] [] (f32_broughamref39_Of_out r403_0)), (12, .b false), (17, .call [] [] (f36_broughamref39_Used_out r403_1))], [true], [], [3, 6], [0, 1]⟩ 2 ⟨[(3, .one (.c (.ptr 0 0))), (6, .one (.c (.ptr 1 0)))], [], [(0, [.d (.int .i64 p_0), .d (.int .i64 p_1), .d (.sl (.pair (.int .i64) (.int .i64)) p_2)]), (1, [.d (.int .i64 0), .d (.int .i64 0), .d (.sl .unit [])])], 2⟩ [(decide ((n_ : Int) < 0)) = false, FnOK Go.Proofs.Try.prog 32 (f32_broughamref39_Of_in p_0 p_1 p_2 id) (f32_broughamref39_Of_out r403_0), (decide ((n_ : Int) > (IntKind.wrap .i64 (p_1 - r403_0)))) = false, FnOK Go.Proofs.Try.prog 36 (f36_broughamref39_Used_in p_0 p_1 p_2) (f36_broughamref39_Used_out r403_1), (decide ((n_ : Int) > (IntKind.wrap .i64 (p_0 - r403_1)))) = true] (by kernel_rfl) ⟨b403_2, (f32_broughamref39_Of_ok n p_0 p_1 p_2 id r403_0 cr403_0), b403_12, (f36_broughamref39_Used_ok n p_0 p_1 p_2 r403_1 cr403_1), b403_e0, trivial⟩ ?_
        have h := Option.some.inj h
        subst h
        exact At.fin hm ht ⟨[], [], [], [6, 7], [1]⟩ [0 + 3 ≤ 3] (by kernel_rfl) ⟨(by decide), trivial⟩
      · refine At.step hm ht ⟨[(2, .b false), (8, .call [] [] (f32_broughamref39_Of_out r403_0)), (12, .b false), (17, .call [] [] (f36_broughamref39_Used_out r403_1))], [false], [], [1, 2, 3, 6], [0, 1]⟩ 3 ⟨[(1, .one (.c (.d (.int .i64 id)))), (2, .one (.c (.d (.int .i64 n_)))), (3, .one (.c (.ptr 0 0))), (6, .one (.c (.ptr 1 0)))], [], [(0, [.d (.int .i64 p_0), .d (.int .i64 p_1), .d (.sl (.pair (.int .i64) (.int .i64)) p_2)]), (1, [.d (.int .i64 0), .d (.int .i64 0), .d (.sl .unit [])])], 2⟩ [(decide ((n_ : Int) < 0)) = false, FnOK Go.Proofs.Try.prog 32 (f32_broughamref39_Of_in p_0 p_1 p_2 id) (f32_broughamref39_Of_out r403_0), (decide ((n_ : Int) > (IntKind.wrap .i64 (p_1 - r403_0)))) = false, FnOK Go.Proofs.Try.prog 36 (f36_broughamref39_Used_in p_0 p_1 p_2) (f36_broughamref39_Used_out r403_1), (decide ((n_ : Int) > (IntKind.wrap .i64 (p_0 - r403_1)))) = false] (by kernel_rfl) ⟨b403_2, (f32_broughamref39_Of_ok n p_0 p_1 p_2 id r403_0 cr403_0), b403_12, (f36_broughamref39_Used_ok n p_0 p_1 p_2 r403_1 cr403_1), b403_e0, trivial⟩ ?_
        obtain ⟨r407_0, cr407_0, h⟩ := bindS h
        obtain ⟨r407_1, cr407_1, h⟩ := bindS h
        have h := Option.some.inj h
        subst h
        exact At.fin hm ht ⟨[(4, .call [] [] (f32_broughamref39_Of_out r407_0)), (7, .call [] [] (f68_broughamref39_set_out r407_1))], [], [], [6, 7], [1]⟩ [FnOK Go.Proofs.Try.prog 32 (f32_broughamref39_Of_in p_0 p_1 p_2 id) (f32_broughamref39_Of_out r407_0), FnOK Go.Proofs.Try.prog 68 (f68_broughamref39_set_in p_0 p_1 p_2 id (IntKind.wrap .i64 (r407_0 + n_))) (f68_broughamref39_set_out r407_1), 0 + 3 ≤ 3] (by kernel_rfl) ⟨(f32_broughamref39_Of_ok n p_0 p_1 p_2 id r407_0 cr407_0), (f68_broughamref39_set_ok n p_0 p_1 p_2 id (IntKind.wrap .i64 (r407_0 + n_)) r407_1 cr407_1), (by decide), trivial⟩
/-! brougham/broughamlaw39.QuotaPlays -/
def f6_broughamlaw39_QuotaPlays_in (all : Int) (each : Int) (l : List (Int × Int × Int × Int)) : Inn := ⟨[.c (.d (.int .i64 all)), .c (.d (.int .i64 each)), .c (.d (.sl (.pair (.int .i64) (.pair (.int .i64) (.pair (.int .i64) (.int .i64)))) l))], [], [], 0⟩
def f6_broughamlaw39_QuotaPlays_out (r : Bool) : Out := ⟨.one (.c (.d (.bool r))), [], [], 0⟩
def f6_broughamlaw39_QuotaPlays_L3 : Nat → Int → Int → Int → (List (Int × Int)) → Option (Bool)
  | 0, _, _, _, _ => none
  | n + 1, p_0, p_1, p_2, b1_0 =>
    some (true)
def f6_broughamlaw39_QuotaPlays_L3_k (e : Bool) (o : Out) : Prop := o = f6_broughamlaw39_QuotaPlays_out e
theorem f6_broughamlaw39_QuotaPlays_L3_ok (n : Nat) : ∀ (p_0 : Int) (p_1 : Int) (p_2 : Int) (b1_0 : List (Int × Int)) (w : Bool) (h : f6_broughamlaw39_QuotaPlays_L3 n p_0 p_1 p_2 b1_0 = some w) (o : Out) (hk : f6_broughamlaw39_QuotaPlays_L3_k w o), At Go.Proofs.Try.prog Go.Proofs.Try.f6 0 3 ⟨[(7, .one (.c (.ptr 0 0)))], [], [(0, [.d (.int .i64 p_0), .d (.int .i64 p_1), .d (.int .i64 p_2), .mref 1]), (1, [.mp .i64 .i64 b1_0])], 2⟩ o := by
  induction n with
  | zero => intro p_0 p_1 p_2 b1_0 w h; rw [f6_broughamlaw39_QuotaPlays_L3] at h; cases h
  | succ n ih =>
    intro p_0 p_1 p_2 b1_0 w h o hk
    rw [f6_broughamlaw39_QuotaPlays_L3] at h
    have h := Option.some.inj h
    subst h
    have hk : o = f6_broughamlaw39_QuotaPlays_out true := hk
    subst hk
    exact At.fin hm ht ⟨[], [], [], [6], []⟩ [] (by kernel_rfl) trivial
def f6_broughamlaw39_QuotaPlays_L32 : Nat → (List (Int × Int × Int × Int)) → Int → Int → Int → Int → Int → Int → Int → (List (Int × Int)) → Int → Int → Int → Int → (List (Int × Int)) → Option ((Bool) ⊕ ((List (Int × Int × Int × Int)) × Int × Int × Int × Int × Int × Int × (List (Int × Int)) × List (Int × Int)))
  | 0, _, _, _, _, _, _, _, _, _, _, _, _, _, _ => none
  | n + 1, l, i, fair, p_0, p_1, p_2, x_0, x_1, x_2, o__0, o__1, o__2, o__3, b3_0 =>
    (f15_quota_Pool_Of o__1 p_0 p_1 p_2 b3_0).bind fun r365_0 =>
    (f32_broughamref39_Of n x_0 x_1 x_2 o__1).bind fun r365_1 =>
    if ((r365_0.1 : Int) != r365_1) = true then
      some (.inl false)
    else
      (f15_quota_Pool_Of o__2 r365_0.2.1 r365_0.2.2.1 r365_0.2.2.2.1 r365_0.2.2.2.2).bind fun r365_2 =>
      (f32_broughamref39_Of n x_0 x_1 x_2 o__2).bind fun r365_3 =>
      if ((r365_2.1 : Int) != r365_3) = true then
        some (.inl false)
      else
        (f16_quota_Pool_Used r365_2.2.1 r365_2.2.2.1 r365_2.2.2.2.1 r365_2.2.2.2.2).bind fun r365_4 =>
        (f36_broughamref39_Used n x_0 x_1 x_2).bind fun r365_5 =>
        if ((r365_4.1 : Int) != r365_5) = true then
          some (.inl false)
        else
          (f37_quota_Pool_Owners r365_4.2.1 r365_4.2.2.1 r365_4.2.2.2.1 r365_4.2.2.2.2).bind fun r365_6 =>
          if ((r365_6.1 : Int) != ((x_2.length : Nat) : Int)) = true then
            some (.inl false)
          else
            (f18_quota_Pool_Fair o__2 r365_6.2.1 r365_6.2.2.1 r365_6.2.2.2.1 r365_6.2.2.2.2).bind fun r365_7 =>
            if ((r365_7.1 : Int) != fair) = true then
              some (.inl false)
            else
              some (.inr ((l, (IntKind.wrap .i64 (i + 1)), r365_7.2.1, r365_7.2.2.1, r365_7.2.2.2.1, x_0, x_1, x_2, r365_7.2.2.2.2)))
def f6_broughamlaw39_QuotaPlays_L32_k (w : (Bool) ⊕ ((List (Int × Int × Int × Int)) × Int × Int × Int × Int × Int × Int × (List (Int × Int)) × List (Int × Int))) (o : Out) : Prop := match w with
  | .inl e => o = f6_broughamlaw39_QuotaPlays_out e
  | .inr e => At Go.Proofs.Try.prog Go.Proofs.Try.f6 0 6 ⟨[(2, .one (.c (.d (.sl (.pair (.int .i64) (.pair (.int .i64) (.pair (.int .i64) (.int .i64)))) e.1)))), (7, .one (.c (.ptr 0 0))), (8, .one (.c (.ptr 1 0))), (9, .one (.c (.d (.int .i64 e.2.1))))], [], [(0, [.d (.int .i64 e.2.2.1), .d (.int .i64 e.2.2.2.1), .d (.int .i64 e.2.2.2.2.1), .mref 2]), (1, [.d (.int .i64 e.2.2.2.2.2.1), .d (.int .i64 e.2.2.2.2.2.2.1), .d (.sl (.pair (.int .i64) (.int .i64)) e.2.2.2.2.2.2.2.1)]), (2, [.mp .i64 .i64 e.2.2.2.2.2.2.2.2])], 3⟩ o
theorem f6_broughamlaw39_QuotaPlays_L32_ok (n : Nat) : ∀ (l : List (Int × Int × Int × Int)) (i : Int) (fair : Int) (p_0 : Int) (p_1 : Int) (p_2 : Int) (x_0 : Int) (x_1 : Int) (x_2 : List (Int × Int)) (o__0 : Int) (o__1 : Int) (o__2 : Int) (o__3 : Int) (b3_0 : List (Int × Int)) (w : (Bool) ⊕ ((List (Int × Int × Int × Int)) × Int × Int × Int × Int × Int × Int × (List (Int × Int)) × List (Int × Int))) (h : f6_broughamlaw39_QuotaPlays_L32 n l i fair p_0 p_1 p_2 x_0 x_1 x_2 o__0 o__1 o__2 o__3 b3_0 = some w) (o : Out) (hk : f6_broughamlaw39_QuotaPlays_L32_k w o), At Go.Proofs.Try.prog Go.Proofs.Try.f6 0 32 ⟨[(2, .one (.c (.d (.sl (.pair (.int .i64) (.pair (.int .i64) (.pair (.int .i64) (.int .i64)))) l)))), (7, .one (.c (.ptr 0 0))), (8, .one (.c (.ptr 1 0))), (9, .one (.c (.d (.int .i64 i)))), (10, .one (.c (.ptr 2 0))), (13, .one (.c (.d (.int .i64 fair))))], [], [(0, [.d (.int .i64 p_0), .d (.int .i64 p_1), .d (.int .i64 p_2), .mref 3]), (1, [.d (.int .i64 x_0), .d (.int .i64 x_1), .d (.sl (.pair (.int .i64) (.int .i64)) x_2)]), (2, [.d (.int .i64 o__0), .d (.int .i64 o__1), .d (.int .i64 o__2), .d (.int .i64 o__3)]), (3, [.mp .i64 .i64 b3_0])], 4⟩ o := by
  induction n with
  | zero => intro l i fair p_0 p_1 p_2 x_0 x_1 x_2 o__0 o__1 o__2 o__3 b3_0 w h; rw [f6_broughamlaw39_QuotaPlays_L32] at h; cases h
  | succ n ih =>
    intro l i fair p_0 p_1 p_2 x_0 x_1 x_2 o__0 o__1 o__2 o__3 b3_0 w h o hk
    rw [f6_broughamlaw39_QuotaPlays_L32] at h
    obtain ⟨r365_0, cr365_0, h⟩ := bindS h
    obtain ⟨r365_1, cr365_1, h⟩ := bindS h
    rcases iteS h with ⟨b365_9, h⟩ | ⟨b365_9, h⟩
    · refine At.step hm ht ⟨[(3, .call [0, 3] [] (f15_quota_Pool_Of_out r365_0)), (7, .call [] [] (f32_broughamref39_Of_out r365_1)), (9, .b true)], [true], [], [], []⟩ 33 ⟨[], [], [], 0⟩ [FnOK Go.Proofs.Try.prog 15 (f15_quota_Pool_Of_in o__1 p_0 p_1 p_2 b3_0) (f15_quota_Pool_Of_out r365_0), FnOK Go.Proofs.Try.prog 32 (f32_broughamref39_Of_in x_0 x_1 x_2 o__1) (f32_broughamref39_Of_out r365_1), ((r365_0.1 : Int) != r365_1) = true, true = true] (by kernel_rfl) ⟨(f15_quota_Pool_Of_ok o__1 p_0 p_1 p_2 b3_0 r365_0 cr365_0), (f32_broughamref39_Of_ok n x_0 x_1 x_2 o__1 r365_1 cr365_1), b365_9, rfl, trivial⟩ ?_
      have h := Option.some.inj h
      subst h
      have hk : o = f6_broughamlaw39_QuotaPlays_out false := hk
      subst hk
      exact At.fin hm ht ⟨[], [], [], [6], []⟩ [] (by kernel_rfl) trivial
    · obtain ⟨r365_2, cr365_2, h⟩ := bindS h
      obtain ⟨r365_3, cr365_3, h⟩ := bindS h
      rcases iteS h with ⟨b365_20, h⟩ | ⟨b365_20, h⟩
      · refine At.step hm ht ⟨[(3, .call [0, 3] [] (f15_quota_Pool_Of_out r365_0)), (7, .call [] [] (f32_broughamref39_Of_out r365_1)), (9, .b false), (13, .call [0, 3] [] (f15_quota_Pool_Of_out r365_2)), (17, .call [] [] (f32_broughamref39_Of_out r365_3)), (20, .b true)], [true], [], [], []⟩ 33 ⟨[], [], [], 0⟩ [FnOK Go.Proofs.Try.prog 15 (f15_quota_Pool_Of_in o__1 p_0 p_1 p_2 b3_0) (f15_quota_Pool_Of_out r365_0), FnOK Go.Proofs.Try.prog 32 (f32_broughamref39_Of_in x_0 x_1 x_2 o__1) (f32_broughamref39_Of_out r365_1), ((r365_0.1 : Int) != r365_1) = false, FnOK Go.Proofs.Try.prog 15 (f15_quota_Pool_Of_in o__2 r365_0.2.1 r365_0.2.2.1 r365_0.2.2.2.1 r365_0.2.2.2.2) (f15_quota_Pool_Of_out r365_2), FnOK Go.Proofs.Try.prog 32 (f32_broughamref39_Of_in x_0 x_1 x_2 o__2) (f32_broughamref39_Of_out r365_3), ((r365_2.1 : Int) != r365_3) = true, true = true] (by kernel_rfl) ⟨(f15_quota_Pool_Of_ok o__1 p_0 p_1 p_2 b3_0 r365_0 cr365_0), (f32_broughamref39_Of_ok n x_0 x_1 x_2 o__1 r365_1 cr365_1), b365_9, (f15_quota_Pool_Of_ok o__2 r365_0.2.1 r365_0.2.2.1 r365_0.2.2.2.1 r365_0.2.2.2.2 r365_2 cr365_2), (f32_broughamref39_Of_ok n x_0 x_1 x_2 o__2 r365_3 cr365_3), b365_20, rfl, trivial⟩ ?_
        have h := Option.some.inj h
        subst h
        have hk : o = f6_broughamlaw39_QuotaPlays_out false := hk
        subst hk
        exact At.fin hm ht ⟨[], [], [], [6], []⟩ [] (by kernel_rfl) trivial
      · obtain ⟨r365_4, cr365_4, h⟩ := bindS h
        obtain ⟨r365_5, cr365_5, h⟩ := bindS h
        rcases iteS h with ⟨b365_27, h⟩ | ⟨b365_27, h⟩
        · refine At.step hm ht ⟨[(3, .call [0, 3] [] (f15_quota_Pool_Of_out r365_0)), (7, .call [] [] (f32_broughamref39_Of_out r365_1)), (9, .b false), (13, .call [0, 3] [] (f15_quota_Pool_Of_out r365_2)), (17, .call [] [] (f32_broughamref39_Of_out r365_3)), (20, .b false), (22, .call [0, 3] [] (f16_quota_Pool_Used_out r365_4)), (24, .call [] [] (f36_broughamref39_Used_out r365_5)), (27, .b true)], [true], [], [], []⟩ 33 ⟨[], [], [], 0⟩ [FnOK Go.Proofs.Try.prog 15 (f15_quota_Pool_Of_in o__1 p_0 p_1 p_2 b3_0) (f15_quota_Pool_Of_out r365_0), FnOK Go.Proofs.Try.prog 32 (f32_broughamref39_Of_in x_0 x_1 x_2 o__1) (f32_broughamref39_Of_out r365_1), ((r365_0.1 : Int) != r365_1) = false, FnOK Go.Proofs.Try.prog 15 (f15_quota_Pool_Of_in o__2 r365_0.2.1 r365_0.2.2.1 r365_0.2.2.2.1 r365_0.2.2.2.2) (f15_quota_Pool_Of_out r365_2), FnOK Go.Proofs.Try.prog 32 (f32_broughamref39_Of_in x_0 x_1 x_2 o__2) (f32_broughamref39_Of_out r365_3), ((r365_2.1 : Int) != r365_3) = false, FnOK Go.Proofs.Try.prog 16 (f16_quota_Pool_Used_in r365_2.2.1 r365_2.2.2.1 r365_2.2.2.2.1 r365_2.2.2.2.2) (f16_quota_Pool_Used_out r365_4), FnOK Go.Proofs.Try.prog 36 (f36_broughamref39_Used_in x_0 x_1 x_2) (f36_broughamref39_Used_out r365_5), ((r365_4.1 : Int) != r365_5) = true, true = true] (by kernel_rfl) ⟨(f15_quota_Pool_Of_ok o__1 p_0 p_1 p_2 b3_0 r365_0 cr365_0), (f32_broughamref39_Of_ok n x_0 x_1 x_2 o__1 r365_1 cr365_1), b365_9, (f15_quota_Pool_Of_ok o__2 r365_0.2.1 r365_0.2.2.1 r365_0.2.2.2.1 r365_0.2.2.2.2 r365_2 cr365_2), (f32_broughamref39_Of_ok n x_0 x_1 x_2 o__2 r365_3 cr365_3), b365_20, (f16_quota_Pool_Used_ok r365_2.2.1 r365_2.2.2.1 r365_2.2.2.2.1 r365_2.2.2.2.2 r365_4 cr365_4), (f36_broughamref39_Used_ok n x_0 x_1 x_2 r365_5 cr365_5), b365_27, rfl, trivial⟩ ?_
          have h := Option.some.inj h
          subst h
          have hk : o = f6_broughamlaw39_QuotaPlays_out false := hk
          subst hk
          exact At.fin hm ht ⟨[], [], [], [6], []⟩ [] (by kernel_rfl) trivial
        · obtain ⟨r365_6, cr365_6, h⟩ := bindS h
          rcases iteS h with ⟨b365_35, h⟩ | ⟨b365_35, h⟩
          · refine At.step hm ht ⟨[(3, .call [0, 3] [] (f15_quota_Pool_Of_out r365_0)), (7, .call [] [] (f32_broughamref39_Of_out r365_1)), (9, .b false), (13, .call [0, 3] [] (f15_quota_Pool_Of_out r365_2)), (17, .call [] [] (f32_broughamref39_Of_out r365_3)), (20, .b false), (22, .call [0, 3] [] (f16_quota_Pool_Used_out r365_4)), (24, .call [] [] (f36_broughamref39_Used_out r365_5)), (27, .b false), (29, .call [0, 3] [] (f37_quota_Pool_Owners_out r365_6)), (35, .b true)], [true], [], [], []⟩ 33 ⟨[], [], [], 0⟩ [FnOK Go.Proofs.Try.prog 15 (f15_quota_Pool_Of_in o__1 p_0 p_1 p_2 b3_0) (f15_quota_Pool_Of_out r365_0), FnOK Go.Proofs.Try.prog 32 (f32_broughamref39_Of_in x_0 x_1 x_2 o__1) (f32_broughamref39_Of_out r365_1), ((r365_0.1 : Int) != r365_1) = false, FnOK Go.Proofs.Try.prog 15 (f15_quota_Pool_Of_in o__2 r365_0.2.1 r365_0.2.2.1 r365_0.2.2.2.1 r365_0.2.2.2.2) (f15_quota_Pool_Of_out r365_2), FnOK Go.Proofs.Try.prog 32 (f32_broughamref39_Of_in x_0 x_1 x_2 o__2) (f32_broughamref39_Of_out r365_3), ((r365_2.1 : Int) != r365_3) = false, FnOK Go.Proofs.Try.prog 16 (f16_quota_Pool_Used_in r365_2.2.1 r365_2.2.2.1 r365_2.2.2.2.1 r365_2.2.2.2.2) (f16_quota_Pool_Used_out r365_4), FnOK Go.Proofs.Try.prog 36 (f36_broughamref39_Used_in x_0 x_1 x_2) (f36_broughamref39_Used_out r365_5), ((r365_4.1 : Int) != r365_5) = false, FnOK Go.Proofs.Try.prog 37 (f37_quota_Pool_Owners_in r365_4.2.1 r365_4.2.2.1 r365_4.2.2.2.1 r365_4.2.2.2.2) (f37_quota_Pool_Owners_out r365_6), ((r365_6.1 : Int) != ((x_2.length : Nat) : Int)) = true, true = true] (by kernel_rfl) ⟨(f15_quota_Pool_Of_ok o__1 p_0 p_1 p_2 b3_0 r365_0 cr365_0), (f32_broughamref39_Of_ok n x_0 x_1 x_2 o__1 r365_1 cr365_1), b365_9, (f15_quota_Pool_Of_ok o__2 r365_0.2.1 r365_0.2.2.1 r365_0.2.2.2.1 r365_0.2.2.2.2 r365_2 cr365_2), (f32_broughamref39_Of_ok n x_0 x_1 x_2 o__2 r365_3 cr365_3), b365_20, (f16_quota_Pool_Used_ok r365_2.2.1 r365_2.2.2.1 r365_2.2.2.2.1 r365_2.2.2.2.2 r365_4 cr365_4), (f36_broughamref39_Used_ok n x_0 x_1 x_2 r365_5 cr365_5), b365_27, (f37_quota_Pool_Owners_ok r365_4.2.1 r365_4.2.2.1 r365_4.2.2.2.1 r365_4.2.2.2.2 r365_6 cr365_6), b365_35, rfl, trivial⟩ ?_
            have h := Option.some.inj h
            subst h
            have hk : o = f6_broughamlaw39_QuotaPlays_out false := hk
            subst hk
            exact At.fin hm ht ⟨[], [], [], [6], []⟩ [] (by kernel_rfl) trivial
          · obtain ⟨r365_7, cr365_7, h⟩ := bindS h
            rcases iteS h with ⟨b365_e0, h⟩ | ⟨b365_e0, h⟩
            · refine At.step hm ht ⟨[(3, .call [0, 3] [] (f15_quota_Pool_Of_out r365_0)), (7, .call [] [] (f32_broughamref39_Of_out r365_1)), (9, .b false), (13, .call [0, 3] [] (f15_quota_Pool_Of_out r365_2)), (17, .call [] [] (f32_broughamref39_Of_out r365_3)), (20, .b false), (22, .call [0, 3] [] (f16_quota_Pool_Used_out r365_4)), (24, .call [] [] (f36_broughamref39_Used_out r365_5)), (27, .b false), (29, .call [0, 3] [] (f37_quota_Pool_Owners_out r365_6)), (35, .b false), (39, .call [0, 3] [] (f18_quota_Pool_Fair_out r365_7))], [true], [], [], []⟩ 33 ⟨[], [], [], 0⟩ [FnOK Go.Proofs.Try.prog 15 (f15_quota_Pool_Of_in o__1 p_0 p_1 p_2 b3_0) (f15_quota_Pool_Of_out r365_0), FnOK Go.Proofs.Try.prog 32 (f32_broughamref39_Of_in x_0 x_1 x_2 o__1) (f32_broughamref39_Of_out r365_1), ((r365_0.1 : Int) != r365_1) = false, FnOK Go.Proofs.Try.prog 15 (f15_quota_Pool_Of_in o__2 r365_0.2.1 r365_0.2.2.1 r365_0.2.2.2.1 r365_0.2.2.2.2) (f15_quota_Pool_Of_out r365_2), FnOK Go.Proofs.Try.prog 32 (f32_broughamref39_Of_in x_0 x_1 x_2 o__2) (f32_broughamref39_Of_out r365_3), ((r365_2.1 : Int) != r365_3) = false, FnOK Go.Proofs.Try.prog 16 (f16_quota_Pool_Used_in r365_2.2.1 r365_2.2.2.1 r365_2.2.2.2.1 r365_2.2.2.2.2) (f16_quota_Pool_Used_out r365_4), FnOK Go.Proofs.Try.prog 36 (f36_broughamref39_Used_in x_0 x_1 x_2) (f36_broughamref39_Used_out r365_5), ((r365_4.1 : Int) != r365_5) = false, FnOK Go.Proofs.Try.prog 37 (f37_quota_Pool_Owners_in r365_4.2.1 r365_4.2.2.1 r365_4.2.2.2.1 r365_4.2.2.2.2) (f37_quota_Pool_Owners_out r365_6), ((r365_6.1 : Int) != ((x_2.length : Nat) : Int)) = false, FnOK Go.Proofs.Try.prog 18 (f18_quota_Pool_Fair_in o__2 r365_6.2.1 r365_6.2.2.1 r365_6.2.2.2.1 r365_6.2.2.2.2) (f18_quota_Pool_Fair_out r365_7), ((r365_7.1 : Int) != fair) = true] (by kernel_rfl) ⟨(f15_quota_Pool_Of_ok o__1 p_0 p_1 p_2 b3_0 r365_0 cr365_0), (f32_broughamref39_Of_ok n x_0 x_1 x_2 o__1 r365_1 cr365_1), b365_9, (f15_quota_Pool_Of_ok o__2 r365_0.2.1 r365_0.2.2.1 r365_0.2.2.2.1 r365_0.2.2.2.2 r365_2 cr365_2), (f32_broughamref39_Of_ok n x_0 x_1 x_2 o__2 r365_3 cr365_3), b365_20, (f16_quota_Pool_Used_ok r365_2.2.1 r365_2.2.2.1 r365_2.2.2.2.1 r365_2.2.2.2.2 r365_4 cr365_4), (f36_broughamref39_Used_ok n x_0 x_1 x_2 r365_5 cr365_5), b365_27, (f37_quota_Pool_Owners_ok r365_4.2.1 r365_4.2.2.1 r365_4.2.2.2.1 r365_4.2.2.2.2 r365_6 cr365_6), b365_35, (f18_quota_Pool_Fair_ok o__2 r365_6.2.1 r365_6.2.2.1 r365_6.2.2.2.1 r365_6.2.2.2.2 r365_7 cr365_7), b365_e0, trivial⟩ ?_
              have h := Option.some.inj h
              subst h
              have hk : o = f6_broughamlaw39_QuotaPlays_out false := hk
              subst hk
              exact At.fin hm ht ⟨[], [], [], [6], []⟩ [] (by kernel_rfl) trivial
            · refine At.step hm ht ⟨[(3, .call [0, 3] [] (f15_quota_Pool_Of_out r365_0)), (7, .call [] [] (f32_broughamref39_Of_out r365_1)), (9, .b false), (13, .call [0, 3] [] (f15_quota_Pool_Of_out r365_2)), (17, .call [] [] (f32_broughamref39_Of_out r365_3)), (20, .b false), (22, .call [0, 3] [] (f16_quota_Pool_Used_out r365_4)), (24, .call [] [] (f36_broughamref39_Used_out r365_5)), (27, .b false), (29, .call [0, 3] [] (f37_quota_Pool_Owners_out r365_6)), (35, .b false), (39, .call [0, 3] [] (f18_quota_Pool_Fair_out r365_7))], [false], [], [2, 7, 8, 9], [0, 1, 3]⟩ 7 ⟨[(2, .one (.c (.d (.sl (.pair (.int .i64) (.pair (.int .i64) (.pair (.int .i64) (.int .i64)))) l)))), (7, .one (.c (.ptr 0 0))), (8, .one (.c (.ptr 1 0))), (9, .one (.c (.d (.int .i64 i))))], [], [(0, [.d (.int .i64 r365_7.2.1), .d (.int .i64 r365_7.2.2.1), .d (.int .i64 r365_7.2.2.2.1), .mref 2]), (1, [.d (.int .i64 x_0), .d (.int .i64 x_1), .d (.sl (.pair (.int .i64) (.int .i64)) x_2)]), (2, [.mp .i64 .i64 r365_7.2.2.2.2])], 3⟩ [FnOK Go.Proofs.Try.prog 15 (f15_quota_Pool_Of_in o__1 p_0 p_1 p_2 b3_0) (f15_quota_Pool_Of_out r365_0), FnOK Go.Proofs.Try.prog 32 (f32_broughamref39_Of_in x_0 x_1 x_2 o__1) (f32_broughamref39_Of_out r365_1), ((r365_0.1 : Int) != r365_1) = false, FnOK Go.Proofs.Try.prog 15 (f15_quota_Pool_Of_in o__2 r365_0.2.1 r365_0.2.2.1 r365_0.2.2.2.1 r365_0.2.2.2.2) (f15_quota_Pool_Of_out r365_2), FnOK Go.Proofs.Try.prog 32 (f32_broughamref39_Of_in x_0 x_1 x_2 o__2) (f32_broughamref39_Of_out r365_3), ((r365_2.1 : Int) != r365_3) = false, FnOK Go.Proofs.Try.prog 16 (f16_quota_Pool_Used_in r365_2.2.1 r365_2.2.2.1 r365_2.2.2.2.1 r365_2.2.2.2.2) (f16_quota_Pool_Used_out r365_4), FnOK Go.Proofs.Try.prog 36 (f36_broughamref39_Used_in x_0 x_1 x_2) (f36_broughamref39_Used_out r365_5), ((r365_4.1 : Int) != r365_5) = false, FnOK Go.Proofs.Try.prog 37 (f37_quota_Pool_Owners_in r365_4.2.1 r365_4.2.2.1 r365_4.2.2.2.1 r365_4.2.2.2.2) (f37_quota_Pool_Owners_out r365_6), ((r365_6.1 : Int) != ((x_2.length : Nat) : Int)) = false, FnOK Go.Proofs.Try.prog 18 (f18_quota_Pool_Fair_in o__2 r365_6.2.1 r365_6.2.2.1 r365_6.2.2.2.1 r365_6.2.2.2.2) (f18_quota_Pool_Fair_out r365_7), ((r365_7.1 : Int) != fair) = false] (by kernel_rfl) ⟨(f15_quota_Pool_Of_ok o__1 p_0 p_1 p_2 b3_0 r365_0 cr365_0), (f32_broughamref39_Of_ok n x_0 x_1 x_2 o__1 r365_1 cr365_1), b365_9, (f15_quota_Pool_Of_ok o__2 r365_0.2.1 r365_0.2.2.1 r365_0.2.2.2.1 r365_0.2.2.2.2 r365_2 cr365_2), (f32_broughamref39_Of_ok n x_0 x_1 x_2 o__2 r365_3 cr365_3), b365_20, (f16_quota_Pool_Used_ok r365_2.2.1 r365_2.2.2.1 r365_2.2.2.2.1 r365_2.2.2.2.2 r365_4 cr365_4), (f36_broughamref39_Used_ok n x_0 x_1 x_2 r365_5 cr365_5), b365_27, (f37_quota_Pool_Owners_ok r365_4.2.1 r365_4.2.2.1 r365_4.2.2.2.1 r365_4.2.2.2.2 r365_6 cr365_6), b365_35, (f18_quota_Pool_Fair_ok o__2 r365_6.2.1 r365_6.2.2.1 r365_6.2.2.2.1 r365_6.2.2.2.2 r365_7 cr365_7), b365_e0, trivial⟩ ?_
              refine At.step hm ht ⟨[], [], [], [2, 7, 8, 9], [0, 1, 2]⟩ 6 ⟨[(2, .one (.c (.d (.sl (.pair (.int .i64) (.pair (.int .i64) (.pair (.int .i64) (.int .i64)))) l)))), (7, .one (.c (.ptr 0 0))), (8, .one (.c (.ptr 1 0))), (9, .one (.c (.d (.int .i64 (IntKind.wrap .i64 (i + 1))))))], [], [(0, [.d (.int .i64 r365_7.2.1), .d (.int .i64 r365_7.2.2.1), .d (.int .i64 r365_7.2.2.2.1), .mref 2]), (1, [.d (.int .i64 x_0), .d (.int .i64 x_1), .d (.sl (.pair (.int .i64) (.int .i64)) x_2)]), (2, [.mp .i64 .i64 r365_7.2.2.2.2])], 3⟩ [] (by kernel_rfl) trivial ?_
              have h := Option.some.inj h
              subst h
              exact hk
def f6_broughamlaw39_QuotaPlays_L27 : Nat → (List (Int × Int × Int × Int)) → Int → Int → Int → Int → Int → Int → (List (Int × Int)) → Int → Int → Int → Int → (List (Int × Int)) → Option ((Bool) ⊕ ((List (Int × Int × Int × Int)) × Int × Int × Int × Int × Int × Int × (List (Int × Int)) × List (Int × Int)))
  | 0, _, _, _, _, _, _, _, _, _, _, _, _, _ => none
  | n + 1, l, i, p_0, p_1, p_2, x_0, x_1, x_2, o__0, o__1, o__2, o__3, b3_0 =>
    if (decide ((o__2 : Int) > 0)) = true then
      if (o__2 : Int) ≠ 0 then
      if (decide (((IntKind.wrap .i64 (Int.tdiv x_0 o__2)) : Int) > x_1)) = true then
        (f6_broughamlaw39_QuotaPlays_L32 n l i x_1 p_0 p_1 p_2 x_0 x_1 x_2 o__0 o__1 o__2 o__3 b3_0).bind fun w372 =>
        match w372 with
        | .inl e373 =>
          some (.inl e373)
        | .inr e374 =>
          some (.inr ((e374.1, e374.2.1, e374.2.2.1, e374.2.2.2.1, e374.2.2.2.2.1, e374.2.2.2.2.2.1, e374.2.2.2.2.2.2.1, e374.2.2.2.2.2.2.2.1, e374.2.2.2.2.2.2.2.2)))
      else
        (f6_broughamlaw39_QuotaPlays_L32 n l i (IntKind.wrap .i64 (Int.tdiv x_0 o__2)) p_0 p_1 p_2 x_0 x_1 x_2 o__0 o__1 o__2 o__3 b3_0).bind fun w375 =>
        match w375 with
        | .inl e376 =>
          some (.inl e376)
        | .inr e377 =>
          some (.inr ((e377.1, e377.2.1, e377.2.2.1, e377.2.2.2.1, e377.2.2.2.2.1, e377.2.2.2.2.2.1, e377.2.2.2.2.2.2.1, e377.2.2.2.2.2.2.2.1, e377.2.2.2.2.2.2.2.2)))
      else none
    else
      (f6_broughamlaw39_QuotaPlays_L32 n l i 0 p_0 p_1 p_2 x_0 x_1 x_2 o__0 o__1 o__2 o__3 b3_0).bind fun w378 =>
      match w378 with
      | .inl e379 =>
        some (.inl e379)
      | .inr e380 =>
        some (.inr ((e380.1, e380.2.1, e380.2.2.1, e380.2.2.2.1, e380.2.2.2.2.1, e380.2.2.2.2.2.1, e380.2.2.2.2.2.2.1, e380.2.2.2.2.2.2.2.1, e380.2.2.2.2.2.2.2.2)))
def f6_broughamlaw39_QuotaPlays_L27_k (w : (Bool) ⊕ ((List (Int × Int × Int × Int)) × Int × Int × Int × Int × Int × Int × (List (Int × Int)) × List (Int × Int))) (o : Out) : Prop := match w with
  | .inl e => o = f6_broughamlaw39_QuotaPlays_out e
  | .inr e => At Go.Proofs.Try.prog Go.Proofs.Try.f6 0 6 ⟨[(2, .one (.c (.d (.sl (.pair (.int .i64) (.pair (.int .i64) (.pair (.int .i64) (.int .i64)))) e.1)))), (7, .one (.c (.ptr 0 0))), (8, .one (.c (.ptr 1 0))), (9, .one (.c (.d (.int .i64 e.2.1))))], [], [(0, [.d (.int .i64 e.2.2.1), .d (.int .i64 e.2.2.2.1), .d (.int .i64 e.2.2.2.2.1), .mref 2]), (1, [.d (.int .i64 e.2.2.2.2.2.1), .d (.int .i64 e.2.2.2.2.2.2.1), .d (.sl (.pair (.int .i64) (.int .i64)) e.2.2.2.2.2.2.2.1)]), (2, [.mp .i64 .i64 e.2.2.2.2.2.2.2.2])], 3⟩ o
theorem f6_broughamlaw39_QuotaPlays_L27_ok (n : Nat) : ∀ (l : List (Int × Int × Int × Int)) (i : Int) (p_0 : Int) (p_1 : Int) (p_2 : Int) (x_0 : Int) (x_1 : Int) (x_2 : List (Int × Int)) (o__0 : Int) (o__1 : Int) (o__2 : Int) (o__3 : Int) (b3_0 : List (Int × Int)) (w : (Bool) ⊕ ((List (Int × Int × Int × Int)) × Int × Int × Int × Int × Int × Int × (List (Int × Int)) × List (Int × Int))) (h : f6_broughamlaw39_QuotaPlays_L27 n l i p_0 p_1 p_2 x_0 x_1 x_2 o__0 o__1 o__2 o__3 b3_0 = some w) (o : Out) (hk : f6_broughamlaw39_QuotaPlays_L27_k w o), At Go.Proofs.Try.prog Go.Proofs.Try.f6 0 27 ⟨[(2, .one (.c (.d (.sl (.pair (.int .i64) (.pair (.int .i64) (.pair (.int .i64) (.int .i64)))) l)))), (7, .one (.c (.ptr 0 0))), (8, .one (.c (.ptr 1 0))), (9, .one (.c (.d (.int .i64 i)))), (10, .one (.c (.ptr 2 0)))], [], [(0, [.d (.int .i64 p_0), .d (.int .i64 p_1), .d (.int .i64 p_2), .mref 3]), (1, [.d (.int .i64 x_0), .d (.int .i64 x_1), .d (.sl (.pair (.int .i64) (.int .i64)) x_2)]), (2, [.d (.int .i64 o__0), .d (.int .i64 o__1), .d (.int .i64 o__2), .d (.int .i64 o__3)]), (3, [.mp .i64 .i64 b3_0])], 4⟩ o := by
  induction n with
  | zero => intro l i p_0 p_1 p_2 x_0 x_1 x_2 o__0 o__1 o__2 o__3 b3_0 w h; rw [f6_broughamlaw39_QuotaPlays_L27] at h; cases h
  | succ n ih =>
    intro l i p_0 p_1 p_2 x_0 x_1 x_2 o__0 o__1 o__2 o__3 b3_0 w h o hk
    rw [f6_broughamlaw39_QuotaPlays_L27] at h
    refine At.step hm ht ⟨[], [], [], [2, 7, 8, 9, 10, 13], [0, 1, 2, 3]⟩ 28 ⟨[(2, .one (.c (.d (.sl (.pair (.int .i64) (.pair (.int .i64) (.pair (.int .i64) (.int .i64)))) l)))), (7, .one (.c (.ptr 0 0))), (8, .one (.c (.ptr 1 0))), (9, .one (.c (.d (.int .i64 i)))), (10, .one (.c (.ptr 2 0))), (13, .one (.c (.d (.int .i64 0))))], [], [(0, [.d (.int .i64 p_0), .d (.int .i64 p_1), .d (.int .i64 p_2), .mref 3]), (1, [.d (.int .i64 x_0), .d (.int .i64 x_1), .d (.sl (.pair (.int .i64) (.int .i64)) x_2)]), (2, [.d (.int .i64 o__0), .d (.int .i64 o__1), .d (.int .i64 o__2), .d (.int .i64 o__3)]), (3, [.mp .i64 .i64 b3_0])], 4⟩ [] (by kernel_rfl) trivial ?_
    rcases iteS h with ⟨b361_e0, h⟩ | ⟨b361_e0, h⟩
    · refine At.step hm ht ⟨[], [true], [], [2, 7, 8, 9, 10], [0, 1, 2, 3]⟩ 29 ⟨[(2, .one (.c (.d (.sl (.pair (.int .i64) (.pair (.int .i64) (.pair (.int .i64) (.int .i64)))) l)))), (7, .one (.c (.ptr 0 0))), (8, .one (.c (.ptr 1 0))), (9, .one (.c (.d (.int .i64 i)))), (10, .one (.c (.ptr 2 0)))], [], [(0, [.d (.int .i64 p_0), .d (.int .i64 p_1), .d (.int .i64 p_2), .mref 3]), (1, [.d (.int .i64 x_0), .d (.int .i64 x_1), .d (.sl (.pair (.int .i64) (.int .i64)) x_2)]), (2, [.d (.int .i64 o__0), .d (.int .i64 o__1), .d (.int .i64 o__2), .d (.int .i64 o__3)]), (3, [.mp .i64 .i64 b3_0])], 4⟩ [(decide ((o__2 : Int) > 0)) = true] (by kernel_rfl) ⟨b361_e0, trivial⟩ ?_
      obtain ⟨g362_0, h⟩ := ifS h
      refine At.step hm ht ⟨[], [], [], [2, 7, 8, 9, 10, 13], [0, 1, 2, 3]⟩ 30 ⟨[(2, .one (.c (.d (.sl (.pair (.int .i64) (.pair (.int .i64) (.pair (.int .i64) (.int .i64)))) l)))), (7, .one (.c (.ptr 0 0))), (8, .one (.c (.ptr 1 0))), (9, .one (.c (.d (.int .i64 i)))), (10, .one (.c (.ptr 2 0))), (13, .one (.c (.d (.int .i64 (IntKind.wrap .i64 (Int.tdiv x_0 o__2))))))], [], [(0, [.d (.int .i64 p_0), .d (.int .i64 p_1), .d (.int .i64 p_2), .mref 3]), (1, [.d (.int .i64 x_0), .d (.int .i64 x_1), .d (.sl (.pair (.int .i64) (.int .i64)) x_2)]), (2, [.d (.int .i64 o__0), .d (.int .i64 o__1), .d (.int .i64 o__2), .d (.int .i64 o__3)]), (3, [.mp .i64 .i64 b3_0])], 4⟩ [(o__2 : Int) ≠ 0] (by kernel_rfl) ⟨g362_0, trivial⟩ ?_
      rcases iteS h with ⟨b363_e0, h⟩ | ⟨b363_e0, h⟩
      · refine At.step hm ht ⟨[], [true], [], [2, 7, 8, 9, 10], [0, 1, 2, 3]⟩ 31 ⟨[(2, .one (.c (.d (.sl (.pair (.int .i64) (.pair (.int .i64) (.pair (.int .i64) (.int .i64)))) l)))), (7, .one (.c (.ptr 0 0))), (8, .one (.c (.ptr 1 0))), (9, .one (.c (.d (.int .i64 i)))), (10, .one (.c (.ptr 2 0)))], [], [(0, [.d (.int .i64 p_0), .d (.int .i64 p_1), .d (.int .i64 p_2), .mref 3]), (1, [.d (.int .i64 x_0), .d (.int .i64 x_1), .d (.sl (.pair (.int .i64) (.int .i64)) x_2)]), (2, [.d (.int .i64 o__0), .d (.int .i64 o__1), .d (.int .i64 o__2), .d (.int .i64 o__3)]), (3, [.mp .i64 .i64 b3_0])], 4⟩ [(decide (((IntKind.wrap .i64 (Int.tdiv x_0 o__2)) : Int) > x_1)) = true] (by kernel_rfl) ⟨b363_e0, trivial⟩ ?_
        refine At.step hm ht ⟨[], [], [], [2, 7, 8, 9, 10, 13], [0, 1, 2, 3]⟩ 32 ⟨[(2, .one (.c (.d (.sl (.pair (.int .i64) (.pair (.int .i64) (.pair (.int .i64) (.int .i64)))) l)))), (7, .one (.c (.ptr 0 0))), (8, .one (.c (.ptr 1 0))), (9, .one (.c (.d (.int .i64 i)))), (10, .one (.c (.ptr 2 0))), (13, .one (.c (.d (.int .i64 x_1))))], [], [(0, [.d (.int .i64 p_0), .d (.int .i64 p_1), .d (.int .i64 p_2), .mref 3]), (1, [.d (.int .i64 x_0), .d (.int .i64 x_1), .d (.sl (.pair (.int .i64) (.int .i64)) x_2)]), (2, [.d (.int .i64 o__0), .d (.int .i64 o__1), .d (.int .i64 o__2), .d (.int .i64 o__3)]), (3, [.mp .i64 .i64 b3_0])], 4⟩ [] (by kernel_rfl) trivial ?_
        obtain ⟨w372, cw372, h⟩ := bindS h
        refine f6_broughamlaw39_QuotaPlays_L32_ok n l i x_1 p_0 p_1 p_2 x_0 x_1 x_2 o__0 o__1 o__2 o__3 b3_0 w372 cw372 _ ?_
        rcases w372 with e373 | e374
        · have h := Option.some.inj h
          subst h
          exact hk
        · show At Go.Proofs.Try.prog Go.Proofs.Try.f6 0 6 ⟨[(2, .one (.c (.d (.sl (.pair (.int .i64) (.pair (.int .i64) (.pair (.int .i64) (.int .i64)))) e374.1)))), (7, .one (.c (.ptr 0 0))), (8, .one (.c (.ptr 1 0))), (9, .one (.c (.d (.int .i64 e374.2.1))))], [], [(0, [.d (.int .i64 e374.2.2.1), .d (.int .i64 e374.2.2.2.1), .d (.int .i64 e374.2.2.2.2.1), .mref 2]), (1, [.d (.int .i64 e374.2.2.2.2.2.1), .d (.int .i64 e374.2.2.2.2.2.2.1), .d (.sl (.pair (.int .i64) (.int .i64)) e374.2.2.2.2.2.2.2.1)]), (2, [.mp .i64 .i64 e374.2.2.2.2.2.2.2.2])], 3⟩ _
          have h := Option.some.inj h
          subst h
          exact hk
      · refine At.step hm ht ⟨[], [false], [], [2, 7, 8, 9, 10, 13], [0, 1, 2, 3]⟩ 32 ⟨[(2, .one (.c (.d (.sl (.pair (.int .i64) (.pair (.int .i64) (.pair (.int .i64) (.int .i64)))) l)))), (7, .one (.c (.ptr 0 0))), (8, .one (.c (.ptr 1 0))), (9, .one (.c (.d (.int .i64 i)))), (10, .one (.c (.ptr 2 0))), (13, .one (.c (.d (.int .i64 (IntKind.wrap .i64 (Int.tdiv x_0 o__2))))))], [], [(0, [.d (.int .i64 p_0), .d (.int .i64 p_1), .d (.int .i64 p_2), .mref 3]), (1, [.d (.int .i64 x_0), .d (.int .i64 x_1), .d (.sl (.pair (.int .i64) (.int .i64)) x_2)]), (2, [.d (.int .i64 o__0), .d (.int .i64 o__1), .d (.int .i64 o__2), .d (.int .i64 o__3)]), (3, [.mp .i64 .i64 b3_0])], 4⟩ [(decide (((IntKind.wrap .i64 (Int.tdiv x_0 o__2)) : Int) > x_1)) = false] (by kernel_rfl) ⟨b363_e0, trivial⟩ ?_
        obtain ⟨w375, cw375, h⟩ := bindS h
        refine f6_broughamlaw39_QuotaPlays_L32_ok n l i (IntKind.wrap .i64 (Int.tdiv x_0 o__2)) p_0 p_1 p_2 x_0 x_1 x_2 o__0 o__1 o__2 o__3 b3_0 w375 cw375 _ ?_
        rcases w375 with e376 | e377
        · have h := Option.some.inj h
          subst h
          exact hk
        · show At Go.Proofs.Try.prog Go.Proofs.Try.f6 0 6 ⟨[(2, .one (.c (.d (.sl (.pair (.int .i64) (.pair (.int .i64) (.pair (.int .i64) (.int .i64)))) e377.1)))), (7, .one (.c (.ptr 0 0))), (8, .one (.c (.ptr 1 0))), (9, .one (.c (.d (.int .i64 e377.2.1))))], [], [(0, [.d (.int .i64 e377.2.2.1), .d (.int .i64 e377.2.2.2.1), .d (.int .i64 e377.2.2.2.2.1), .mref 2]), (1, [.d (.int .i64 e377.2.2.2.2.2.1), .d (.int .i64 e377.2.2.2.2.2.2.1), .d (.sl (.pair (.int .i64) (.int .i64)) e377.2.2.2.2.2.2.2.1)]), (2, [.mp .i64 .i64 e377.2.2.2.2.2.2.2.2])], 3⟩ _
          have h := Option.some.inj h
          subst h
          exact hk
    · refine At.step hm ht ⟨[], [false], [], [2, 7, 8, 9, 10, 13], [0, 1, 2, 3]⟩ 32 ⟨[(2, .one (.c (.d (.sl (.pair (.int .i64) (.pair (.int .i64) (.pair (.int .i64) (.int .i64)))) l)))), (7, .one (.c (.ptr 0 0))), (8, .one (.c (.ptr 1 0))), (9, .one (.c (.d (.int .i64 i)))), (10, .one (.c (.ptr 2 0))), (13, .one (.c (.d (.int .i64 0))))], [], [(0, [.d (.int .i64 p_0), .d (.int .i64 p_1), .d (.int .i64 p_2), .mref 3]), (1, [.d (.int .i64 x_0), .d (.int .i64 x_1), .d (.sl (.pair (.int .i64) (.int .i64)) x_2)]), (2, [.d (.int .i64 o__0), .d (.int .i64 o__1), .d (.int .i64 o__2), .d (.int .i64 o__3)]), (3, [.mp .i64 .i64 b3_0])], 4⟩ [(decide ((o__2 : Int) > 0)) = false] (by kernel_rfl) ⟨b361_e0, trivial⟩ ?_
      obtain ⟨w378, cw378, h⟩ := bindS h
      refine f6_broughamlaw39_QuotaPlays_L32_ok n l i 0 p_0 p_1 p_2 x_0 x_1 x_2 o__0 o__1 o__2 o__3 b3_0 w378 cw378 _ ?_
      rcases w378 with e379 | e380
      · have h := Option.some.inj h
        subst h
        exact hk
      · show At Go.Proofs.Try.prog Go.Proofs.Try.f6 0 6 ⟨[(2, .one (.c (.d (.sl (.pair (.int .i64) (.pair (.int .i64) (.pair (.int .i64) (.int .i64)))) e380.1)))), (7, .one (.c (.ptr 0 0))), (8, .one (.c (.ptr 1 0))), (9, .one (.c (.d (.int .i64 e380.2.1))))], [], [(0, [.d (.int .i64 e380.2.2.1), .d (.int .i64 e380.2.2.2.1), .d (.int .i64 e380.2.2.2.2.1), .mref 2]), (1, [.d (.int .i64 e380.2.2.2.2.2.1), .d (.int .i64 e380.2.2.2.2.2.2.1), .d (.sl (.pair (.int .i64) (.int .i64)) e380.2.2.2.2.2.2.2.1)]), (2, [.mp .i64 .i64 e380.2.2.2.2.2.2.2.2])], 3⟩ _
        have h := Option.some.inj h
        subst h
        exact hk
def f6_broughamlaw39_QuotaPlays_L24 : Nat → (List (Int × Int × Int × Int)) → Int → Int → Int → Int → Int → Int → (List (Int × Int)) → Int → Int → Int → Int → (List (Int × Int)) → Option ((Bool) ⊕ ((List (Int × Int × Int × Int)) × Int × Int × Int × Int × Int × Int × (List (Int × Int)) × List (Int × Int)))
  | 0, _, _, _, _, _, _, _, _, _, _, _, _, _ => none
  | n + 1, l, i, p_0, p_1, p_2, x_0, x_1, x_2, o__0, o__1, o__2, o__3, b3_0 =>
    (f33_broughamref39_Move n x_0 x_1 x_2 o__1 o__2 o__3).bind fun r392_0 =>
    (f34_quota_Pool_Move o__1 o__2 o__3 p_0 p_1 p_2 b3_0).bind fun r393_0 =>
    if (!(r393_0.1 == r392_0.1)) = true then
      some (.inl false)
    else
      (f6_broughamlaw39_QuotaPlays_L27 n l i r393_0.2.1 r393_0.2.2.1 r393_0.2.2.2.1 r392_0.2.1 r392_0.2.2.1 r392_0.2.2.2 o__0 o__1 o__2 o__3 r393_0.2.2.2.2).bind fun w395 =>
      match w395 with
      | .inl e396 =>
        some (.inl e396)
      | .inr e397 =>
        some (.inr ((e397.1, e397.2.1, e397.2.2.1, e397.2.2.2.1, e397.2.2.2.2.1, e397.2.2.2.2.2.1, e397.2.2.2.2.2.2.1, e397.2.2.2.2.2.2.2.1, e397.2.2.2.2.2.2.2.2)))
def f6_broughamlaw39_QuotaPlays_L24_k (w : (Bool) ⊕ ((List (Int × Int × Int × Int)) × Int × Int × Int × Int × Int × Int × (List (Int × Int)) × List (Int × Int))) (o : Out) : Prop := match w with
  | .inl e => o = f6_broughamlaw39_QuotaPlays_out e
  | .inr e => At Go.Proofs.Try.prog Go.Proofs.Try.f6 0 6 ⟨[(2, .one (.c (.d (.sl (.pair (.int .i64) (.pair (.int .i64) (.pair (.int .i64) (.int .i64)))) e.1)))), (7, .one (.c (.ptr 0 0))), (8, .one (.c (.ptr 1 0))), (9, .one (.c (.d (.int .i64 e.2.1))))], [], [(0, [.d (.int .i64 e.2.2.1), .d (.int .i64 e.2.2.2.1), .d (.int .i64 e.2.2.2.2.1), .mref 2]), (1, [.d (.int .i64 e.2.2.2.2.2.1), .d (.int .i64 e.2.2.2.2.2.2.1), .d (.sl (.pair (.int .i64) (.int .i64)) e.2.2.2.2.2.2.2.1)]), (2, [.mp .i64 .i64 e.2.2.2.2.2.2.2.2])], 3⟩ o
theorem f6_broughamlaw39_QuotaPlays_L24_ok (n : Nat) : ∀ (l : List (Int × Int × Int × Int)) (i : Int) (p_0 : Int) (p_1 : Int) (p_2 : Int) (x_0 : Int) (x_1 : Int) (x_2 : List (Int × Int)) (o__0 : Int) (o__1 : Int) (o__2 : Int) (o__3 : Int) (b3_0 : List (Int × Int)) (w : (Bool) ⊕ ((List (Int × Int × Int × Int)) × Int × Int × Int × Int × Int × Int × (List (Int × Int)) × List (Int × Int))) (h : f6_broughamlaw39_QuotaPlays_L24 n l i p_0 p_1 p_2 x_0 x_1 x_2 o__0 o__1 o__2 o__3 b3_0 = some w) (o : Out) (hk : f6_broughamlaw39_QuotaPlays_L24_k w o), At Go.Proofs.Try.prog Go.Proofs.Try.f6 0 24 ⟨[(2, .one (.c (.d (.sl (.pair (.int .i64) (.pair (.int .i64) (.pair (.int .i64) (.int .i64)))) l)))), (7, .one (.c (.ptr 0 0))), (8, .one (.c (.ptr 1 0))), (9, .one (.c (.d (.int .i64 i)))), (10, .one (.c (.ptr 2 0)))], [], [(0, [.d (.int .i64 p_0), .d (.int .i64 p_1), .d (.int .i64 p_2), .mref 3]), (1, [.d (.int .i64 x_0), .d (.int .i64 x_1), .d (.sl (.pair (.int .i64) (.int .i64)) x_2)]), (2, [.d (.int .i64 o__0), .d (.int .i64 o__1), .d (.int .i64 o__2), .d (.int .i64 o__3)]), (3, [.mp .i64 .i64 b3_0])], 4⟩ o := by
  induction n with
  | zero => intro l i p_0 p_1 p_2 x_0 x_1 x_2 o__0 o__1 o__2 o__3 b3_0 w h; rw [f6_broughamlaw39_QuotaPlays_L24] at h; cases h
  | succ n ih =>
    intro l i p_0 p_1 p_2 x_0 x_1 x_2 o__0 o__1 o__2 o__3 b3_0 w h o hk
    rw [f6_broughamlaw39_QuotaPlays_L24] at h
    obtain ⟨r392_0, cr392_0, h⟩ := bindS h
    refine At.step hm ht ⟨[(7, .call [] [] (f33_broughamref39_Move_out r392_0))], [], [], [2, 7, 8, 9, 10, 11], [0, 1, 2, 3]⟩ 25 ⟨[(2, .one (.c (.d (.sl (.pair (.int .i64) (.pair (.int .i64) (.pair (.int .i64) (.int .i64)))) l)))), (7, .one (.c (.ptr 0 0))), (8, .one (.c (.ptr 1 0))), (9, .one (.c (.d (.int .i64 i)))), (10, .one (.c (.ptr 2 0))), (11, .one (.c (.d (.bool r392_0.1))))], [], [(0, [.d (.int .i64 p_0), .d (.int .i64 p_1), .d (.int .i64 p_2), .mref 3]), (1, [.d (.int .i64 r392_0.2.1), .d (.int .i64 r392_0.2.2.1), .d (.sl (.pair (.int .i64) (.int .i64)) r392_0.2.2.2)]), (2, [.d (.int .i64 o__0), .d (.int .i64 o__1), .d (.int .i64 o__2), .d (.int .i64 o__3)]), (3, [.mp .i64 .i64 b3_0])], 4⟩ [FnOK Go.Proofs.Try.prog 33 (f33_broughamref39_Move_in x_0 x_1 x_2 o__1 o__2 o__3) (f33_broughamref39_Move_out r392_0), 0 + 3 ≤ 3] (by kernel_rfl) ⟨(f33_broughamref39_Move_ok n x_0 x_1 x_2 o__1 o__2 o__3 r392_0 cr392_0), (by decide), trivial⟩ ?_
    obtain ⟨r393_0, cr393_0, h⟩ := bindS h
    rcases iteS h with ⟨b393_e0, h⟩ | ⟨b393_e0, h⟩
    · refine At.step hm ht ⟨[(7, .call [0, 3] [] (f34_quota_Pool_Move_out r393_0))], [true], [], [], []⟩ 26 ⟨[], [], [], 0⟩ [FnOK Go.Proofs.Try.prog 34 (f34_quota_Pool_Move_in o__1 o__2 o__3 p_0 p_1 p_2 b3_0) (f34_quota_Pool_Move_out r393_0), (!(r393_0.1 == r392_0.1)) = true] (by kernel_rfl) ⟨(f34_quota_Pool_Move_ok o__1 o__2 o__3 p_0 p_1 p_2 b3_0 r393_0 cr393_0), b393_e0, trivial⟩ ?_
      have h := Option.some.inj h
      subst h
      have hk : o = f6_broughamlaw39_QuotaPlays_out false := hk
      subst hk
      exact At.fin hm ht ⟨[], [], [], [6], []⟩ [] (by kernel_rfl) trivial
    · refine At.step hm ht ⟨[(7, .call [0, 3] [] (f34_quota_Pool_Move_out r393_0))], [false], [], [2, 7, 8, 9, 10], [0, 1, 2, 3]⟩ 27 ⟨[(2, .one (.c (.d (.sl (.pair (.int .i64) (.pair (.int .i64) (.pair (.int .i64) (.int .i64)))) l)))), (7, .one (.c (.ptr 0 0))), (8, .one (.c (.ptr 1 0))), (9, .one (.c (.d (.int .i64 i)))), (10, .one (.c (.ptr 2 0)))], [], [(0, [.d (.int .i64 r393_0.2.1), .d (.int .i64 r393_0.2.2.1), .d (.int .i64 r393_0.2.2.2.1), .mref 3]), (1, [.d (.int .i64 r392_0.2.1), .d (.int .i64 r392_0.2.2.1), .d (.sl (.pair (.int .i64) (.int .i64)) r392_0.2.2.2)]), (2, [.d (.int .i64 o__0), .d (.int .i64 o__1), .d (.int .i64 o__2), .d (.int .i64 o__3)]), (3, [.mp .i64 .i64 r393_0.2.2.2.2])], 4⟩ [FnOK Go.Proofs.Try.prog 34 (f34_quota_Pool_Move_in o__1 o__2 o__3 p_0 p_1 p_2 b3_0) (f34_quota_Pool_Move_out r393_0), (!(r393_0.1 == r392_0.1)) = false] (by kernel_rfl) ⟨(f34_quota_Pool_Move_ok o__1 o__2 o__3 p_0 p_1 p_2 b3_0 r393_0 cr393_0), b393_e0, trivial⟩ ?_
      obtain ⟨w395, cw395, h⟩ := bindS h
      refine f6_broughamlaw39_QuotaPlays_L27_ok n l i r393_0.2.1 r393_0.2.2.1 r393_0.2.2.2.1 r392_0.2.1 r392_0.2.2.1 r392_0.2.2.2 o__0 o__1 o__2 o__3 r393_0.2.2.2.2 w395 cw395 _ ?_
      rcases w395 with e396 | e397
      · have h := Option.some.inj h
        subst h
        exact hk
      · show At Go.Proofs.Try.prog Go.Proofs.Try.f6 0 6 ⟨[(2, .one (.c (.d (.sl (.pair (.int .i64) (.pair (.int .i64) (.pair (.int .i64) (.int .i64)))) e397.1)))), (7, .one (.c (.ptr 0 0))), (8, .one (.c (.ptr 1 0))), (9, .one (.c (.d (.int .i64 e397.2.1))))], [], [(0, [.d (.int .i64 e397.2.2.1), .d (.int .i64 e397.2.2.2.1), .d (.int .i64 e397.2.2.2.2.1), .mref 2]), (1, [.d (.int .i64 e397.2.2.2.2.2.1), .d (.int .i64 e397.2.2.2.2.2.2.1), .d (.sl (.pair (.int .i64) (.int .i64)) e397.2.2.2.2.2.2.2.1)]), (2, [.mp .i64 .i64 e397.2.2.2.2.2.2.2.2])], 3⟩ _
        have h := Option.some.inj h
        subst h
        exact hk
def f6_broughamlaw39_QuotaPlays_L34 : Nat → Option (Bool)
  | 0 => none
  | n + 1 =>
    (f19_broughamlaw39_alive).bind fun r423_0 =>
    some (r423_0)
def f6_broughamlaw39_QuotaPlays_L34_k (e : Bool) (o : Out) : Prop := o = f6_broughamlaw39_QuotaPlays_out e
theorem f6_broughamlaw39_QuotaPlays_L34_ok (n : Nat) : ∀ (w : Bool) (h : f6_broughamlaw39_QuotaPlays_L34 n = some w) (o : Out) (hk : f6_broughamlaw39_QuotaPlays_L34_k w o), At Go.Proofs.Try.prog Go.Proofs.Try.f6 0 34 ⟨[], [], [], 0⟩ o := by
  induction n with
  | zero => intro w h; rw [f6_broughamlaw39_QuotaPlays_L34] at h; cases h
  | succ n ih =>
    intro w h o hk
    rw [f6_broughamlaw39_QuotaPlays_L34] at h
    obtain ⟨r423_0, cr423_0, h⟩ := bindS h
    have h := Option.some.inj h
    subst h
    have hk : o = f6_broughamlaw39_QuotaPlays_out r423_0 := hk
    subst hk
    exact At.fin hm ht ⟨[(0, .call [] [] (f19_broughamlaw39_alive_out r423_0))], [], [], [6], []⟩ [FnOK Go.Proofs.Try.prog 19 (f19_broughamlaw39_alive_in) (f19_broughamlaw39_alive_out r423_0)] (by kernel_rfl) ⟨(f19_broughamlaw39_alive_ok r423_0 cr423_0), trivial⟩
def f6_broughamlaw39_QuotaPlays_L6 : Nat → (List (Int × Int × Int × Int)) → Int → Int → Int → Int → Int → Int → (List (Int × Int)) → (List (Int × Int)) → Option (Bool)
  | 0, _, _, _, _, _, _, _, _, _ => none
  | n + 1, l, i, p_0, p_1, p_2, x_0, x_1, x_2, b2_0 =>
    if (decide ((i : Int) < ((l.length : Nat) : Int))) = true then
      if (0 : Int) ≤ i ∧ i < (((l).length : Nat) : Int) then
      if (((Int.tmod (IntKind.wrap .i64 ((Int.tmod ((l.getD i.toNat (0, (0, (0, 0)))).1) 7) + 7)) 7) : Int) == 3) = true then
        (f30_broughamref39_Give n x_0 x_1 x_2 (((l.getD i.toNat (0, (0, (0, 0)))).2).1) ((((l.getD i.toNat (0, (0, (0, 0)))).2).2).2)).bind fun r357_0 =>
        (f31_quota_Pool_Give (((l.getD i.toNat (0, (0, (0, 0)))).2).1) ((((l.getD i.toNat (0, (0, (0, 0)))).2).2).2) p_0 p_1 p_2 b2_0).bind fun r358_0 =>
        if ((r358_0.1 : Int) != r357_0.1) = true then
          some (false)
        else
          (f6_broughamlaw39_QuotaPlays_L27 n l i r358_0.2.1 r358_0.2.2.1 r358_0.2.2.2.1 r357_0.2.1 r357_0.2.2.1 r357_0.2.2.2 ((l.getD i.toNat (0, (0, (0, 0)))).1) (((l.getD i.toNat (0, (0, (0, 0)))).2).1) ((((l.getD i.toNat (0, (0, (0, 0)))).2).2).1) ((((l.getD i.toNat (0, (0, (0, 0)))).2).2).2) r358_0.2.2.2.2).bind fun w381 =>
          match w381 with
          | .inl e382 =>
            some (e382)
          | .inr e383 =>
            f6_broughamlaw39_QuotaPlays_L6 n e383.1 e383.2.1 e383.2.2.1 e383.2.2.2.1 e383.2.2.2.2.1 e383.2.2.2.2.2.1 e383.2.2.2.2.2.2.1 e383.2.2.2.2.2.2.2.1 e383.2.2.2.2.2.2.2.2
      else
        if (((Int.tmod (IntKind.wrap .i64 ((Int.tmod ((l.getD i.toNat (0, (0, (0, 0)))).1) 7) + 7)) 7) : Int) == 4) = true then
          (f32_broughamref39_Of n x_0 x_1 x_2 (((l.getD i.toNat (0, (0, (0, 0)))).2).1)).bind fun r385_0 =>
          (f30_broughamref39_Give n x_0 x_1 x_2 (((l.getD i.toNat (0, (0, (0, 0)))).2).1) r385_0).bind fun r385_1 =>
          (f17_quota_Pool_Drop (((l.getD i.toNat (0, (0, (0, 0)))).2).1) p_0 p_1 p_2 b2_0).bind fun r386_0 =>
          if ((r386_0.1 : Int) != r385_1.1) = true then
            some (false)
          else
            (f6_broughamlaw39_QuotaPlays_L27 n l i r386_0.2.1 r386_0.2.2.1 r386_0.2.2.2.1 r385_1.2.1 r385_1.2.2.1 r385_1.2.2.2 ((l.getD i.toNat (0, (0, (0, 0)))).1) (((l.getD i.toNat (0, (0, (0, 0)))).2).1) ((((l.getD i.toNat (0, (0, (0, 0)))).2).2).1) ((((l.getD i.toNat (0, (0, (0, 0)))).2).2).2) r386_0.2.2.2.2).bind fun w388 =>
            match w388 with
            | .inl e389 =>
              some (e389)
            | .inr e390 =>
              f6_broughamlaw39_QuotaPlays_L6 n e390.1 e390.2.1 e390.2.2.1 e390.2.2.2.1 e390.2.2.2.2.1 e390.2.2.2.2.2.1 e390.2.2.2.2.2.2.1 e390.2.2.2.2.2.2.2.1 e390.2.2.2.2.2.2.2.2
        else
          if (((Int.tmod (IntKind.wrap .i64 ((Int.tmod ((l.getD i.toNat (0, (0, (0, 0)))).1) 7) + 7)) 7) : Int) == 5) = true then
            if (((Int.tmod (IntKind.wrap .i64 ((Int.tmod ((l.getD i.toNat (0, (0, (0, 0)))).1) 7) + 7)) 7) : Int) == 5) = true then
              (f6_broughamlaw39_QuotaPlays_L24 n l i p_0 p_1 p_2 x_0 x_1 x_2 ((l.getD i.toNat (0, (0, (0, 0)))).1) (((l.getD i.toNat (0, (0, (0, 0)))).2).1) ((((l.getD i.toNat (0, (0, (0, 0)))).2).2).1) ((((l.getD i.toNat (0, (0, (0, 0)))).2).2).2) b2_0).bind fun w398 =>
              match w398 with
              | .inl e399 =>
                some (e399)
              | .inr e400 =>
                f6_broughamlaw39_QuotaPlays_L6 n e400.1 e400.2.1 e400.2.2.1 e400.2.2.2.1 e400.2.2.2.2.1 e400.2.2.2.2.2.1 e400.2.2.2.2.2.2.1 e400.2.2.2.2.2.2.2.1 e400.2.2.2.2.2.2.2.2
            else
              (f35_broughamref39_Take n x_0 x_1 x_2 (((l.getD i.toNat (0, (0, (0, 0)))).2).1) ((((l.getD i.toNat (0, (0, (0, 0)))).2).2).2)).bind fun r401_0 =>
              (f14_quota_Pool_Take (((l.getD i.toNat (0, (0, (0, 0)))).2).1) ((((l.getD i.toNat (0, (0, (0, 0)))).2).2).2) p_0 p_1 p_2 b2_0).bind fun r408_0 =>
              if (!(r408_0.1 == r401_0.1)) = true then
                some (false)
              else
                (f6_broughamlaw39_QuotaPlays_L27 n l i r408_0.2.1 r408_0.2.2.1 r408_0.2.2.2.1 r401_0.2.1 r401_0.2.2.1 r401_0.2.2.2 ((l.getD i.toNat (0, (0, (0, 0)))).1) (((l.getD i.toNat (0, (0, (0, 0)))).2).1) ((((l.getD i.toNat (0, (0, (0, 0)))).2).2).1) ((((l.getD i.toNat (0, (0, (0, 0)))).2).2).2) r408_0.2.2.2.2).bind fun w410 =>
                match w410 with
                | .inl e411 =>
                  some (e411)
                | .inr e412 =>
                  f6_broughamlaw39_QuotaPlays_L6 n e412.1 e412.2.1 e412.2.2.1 e412.2.2.2.1 e412.2.2.2.2.1 e412.2.2.2.2.2.1 e412.2.2.2.2.2.2.1 e412.2.2.2.2.2.2.2.1 e412.2.2.2.2.2.2.2.2
          else
            if (((Int.tmod (IntKind.wrap .i64 ((Int.tmod ((l.getD i.toNat (0, (0, (0, 0)))).1) 7) + 7)) 7) : Int) == 6) = true then
              (f6_broughamlaw39_QuotaPlays_L24 n l i p_0 p_1 p_2 x_0 x_1 x_2 ((l.getD i.toNat (0, (0, (0, 0)))).1) (((l.getD i.toNat (0, (0, (0, 0)))).2).1) ((((l.getD i.toNat (0, (0, (0, 0)))).2).2).1) ((((l.getD i.toNat (0, (0, (0, 0)))).2).2).2) b2_0).bind fun w414 =>
              match w414 with
              | .inl e415 =>
                some (e415)
              | .inr e416 =>
                f6_broughamlaw39_QuotaPlays_L6 n e416.1 e416.2.1 e416.2.2.1 e416.2.2.2.1 e416.2.2.2.2.1 e416.2.2.2.2.2.1 e416.2.2.2.2.2.2.1 e416.2.2.2.2.2.2.2.1 e416.2.2.2.2.2.2.2.2
            else
              (f35_broughamref39_Take n x_0 x_1 x_2 (((l.getD i.toNat (0, (0, (0, 0)))).2).1) ((((l.getD i.toNat (0, (0, (0, 0)))).2).2).2)).bind fun r417_0 =>
              (f14_quota_Pool_Take (((l.getD i.toNat (0, (0, (0, 0)))).2).1) ((((l.getD i.toNat (0, (0, (0, 0)))).2).2).2) p_0 p_1 p_2 b2_0).bind fun r418_0 =>
              if (!(r418_0.1 == r417_0.1)) = true then
                some (false)
              else
                (f6_broughamlaw39_QuotaPlays_L27 n l i r418_0.2.1 r418_0.2.2.1 r418_0.2.2.2.1 r417_0.2.1 r417_0.2.2.1 r417_0.2.2.2 ((l.getD i.toNat (0, (0, (0, 0)))).1) (((l.getD i.toNat (0, (0, (0, 0)))).2).1) ((((l.getD i.toNat (0, (0, (0, 0)))).2).2).1) ((((l.getD i.toNat (0, (0, (0, 0)))).2).2).2) r418_0.2.2.2.2).bind fun w420 =>
                match w420 with
                | .inl e421 =>
                  some (e421)
                | .inr e422 =>
                  f6_broughamlaw39_QuotaPlays_L6 n e422.1 e422.2.1 e422.2.2.1 e422.2.2.2.1 e422.2.2.2.2.1 e422.2.2.2.2.2.1 e422.2.2.2.2.2.2.1 e422.2.2.2.2.2.2.2.1 e422.2.2.2.2.2.2.2.2
      else none
    else
      (f6_broughamlaw39_QuotaPlays_L34 n).bind fun w424 =>
      some (w424)
def f6_broughamlaw39_QuotaPlays_L6_k (e : Bool) (o : Out) : Prop := o = f6_broughamlaw39_QuotaPlays_out e
theorem f6_broughamlaw39_QuotaPlays_L6_ok (n : Nat) : ∀ (l : List (Int × Int × Int × Int)) (i : Int) (p_0 : Int) (p_1 : Int) (p_2 : Int) (x_0 : Int) (x_1 : Int) (x_2 : List (Int × Int)) (b2_0 : List (Int × Int)) (w : Bool) (h : f6_broughamlaw39_QuotaPlays_L6 n l i p_0 p_1 p_2 x_0 x_1 x_2 b2_0 = some w) (o : Out) (hk : f6_broughamlaw39_QuotaPlays_L6_k w o), At Go.Proofs.Try.prog Go.Proofs.Try.f6 0 6 ⟨[(2, .one (.c (.d (.sl (.pair (.int .i64) (.pair (.int .i64) (.pair (.int .i64) (.int .i64)))) l)))), (7, .one (.c (.ptr 0 0))), (8, .one (.c (.ptr 1 0))), (9, .one (.c (.d (.int .i64 i))))], [], [(0, [.d (.int .i64 p_0), .d (.int .i64 p_1), .d (.int .i64 p_2), .mref 2]), (1, [.d (.int .i64 x_0), .d (.int .i64 x_1), .d (.sl (.pair (.int .i64) (.int .i64)) x_2)]), (2, [.mp .i64 .i64 b2_0])], 3⟩ o := by
  induction n with
  | zero => intro l i p_0 p_1 p_2 x_0 x_1 x_2 b2_0 w h; rw [f6_broughamlaw39_QuotaPlays_L6] at h; cases h
  | succ n ih =>
    intro l i p_0 p_1 p_2 x_0 x_1 x_2 b2_0 w h o hk
    rw [f6_broughamlaw39_QuotaPlays_L6] at h
    rcases iteS h with ⟨b352_e0, h⟩ | ⟨b352_e0, h⟩
    · refine At.step hm ht ⟨[], [true], [], [2, 7, 8, 9], [0, 1, 2]⟩ 8 ⟨[(2, .one (.c (.d (.sl (.pair (.int .i64) (.pair (.int .i64) (.pair (.int .i64) (.int .i64)))) l)))), (7, .one (.c (.ptr 0 0))), (8, .one (.c (.ptr 1 0))), (9, .one (.c (.d (.int .i64 i))))], [], [(0, [.d (.int .i64 p_0), .d (.int .i64 p_1), .d (.int .i64 p_2), .mref 2]), (1, [.d (.int .i64 x_0), .d (.int .i64 x_1), .d (.sl (.pair (.int .i64) (.int .i64)) x_2)]), (2, [.mp .i64 .i64 b2_0])], 3⟩ [(decide ((i : Int) < ((l.length : Nat) : Int))) = true] (by kernel_rfl) ⟨b352_e0, trivial⟩ ?_
      obtain ⟨g353_0, h⟩ := ifS h
      refine At.step hm ht ⟨[], [], [], [2, 7, 8, 9, 10], [0, 1, 7, 2]⟩ 9 ⟨[(2, .one (.c (.d (.sl (.pair (.int .i64) (.pair (.int .i64) (.pair (.int .i64) (.int .i64)))) l)))), (7, .one (.c (.ptr 0 0))), (8, .one (.c (.ptr 1 0))), (9, .one (.c (.d (.int .i64 i)))), (10, .one (.c (.ptr 2 0)))], [], [(0, [.d (.int .i64 p_0), .d (.int .i64 p_1), .d (.int .i64 p_2), .mref 3]), (1, [.d (.int .i64 x_0), .d (.int .i64 x_1), .d (.sl (.pair (.int .i64) (.int .i64)) x_2)]), (2, [.d (.int .i64 ((l.getD i.toNat (0, (0, (0, 0)))).1)), .d (.int .i64 (((l.getD i.toNat (0, (0, (0, 0)))).2).1)), .d (.int .i64 ((((l.getD i.toNat (0, (0, (0, 0)))).2).2).1)), .d (.int .i64 ((((l.getD i.toNat (0, (0, (0, 0)))).2).2).2))]), (3, [.mp .i64 .i64 b2_0])], 4⟩ [(0 : Int) ≤ i ∧ i < (((l).length : Nat) : Int), 0 + 4 ≤ 4] (by kernel_rfl) ⟨g353_0, (by decide), trivial⟩ ?_
      refine At.step hm ht ⟨[], [], [], [2, 7, 8, 9, 10], [0, 1, 2, 3]⟩ 10 ⟨[(2, .one (.c (.d (.sl (.pair (.int .i64) (.pair (.int .i64) (.pair (.int .i64) (.int .i64)))) l)))), (7, .one (.c (.ptr 0 0))), (8, .one (.c (.ptr 1 0))), (9, .one (.c (.d (.int .i64 i)))), (10, .one (.c (.ptr 2 0)))], [], [(0, [.d (.int .i64 p_0), .d (.int .i64 p_1), .d (.int .i64 p_2), .mref 3]), (1, [.d (.int .i64 x_0), .d (.int .i64 x_1), .d (.sl (.pair (.int .i64) (.int .i64)) x_2)]), (2, [.d (.int .i64 ((l.getD i.toNat (0, (0, (0, 0)))).1)), .d (.int .i64 (((l.getD i.toNat (0, (0, (0, 0)))).2).1)), .d (.int .i64 ((((l.getD i.toNat (0, (0, (0, 0)))).2).2).1)), .d (.int .i64 ((((l.getD i.toNat (0, (0, (0, 0)))).2).2).2))]), (3, [.mp .i64 .i64 b2_0])], 4⟩ [] (by kernel_rfl) trivial ?_
      refine At.step hm ht ⟨[], [], [], [2, 7, 8, 9, 10, 43], [0, 1, 2, 3]⟩ 14 ⟨[(2, .one (.c (.d (.sl (.pair (.int .i64) (.pair (.int .i64) (.pair (.int .i64) (.int .i64)))) l)))), (7, .one (.c (.ptr 0 0))), (8, .one (.c (.ptr 1 0))), (9, .one (.c (.d (.int .i64 i)))), (10, .one (.c (.ptr 2 0))), (43, .one (.c (.d (.int .i64 (Int.tmod (IntKind.wrap .i64 ((Int.tmod ((l.getD i.toNat (0, (0, (0, 0)))).1) 7) + 7)) 7)))))], [], [(0, [.d (.int .i64 p_0), .d (.int .i64 p_1), .d (.int .i64 p_2), .mref 3]), (1, [.d (.int .i64 x_0), .d (.int .i64 x_1), .d (.sl (.pair (.int .i64) (.int .i64)) x_2)]), (2, [.d (.int .i64 ((l.getD i.toNat (0, (0, (0, 0)))).1)), .d (.int .i64 (((l.getD i.toNat (0, (0, (0, 0)))).2).1)), .d (.int .i64 ((((l.getD i.toNat (0, (0, (0, 0)))).2).2).1)), .d (.int .i64 ((((l.getD i.toNat (0, (0, (0, 0)))).2).2).2))]), (3, [.mp .i64 .i64 b2_0])], 4⟩ [(7 : Int) ≠ 0, (7 : Int) ≠ 0] (by kernel_rfl) ⟨(by decide), (by decide), trivial⟩ ?_
      rcases iteS h with ⟨b356_e0, h⟩ | ⟨b356_e0, h⟩
      · refine At.step hm ht ⟨[], [true], [], [2, 7, 8, 9, 10], [0, 1, 2, 3]⟩ 15 ⟨[(2, .one (.c (.d (.sl (.pair (.int .i64) (.pair (.int .i64) (.pair (.int .i64) (.int .i64)))) l)))), (7, .one (.c (.ptr 0 0))), (8, .one (.c (.ptr 1 0))), (9, .one (.c (.d (.int .i64 i)))), (10, .one (.c (.ptr 2 0)))], [], [(0, [.d (.int .i64 p_0), .d (.int .i64 p_1), .d (.int .i64 p_2), .mref 3]), (1, [.d (.int .i64 x_0), .d (.int .i64 x_1), .d (.sl (.pair (.int .i64) (.int .i64)) x_2)]), (2, [.d (.int .i64 ((l.getD i.toNat (0, (0, (0, 0)))).1)), .d (.int .i64 (((l.getD i.toNat (0, (0, (0, 0)))).2).1)), .d (.int .i64 ((((l.getD i.toNat (0, (0, (0, 0)))).2).2).1)), .d (.int .i64 ((((l.getD i.toNat (0, (0, (0, 0)))).2).2).2))]), (3, [.mp .i64 .i64 b2_0])], 4⟩ [(((Int.tmod (IntKind.wrap .i64 ((Int.tmod ((l.getD i.toNat (0, (0, (0, 0)))).1) 7) + 7)) 7) : Int) == 3) = true] (by kernel_rfl) ⟨b356_e0, trivial⟩ ?_
        obtain ⟨r357_0, cr357_0, h⟩ := bindS h
        refine At.step hm ht ⟨[(5, .call [] [] (f30_broughamref39_Give_out r357_0))], [], [], [2, 7, 8, 9, 10, 12], [0, 1, 2, 3, 10]⟩ 16 ⟨[(2, .one (.c (.d (.sl (.pair (.int .i64) (.pair (.int .i64) (.pair (.int .i64) (.int .i64)))) l)))), (7, .one (.c (.ptr 0 0))), (8, .one (.c (.ptr 1 0))), (9, .one (.c (.d (.int .i64 i)))), (10, .one (.c (.ptr 2 0))), (12, .one (.c (.d (.int .i64 r357_0.1))))], [(4, some ⟨106, 0⟩)], [(0, [.d (.int .i64 p_0), .d (.int .i64 p_1), .d (.int .i64 p_2), .mref 3]), (1, [.d (.int .i64 r357_0.2.1), .d (.int .i64 r357_0.2.2.1), .own 4 (.pair (.int .i64) (.int .i64)) r357_0.2.2.2]), (2, [.d (.int .i64 ((l.getD i.toNat (0, (0, (0, 0)))).1)), .d (.int .i64 (((l.getD i.toNat (0, (0, (0, 0)))).2).1)), .d (.int .i64 ((((l.getD i.toNat (0, (0, (0, 0)))).2).2).1)), .d (.int .i64 ((((l.getD i.toNat (0, (0, (0, 0)))).2).2).2))]), (3, [.mp .i64 .i64 b2_0])], 5⟩ [FnOK Go.Proofs.Try.prog 30 (f30_broughamref39_Give_in x_0 x_1 x_2 (((l.getD i.toNat (0, (0, (0, 0)))).2).1) ((((l.getD i.toNat (0, (0, (0, 0)))).2).2).2)) (f30_broughamref39_Give_out r357_0), 0 + 3 ≤ 3] (by kernel_rfl) ⟨(f30_broughamref39_Give_ok n x_0 x_1 x_2 (((l.getD i.toNat (0, (0, (0, 0)))).2).1) ((((l.getD i.toNat (0, (0, (0, 0)))).2).2).2) r357_0 cr357_0), (by decide), trivial⟩ ?_
        obtain ⟨r358_0, cr358_0, h⟩ := bindS h
        rcases iteS h with ⟨b358_e0, h⟩ | ⟨b358_e0, h⟩
        · refine At.step hm ht ⟨[(5, .call [0, 3] [] (f31_quota_Pool_Give_out r358_0))], [true], [], [], []⟩ 17 ⟨[], [], [], 0⟩ [FnOK Go.Proofs.Try.prog 31 (f31_quota_Pool_Give_in (((l.getD i.toNat (0, (0, (0, 0)))).2).1) ((((l.getD i.toNat (0, (0, (0, 0)))).2).2).2) p_0 p_1 p_2 b2_0) (f31_quota_Pool_Give_out r358_0), ((r358_0.1 : Int) != r357_0.1) = true] (by kernel_rfl) ⟨(f31_quota_Pool_Give_ok (((l.getD i.toNat (0, (0, (0, 0)))).2).1) ((((l.getD i.toNat (0, (0, (0, 0)))).2).2).2) p_0 p_1 p_2 b2_0 r358_0 cr358_0), b358_e0, trivial⟩ ?_
          have h := Option.some.inj h
          subst h
          have hk : o = f6_broughamlaw39_QuotaPlays_out false := hk
          subst hk
          exact At.fin hm ht ⟨[], [], [], [6], []⟩ [] (by kernel_rfl) trivial
        · refine At.step hm ht ⟨[(5, .call [0, 3] [] (f31_quota_Pool_Give_out r358_0))], [false], [], [2, 7, 8, 9, 10], [0, 1, 2, 3]⟩ 27 ⟨[(2, .one (.c (.d (.sl (.pair (.int .i64) (.pair (.int .i64) (.pair (.int .i64) (.int .i64)))) l)))), (7, .one (.c (.ptr 0 0))), (8, .one (.c (.ptr 1 0))), (9, .one (.c (.d (.int .i64 i)))), (10, .one (.c (.ptr 2 0)))], [], [(0, [.d (.int .i64 r358_0.2.1), .d (.int .i64 r358_0.2.2.1), .d (.int .i64 r358_0.2.2.2.1), .mref 3]), (1, [.d (.int .i64 r357_0.2.1), .d (.int .i64 r357_0.2.2.1), .d (.sl (.pair (.int .i64) (.int .i64)) r357_0.2.2.2)]), (2, [.d (.int .i64 ((l.getD i.toNat (0, (0, (0, 0)))).1)), .d (.int .i64 (((l.getD i.toNat (0, (0, (0, 0)))).2).1)), .d (.int .i64 ((((l.getD i.toNat (0, (0, (0, 0)))).2).2).1)), .d (.int .i64 ((((l.getD i.toNat (0, (0, (0, 0)))).2).2).2))]), (3, [.mp .i64 .i64 r358_0.2.2.2.2])], 4⟩ [FnOK Go.Proofs.Try.prog 31 (f31_quota_Pool_Give_in (((l.getD i.toNat (0, (0, (0, 0)))).2).1) ((((l.getD i.toNat (0, (0, (0, 0)))).2).2).2) p_0 p_1 p_2 b2_0) (f31_quota_Pool_Give_out r358_0), ((r358_0.1 : Int) != r357_0.1) = false] (by kernel_rfl) ⟨(f31_quota_Pool_Give_ok (((l.getD i.toNat (0, (0, (0, 0)))).2).1) ((((l.getD i.toNat (0, (0, (0, 0)))).2).2).2) p_0 p_1 p_2 b2_0 r358_0 cr358_0), b358_e0, trivial⟩ ?_
          obtain ⟨w381, cw381, h⟩ := bindS h
          refine f6_broughamlaw39_QuotaPlays_L27_ok n l i r358_0.2.1 r358_0.2.2.1 r358_0.2.2.2.1 r357_0.2.1 r357_0.2.2.1 r357_0.2.2.2 ((l.getD i.toNat (0, (0, (0, 0)))).1) (((l.getD i.toNat (0, (0, (0, 0)))).2).1) ((((l.getD i.toNat (0, (0, (0, 0)))).2).2).1) ((((l.getD i.toNat (0, (0, (0, 0)))).2).2).2) r358_0.2.2.2.2 w381 cw381 _ ?_
          rcases w381 with e382 | e383
          · have h := Option.some.inj h
            subst h
            exact hk
          · show At Go.Proofs.Try.prog Go.Proofs.Try.f6 0 6 ⟨[(2, .one (.c (.d (.sl (.pair (.int .i64) (.pair (.int .i64) (.pair (.int .i64) (.int .i64)))) e383.1)))), (7, .one (.c (.ptr 0 0))), (8, .one (.c (.ptr 1 0))), (9, .one (.c (.d (.int .i64 e383.2.1))))], [], [(0, [.d (.int .i64 e383.2.2.1), .d (.int .i64 e383.2.2.2.1), .d (.int .i64 e383.2.2.2.2.1), .mref 2]), (1, [.d (.int .i64 e383.2.2.2.2.2.1), .d (.int .i64 e383.2.2.2.2.2.2.1), .d (.sl (.pair (.int .i64) (.int .i64)) e383.2.2.2.2.2.2.2.1)]), (2, [.mp .i64 .i64 e383.2.2.2.2.2.2.2.2])], 3⟩ _
            exact ih e383.1 e383.2.1 e383.2.2.1 e383.2.2.2.1 e383.2.2.2.2.1 e383.2.2.2.2.2.1 e383.2.2.2.2.2.2.1 e383.2.2.2.2.2.2.2.1 e383.2.2.2.2.2.2.2.2 w h o hk
      · refine At.step hm ht ⟨[], [false], [], [2, 7, 8, 9, 10, 43], [0, 1, 2, 3]⟩ 18 ⟨[(2, .one (.c (.d (.sl (.pair (.int .i64) (.pair (.int .i64) (.pair (.int .i64) (.int .i64)))) l)))), (7, .one (.c (.ptr 0 0))), (8, .one (.c (.ptr 1 0))), (9, .one (.c (.d (.int .i64 i)))), (10, .one (.c (.ptr 2 0))), (43, .one (.c (.d (.int .i64 (Int.tmod (IntKind.wrap .i64 ((Int.tmod ((l.getD i.toNat (0, (0, (0, 0)))).1) 7) + 7)) 7)))))], [], [(0, [.d (.int .i64 p_0), .d (.int .i64 p_1), .d (.int .i64 p_2), .mref 3]), (1, [.d (.int .i64 x_0), .d (.int .i64 x_1), .d (.sl (.pair (.int .i64) (.int .i64)) x_2)]), (2, [.d (.int .i64 ((l.getD i.toNat (0, (0, (0, 0)))).1)), .d (.int .i64 (((l.getD i.toNat (0, (0, (0, 0)))).2).1)), .d (.int .i64 ((((l.getD i.toNat (0, (0, (0, 0)))).2).2).1)), .d (.int .i64 ((((l.getD i.toNat (0, (0, (0, 0)))).2).2).2))]), (3, [.mp .i64 .i64 b2_0])], 4⟩ [(((Int.tmod (IntKind.wrap .i64 ((Int.tmod ((l.getD i.toNat (0, (0, (0, 0)))).1) 7) + 7)) 7) : Int) == 3) = false] (by kernel_rfl) ⟨b356_e0, trivial⟩ ?_
        rcases iteS h with ⟨b384_e0, h⟩ | ⟨b384_e0, h⟩
        · refine At.step hm ht ⟨[], [true], [], [2, 7, 8, 9, 10], [0, 1, 2, 3]⟩ 19 ⟨[(2, .one (.c (.d (.sl (.pair (.int .i64) (.pair (.int .i64) (.pair (.int .i64) (.int .i64)))) l)))), (7, .one (.c (.ptr 0 0))), (8, .one (.c (.ptr 1 0))), (9, .one (.c (.d (.int .i64 i)))), (10, .one (.c (.ptr 2 0)))], [], [(0, [.d (.int .i64 p_0), .d (.int .i64 p_1), .d (.int .i64 p_2), .mref 3]), (1, [.d (.int .i64 x_0), .d (.int .i64 x_1), .d (.sl (.pair (.int .i64) (.int .i64)) x_2)]), (2, [.d (.int .i64 ((l.getD i.toNat (0, (0, (0, 0)))).1)), .d (.int .i64 (((l.getD i.toNat (0, (0, (0, 0)))).2).1)), .d (.int .i64 ((((l.getD i.toNat (0, (0, (0, 0)))).2).2).1)), .d (.int .i64 ((((l.getD i.toNat (0, (0, (0, 0)))).2).2).2))]), (3, [.mp .i64 .i64 b2_0])], 4⟩ [(((Int.tmod (IntKind.wrap .i64 ((Int.tmod ((l.getD i.toNat (0, (0, (0, 0)))).1) 7) + 7)) 7) : Int) == 4) = true] (by kernel_rfl) ⟨b384_e0, trivial⟩ ?_
          obtain ⟨r385_0, cr385_0, h⟩ := bindS h
          obtain ⟨r385_1, cr385_1, h⟩ := bindS h
          refine At.step hm ht ⟨[(6, .call [] [] (f32_broughamref39_Of_out r385_0)), (7, .call [] [] (f30_broughamref39_Give_out r385_1))], [], [], [2, 7, 8, 9, 10, 12], [0, 1, 2, 3, 11]⟩ 20 ⟨[(2, .one (.c (.d (.sl (.pair (.int .i64) (.pair (.int .i64) (.pair (.int .i64) (.int .i64)))) l)))), (7, .one (.c (.ptr 0 0))), (8, .one (.c (.ptr 1 0))), (9, .one (.c (.d (.int .i64 i)))), (10, .one (.c (.ptr 2 0))), (12, .one (.c (.d (.int .i64 r385_1.1))))], [(4, some ⟨106, 0⟩)], [(0, [.d (.int .i64 p_0), .d (.int .i64 p_1), .d (.int .i64 p_2), .mref 3]), (1, [.d (.int .i64 r385_1.2.1), .d (.int .i64 r385_1.2.2.1), .own 4 (.pair (.int .i64) (.int .i64)) r385_1.2.2.2]), (2, [.d (.int .i64 ((l.getD i.toNat (0, (0, (0, 0)))).1)), .d (.int .i64 (((l.getD i.toNat (0, (0, (0, 0)))).2).1)), .d (.int .i64 ((((l.getD i.toNat (0, (0, (0, 0)))).2).2).1)), .d (.int .i64 ((((l.getD i.toNat (0, (0, (0, 0)))).2).2).2))]), (3, [.mp .i64 .i64 b2_0])], 5⟩ [FnOK Go.Proofs.Try.prog 32 (f32_broughamref39_Of_in x_0 x_1 x_2 (((l.getD i.toNat (0, (0, (0, 0)))).2).1)) (f32_broughamref39_Of_out r385_0), FnOK Go.Proofs.Try.prog 30 (f30_broughamref39_Give_in x_0 x_1 x_2 (((l.getD i.toNat (0, (0, (0, 0)))).2).1) r385_0) (f30_broughamref39_Give_out r385_1), 0 + 3 ≤ 3] (by kernel_rfl) ⟨(f32_broughamref39_Of_ok n x_0 x_1 x_2 (((l.getD i.toNat (0, (0, (0, 0)))).2).1) r385_0 cr385_0), (f30_broughamref39_Give_ok n x_0 x_1 x_2 (((l.getD i.toNat (0, (0, (0, 0)))).2).1) r385_0 r385_1 cr385_1), (by decide), trivial⟩ ?_
          obtain ⟨r386_0, cr386_0, h⟩ := bindS h
          rcases iteS h with ⟨b386_e0, h⟩ | ⟨b386_e0, h⟩
          · refine At.step hm ht ⟨[(3, .call [0, 3] [] (f17_quota_Pool_Drop_out r386_0))], [true], [], [], []⟩ 21 ⟨[], [], [], 0⟩ [FnOK Go.Proofs.Try.prog 17 (f17_quota_Pool_Drop_in (((l.getD i.toNat (0, (0, (0, 0)))).2).1) p_0 p_1 p_2 b2_0) (f17_quota_Pool_Drop_out r386_0), ((r386_0.1 : Int) != r385_1.1) = true] (by kernel_rfl) ⟨(f17_quota_Pool_Drop_ok (((l.getD i.toNat (0, (0, (0, 0)))).2).1) p_0 p_1 p_2 b2_0 r386_0 cr386_0), b386_e0, trivial⟩ ?_
            have h := Option.some.inj h
            subst h
            have hk : o = f6_broughamlaw39_QuotaPlays_out false := hk
            subst hk
            exact At.fin hm ht ⟨[], [], [], [6], []⟩ [] (by kernel_rfl) trivial
          · refine At.step hm ht ⟨[(3, .call [0, 3] [] (f17_quota_Pool_Drop_out r386_0))], [false], [], [2, 7, 8, 9, 10], [0, 1, 2, 3]⟩ 27 ⟨[(2, .one (.c (.d (.sl (.pair (.int .i64) (.pair (.int .i64) (.pair (.int .i64) (.int .i64)))) l)))), (7, .one (.c (.ptr 0 0))), (8, .one (.c (.ptr 1 0))), (9, .one (.c (.d (.int .i64 i)))), (10, .one (.c (.ptr 2 0)))], [], [(0, [.d (.int .i64 r386_0.2.1), .d (.int .i64 r386_0.2.2.1), .d (.int .i64 r386_0.2.2.2.1), .mref 3]), (1, [.d (.int .i64 r385_1.2.1), .d (.int .i64 r385_1.2.2.1), .d (.sl (.pair (.int .i64) (.int .i64)) r385_1.2.2.2)]), (2, [.d (.int .i64 ((l.getD i.toNat (0, (0, (0, 0)))).1)), .d (.int .i64 (((l.getD i.toNat (0, (0, (0, 0)))).2).1)), .d (.int .i64 ((((l.getD i.toNat (0, (0, (0, 0)))).2).2).1)), .d (.int .i64 ((((l.getD i.toNat (0, (0, (0, 0)))).2).2).2))]), (3, [.mp .i64 .i64 r386_0.2.2.2.2])], 4⟩ [FnOK Go.Proofs.Try.prog 17 (f17_quota_Pool_Drop_in (((l.getD i.toNat (0, (0, (0, 0)))).2).1) p_0 p_1 p_2 b2_0) (f17_quota_Pool_Drop_out r386_0), ((r386_0.1 : Int) != r385_1.1) = false] (by kernel_rfl) ⟨(f17_quota_Pool_Drop_ok (((l.getD i.toNat (0, (0, (0, 0)))).2).1) p_0 p_1 p_2 b2_0 r386_0 cr386_0), b386_e0, trivial⟩ ?_
            obtain ⟨w388, cw388, h⟩ := bindS h
            refine f6_broughamlaw39_QuotaPlays_L27_ok n l i r386_0.2.1 r386_0.2.2.1 r386_0.2.2.2.1 r385_1.2.1 r385_1.2.2.1 r385_1.2.2.2 ((l.getD i.toNat (0, (0, (0, 0)))).1) (((l.getD i.toNat (0, (0, (0, 0)))).2).1) ((((l.getD i.toNat (0, (0, (0, 0)))).2).2).1) ((((l.getD i.toNat (0, (0, (0, 0)))).2).2).2) r386_0.2.2.2.2 w388 cw388 _ ?_
            rcases w388 with e389 | e390
            · have h := Option.some.inj h
              subst h
              exact hk
            · show At Go.Proofs.Try.prog Go.Proofs.Try.f6 0 6 ⟨[(2, .one (.c (.d (.sl (.pair (.int .i64) (.pair (.int .i64) (.pair (.int .i64) (.int .i64)))) e390.1)))), (7, .one (.c (.ptr 0 0))), (8, .one (.c (.ptr 1 0))), (9, .one (.c (.d (.int .i64 e390.2.1))))], [], [(0, [.d (.int .i64 e390.2.2.1), .d (.int .i64 e390.2.2.2.1), .d (.int .i64 e390.2.2.2.2.1), .mref 2]), (1, [.d (.int .i64 e390.2.2.2.2.2.1), .d (.int .i64 e390.2.2.2.2.2.2.1), .d (.sl (.pair (.int .i64) (.int .i64)) e390.2.2.2.2.2.2.2.1)]), (2, [.mp .i64 .i64 e390.2.2.2.2.2.2.2.2])], 3⟩ _
              exact ih e390.1 e390.2.1 e390.2.2.1 e390.2.2.2.1 e390.2.2.2.2.1 e390.2.2.2.2.2.1 e390.2.2.2.2.2.2.1 e390.2.2.2.2.2.2.2.1 e390.2.2.2.2.2.2.2.2 w h o hk
        · refine At.step hm ht ⟨[], [false], [], [2, 7, 8, 9, 10, 43], [0, 1, 2, 3]⟩ 22 ⟨[(2, .one (.c (.d (.sl (.pair (.int .i64) (.pair (.int .i64) (.pair (.int .i64) (.int .i64)))) l)))), (7, .one (.c (.ptr 0 0))), (8, .one (.c (.ptr 1 0))), (9, .one (.c (.d (.int .i64 i)))), (10, .one (.c (.ptr 2 0))), (43, .one (.c (.d (.int .i64 (Int.tmod (IntKind.wrap .i64 ((Int.tmod ((l.getD i.toNat (0, (0, (0, 0)))).1) 7) + 7)) 7)))))], [], [(0, [.d (.int .i64 p_0), .d (.int .i64 p_1), .d (.int .i64 p_2), .mref 3]), (1, [.d (.int .i64 x_0), .d (.int .i64 x_1), .d (.sl (.pair (.int .i64) (.int .i64)) x_2)]), (2, [.d (.int .i64 ((l.getD i.toNat (0, (0, (0, 0)))).1)), .d (.int .i64 (((l.getD i.toNat (0, (0, (0, 0)))).2).1)), .d (.int .i64 ((((l.getD i.toNat (0, (0, (0, 0)))).2).2).1)), .d (.int .i64 ((((l.getD i.toNat (0, (0, (0, 0)))).2).2).2))]), (3, [.mp .i64 .i64 b2_0])], 4⟩ [(((Int.tmod (IntKind.wrap .i64 ((Int.tmod ((l.getD i.toNat (0, (0, (0, 0)))).1) 7) + 7)) 7) : Int) == 4) = false] (by kernel_rfl) ⟨b384_e0, trivial⟩ ?_
          rcases iteS h with ⟨b391_e0, h⟩ | ⟨b391_e0, h⟩
          · rcases iteS h with ⟨b391_e1, h⟩ | ⟨b391_e1, h⟩
            · refine At.step hm ht ⟨[], [true, true], [], [2, 7, 8, 9, 10], [0, 1, 2, 3]⟩ 24 ⟨[(2, .one (.c (.d (.sl (.pair (.int .i64) (.pair (.int .i64) (.pair (.int .i64) (.int .i64)))) l)))), (7, .one (.c (.ptr 0 0))), (8, .one (.c (.ptr 1 0))), (9, .one (.c (.d (.int .i64 i)))), (10, .one (.c (.ptr 2 0)))], [], [(0, [.d (.int .i64 p_0), .d (.int .i64 p_1), .d (.int .i64 p_2), .mref 3]), (1, [.d (.int .i64 x_0), .d (.int .i64 x_1), .d (.sl (.pair (.int .i64) (.int .i64)) x_2)]), (2, [.d (.int .i64 ((l.getD i.toNat (0, (0, (0, 0)))).1)), .d (.int .i64 (((l.getD i.toNat (0, (0, (0, 0)))).2).1)), .d (.int .i64 ((((l.getD i.toNat (0, (0, (0, 0)))).2).2).1)), .d (.int .i64 ((((l.getD i.toNat (0, (0, (0, 0)))).2).2).2))]), (3, [.mp .i64 .i64 b2_0])], 4⟩ [(((Int.tmod (IntKind.wrap .i64 ((Int.tmod ((l.getD i.toNat (0, (0, (0, 0)))).1) 7) + 7)) 7) : Int) == 5) = true, (((Int.tmod (IntKind.wrap .i64 ((Int.tmod ((l.getD i.toNat (0, (0, (0, 0)))).1) 7) + 7)) 7) : Int) == 5) = true] (by kernel_rfl) ⟨b391_e0, b391_e1, trivial⟩ ?_
              obtain ⟨w398, cw398, h⟩ := bindS h
              refine f6_broughamlaw39_QuotaPlays_L24_ok n l i p_0 p_1 p_2 x_0 x_1 x_2 ((l.getD i.toNat (0, (0, (0, 0)))).1) (((l.getD i.toNat (0, (0, (0, 0)))).2).1) ((((l.getD i.toNat (0, (0, (0, 0)))).2).2).1) ((((l.getD i.toNat (0, (0, (0, 0)))).2).2).2) b2_0 w398 cw398 _ ?_
              rcases w398 with e399 | e400
              · have h := Option.some.inj h
                subst h
                exact hk
              · show At Go.Proofs.Try.prog Go.Proofs.Try.f6 0 6 ⟨[(2, .one (.c (.d (.sl (.pair (.int .i64) (.pair (.int .i64) (.pair (.int .i64) (.int .i64)))) e400.1)))), (7, .one (.c (.ptr 0 0))), (8, .one (.c (.ptr 1 0))), (9, .one (.c (.d (.int .i64 e400.2.1))))], [], [(0, [.d (.int .i64 e400.2.2.1), .d (.int .i64 e400.2.2.2.1), .d (.int .i64 e400.2.2.2.2.1), .mref 2]), (1, [.d (.int .i64 e400.2.2.2.2.2.1), .d (.int .i64 e400.2.2.2.2.2.2.1), .d (.sl (.pair (.int .i64) (.int .i64)) e400.2.2.2.2.2.2.2.1)]), (2, [.mp .i64 .i64 e400.2.2.2.2.2.2.2.2])], 3⟩ _
                exact ih e400.1 e400.2.1 e400.2.2.1 e400.2.2.2.1 e400.2.2.2.2.1 e400.2.2.2.2.2.1 e400.2.2.2.2.2.2.1 e400.2.2.2.2.2.2.2.1 e400.2.2.2.2.2.2.2.2 w h o hk
            · refine At.step hm ht ⟨[], [true, false], [], [2, 7, 8, 9, 10], [0, 1, 2, 3]⟩ 11 ⟨[(2, .one (.c (.d (.sl (.pair (.int .i64) (.pair (.int .i64) (.pair (.int .i64) (.int .i64)))) l)))), (7, .one (.c (.ptr 0 0))), (8, .one (.c (.ptr 1 0))), (9, .one (.c (.d (.int .i64 i)))), (10, .one (.c (.ptr 2 0)))], [], [(0, [.d (.int .i64 p_0), .d (.int .i64 p_1), .d (.int .i64 p_2), .mref 3]), (1, [.d (.int .i64 x_0), .d (.int .i64 x_1), .d (.sl (.pair (.int .i64) (.int .i64)) x_2)]), (2, [.d (.int .i64 ((l.getD i.toNat (0, (0, (0, 0)))).1)), .d (.int .i64 (((l.getD i.toNat (0, (0, (0, 0)))).2).1)), .d (.int .i64 ((((l.getD i.toNat (0, (0, (0, 0)))).2).2).1)), .d (.int .i64 ((((l.getD i.toNat (0, (0, (0, 0)))).2).2).2))]), (3, [.mp .i64 .i64 b2_0])], 4⟩ [(((Int.tmod (IntKind.wrap .i64 ((Int.tmod ((l.getD i.toNat (0, (0, (0, 0)))).1) 7) + 7)) 7) : Int) == 5) = true, (((Int.tmod (IntKind.wrap .i64 ((Int.tmod ((l.getD i.toNat (0, (0, (0, 0)))).1) 7) + 7)) 7) : Int) == 5) = false] (by kernel_rfl) ⟨b391_e0, b391_e1, trivial⟩ ?_
              obtain ⟨r401_0, cr401_0, h⟩ := bindS h
              refine At.step hm ht ⟨[(5, .call [] [] (f35_broughamref39_Take_out r401_0))], [], [], [2, 7, 8, 9, 10, 11], [0, 1, 2, 3]⟩ 12 ⟨[(2, .one (.c (.d (.sl (.pair (.int .i64) (.pair (.int .i64) (.pair (.int .i64) (.int .i64)))) l)))), (7, .one (.c (.ptr 0 0))), (8, .one (.c (.ptr 1 0))), (9, .one (.c (.d (.int .i64 i)))), (10, .one (.c (.ptr 2 0))), (11, .one (.c (.d (.bool r401_0.1))))], [], [(0, [.d (.int .i64 p_0), .d (.int .i64 p_1), .d (.int .i64 p_2), .mref 3]), (1, [.d (.int .i64 r401_0.2.1), .d (.int .i64 r401_0.2.2.1), .d (.sl (.pair (.int .i64) (.int .i64)) r401_0.2.2.2)]), (2, [.d (.int .i64 ((l.getD i.toNat (0, (0, (0, 0)))).1)), .d (.int .i64 (((l.getD i.toNat (0, (0, (0, 0)))).2).1)), .d (.int .i64 ((((l.getD i.toNat (0, (0, (0, 0)))).2).2).1)), .d (.int .i64 ((((l.getD i.toNat (0, (0, (0, 0)))).2).2).2))]), (3, [.mp .i64 .i64 b2_0])], 4⟩ [FnOK Go.Proofs.Try.prog 35 (f35_broughamref39_Take_in x_0 x_1 x_2 (((l.getD i.toNat (0, (0, (0, 0)))).2).1) ((((l.getD i.toNat (0, (0, (0, 0)))).2).2).2)) (f35_broughamref39_Take_out r401_0), 0 + 3 ≤ 3] (by kernel_rfl) ⟨(f35_broughamref39_Take_ok n x_0 x_1 x_2 (((l.getD i.toNat (0, (0, (0, 0)))).2).1) ((((l.getD i.toNat (0, (0, (0, 0)))).2).2).2) r401_0 cr401_0), (by decide), trivial⟩ ?_
              obtain ⟨r408_0, cr408_0, h⟩ := bindS h
              rcases iteS h with ⟨b408_e0, h⟩ | ⟨b408_e0, h⟩
              · refine At.step hm ht ⟨[(5, .call [0, 3] [] (f14_quota_Pool_Take_out r408_0))], [true], [], [], []⟩ 13 ⟨[], [], [], 0⟩ [FnOK Go.Proofs.Try.prog 14 (f14_quota_Pool_Take_in (((l.getD i.toNat (0, (0, (0, 0)))).2).1) ((((l.getD i.toNat (0, (0, (0, 0)))).2).2).2) p_0 p_1 p_2 b2_0) (f14_quota_Pool_Take_out r408_0), (!(r408_0.1 == r401_0.1)) = true] (by kernel_rfl) ⟨(f14_quota_Pool_Take_ok (((l.getD i.toNat (0, (0, (0, 0)))).2).1) ((((l.getD i.toNat (0, (0, (0, 0)))).2).2).2) p_0 p_1 p_2 b2_0 r408_0 cr408_0), b408_e0, trivial⟩ ?_
                have h := Option.some.inj h
                subst h
                have hk : o = f6_broughamlaw39_QuotaPlays_out false := hk
                subst hk
                exact At.fin hm ht ⟨[], [], [], [6], []⟩ [] (by kernel_rfl) trivial
              · refine At.step hm ht ⟨[(5, .call [0, 3] [] (f14_quota_Pool_Take_out r408_0))], [false], [], [2, 7, 8, 9, 10], [0, 1, 2, 3]⟩ 27 ⟨[(2, .one (.c (.d (.sl (.pair (.int .i64) (.pair (.int .i64) (.pair (.int .i64) (.int .i64)))) l)))), (7, .one (.c (.ptr 0 0))), (8, .one (.c (.ptr 1 0))), (9, .one (.c (.d (.int .i64 i)))), (10, .one (.c (.ptr 2 0)))], [], [(0, [.d (.int .i64 r408_0.2.1), .d (.int .i64 r408_0.2.2.1), .d (.int .i64 r408_0.2.2.2.1), .mref 3]), (1, [.d (.int .i64 r401_0.2.1), .d (.int .i64 r401_0.2.2.1), .d (.sl (.pair (.int .i64) (.int .i64)) r401_0.2.2.2)]), (2, [.d (.int .i64 ((l.getD i.toNat (0, (0, (0, 0)))).1)), .d (.int .i64 (((l.getD i.toNat (0, (0, (0, 0)))).2).1)), .d (.int .i64 ((((l.getD i.toNat (0, (0, (0, 0)))).2).2).1)), .d (.int .i64 ((((l.getD i.toNat (0, (0, (0, 0)))).2).2).2))]), (3, [.mp .i64 .i64 r408_0.2.2.2.2])], 4⟩ [FnOK Go.Proofs.Try.prog 14 (f14_quota_Pool_Take_in (((l.getD i.toNat (0, (0, (0, 0)))).2).1) ((((l.getD i.toNat (0, (0, (0, 0)))).2).2).2) p_0 p_1 p_2 b2_0) (f14_quota_Pool_Take_out r408_0), (!(r408_0.1 == r401_0.1)) = false] (by kernel_rfl) ⟨(f14_quota_Pool_Take_ok (((l.getD i.toNat (0, (0, (0, 0)))).2).1) ((((l.getD i.toNat (0, (0, (0, 0)))).2).2).2) p_0 p_1 p_2 b2_0 r408_0 cr408_0), b408_e0, trivial⟩ ?_
                obtain ⟨w410, cw410, h⟩ := bindS h
                refine f6_broughamlaw39_QuotaPlays_L27_ok n l i r408_0.2.1 r408_0.2.2.1 r408_0.2.2.2.1 r401_0.2.1 r401_0.2.2.1 r401_0.2.2.2 ((l.getD i.toNat (0, (0, (0, 0)))).1) (((l.getD i.toNat (0, (0, (0, 0)))).2).1) ((((l.getD i.toNat (0, (0, (0, 0)))).2).2).1) ((((l.getD i.toNat (0, (0, (0, 0)))).2).2).2) r408_0.2.2.2.2 w410 cw410 _ ?_
                rcases w410 with e411 | e412
                · have h := Option.some.inj h
                  subst h
                  exact hk
                · show At Go.Proofs.Try.prog Go.Proofs.Try.f6 0 6 ⟨[(2, .one (.c (.d (.sl (.pair (.int .i64) (.pair (.int .i64) (.pair (.int .i64) (.int .i64)))) e412.1)))), (7, .one (.c (.ptr 0 0))), (8, .one (.c (.ptr 1 0))), (9, .one (.c (.d (.int .i64 e412.2.1))))], [], [(0, [.d (.int .i64 e412.2.2.1), .d (.int .i64 e412.2.2.2.1), .d (.int .i64 e412.2.2.2.2.1), .mref 2]), (1, [.d (.int .i64 e412.2.2.2.2.2.1), .d (.int .i64 e412.2.2.2.2.2.2.1), .d (.sl (.pair (.int .i64) (.int .i64)) e412.2.2.2.2.2.2.2.1)]), (2, [.mp .i64 .i64 e412.2.2.2.2.2.2.2.2])], 3⟩ _
                  exact ih e412.1 e412.2.1 e412.2.2.1 e412.2.2.2.1 e412.2.2.2.2.1 e412.2.2.2.2.2.1 e412.2.2.2.2.2.2.1 e412.2.2.2.2.2.2.2.1 e412.2.2.2.2.2.2.2.2 w h o hk
          · refine At.step hm ht ⟨[], [false], [], [2, 7, 8, 9, 10, 43], [0, 1, 2, 3]⟩ 23 ⟨[(2, .one (.c (.d (.sl (.pair (.int .i64) (.pair (.int .i64) (.pair (.int .i64) (.int .i64)))) l)))), (7, .one (.c (.ptr 0 0))), (8, .one (.c (.ptr 1 0))), (9, .one (.c (.d (.int .i64 i)))), (10, .one (.c (.ptr 2 0))), (43, .one (.c (.d (.int .i64 (Int.tmod (IntKind.wrap .i64 ((Int.tmod ((l.getD i.toNat (0, (0, (0, 0)))).1) 7) + 7)) 7)))))], [], [(0, [.d (.int .i64 p_0), .d (.int .i64 p_1), .d (.int .i64 p_2), .mref 3]), (1, [.d (.int .i64 x_0), .d (.int .i64 x_1), .d (.sl (.pair (.int .i64) (.int .i64)) x_2)]), (2, [.d (.int .i64 ((l.getD i.toNat (0, (0, (0, 0)))).1)), .d (.int .i64 (((l.getD i.toNat (0, (0, (0, 0)))).2).1)), .d (.int .i64 ((((l.getD i.toNat (0, (0, (0, 0)))).2).2).1)), .d (.int .i64 ((((l.getD i.toNat (0, (0, (0, 0)))).2).2).2))]), (3, [.mp .i64 .i64 b2_0])], 4⟩ [(((Int.tmod (IntKind.wrap .i64 ((Int.tmod ((l.getD i.toNat (0, (0, (0, 0)))).1) 7) + 7)) 7) : Int) == 5) = false] (by kernel_rfl) ⟨b391_e0, trivial⟩ ?_
            rcases iteS h with ⟨b413_e0, h⟩ | ⟨b413_e0, h⟩
            · refine At.step hm ht ⟨[], [true], [], [2, 7, 8, 9, 10], [0, 1, 2, 3]⟩ 24 ⟨[(2, .one (.c (.d (.sl (.pair (.int .i64) (.pair (.int .i64) (.pair (.int .i64) (.int .i64)))) l)))), (7, .one (.c (.ptr 0 0))), (8, .one (.c (.ptr 1 0))), (9, .one (.c (.d (.int .i64 i)))), (10, .one (.c (.ptr 2 0)))], [], [(0, [.d (.int .i64 p_0), .d (.int .i64 p_1), .d (.int .i64 p_2), .mref 3]), (1, [.d (.int .i64 x_0), .d (.int .i64 x_1), .d (.sl (.pair (.int .i64) (.int .i64)) x_2)]), (2, [.d (.int .i64 ((l.getD i.toNat (0, (0, (0, 0)))).1)), .d (.int .i64 (((l.getD i.toNat (0, (0, (0, 0)))).2).1)), .d (.int .i64 ((((l.getD i.toNat (0, (0, (0, 0)))).2).2).1)), .d (.int .i64 ((((l.getD i.toNat (0, (0, (0, 0)))).2).2).2))]), (3, [.mp .i64 .i64 b2_0])], 4⟩ [(((Int.tmod (IntKind.wrap .i64 ((Int.tmod ((l.getD i.toNat (0, (0, (0, 0)))).1) 7) + 7)) 7) : Int) == 6) = true] (by kernel_rfl) ⟨b413_e0, trivial⟩ ?_
              obtain ⟨w414, cw414, h⟩ := bindS h
              refine f6_broughamlaw39_QuotaPlays_L24_ok n l i p_0 p_1 p_2 x_0 x_1 x_2 ((l.getD i.toNat (0, (0, (0, 0)))).1) (((l.getD i.toNat (0, (0, (0, 0)))).2).1) ((((l.getD i.toNat (0, (0, (0, 0)))).2).2).1) ((((l.getD i.toNat (0, (0, (0, 0)))).2).2).2) b2_0 w414 cw414 _ ?_
              rcases w414 with e415 | e416
              · have h := Option.some.inj h
                subst h
                exact hk
              · show At Go.Proofs.Try.prog Go.Proofs.Try.f6 0 6 ⟨[(2, .one (.c (.d (.sl (.pair (.int .i64) (.pair (.int .i64) (.pair (.int .i64) (.int .i64)))) e416.1)))), (7, .one (.c (.ptr 0 0))), (8, .one (.c (.ptr 1 0))), (9, .one (.c (.d (.int .i64 e416.2.1))))], [], [(0, [.d (.int .i64 e416.2.2.1), .d (.int .i64 e416.2.2.2.1), .d (.int .i64 e416.2.2.2.2.1), .mref 2]), (1, [.d (.int .i64 e416.2.2.2.2.2.1), .d (.int .i64 e416.2.2.2.2.2.2.1), .d (.sl (.pair (.int .i64) (.int .i64)) e416.2.2.2.2.2.2.2.1)]), (2, [.mp .i64 .i64 e416.2.2.2.2.2.2.2.2])], 3⟩ _
                exact ih e416.1 e416.2.1 e416.2.2.1 e416.2.2.2.1 e416.2.2.2.2.1 e416.2.2.2.2.2.1 e416.2.2.2.2.2.2.1 e416.2.2.2.2.2.2.2.1 e416.2.2.2.2.2.2.2.2 w h o hk
            · refine At.step hm ht ⟨[], [false], [], [2, 7, 8, 9, 10], [0, 1, 2, 3]⟩ 11 ⟨[(2, .one (.c (.d (.sl (.pair (.int .i64) (.pair (.int .i64) (.pair (.int .i64) (.int .i64)))) l)))), (7, .one (.c (.ptr 0 0))), (8, .one (.c (.ptr 1 0))), (9, .one (.c (.d (.int .i64 i)))), (10, .one (.c (.ptr 2 0)))], [], [(0, [.d (.int .i64 p_0), .d (.int .i64 p_1), .d (.int .i64 p_2), .mref 3]), (1, [.d (.int .i64 x_0), .d (.int .i64 x_1), .d (.sl (.pair (.int .i64) (.int .i64)) x_2)]), (2, [.d (.int .i64 ((l.getD i.toNat (0, (0, (0, 0)))).1)), .d (.int .i64 (((l.getD i.toNat (0, (0, (0, 0)))).2).1)), .d (.int .i64 ((((l.getD i.toNat (0, (0, (0, 0)))).2).2).1)), .d (.int .i64 ((((l.getD i.toNat (0, (0, (0, 0)))).2).2).2))]), (3, [.mp .i64 .i64 b2_0])], 4⟩ [(((Int.tmod (IntKind.wrap .i64 ((Int.tmod ((l.getD i.toNat (0, (0, (0, 0)))).1) 7) + 7)) 7) : Int) == 6) = false] (by kernel_rfl) ⟨b413_e0, trivial⟩ ?_
              obtain ⟨r417_0, cr417_0, h⟩ := bindS h
              refine At.step hm ht ⟨[(5, .call [] [] (f35_broughamref39_Take_out r417_0))], [], [], [2, 7, 8, 9, 10, 11], [0, 1, 2, 3]⟩ 12 ⟨[(2, .one (.c (.d (.sl (.pair (.int .i64) (.pair (.int .i64) (.pair (.int .i64) (.int .i64)))) l)))), (7, .one (.c (.ptr 0 0))), (8, .one (.c (.ptr 1 0))), (9, .one (.c (.d (.int .i64 i)))), (10, .one (.c (.ptr 2 0))), (11, .one (.c (.d (.bool r417_0.1))))], [], [(0, [.d (.int .i64 p_0), .d (.int .i64 p_1), .d (.int .i64 p_2), .mref 3]), (1, [.d (.int .i64 r417_0.2.1), .d (.int .i64 r417_0.2.2.1), .d (.sl (.pair (.int .i64) (.int .i64)) r417_0.2.2.2)]), (2, [.d (.int .i64 ((l.getD i.toNat (0, (0, (0, 0)))).1)), .d (.int .i64 (((l.getD i.toNat (0, (0, (0, 0)))).2).1)), .d (.int .i64 ((((l.getD i.toNat (0, (0, (0, 0)))).2).2).1)), .d (.int .i64 ((((l.getD i.toNat (0, (0, (0, 0)))).2).2).2))]), (3, [.mp .i64 .i64 b2_0])], 4⟩ [FnOK Go.Proofs.Try.prog 35 (f35_broughamref39_Take_in x_0 x_1 x_2 (((l.getD i.toNat (0, (0, (0, 0)))).2).1) ((((l.getD i.toNat (0, (0, (0, 0)))).2).2).2)) (f35_broughamref39_Take_out r417_0), 0 + 3 ≤ 3] (by kernel_rfl) ⟨(f35_broughamref39_Take_ok n x_0 x_1 x_2 (((l.getD i.toNat (0, (0, (0, 0)))).2).1) ((((l.getD i.toNat (0, (0, (0, 0)))).2).2).2) r417_0 cr417_0), (by decide), trivial⟩ ?_
              obtain ⟨r418_0, cr418_0, h⟩ := bindS h
              rcases iteS h with ⟨b418_e0, h⟩ | ⟨b418_e0, h⟩
              · refine At.step hm ht ⟨[(5, .call [0, 3] [] (f14_quota_Pool_Take_out r418_0))], [true], [], [], []⟩ 13 ⟨[], [], [], 0⟩ [FnOK Go.Proofs.Try.prog 14 (f14_quota_Pool_Take_in (((l.getD i.toNat (0, (0, (0, 0)))).2).1) ((((l.getD i.toNat (0, (0, (0, 0)))).2).2).2) p_0 p_1 p_2 b2_0) (f14_quota_Pool_Take_out r418_0), (!(r418_0.1 == r417_0.1)) = true] (by kernel_rfl) ⟨(f14_quota_Pool_Take_ok (((l.getD i.toNat (0, (0, (0, 0)))).2).1) ((((l.getD i.toNat (0, (0, (0, 0)))).2).2).2) p_0 p_1 p_2 b2_0 r418_0 cr418_0), b418_e0, trivial⟩ ?_
                have h := Option.some.inj h
                subst h
                have hk : o = f6_broughamlaw39_QuotaPlays_out false := hk
                subst hk
                exact At.fin hm ht ⟨[], [], [], [6], []⟩ [] (by kernel_rfl) trivial
              · refine At.step hm ht ⟨[(5, .call [0, 3] [] (f14_quota_Pool_Take_out r418_0))], [false], [], [2, 7, 8, 9, 10], [0, 1, 2, 3]⟩ 27 ⟨[(2, .one (.c (.d (.sl (.pair (.int .i64) (.pair (.int .i64) (.pair (.int .i64) (.int .i64)))) l)))), (7, .one (.c (.ptr 0 0))), (8, .one (.c (.ptr 1 0))), (9, .one (.c (.d (.int .i64 i)))), (10, .one (.c (.ptr 2 0)))], [], [(0, [.d (.int .i64 r418_0.2.1), .d (.int .i64 r418_0.2.2.1), .d (.int .i64 r418_0.2.2.2.1), .mref 3]), (1, [.d (.int .i64 r417_0.2.1), .d (.int .i64 r417_0.2.2.1), .d (.sl (.pair (.int .i64) (.int .i64)) r417_0.2.2.2)]), (2, [.d (.int .i64 ((l.getD i.toNat (0, (0, (0, 0)))).1)), .d (.int .i64 (((l.getD i.toNat (0, (0, (0, 0)))).2).1)), .d (.int .i64 ((((l.getD i.toNat (0, (0, (0, 0)))).2).2).1)), .d (.int .i64 ((((l.getD i.toNat (0, (0, (0, 0)))).2).2).2))]), (3, [.mp .i64 .i64 r418_0.2.2.2.2])], 4⟩ [FnOK Go.Proofs.Try.prog 14 (f14_quota_Pool_Take_in (((l.getD i.toNat (0, (0, (0, 0)))).2).1) ((((l.getD i.toNat (0, (0, (0, 0)))).2).2).2) p_0 p_1 p_2 b2_0) (f14_quota_Pool_Take_out r418_0), (!(r418_0.1 == r417_0.1)) = false] (by kernel_rfl) ⟨(f14_quota_Pool_Take_ok (((l.getD i.toNat (0, (0, (0, 0)))).2).1) ((((l.getD i.toNat (0, (0, (0, 0)))).2).2).2) p_0 p_1 p_2 b2_0 r418_0 cr418_0), b418_e0, trivial⟩ ?_
                obtain ⟨w420, cw420, h⟩ := bindS h
                refine f6_broughamlaw39_QuotaPlays_L27_ok n l i r418_0.2.1 r418_0.2.2.1 r418_0.2.2.2.1 r417_0.2.1 r417_0.2.2.1 r417_0.2.2.2 ((l.getD i.toNat (0, (0, (0, 0)))).1) (((l.getD i.toNat (0, (0, (0, 0)))).2).1) ((((l.getD i.toNat (0, (0, (0, 0)))).2).2).1) ((((l.getD i.toNat (0, (0, (0, 0)))).2).2).2) r418_0.2.2.2.2 w420 cw420 _ ?_
                rcases w420 with e421 | e422
                · have h := Option.some.inj h
                  subst h
                  exact hk
                · show At Go.Proofs.Try.prog Go.Proofs.Try.f6 0 6 ⟨[(2, .one (.c (.d (.sl (.pair (.int .i64) (.pair (.int .i64) (.pair (.int .i64) (.int .i64)))) e422.1)))), (7, .one (.c (.ptr 0 0))), (8, .one (.c (.ptr 1 0))), (9, .one (.c (.d (.int .i64 e422.2.1))))], [], [(0, [.d (.int .i64 e422.2.2.1), .d (.int .i64 e422.2.2.2.1), .d (.int .i64 e422.2.2.2.2.1), .mref 2]), (1, [.d (.int .i64 e422.2.2.2.2.2.1), .d (.int .i64 e422.2.2.2.2.2.2.1), .d (.sl (.pair (.int .i64) (.int .i64)) e422.2.2.2.2.2.2.2.1)]), (2, [.mp .i64 .i64 e422.2.2.2.2.2.2.2.2])], 3⟩ _
                  exact ih e422.1 e422.2.1 e422.2.2.1 e422.2.2.2.1 e422.2.2.2.2.1 e422.2.2.2.2.2.1 e422.2.2.2.2.2.2.1 e422.2.2.2.2.2.2.2.1 e422.2.2.2.2.2.2.2.2 w h o hk
    · refine At.step hm ht ⟨[], [false], [], [], []⟩ 34 ⟨[], [], [], 0⟩ [(decide ((i : Int) < ((l.length : Nat) : Int))) = false] (by kernel_rfl) ⟨b352_e0, trivial⟩ ?_
      obtain ⟨w424, cw424, h⟩ := bindS h
      refine f6_broughamlaw39_QuotaPlays_L34_ok n w424 cw424 _ ?_
      have h := Option.some.inj h
      subst h
      exact hk
def f6_broughamlaw39_QuotaPlays_L5 : Nat → (List (Int × Int × Int × Int)) → Int → Int → Int → Int → Int → (List (Int × Int)) → Option (Bool)
  | 0, _, _, _, _, _, _, _ => none
  | n + 1, l, p_0, p_1, p_2, x_0, x_1, b2_0 =>
    (f6_broughamlaw39_QuotaPlays_L6 n l 0 p_0 p_1 p_2 x_0 x_1 [] b2_0).bind fun w426 =>
    some (w426)
def f6_broughamlaw39_QuotaPlays_L5_k (e : Bool) (o : Out) : Prop := o = f6_broughamlaw39_QuotaPlays_out e
theorem f6_broughamlaw39_QuotaPlays_L5_ok (n : Nat) : ∀ (l : List (Int × Int × Int × Int)) (p_0 : Int) (p_1 : Int) (p_2 : Int) (x_0 : Int) (x_1 : Int) (b2_0 : List (Int × Int)) (w : Bool) (h : f6_broughamlaw39_QuotaPlays_L5 n l p_0 p_1 p_2 x_0 x_1 b2_0 = some w) (o : Out) (hk : f6_broughamlaw39_QuotaPlays_L5_k w o), At Go.Proofs.Try.prog Go.Proofs.Try.f6 0 5 ⟨[(2, .one (.c (.d (.sl (.pair (.int .i64) (.pair (.int .i64) (.pair (.int .i64) (.int .i64)))) l)))), (7, .one (.c (.ptr 0 0))), (8, .one (.c (.ptr 1 0)))], [], [(0, [.d (.int .i64 p_0), .d (.int .i64 p_1), .d (.int .i64 p_2), .mref 2]), (1, [.d (.int .i64 x_0), .d (.int .i64 x_1), .d (.sl .unit [])]), (2, [.mp .i64 .i64 b2_0])], 3⟩ o := by
  induction n with
  | zero => intro l p_0 p_1 p_2 x_0 x_1 b2_0 w h; rw [f6_broughamlaw39_QuotaPlays_L5] at h; cases h
  | succ n ih =>
    intro l p_0 p_1 p_2 x_0 x_1 b2_0 w h o hk
    rw [f6_broughamlaw39_QuotaPlays_L5] at h
    refine At.step hm ht ⟨[], [], [.nil true 1 2 (.pair (.int .i64) (.int .i64)) none], [2, 7, 8, 9], [0, 1, 2]⟩ 6 ⟨[(2, .one (.c (.d (.sl (.pair (.int .i64) (.pair (.int .i64) (.pair (.int .i64) (.int .i64)))) l)))), (7, .one (.c (.ptr 0 0))), (8, .one (.c (.ptr 1 0))), (9, .one (.c (.d (.int .i64 0))))], [], [(0, [.d (.int .i64 p_0), .d (.int .i64 p_1), .d (.int .i64 p_2), .mref 2]), (1, [.d (.int .i64 x_0), .d (.int .i64 x_1), .d (.sl (.pair (.int .i64) (.int .i64)) [])]), (2, [.mp .i64 .i64 b2_0])], 3⟩ [] (by kernel_rfl) trivial ?_
    obtain ⟨w426, cw426, h⟩ := bindS h
    refine f6_broughamlaw39_QuotaPlays_L6_ok n l 0 p_0 p_1 p_2 x_0 x_1 [] b2_0 w426 cw426 _ ?_
    have h := Option.some.inj h
    subst h
    exact hk
def f6_broughamlaw39_QuotaPlays_L4 : Nat → Int → Int → (List (Int × Int × Int × Int)) → Int → Int → Int → (List (Int × Int)) → Option (Bool)
  | 0, _, _, _, _, _, _, _ => none
  | n + 1, all, each, l, p_0, p_1, p_2, b1_0 =>
    (f29_broughamref39_New all each).bind fun r350_0 =>
    (f6_broughamlaw39_QuotaPlays_L5 n l p_0 p_1 p_2 r350_0.1 r350_0.2 b1_0).bind fun w428 =>
    some (w428)
def f6_broughamlaw39_QuotaPlays_L4_k (e : Bool) (o : Out) : Prop := o = f6_broughamlaw39_QuotaPlays_out e
theorem f6_broughamlaw39_QuotaPlays_L4_ok (n : Nat) : ∀ (all : Int) (each : Int) (l : List (Int × Int × Int × Int)) (p_0 : Int) (p_1 : Int) (p_2 : Int) (b1_0 : List (Int × Int)) (w : Bool) (h : f6_broughamlaw39_QuotaPlays_L4 n all each l p_0 p_1 p_2 b1_0 = some w) (o : Out) (hk : f6_broughamlaw39_QuotaPlays_L4_k w o), At Go.Proofs.Try.prog Go.Proofs.Try.f6 0 4 ⟨[(0, .one (.c (.d (.int .i64 all)))), (1, .one (.c (.d (.int .i64 each)))), (2, .one (.c (.d (.sl (.pair (.int .i64) (.pair (.int .i64) (.pair (.int .i64) (.int .i64)))) l)))), (7, .one (.c (.ptr 0 0)))], [], [(0, [.d (.int .i64 p_0), .d (.int .i64 p_1), .d (.int .i64 p_2), .mref 1]), (1, [.mp .i64 .i64 b1_0])], 2⟩ o := by
  induction n with
  | zero => intro all each l p_0 p_1 p_2 b1_0 w h; rw [f6_broughamlaw39_QuotaPlays_L4] at h; cases h
  | succ n ih =>
    intro all each l p_0 p_1 p_2 b1_0 w h o hk
    rw [f6_broughamlaw39_QuotaPlays_L4] at h
    obtain ⟨r350_0, cr350_0, h⟩ := bindS h
    refine At.step hm ht ⟨[(2, .call [] [] (f29_broughamref39_New_out r350_0))], [], [], [2, 7, 8], [0, 5, 1]⟩ 5 ⟨[(2, .one (.c (.d (.sl (.pair (.int .i64) (.pair (.int .i64) (.pair (.int .i64) (.int .i64)))) l)))), (7, .one (.c (.ptr 0 0))), (8, .one (.c (.ptr 1 0)))], [], [(0, [.d (.int .i64 p_0), .d (.int .i64 p_1), .d (.int .i64 p_2), .mref 2]), (1, [.d (.int .i64 r350_0.1), .d (.int .i64 r350_0.2), .d (.sl .unit [])]), (2, [.mp .i64 .i64 b1_0])], 3⟩ [FnOK Go.Proofs.Try.prog 29 (f29_broughamref39_New_in all each) (f29_broughamref39_New_out r350_0), 0 + 3 ≤ 3] (by kernel_rfl) ⟨(f29_broughamref39_New_ok all each r350_0 cr350_0), (by decide), trivial⟩ ?_
    obtain ⟨w428, cw428, h⟩ := bindS h
    refine f6_broughamlaw39_QuotaPlays_L5_ok n l p_0 p_1 p_2 r350_0.1 r350_0.2 b1_0 w428 cw428 _ ?_
    have h := Option.some.inj h
    subst h
    exact hk
def f6_broughamlaw39_QuotaPlays_L2 : Nat → Int → Int → (List (Int × Int × Int × Int)) → Int → Int → Int → (List (Int × Int)) → Option (Bool)
  | 0, _, _, _, _, _, _, _ => none
  | n + 1, all, each, l, p_0, p_1, p_2, b1_0 =>
    if (decide ((((l.length : Nat) : Int) : Int) > 100)) = true then
      (f6_broughamlaw39_QuotaPlays_L3 n p_0 p_1 p_2 b1_0).bind fun w348 =>
      some (w348)
    else
      (f6_broughamlaw39_QuotaPlays_L4 n all each l p_0 p_1 p_2 b1_0).bind fun w430 =>
      some (w430)
def f6_broughamlaw39_QuotaPlays_L2_k (e : Bool) (o : Out) : Prop := o = f6_broughamlaw39_QuotaPlays_out e
theorem f6_broughamlaw39_QuotaPlays_L2_ok (n : Nat) : ∀ (all : Int) (each : Int) (l : List (Int × Int × Int × Int)) (p_0 : Int) (p_1 : Int) (p_2 : Int) (b1_0 : List (Int × Int)) (w : Bool) (h : f6_broughamlaw39_QuotaPlays_L2 n all each l p_0 p_1 p_2 b1_0 = some w) (o : Out) (hk : f6_broughamlaw39_QuotaPlays_L2_k w o), At Go.Proofs.Try.prog Go.Proofs.Try.f6 0 2 ⟨[(0, .one (.c (.d (.int .i64 all)))), (1, .one (.c (.d (.int .i64 each)))), (2, .one (.c (.d (.sl (.pair (.int .i64) (.pair (.int .i64) (.pair (.int .i64) (.int .i64)))) l)))), (7, .one (.c (.ptr 0 0)))], [], [(0, [.d (.int .i64 p_0), .d (.int .i64 p_1), .d (.int .i64 p_2), .mref 1]), (1, [.mp .i64 .i64 b1_0])], 2⟩ o := by
  induction n with
  | zero => intro all each l p_0 p_1 p_2 b1_0 w h; rw [f6_broughamlaw39_QuotaPlays_L2] at h; cases h
  | succ n ih =>
    intro all each l p_0 p_1 p_2 b1_0 w h o hk
    rw [f6_broughamlaw39_QuotaPlays_L2] at h
    rcases iteS h with ⟨b346_e0, h⟩ | ⟨b346_e0, h⟩
    · refine At.step hm ht ⟨[], [true], [], [7], [0, 1]⟩ 3 ⟨[(7, .one (.c (.ptr 0 0)))], [], [(0, [.d (.int .i64 p_0), .d (.int .i64 p_1), .d (.int .i64 p_2), .mref 1]), (1, [.mp .i64 .i64 b1_0])], 2⟩ [(decide ((((l.length : Nat) : Int) : Int) > 100)) = true] (by kernel_rfl) ⟨b346_e0, trivial⟩ ?_
      obtain ⟨w348, cw348, h⟩ := bindS h
      refine f6_broughamlaw39_QuotaPlays_L3_ok n p_0 p_1 p_2 b1_0 w348 cw348 _ ?_
      have h := Option.some.inj h
      subst h
      exact hk
    · refine At.step hm ht ⟨[], [false], [], [0, 1, 2, 7], [0, 1]⟩ 4 ⟨[(0, .one (.c (.d (.int .i64 all)))), (1, .one (.c (.d (.int .i64 each)))), (2, .one (.c (.d (.sl (.pair (.int .i64) (.pair (.int .i64) (.pair (.int .i64) (.int .i64)))) l)))), (7, .one (.c (.ptr 0 0)))], [], [(0, [.d (.int .i64 p_0), .d (.int .i64 p_1), .d (.int .i64 p_2), .mref 1]), (1, [.mp .i64 .i64 b1_0])], 2⟩ [(decide ((((l.length : Nat) : Int) : Int) > 100)) = false] (by kernel_rfl) ⟨b346_e0, trivial⟩ ?_
      obtain ⟨w430, cw430, h⟩ := bindS h
      refine f6_broughamlaw39_QuotaPlays_L4_ok n all each l p_0 p_1 p_2 b1_0 w430 cw430 _ ?_
      have h := Option.some.inj h
      subst h
      exact hk
def f6_broughamlaw39_QuotaPlays_L1 : Nat → Int → Int → (List (Int × Int × Int × Int)) → Option (Bool)
  | 0, _, _, _ => none
  | n + 1, all, each, l =>
    (f13_quota_New all each).bind fun r345_0 =>
    (f6_broughamlaw39_QuotaPlays_L2 n all each l r345_0.1 r345_0.2.1 r345_0.2.2.1 r345_0.2.2.2).bind fun w432 =>
    some (w432)
def f6_broughamlaw39_QuotaPlays_L1_k (e : Bool) (o : Out) : Prop := o = f6_broughamlaw39_QuotaPlays_out e
theorem f6_broughamlaw39_QuotaPlays_L1_ok (n : Nat) : ∀ (all : Int) (each : Int) (l : List (Int × Int × Int × Int)) (w : Bool) (h : f6_broughamlaw39_QuotaPlays_L1 n all each l = some w) (o : Out) (hk : f6_broughamlaw39_QuotaPlays_L1_k w o), At Go.Proofs.Try.prog Go.Proofs.Try.f6 0 1 ⟨[(0, .one (.c (.d (.int .i64 all)))), (1, .one (.c (.d (.int .i64 each)))), (2, .one (.c (.d (.sl (.pair (.int .i64) (.pair (.int .i64) (.pair (.int .i64) (.int .i64)))) l))))], [], [], 0⟩ o := by
  induction n with
  | zero => intro all each l w h; rw [f6_broughamlaw39_QuotaPlays_L1] at h; cases h
  | succ n ih =>
    intro all each l w h o hk
    rw [f6_broughamlaw39_QuotaPlays_L1] at h
    obtain ⟨r345_0, cr345_0, h⟩ := bindS h
    refine At.step hm ht ⟨[(2, .call [] [] (f13_quota_New_out r345_0))], [], [], [0, 1, 2, 7], [2, 3]⟩ 2 ⟨[(0, .one (.c (.d (.int .i64 all)))), (1, .one (.c (.d (.int .i64 each)))), (2, .one (.c (.d (.sl (.pair (.int .i64) (.pair (.int .i64) (.pair (.int .i64) (.int .i64)))) l)))), (7, .one (.c (.ptr 0 0)))], [], [(0, [.d (.int .i64 r345_0.1), .d (.int .i64 r345_0.2.1), .d (.int .i64 r345_0.2.2.1), .mref 1]), (1, [.mp .i64 .i64 r345_0.2.2.2])], 2⟩ [FnOK Go.Proofs.Try.prog 13 (f13_quota_New_in all each) (f13_quota_New_out r345_0)] (by kernel_rfl) ⟨(f13_quota_New_ok all each r345_0 cr345_0), trivial⟩ ?_
    obtain ⟨w432, cw432, h⟩ := bindS h
    refine f6_broughamlaw39_QuotaPlays_L2_ok n all each l r345_0.1 r345_0.2.1 r345_0.2.2.1 r345_0.2.2.2 w432 cw432 _ ?_
    have h := Option.some.inj h
    subst h
    exact hk
def f6_broughamlaw39_QuotaPlays (n : Nat) (all : Int) (each : Int) (l : List (Int × Int × Int × Int)) : Option (Bool) :=
  (f6_broughamlaw39_QuotaPlays_L1 n all each l).bind fun w434 =>
  some w434
theorem f6_broughamlaw39_QuotaPlays_ok (n : Nat) (all : Int) (each : Int) (l : List (Int × Int × Int × Int)) (r : Bool) (h : f6_broughamlaw39_QuotaPlays n all each l = some r) : FnOK Go.Proofs.Try.prog 6 (f6_broughamlaw39_QuotaPlays_in all each l) (f6_broughamlaw39_QuotaPlays_out r) := by
  unfold f6_broughamlaw39_QuotaPlays at h
  refine At.fn (r := 0) Go.Proofs.Try.func6 rfl (by kernel_rfl) rfl rfl (by kernel_rfl) ?_
  show At Go.Proofs.Try.prog Go.Proofs.Try.f6 0 0 ⟨[(0, .one (.c (.d (.int .i64 all)))), (1, .one (.c (.d (.int .i64 each)))), (2, .one (.c (.d (.sl (.pair (.int .i64) (.pair (.int .i64) (.pair (.int .i64) (.int .i64)))) l))))], [], [], 0⟩ _
  refine At.step hm ht ⟨[], [], [], [0, 1, 2], []⟩ 1 ⟨[(0, .one (.c (.d (.int .i64 all)))), (1, .one (.c (.d (.int .i64 each)))), (2, .one (.c (.d (.sl (.pair (.int .i64) (.pair (.int .i64) (.pair (.int .i64) (.int .i64)))) l))))], [], [], 0⟩ [] (by kernel_rfl) trivial ?_
  obtain ⟨w434, cw434, h⟩ := bindS h
  refine f6_broughamlaw39_QuotaPlays_L1_ok n all each l w434 cw434 _ ?_
  have h := Option.some.inj h
  subst h
  rfl
end Go.Proofs.YtjimlfjhhmdcdaaF39
