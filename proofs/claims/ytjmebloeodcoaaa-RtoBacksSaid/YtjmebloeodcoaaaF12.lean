/- What the functions compute, and that they do: printed by a program of this session (zgen.py), proved by Zed. -/
import Derived.Test.YtjmebloeodcoaaaProg
import Derived.Test.YtjmebloeodcoaaaZedY
namespace Go.Proofs.YtjmebloeodcoaaaF12
open Go Zed
set_option maxRecDepth 100000
set_option linter.unusedVariables false
def tab : Tab := [(3, ⟨.int .i64, 1, 8, [.int .i64 0], some (.int .i64), none⟩), (4, ⟨.bool, 1, 1, [.bool false], some .bool, none⟩), (22, ⟨.slice 3, 1, 24, [.sl .unit []], some (.slice (.int .i64)), none⟩), (50, ⟨.struct [(0, 3), (1, 3), (2, 4), (3, 3)], 4, 32, [.int .i64 0, .int .i64 0, .bool false, .int .i64 0], some (.pair (.int .i64) (.pair (.int .i64) (.pair .bool (.int .i64)))), some [(0, 3), (1, 3), (2, 4), (3, 3)]⟩)]
theorem ht : TabOk Go.Proofs.Try.prog tab := tabOk_of (ts := [3, 4, 22, 50]) (by kernel_rfl)
theorem hm : Go.Proofs.Try.prog.follows .mixedOrders = true := by kernel_rfl
/-! (*brougham/rto.Est).Sample -/
def f37_rto_Est_Sample_in (ticks : Int) (e_0 : Int) (e_1 : Int) (e_2 : Bool) (e_3 : Int) : Inn := ⟨[.c (.ptr 0 0), .c (.d (.int .i64 ticks))], [], [(0, [.d (.int .i64 e_0), .d (.int .i64 e_1), .d (.bool e_2), .d (.int .i64 e_3)])], 1⟩
def f37_rto_Est_Sample_out (r : Int × Int × Bool × Int) : Out := ⟨.tup [], [], [(0, [.d (.int .i64 r.1), .d (.int .i64 r.2.1), .d (.bool r.2.2.1), .d (.int .i64 r.2.2.2)])], 1⟩
def f37_rto_Est_Sample (ticks : Int) (e_0 : Int) (e_1 : Int) (e_2 : Bool) (e_3 : Int) : Option (Int × Int × Bool × Int) :=
  if (!e_2) = true then
    some ((IntKind.wrap .i64 ((if 4096 < (if ticks < 0 then 0 else ticks) then 4096 else (if ticks < 0 then 0 else ticks)) * 8)), (IntKind.wrap .i64 ((if 4096 < (if ticks < 0 then 0 else ticks) then 4096 else (if ticks < 0 then 0 else ticks)) * 2)), true, 0)
  else
    if (decide (((IntKind.wrap .i64 ((if 4096 < (if ticks < 0 then 0 else ticks) then 4096 else (if ticks < 0 then 0 else ticks)) - (IntKind.wrap .i64 (Int.tdiv e_0 8)))) : Int) < 0)) = true then
      some ((if (IntKind.wrap .i64 (e_0 + (IntKind.wrap .i64 ((if 4096 < (if ticks < 0 then 0 else ticks) then 4096 else (if ticks < 0 then 0 else ticks)) - (IntKind.wrap .i64 (Int.tdiv e_0 8)))))) < 0 then 0 else (IntKind.wrap .i64 (e_0 + (IntKind.wrap .i64 ((if 4096 < (if ticks < 0 then 0 else ticks) then 4096 else (if ticks < 0 then 0 else ticks)) - (IntKind.wrap .i64 (Int.tdiv e_0 8))))))), (if (IntKind.wrap .i64 ((IntKind.wrap .i64 (e_1 + (IntKind.wrap .i64 (0 - (IntKind.wrap .i64 ((if 4096 < (if ticks < 0 then 0 else ticks) then 4096 else (if ticks < 0 then 0 else ticks)) - (IntKind.wrap .i64 (Int.tdiv e_0 8)))))))) - (IntKind.wrap .i64 (Int.tdiv e_1 4)))) < 0 then 0 else (IntKind.wrap .i64 ((IntKind.wrap .i64 (e_1 + (IntKind.wrap .i64 (0 - (IntKind.wrap .i64 ((if 4096 < (if ticks < 0 then 0 else ticks) then 4096 else (if ticks < 0 then 0 else ticks)) - (IntKind.wrap .i64 (Int.tdiv e_0 8)))))))) - (IntKind.wrap .i64 (Int.tdiv e_1 4))))), e_2, 0)
    else
      some ((if (IntKind.wrap .i64 (e_0 + (IntKind.wrap .i64 ((if 4096 < (if ticks < 0 then 0 else ticks) then 4096 else (if ticks < 0 then 0 else ticks)) - (IntKind.wrap .i64 (Int.tdiv e_0 8)))))) < 0 then 0 else (IntKind.wrap .i64 (e_0 + (IntKind.wrap .i64 ((if 4096 < (if ticks < 0 then 0 else ticks) then 4096 else (if ticks < 0 then 0 else ticks)) - (IntKind.wrap .i64 (Int.tdiv e_0 8))))))), (if (IntKind.wrap .i64 ((IntKind.wrap .i64 (e_1 + (IntKind.wrap .i64 ((if 4096 < (if ticks < 0 then 0 else ticks) then 4096 else (if ticks < 0 then 0 else ticks)) - (IntKind.wrap .i64 (Int.tdiv e_0 8)))))) - (IntKind.wrap .i64 (Int.tdiv e_1 4)))) < 0 then 0 else (IntKind.wrap .i64 ((IntKind.wrap .i64 (e_1 + (IntKind.wrap .i64 ((if 4096 < (if ticks < 0 then 0 else ticks) then 4096 else (if ticks < 0 then 0 else ticks)) - (IntKind.wrap .i64 (Int.tdiv e_0 8)))))) - (IntKind.wrap .i64 (Int.tdiv e_1 4))))), e_2, 0)
theorem f37_rto_Est_Sample_ok (ticks : Int) (e_0 : Int) (e_1 : Int) (e_2 : Bool) (e_3 : Int) (r : Int × Int × Bool × Int) (h : f37_rto_Est_Sample ticks e_0 e_1 e_2 e_3 = some r) : FnOK Go.Proofs.Try.prog 37 (f37_rto_Est_Sample_in ticks e_0 e_1 e_2 e_3) (f37_rto_Est_Sample_out r) := by
  unfold f37_rto_Est_Sample at h
  refine At.fn (r := 0) Go.Proofs.Try.func37 rfl (by kernel_rfl) rfl rfl (by kernel_rfl) ?_
  show At Go.Proofs.Try.prog Go.Proofs.Try.f37 1 0 ⟨[(0, .one (.c (.ptr 0 0))), (1, .one (.c (.d (.int .i64 ticks))))], [], [(0, [.d (.int .i64 e_0), .d (.int .i64 e_1), .d (.bool e_2), .d (.int .i64 e_3)])], 1⟩ _
  refine At.step hm ht ⟨[], [], [], [0, 1], [0]⟩ 1 ⟨[(0, .one (.c (.ptr 0 0))), (1, .one (.c (.d (.int .i64 (if 4096 < (if ticks < 0 then 0 else ticks) then 4096 else (if ticks < 0 then 0 else ticks))))))], [], [(0, [.d (.int .i64 e_0), .d (.int .i64 e_1), .d (.bool e_2), .d (.int .i64 e_3)])], 1⟩ [] (by kernel_rfl) trivial ?_
  refine At.step hm ht ⟨[], [], [], [0, 1], [0]⟩ 2 ⟨[(0, .one (.c (.ptr 0 0))), (1, .one (.c (.d (.int .i64 (if 4096 < (if ticks < 0 then 0 else ticks) then 4096 else (if ticks < 0 then 0 else ticks))))))], [], [(0, [.d (.int .i64 e_0), .d (.int .i64 e_1), .d (.bool e_2), .d (.int .i64 0)])], 1⟩ [3 + 1 ≤ 4] (by kernel_rfl) ⟨(by decide), trivial⟩ ?_
  rcases iteS h with ⟨b12_e0, h⟩ | ⟨b12_e0, h⟩
  · refine At.step hm ht ⟨[], [true], [], [0, 1], [0]⟩ 3 ⟨[(0, .one (.c (.ptr 0 0))), (1, .one (.c (.d (.int .i64 (if 4096 < (if ticks < 0 then 0 else ticks) then 4096 else (if ticks < 0 then 0 else ticks))))))], [], [(0, [.d (.int .i64 e_0), .d (.int .i64 e_1), .d (.bool e_2), .d (.int .i64 0)])], 1⟩ [(!e_2) = true] (by kernel_rfl) ⟨b12_e0, trivial⟩ ?_
    have h := Option.some.inj h
    subst h
    exact At.fin hm ht ⟨[], [], [], [], [0]⟩ [0 + 1 ≤ 4, 1 + 1 ≤ 4, 2 + 1 ≤ 4] (by kernel_rfl) ⟨(by decide), (by decide), (by decide), trivial⟩
  · refine At.step hm ht ⟨[], [false], [], [0, 1], [0]⟩ 4 ⟨[(0, .one (.c (.ptr 0 0))), (1, .one (.c (.d (.int .i64 (if 4096 < (if ticks < 0 then 0 else ticks) then 4096 else (if ticks < 0 then 0 else ticks))))))], [], [(0, [.d (.int .i64 e_0), .d (.int .i64 e_1), .d (.bool e_2), .d (.int .i64 0)])], 1⟩ [(!e_2) = false] (by kernel_rfl) ⟨b12_e0, trivial⟩ ?_
    refine At.step hm ht ⟨[], [], [], [0, 4], [0]⟩ 5 ⟨[(0, .one (.c (.ptr 0 0))), (4, .one (.c (.d (.int .i64 (IntKind.wrap .i64 ((if 4096 < (if ticks < 0 then 0 else ticks) then 4096 else (if ticks < 0 then 0 else ticks)) - (IntKind.wrap .i64 (Int.tdiv e_0 8))))))))], [], [(0, [.d (.int .i64 e_0), .d (.int .i64 e_1), .d (.bool e_2), .d (.int .i64 0)])], 1⟩ [(8 : Int) ≠ 0] (by kernel_rfl) ⟨(by decide), trivial⟩ ?_
    refine At.step hm ht ⟨[], [], [], [0, 4], [0]⟩ 6 ⟨[(0, .one (.c (.ptr 0 0))), (4, .one (.c (.d (.int .i64 (IntKind.wrap .i64 ((if 4096 < (if ticks < 0 then 0 else ticks) then 4096 else (if ticks < 0 then 0 else ticks)) - (IntKind.wrap .i64 (Int.tdiv e_0 8))))))))], [], [(0, [.d (.int .i64 (if (IntKind.wrap .i64 (e_0 + (IntKind.wrap .i64 ((if 4096 < (if ticks < 0 then 0 else ticks) then 4096 else (if ticks < 0 then 0 else ticks)) - (IntKind.wrap .i64 (Int.tdiv e_0 8)))))) < 0 then 0 else (IntKind.wrap .i64 (e_0 + (IntKind.wrap .i64 ((if 4096 < (if ticks < 0 then 0 else ticks) then 4096 else (if ticks < 0 then 0 else ticks)) - (IntKind.wrap .i64 (Int.tdiv e_0 8)))))))), .d (.int .i64 e_1), .d (.bool e_2), .d (.int .i64 0)])], 1⟩ [0 + 1 ≤ 4] (by kernel_rfl) ⟨(by decide), trivial⟩ ?_
    rcases iteS h with ⟨b16_e0, h⟩ | ⟨b16_e0, h⟩
    · refine At.step hm ht ⟨[], [true], [], [0, 4], [0]⟩ 7 ⟨[(0, .one (.c (.ptr 0 0))), (4, .one (.c (.d (.int .i64 (IntKind.wrap .i64 ((if 4096 < (if ticks < 0 then 0 else ticks) then 4096 else (if ticks < 0 then 0 else ticks)) - (IntKind.wrap .i64 (Int.tdiv e_0 8))))))))], [], [(0, [.d (.int .i64 (if (IntKind.wrap .i64 (e_0 + (IntKind.wrap .i64 ((if 4096 < (if ticks < 0 then 0 else ticks) then 4096 else (if ticks < 0 then 0 else ticks)) - (IntKind.wrap .i64 (Int.tdiv e_0 8)))))) < 0 then 0 else (IntKind.wrap .i64 (e_0 + (IntKind.wrap .i64 ((if 4096 < (if ticks < 0 then 0 else ticks) then 4096 else (if ticks < 0 then 0 else ticks)) - (IntKind.wrap .i64 (Int.tdiv e_0 8)))))))), .d (.int .i64 e_1), .d (.bool e_2), .d (.int .i64 0)])], 1⟩ [(decide (((IntKind.wrap .i64 ((if 4096 < (if ticks < 0 then 0 else ticks) then 4096 else (if ticks < 0 then 0 else ticks)) - (IntKind.wrap .i64 (Int.tdiv e_0 8)))) : Int) < 0)) = true] (by kernel_rfl) ⟨b16_e0, trivial⟩ ?_
      refine At.step hm ht ⟨[], [], [], [0, 4], [0]⟩ 8 ⟨[(0, .one (.c (.ptr 0 0))), (4, .one (.c (.d (.int .i64 (IntKind.wrap .i64 (0 - (IntKind.wrap .i64 ((if 4096 < (if ticks < 0 then 0 else ticks) then 4096 else (if ticks < 0 then 0 else ticks)) - (IntKind.wrap .i64 (Int.tdiv e_0 8))))))))))], [], [(0, [.d (.int .i64 (if (IntKind.wrap .i64 (e_0 + (IntKind.wrap .i64 ((if 4096 < (if ticks < 0 then 0 else ticks) then 4096 else (if ticks < 0 then 0 else ticks)) - (IntKind.wrap .i64 (Int.tdiv e_0 8)))))) < 0 then 0 else (IntKind.wrap .i64 (e_0 + (IntKind.wrap .i64 ((if 4096 < (if ticks < 0 then 0 else ticks) then 4096 else (if ticks < 0 then 0 else ticks)) - (IntKind.wrap .i64 (Int.tdiv e_0 8)))))))), .d (.int .i64 e_1), .d (.bool e_2), .d (.int .i64 0)])], 1⟩ [] (by kernel_rfl) trivial ?_
      have h := Option.some.inj h
      subst h
      exact At.fin hm ht ⟨[], [], [], [], [0]⟩ [(4 : Int) ≠ 0, 1 + 1 ≤ 4] (by kernel_rfl) ⟨(by decide), (by decide), trivial⟩
    · refine At.step hm ht ⟨[], [false], [], [0, 4], [0]⟩ 8 ⟨[(0, .one (.c (.ptr 0 0))), (4, .one (.c (.d (.int .i64 (IntKind.wrap .i64 ((if 4096 < (if ticks < 0 then 0 else ticks) then 4096 else (if ticks < 0 then 0 else ticks)) - (IntKind.wrap .i64 (Int.tdiv e_0 8))))))))], [], [(0, [.d (.int .i64 (if (IntKind.wrap .i64 (e_0 + (IntKind.wrap .i64 ((if 4096 < (if ticks < 0 then 0 else ticks) then 4096 else (if ticks < 0 then 0 else ticks)) - (IntKind.wrap .i64 (Int.tdiv e_0 8)))))) < 0 then 0 else (IntKind.wrap .i64 (e_0 + (IntKind.wrap .i64 ((if 4096 < (if ticks < 0 then 0 else ticks) then 4096 else (if ticks < 0 then 0 else ticks)) - (IntKind.wrap .i64 (Int.tdiv e_0 8)))))))), .d (.int .i64 e_1), .d (.bool e_2), .d (.int .i64 0)])], 1⟩ [(decide (((IntKind.wrap .i64 ((if 4096 < (if ticks < 0 then 0 else ticks) then 4096 else (if ticks < 0 then 0 else ticks)) - (IntKind.wrap .i64 (Int.tdiv e_0 8)))) : Int) < 0)) = false] (by kernel_rfl) ⟨b16_e0, trivial⟩ ?_
      have h := Option.some.inj h
      subst h
      exact At.fin hm ht ⟨[], [], [], [], [0]⟩ [(4 : Int) ≠ 0, 1 + 1 ≤ 4] (by kernel_rfl) ⟨(by decide), (by decide), trivial⟩
/-! (*brougham/rto.Est).Patience -/
def f38_rto_Est_Patience_in (e_0 : Int) (e_1 : Int) (e_2 : Bool) (e_3 : Int) : Inn := ⟨[.c (.ptr 0 0)], [], [(0, [.d (.int .i64 e_0), .d (.int .i64 e_1), .d (.bool e_2), .d (.int .i64 e_3)])], 1⟩
def f38_rto_Est_Patience_out (r : Int × Int × Int × Bool × Int) : Out := ⟨.one (.c (.d (.int .i64 r.1))), [], [(0, [.d (.int .i64 r.2.1), .d (.int .i64 r.2.2.1), .d (.bool r.2.2.2.1), .d (.int .i64 r.2.2.2.2)])], 1⟩
def f38_rto_Est_Patience (e_0 : Int) (e_1 : Int) (e_2 : Bool) (e_3 : Int) : Option (Int × Int × Int × Bool × Int) :=
  if e_2 = true then
    if (0 : Int) ≤ e_3 then
    some ((if 256 < (IntKind.wrap .i64 ((if (IntKind.wrap .i64 ((IntKind.wrap .i64 (Int.tdiv e_0 8)) + (if 1 < e_1 then e_1 else 1))) < 2 then 2 else (IntKind.wrap .i64 ((IntKind.wrap .i64 (Int.tdiv e_0 8)) + (if 1 < e_1 then e_1 else 1)))) * 2 ^ (min e_3.toNat (IntKind.bits .i64)))) then 256 else (IntKind.wrap .i64 ((if (IntKind.wrap .i64 ((IntKind.wrap .i64 (Int.tdiv e_0 8)) + (if 1 < e_1 then e_1 else 1))) < 2 then 2 else (IntKind.wrap .i64 ((IntKind.wrap .i64 (Int.tdiv e_0 8)) + (if 1 < e_1 then e_1 else 1)))) * 2 ^ (min e_3.toNat (IntKind.bits .i64))))), e_0, e_1, e_2, e_3)
    else none
  else
    if (0 : Int) ≤ e_3 then
    some ((if 256 < (IntKind.wrap .i64 ((if 8 < 2 then 2 else 8) * 2 ^ (min e_3.toNat (IntKind.bits .i64)))) then 256 else (IntKind.wrap .i64 ((if 8 < 2 then 2 else 8) * 2 ^ (min e_3.toNat (IntKind.bits .i64))))), e_0, e_1, e_2, e_3)
    else none
theorem f38_rto_Est_Patience_ok (e_0 : Int) (e_1 : Int) (e_2 : Bool) (e_3 : Int) (r : Int × Int × Int × Bool × Int) (h : f38_rto_Est_Patience e_0 e_1 e_2 e_3 = some r) : FnOK Go.Proofs.Try.prog 38 (f38_rto_Est_Patience_in e_0 e_1 e_2 e_3) (f38_rto_Est_Patience_out r) := by
  unfold f38_rto_Est_Patience at h
  refine At.fn (r := 0) Go.Proofs.Try.func38 rfl (by kernel_rfl) rfl rfl (by kernel_rfl) ?_
  show At Go.Proofs.Try.prog Go.Proofs.Try.f38 1 0 ⟨[(0, .one (.c (.ptr 0 0)))], [], [(0, [.d (.int .i64 e_0), .d (.int .i64 e_1), .d (.bool e_2), .d (.int .i64 e_3)])], 1⟩ _
  refine At.step hm ht ⟨[], [], [], [0], [0]⟩ 1 ⟨[(0, .one (.c (.ptr 0 0)))], [], [(0, [.d (.int .i64 e_0), .d (.int .i64 e_1), .d (.bool e_2), .d (.int .i64 e_3)])], 1⟩ [] (by kernel_rfl) trivial ?_
  refine At.step hm ht ⟨[], [], [], [0, 3], [0]⟩ 2 ⟨[(0, .one (.c (.ptr 0 0))), (3, .one (.c (.d (.int .i64 8))))], [], [(0, [.d (.int .i64 e_0), .d (.int .i64 e_1), .d (.bool e_2), .d (.int .i64 e_3)])], 1⟩ [] (by kernel_rfl) trivial ?_
  rcases iteS h with ⟨b26_e0, h⟩ | ⟨b26_e0, h⟩
  · refine At.step hm ht ⟨[], [true], [], [0], [0]⟩ 3 ⟨[(0, .one (.c (.ptr 0 0)))], [], [(0, [.d (.int .i64 e_0), .d (.int .i64 e_1), .d (.bool e_2), .d (.int .i64 e_3)])], 1⟩ [e_2 = true] (by kernel_rfl) ⟨b26_e0, trivial⟩ ?_
    refine At.step hm ht ⟨[], [], [], [0, 3], [0]⟩ 4 ⟨[(0, .one (.c (.ptr 0 0))), (3, .one (.c (.d (.int .i64 (IntKind.wrap .i64 ((IntKind.wrap .i64 (Int.tdiv e_0 8)) + (if 1 < e_1 then e_1 else 1)))))))], [], [(0, [.d (.int .i64 e_0), .d (.int .i64 e_1), .d (.bool e_2), .d (.int .i64 e_3)])], 1⟩ [(8 : Int) ≠ 0] (by kernel_rfl) ⟨(by decide), trivial⟩ ?_
    obtain ⟨g28_0, h⟩ := ifS h
    have h := Option.some.inj h
    subst h
    exact At.fin hm ht ⟨[], [], [], [2], [0]⟩ [(0 : Int) ≤ e_3] (by kernel_rfl) ⟨g28_0, trivial⟩
  · refine At.step hm ht ⟨[], [false], [], [0, 3], [0]⟩ 4 ⟨[(0, .one (.c (.ptr 0 0))), (3, .one (.c (.d (.int .i64 8))))], [], [(0, [.d (.int .i64 e_0), .d (.int .i64 e_1), .d (.bool e_2), .d (.int .i64 e_3)])], 1⟩ [e_2 = false] (by kernel_rfl) ⟨b26_e0, trivial⟩ ?_
    obtain ⟨g29_0, h⟩ := ifS h
    have h := Option.some.inj h
    subst h
    exact At.fin hm ht ⟨[], [], [], [2], [0]⟩ [(0 : Int) ≤ e_3] (by kernel_rfl) ⟨g29_0, trivial⟩
/-! (*brougham/rto.Est).Back -/
def f39_rto_Est_Back_in (e_0 : Int) (e_1 : Int) (e_2 : Bool) (e_3 : Int) : Inn := ⟨[.c (.ptr 0 0)], [], [(0, [.d (.int .i64 e_0), .d (.int .i64 e_1), .d (.bool e_2), .d (.int .i64 e_3)])], 1⟩
def f39_rto_Est_Back_out (r : Int × Int × Bool × Int) : Out := ⟨.tup [], [], [(0, [.d (.int .i64 r.1), .d (.int .i64 r.2.1), .d (.bool r.2.2.1), .d (.int .i64 r.2.2.2)])], 1⟩
def f39_rto_Est_Back (e_0 : Int) (e_1 : Int) (e_2 : Bool) (e_3 : Int) : Option (Int × Int × Bool × Int) :=
  some (e_0, e_1, e_2, (if 8 < (IntKind.wrap .i64 (e_3 + 1)) then 8 else (IntKind.wrap .i64 (e_3 + 1))))
theorem f39_rto_Est_Back_ok (e_0 : Int) (e_1 : Int) (e_2 : Bool) (e_3 : Int) (r : Int × Int × Bool × Int) (h : f39_rto_Est_Back e_0 e_1 e_2 e_3 = some r) : FnOK Go.Proofs.Try.prog 39 (f39_rto_Est_Back_in e_0 e_1 e_2 e_3) (f39_rto_Est_Back_out r) := by
  unfold f39_rto_Est_Back at h
  refine At.fn (r := 0) Go.Proofs.Try.func39 rfl (by kernel_rfl) rfl rfl (by kernel_rfl) ?_
  show At Go.Proofs.Try.prog Go.Proofs.Try.f39 1 0 ⟨[(0, .one (.c (.ptr 0 0)))], [], [(0, [.d (.int .i64 e_0), .d (.int .i64 e_1), .d (.bool e_2), .d (.int .i64 e_3)])], 1⟩ _
  have h := Option.some.inj h
  subst h
  exact At.fin hm ht ⟨[], [], [], [], [0]⟩ [3 + 1 ≤ 4] (by kernel_rfl) ⟨(by decide), trivial⟩
/-! (*brougham/rto.Est).Backs -/
def f40_rto_Est_Backs_in (e_0 : Int) (e_1 : Int) (e_2 : Bool) (e_3 : Int) : Inn := ⟨[.c (.ptr 0 0)], [], [(0, [.d (.int .i64 e_0), .d (.int .i64 e_1), .d (.bool e_2), .d (.int .i64 e_3)])], 1⟩
def f40_rto_Est_Backs_out (r : Int × Int × Int × Bool × Int) : Out := ⟨.one (.c (.d (.int .i64 r.1))), [], [(0, [.d (.int .i64 r.2.1), .d (.int .i64 r.2.2.1), .d (.bool r.2.2.2.1), .d (.int .i64 r.2.2.2.2)])], 1⟩
def f40_rto_Est_Backs (e_0 : Int) (e_1 : Int) (e_2 : Bool) (e_3 : Int) : Option (Int × Int × Int × Bool × Int) :=
  some (e_3, e_0, e_1, e_2, e_3)
theorem f40_rto_Est_Backs_ok (e_0 : Int) (e_1 : Int) (e_2 : Bool) (e_3 : Int) (r : Int × Int × Int × Bool × Int) (h : f40_rto_Est_Backs e_0 e_1 e_2 e_3 = some r) : FnOK Go.Proofs.Try.prog 40 (f40_rto_Est_Backs_in e_0 e_1 e_2 e_3) (f40_rto_Est_Backs_out r) := by
  unfold f40_rto_Est_Backs at h
  refine At.fn (r := 0) Go.Proofs.Try.func40 rfl (by kernel_rfl) rfl rfl (by kernel_rfl) ?_
  show At Go.Proofs.Try.prog Go.Proofs.Try.f40 1 0 ⟨[(0, .one (.c (.ptr 0 0)))], [], [(0, [.d (.int .i64 e_0), .d (.int .i64 e_1), .d (.bool e_2), .d (.int .i64 e_3)])], 1⟩ _
  refine At.step hm ht ⟨[], [], [], [0], [0]⟩ 1 ⟨[(0, .one (.c (.ptr 0 0)))], [], [(0, [.d (.int .i64 e_0), .d (.int .i64 e_1), .d (.bool e_2), .d (.int .i64 e_3)])], 1⟩ [] (by kernel_rfl) trivial ?_
  have h := Option.some.inj h
  subst h
  exact At.fin hm ht ⟨[], [], [], [2], [0]⟩ [] (by kernel_rfl) trivial
/-! brougham/broughamlaw12.alive -/
def f41_broughamlaw12_alive_in : Inn := ⟨[], [], [], 0⟩
def f41_broughamlaw12_alive_out (r : Bool) : Out := ⟨.one (.c (.d (.bool r))), [], [], 0⟩
def f41_broughamlaw12_alive : Option (Bool) :=
  (f38_rto_Est_Patience 0 0 false 0).bind fun r62_0 =>
  (f37_rto_Est_Sample 10 r62_0.2.1 r62_0.2.2.1 r62_0.2.2.2.1 r62_0.2.2.2.2).bind fun r63_0 =>
  (f38_rto_Est_Patience r63_0.1 r63_0.2.1 r63_0.2.2.1 r63_0.2.2.2).bind fun r64_0 =>
  (f39_rto_Est_Back r64_0.2.1 r64_0.2.2.1 r64_0.2.2.2.1 r64_0.2.2.2.2).bind fun r65_0 =>
  if ((r62_0.1 : Int) == 8) = true then
    if ((r64_0.1 : Int) == 30) = true then
      (f38_rto_Est_Patience r65_0.1 r65_0.2.1 r65_0.2.2.1 r65_0.2.2.2).bind fun r66_0 =>
      if ((r66_0.1 : Int) == 60) = true then
        (f40_rto_Est_Backs r66_0.2.1 r66_0.2.2.1 r66_0.2.2.2.1 r66_0.2.2.2.2).bind fun r66_1 =>
        some ((r66_1.1 : Int) == 1)
      else
        some false
    else
      some false
  else
    some false
theorem f41_broughamlaw12_alive_ok (r : Bool) (h : f41_broughamlaw12_alive = some r) : FnOK Go.Proofs.Try.prog 41 (f41_broughamlaw12_alive_in) (f41_broughamlaw12_alive_out r) := by
  unfold f41_broughamlaw12_alive at h
  refine At.fn (r := 0) Go.Proofs.Try.func41 rfl (by kernel_rfl) rfl rfl (by kernel_rfl) ?_
  show At Go.Proofs.Try.prog Go.Proofs.Try.f41 0 0 ⟨[], [], [], 0⟩ _
  refine At.step hm ht ⟨[], [], [], [], []⟩ 1 ⟨[], [], [], 0⟩ [] (by kernel_rfl) trivial ?_
  refine At.step hm ht ⟨[], [], [], [1], [1]⟩ 2 ⟨[(1, .one (.c (.ptr 0 0)))], [], [(0, [.d (.int .i64 0), .d (.int .i64 0), .d (.bool false), .d (.int .i64 0)])], 1⟩ [0 + 4 ≤ 4] (by kernel_rfl) ⟨(by decide), trivial⟩ ?_
  obtain ⟨r62_0, cr62_0, h⟩ := bindS h
  refine At.step hm ht ⟨[(0, .call [0] [] (f38_rto_Est_Patience_out r62_0))], [], [], [1, 2], [0]⟩ 3 ⟨[(1, .one (.c (.ptr 0 0))), (2, .one (.c (.d (.int .i64 r62_0.1))))], [], [(0, [.d (.int .i64 r62_0.2.1), .d (.int .i64 r62_0.2.2.1), .d (.bool r62_0.2.2.2.1), .d (.int .i64 r62_0.2.2.2.2)])], 1⟩ [FnOK Go.Proofs.Try.prog 38 (f38_rto_Est_Patience_in 0 0 false 0) (f38_rto_Est_Patience_out r62_0)] (by kernel_rfl) ⟨(f38_rto_Est_Patience_ok 0 0 false 0 r62_0 cr62_0), trivial⟩ ?_
  obtain ⟨r63_0, cr63_0, h⟩ := bindS h
  refine At.step hm ht ⟨[(0, .call [0] [] (f37_rto_Est_Sample_out r63_0))], [], [], [1, 2], [0]⟩ 4 ⟨[(1, .one (.c (.ptr 0 0))), (2, .one (.c (.d (.int .i64 r62_0.1))))], [], [(0, [.d (.int .i64 r63_0.1), .d (.int .i64 r63_0.2.1), .d (.bool r63_0.2.2.1), .d (.int .i64 r63_0.2.2.2)])], 1⟩ [FnOK Go.Proofs.Try.prog 37 (f37_rto_Est_Sample_in 10 r62_0.2.1 r62_0.2.2.1 r62_0.2.2.2.1 r62_0.2.2.2.2) (f37_rto_Est_Sample_out r63_0)] (by kernel_rfl) ⟨(f37_rto_Est_Sample_ok 10 r62_0.2.1 r62_0.2.2.1 r62_0.2.2.2.1 r62_0.2.2.2.2 r63_0 cr63_0), trivial⟩ ?_
  obtain ⟨r64_0, cr64_0, h⟩ := bindS h
  refine At.step hm ht ⟨[(0, .call [0] [] (f38_rto_Est_Patience_out r64_0))], [], [], [1, 2, 3], [0]⟩ 5 ⟨[(1, .one (.c (.ptr 0 0))), (2, .one (.c (.d (.int .i64 r62_0.1)))), (3, .one (.c (.d (.int .i64 r64_0.1))))], [], [(0, [.d (.int .i64 r64_0.2.1), .d (.int .i64 r64_0.2.2.1), .d (.bool r64_0.2.2.2.1), .d (.int .i64 r64_0.2.2.2.2)])], 1⟩ [FnOK Go.Proofs.Try.prog 38 (f38_rto_Est_Patience_in r63_0.1 r63_0.2.1 r63_0.2.2.1 r63_0.2.2.2) (f38_rto_Est_Patience_out r64_0)] (by kernel_rfl) ⟨(f38_rto_Est_Patience_ok r63_0.1 r63_0.2.1 r63_0.2.2.1 r63_0.2.2.2 r64_0 cr64_0), trivial⟩ ?_
  obtain ⟨r65_0, cr65_0, h⟩ := bindS h
  refine At.step hm ht ⟨[(0, .call [0] [] (f39_rto_Est_Back_out r65_0))], [], [], [1, 2, 3], [0]⟩ 6 ⟨[(1, .one (.c (.ptr 0 0))), (2, .one (.c (.d (.int .i64 r62_0.1)))), (3, .one (.c (.d (.int .i64 r64_0.1))))], [], [(0, [.d (.int .i64 r65_0.1), .d (.int .i64 r65_0.2.1), .d (.bool r65_0.2.2.1), .d (.int .i64 r65_0.2.2.2)])], 1⟩ [FnOK Go.Proofs.Try.prog 39 (f39_rto_Est_Back_in r64_0.2.1 r64_0.2.2.1 r64_0.2.2.2.1 r64_0.2.2.2.2) (f39_rto_Est_Back_out r65_0)] (by kernel_rfl) ⟨(f39_rto_Est_Back_ok r64_0.2.1 r64_0.2.2.1 r64_0.2.2.2.1 r64_0.2.2.2.2 r65_0 cr65_0), trivial⟩ ?_
  rcases iteS h with ⟨b66_2, h⟩ | ⟨b66_2, h⟩
  · rcases iteS h with ⟨b66_6, h⟩ | ⟨b66_6, h⟩
    · obtain ⟨r66_0, cr66_0, h⟩ := bindS h
      rcases iteS h with ⟨b66_10, h⟩ | ⟨b66_10, h⟩
      · obtain ⟨r66_1, cr66_1, h⟩ := bindS h
        have h := Option.some.inj h
        subst h
        exact At.fin hm ht ⟨[(2, .b true), (6, .b true), (7, .call [0] [] (f38_rto_Est_Patience_out r66_0)), (10, .b true), (11, .call [0] [] (f40_rto_Est_Backs_out r66_1))], [], [], [0], []⟩ [((r62_0.1 : Int) == 8) = true, ((r64_0.1 : Int) == 30) = true, FnOK Go.Proofs.Try.prog 38 (f38_rto_Est_Patience_in r65_0.1 r65_0.2.1 r65_0.2.2.1 r65_0.2.2.2) (f38_rto_Est_Patience_out r66_0), ((r66_0.1 : Int) == 60) = true, FnOK Go.Proofs.Try.prog 40 (f40_rto_Est_Backs_in r66_0.2.1 r66_0.2.2.1 r66_0.2.2.2.1 r66_0.2.2.2.2) (f40_rto_Est_Backs_out r66_1)] (by kernel_rfl) ⟨b66_2, b66_6, (f38_rto_Est_Patience_ok r65_0.1 r65_0.2.1 r65_0.2.2.1 r65_0.2.2.2 r66_0 cr66_0), b66_10, (f40_rto_Est_Backs_ok r66_0.2.1 r66_0.2.2.1 r66_0.2.2.2.1 r66_0.2.2.2.2 r66_1 cr66_1), trivial⟩
      · have h := Option.some.inj h
        subst h
        exact At.fin hm ht ⟨[(2, .b true), (6, .b true), (7, .call [0] [] (f38_rto_Est_Patience_out r66_0)), (10, .b false)], [], [], [0], []⟩ [((r62_0.1 : Int) == 8) = true, ((r64_0.1 : Int) == 30) = true, FnOK Go.Proofs.Try.prog 38 (f38_rto_Est_Patience_in r65_0.1 r65_0.2.1 r65_0.2.2.1 r65_0.2.2.2) (f38_rto_Est_Patience_out r66_0), ((r66_0.1 : Int) == 60) = false] (by kernel_rfl) ⟨b66_2, b66_6, (f38_rto_Est_Patience_ok r65_0.1 r65_0.2.1 r65_0.2.2.1 r65_0.2.2.2 r66_0 cr66_0), b66_10, trivial⟩
    · have h := Option.some.inj h
      subst h
      exact At.fin hm ht ⟨[(2, .b true), (6, .b false)], [], [], [0], []⟩ [((r62_0.1 : Int) == 8) = true, ((r64_0.1 : Int) == 30) = false] (by kernel_rfl) ⟨b66_2, b66_6, trivial⟩
  · have h := Option.some.inj h
    subst h
    exact At.fin hm ht ⟨[(2, .b false)], [], [], [0], []⟩ [((r62_0.1 : Int) == 8) = false] (by kernel_rfl) ⟨b66_2, trivial⟩
/-! brougham/broughamlaw12.RtoBacks -/
def f10_broughamlaw12_RtoBacks_in (l : List Int) (backs : Int) : Inn := ⟨[.c (.d (.sl (.int .i64) l)), .c (.d (.int .i64 backs))], [], [], 0⟩
def f10_broughamlaw12_RtoBacks_out (r : Bool) : Out := ⟨.one (.c (.d (.bool r))), [], [], 0⟩
def f10_broughamlaw12_RtoBacks_L5 : Nat → (List Int) → Int → Int → Int → Int → Bool → Int → Option (Int × Int × Int × Bool × Int)
  | 0, _, _, _, _, _, _, _ => none
  | n + 1, l, backs, i, e_0, e_1, e_2, e_3 =>
    if (decide ((i : Int) < ((l.length : Nat) : Int))) = true then
      if (0 : Int) ≤ i ∧ i < (((l).length : Nat) : Int) then
      (f37_rto_Est_Sample (l.getD i.toNat 0) e_0 e_1 e_2 e_3).bind fun r9_1 =>
      f10_broughamlaw12_RtoBacks_L5 n l backs (IntKind.wrap .i64 (i + 1)) r9_1.1 r9_1.2.1 r9_1.2.2.1 r9_1.2.2.2
      else none
    else
      some ((backs, e_0, e_1, e_2, e_3))
def f10_broughamlaw12_RtoBacks_L5_k (e : Int × Int × Int × Bool × Int) (o : Out) : Prop := At Go.Proofs.Try.prog Go.Proofs.Try.f10 0 8 ⟨[(1, .one (.c (.d (.int .i64 e.1)))), (5, .one (.c (.ptr 0 0)))], [], [(0, [.d (.int .i64 e.2.1), .d (.int .i64 e.2.2.1), .d (.bool e.2.2.2.1), .d (.int .i64 e.2.2.2.2)])], 1⟩ o
theorem f10_broughamlaw12_RtoBacks_L5_ok (n : Nat) : ∀ (l : List Int) (backs : Int) (i : Int) (e_0 : Int) (e_1 : Int) (e_2 : Bool) (e_3 : Int) (w : Int × Int × Int × Bool × Int) (h : f10_broughamlaw12_RtoBacks_L5 n l backs i e_0 e_1 e_2 e_3 = some w) (o : Out) (hk : f10_broughamlaw12_RtoBacks_L5_k w o), At Go.Proofs.Try.prog Go.Proofs.Try.f10 0 5 ⟨[(0, .one (.c (.d (.sl (.int .i64) l)))), (1, .one (.c (.d (.int .i64 backs)))), (5, .one (.c (.ptr 0 0))), (6, .one (.c (.d (.int .i64 i))))], [], [(0, [.d (.int .i64 e_0), .d (.int .i64 e_1), .d (.bool e_2), .d (.int .i64 e_3)])], 1⟩ o := by
  induction n with
  | zero => intro l backs i e_0 e_1 e_2 e_3 w h; rw [f10_broughamlaw12_RtoBacks_L5] at h; cases h
  | succ n ih =>
    intro l backs i e_0 e_1 e_2 e_3 w h o hk
    rw [f10_broughamlaw12_RtoBacks_L5] at h
    rcases iteS h with ⟨b8_e0, h⟩ | ⟨b8_e0, h⟩
    · refine At.step hm ht ⟨[], [true], [], [0, 1, 5, 6], [0]⟩ 7 ⟨[(0, .one (.c (.d (.sl (.int .i64) l)))), (1, .one (.c (.d (.int .i64 backs)))), (5, .one (.c (.ptr 0 0))), (6, .one (.c (.d (.int .i64 i))))], [], [(0, [.d (.int .i64 e_0), .d (.int .i64 e_1), .d (.bool e_2), .d (.int .i64 e_3)])], 1⟩ [(decide ((i : Int) < ((l.length : Nat) : Int))) = true] (by kernel_rfl) ⟨b8_e0, trivial⟩ ?_
      obtain ⟨g9_0, h⟩ := ifS h
      obtain ⟨r9_1, cr9_1, h⟩ := bindS h
      refine At.step hm ht ⟨[(4, .call [0] [] (f37_rto_Est_Sample_out r9_1))], [], [], [0, 1, 5, 6], [0]⟩ 6 ⟨[(0, .one (.c (.d (.sl (.int .i64) l)))), (1, .one (.c (.d (.int .i64 backs)))), (5, .one (.c (.ptr 0 0))), (6, .one (.c (.d (.int .i64 i))))], [], [(0, [.d (.int .i64 r9_1.1), .d (.int .i64 r9_1.2.1), .d (.bool r9_1.2.2.1), .d (.int .i64 r9_1.2.2.2)])], 1⟩ [(0 : Int) ≤ i ∧ i < (((l).length : Nat) : Int), FnOK Go.Proofs.Try.prog 37 (f37_rto_Est_Sample_in (l.getD i.toNat 0) e_0 e_1 e_2 e_3) (f37_rto_Est_Sample_out r9_1)] (by kernel_rfl) ⟨g9_0, (f37_rto_Est_Sample_ok (l.getD i.toNat 0) e_0 e_1 e_2 e_3 r9_1 cr9_1), trivial⟩ ?_
      refine At.step hm ht ⟨[], [], [], [0, 1, 5, 6], [0]⟩ 5 ⟨[(0, .one (.c (.d (.sl (.int .i64) l)))), (1, .one (.c (.d (.int .i64 backs)))), (5, .one (.c (.ptr 0 0))), (6, .one (.c (.d (.int .i64 (IntKind.wrap .i64 (i + 1))))))], [], [(0, [.d (.int .i64 r9_1.1), .d (.int .i64 r9_1.2.1), .d (.bool r9_1.2.2.1), .d (.int .i64 r9_1.2.2.2)])], 1⟩ [] (by kernel_rfl) trivial ?_
      exact ih l backs (IntKind.wrap .i64 (i + 1)) r9_1.1 r9_1.2.1 r9_1.2.2.1 r9_1.2.2.2 w h o hk
    · refine At.step hm ht ⟨[], [false], [], [1, 5], [0]⟩ 8 ⟨[(1, .one (.c (.d (.int .i64 backs)))), (5, .one (.c (.ptr 0 0)))], [], [(0, [.d (.int .i64 e_0), .d (.int .i64 e_1), .d (.bool e_2), .d (.int .i64 e_3)])], 1⟩ [(decide ((i : Int) < ((l.length : Nat) : Int))) = false] (by kernel_rfl) ⟨b8_e0, trivial⟩ ?_
      have h := Option.some.inj h
      subst h
      exact hk
def f10_broughamlaw12_RtoBacks_L10 : Nat → Int → Int → Int → Int → Int → Bool → Int → Option ((Bool) ⊕ (Int × Int × Bool × Int))
  | 0, _, _, _, _, _, _, _ => none
  | n + 1, backs, n_, i, e_0, e_1, e_2, e_3 =>
    if (decide ((i : Int) < backs)) = true then
      (f39_rto_Est_Back e_0 e_1 e_2 e_3).bind fun r32_0 =>
      if (decide ((i : Int) ≥ 8)) = true then
        if (decide (((IntKind.wrap .i64 (Int.tdiv (IntKind.wrap .i64 (2 * n_)) 2)) : Int) > 256)) = true then
          (f38_rto_Est_Patience r32_0.1 r32_0.2.1 r32_0.2.2.1 r32_0.2.2.2).bind fun r39_0 =>
          if ((r39_0.1 : Int) != 256) = true then
            some (.inl false)
          else
            f10_broughamlaw12_RtoBacks_L10 n backs 256 (IntKind.wrap .i64 (i + 1)) r39_0.2.1 r39_0.2.2.1 r39_0.2.2.2.1 r39_0.2.2.2.2
        else
          (f38_rto_Est_Patience r32_0.1 r32_0.2.1 r32_0.2.2.1 r32_0.2.2.2).bind fun r42_0 =>
          if ((r42_0.1 : Int) != (IntKind.wrap .i64 (Int.tdiv (IntKind.wrap .i64 (2 * n_)) 2))) = true then
            some (.inl false)
          else
            f10_broughamlaw12_RtoBacks_L10 n backs (IntKind.wrap .i64 (Int.tdiv (IntKind.wrap .i64 (2 * n_)) 2)) (IntKind.wrap .i64 (i + 1)) r42_0.2.1 r42_0.2.2.1 r42_0.2.2.2.1 r42_0.2.2.2.2
      else
        if (decide (((IntKind.wrap .i64 (2 * n_)) : Int) > 256)) = true then
          (f38_rto_Est_Patience r32_0.1 r32_0.2.1 r32_0.2.2.1 r32_0.2.2.2).bind fun r47_0 =>
          if ((r47_0.1 : Int) != 256) = true then
            some (.inl false)
          else
            f10_broughamlaw12_RtoBacks_L10 n backs 256 (IntKind.wrap .i64 (i + 1)) r47_0.2.1 r47_0.2.2.1 r47_0.2.2.2.1 r47_0.2.2.2.2
        else
          (f38_rto_Est_Patience r32_0.1 r32_0.2.1 r32_0.2.2.1 r32_0.2.2.2).bind fun r50_0 =>
          if ((r50_0.1 : Int) != (IntKind.wrap .i64 (2 * n_))) = true then
            some (.inl false)
          else
            f10_broughamlaw12_RtoBacks_L10 n backs (IntKind.wrap .i64 (2 * n_)) (IntKind.wrap .i64 (i + 1)) r50_0.2.1 r50_0.2.2.1 r50_0.2.2.2.1 r50_0.2.2.2.2
    else
      some (.inr ((e_0, e_1, e_2, e_3)))
def f10_broughamlaw12_RtoBacks_L10_k (w : (Bool) ⊕ (Int × Int × Bool × Int)) (o : Out) : Prop := match w with
  | .inl e => o = f10_broughamlaw12_RtoBacks_out e
  | .inr e => At Go.Proofs.Try.prog Go.Proofs.Try.f10 0 20 ⟨[(5, .one (.c (.ptr 0 0)))], [], [(0, [.d (.int .i64 e.1), .d (.int .i64 e.2.1), .d (.bool e.2.2.1), .d (.int .i64 e.2.2.2)])], 1⟩ o
theorem f10_broughamlaw12_RtoBacks_L10_ok (n : Nat) : ∀ (backs : Int) (n_ : Int) (i : Int) (e_0 : Int) (e_1 : Int) (e_2 : Bool) (e_3 : Int) (w : (Bool) ⊕ (Int × Int × Bool × Int)) (h : f10_broughamlaw12_RtoBacks_L10 n backs n_ i e_0 e_1 e_2 e_3 = some w) (o : Out) (hk : f10_broughamlaw12_RtoBacks_L10_k w o), At Go.Proofs.Try.prog Go.Proofs.Try.f10 0 10 ⟨[(1, .one (.c (.d (.int .i64 backs)))), (5, .one (.c (.ptr 0 0))), (7, .one (.c (.d (.int .i64 n_)))), (8, .one (.c (.d (.int .i64 i))))], [], [(0, [.d (.int .i64 e_0), .d (.int .i64 e_1), .d (.bool e_2), .d (.int .i64 e_3)])], 1⟩ o := by
  induction n with
  | zero => intro backs n_ i e_0 e_1 e_2 e_3 w h; rw [f10_broughamlaw12_RtoBacks_L10] at h; cases h
  | succ n ih =>
    intro backs n_ i e_0 e_1 e_2 e_3 w h o hk
    rw [f10_broughamlaw12_RtoBacks_L10] at h
    rcases iteS h with ⟨b31_e0, h⟩ | ⟨b31_e0, h⟩
    · refine At.step hm ht ⟨[], [true], [], [1, 5, 7, 8], [0]⟩ 12 ⟨[(1, .one (.c (.d (.int .i64 backs)))), (5, .one (.c (.ptr 0 0))), (7, .one (.c (.d (.int .i64 n_)))), (8, .one (.c (.d (.int .i64 i))))], [], [(0, [.d (.int .i64 e_0), .d (.int .i64 e_1), .d (.bool e_2), .d (.int .i64 e_3)])], 1⟩ [(decide ((i : Int) < backs)) = true] (by kernel_rfl) ⟨b31_e0, trivial⟩ ?_
      obtain ⟨r32_0, cr32_0, h⟩ := bindS h
      refine At.step hm ht ⟨[(0, .call [0] [] (f39_rto_Est_Back_out r32_0))], [], [], [1, 5, 7, 8], [0]⟩ 13 ⟨[(1, .one (.c (.d (.int .i64 backs)))), (5, .one (.c (.ptr 0 0))), (7, .one (.c (.d (.int .i64 n_)))), (8, .one (.c (.d (.int .i64 i))))], [], [(0, [.d (.int .i64 r32_0.1), .d (.int .i64 r32_0.2.1), .d (.bool r32_0.2.2.1), .d (.int .i64 r32_0.2.2.2)])], 1⟩ [FnOK Go.Proofs.Try.prog 39 (f39_rto_Est_Back_in e_0 e_1 e_2 e_3) (f39_rto_Est_Back_out r32_0)] (by kernel_rfl) ⟨(f39_rto_Est_Back_ok e_0 e_1 e_2 e_3 r32_0 cr32_0), trivial⟩ ?_
      refine At.step hm ht ⟨[], [], [], [1, 5, 7, 8], [0]⟩ 14 ⟨[(1, .one (.c (.d (.int .i64 backs)))), (5, .one (.c (.ptr 0 0))), (7, .one (.c (.d (.int .i64 (IntKind.wrap .i64 (2 * n_)))))), (8, .one (.c (.d (.int .i64 i))))], [], [(0, [.d (.int .i64 r32_0.1), .d (.int .i64 r32_0.2.1), .d (.bool r32_0.2.2.1), .d (.int .i64 r32_0.2.2.2)])], 1⟩ [] (by kernel_rfl) trivial ?_
      rcases iteS h with ⟨b35_e0, h⟩ | ⟨b35_e0, h⟩
      · refine At.step hm ht ⟨[], [true], [], [1, 5, 7, 8], [0]⟩ 15 ⟨[(1, .one (.c (.d (.int .i64 backs)))), (5, .one (.c (.ptr 0 0))), (7, .one (.c (.d (.int .i64 (IntKind.wrap .i64 (2 * n_)))))), (8, .one (.c (.d (.int .i64 i))))], [], [(0, [.d (.int .i64 r32_0.1), .d (.int .i64 r32_0.2.1), .d (.bool r32_0.2.2.1), .d (.int .i64 r32_0.2.2.2)])], 1⟩ [(decide ((i : Int) ≥ 8)) = true] (by kernel_rfl) ⟨b35_e0, trivial⟩ ?_
        refine At.step hm ht ⟨[], [], [], [1, 5, 7, 8], [0]⟩ 16 ⟨[(1, .one (.c (.d (.int .i64 backs)))), (5, .one (.c (.ptr 0 0))), (7, .one (.c (.d (.int .i64 (IntKind.wrap .i64 (Int.tdiv (IntKind.wrap .i64 (2 * n_)) 2)))))), (8, .one (.c (.d (.int .i64 i))))], [], [(0, [.d (.int .i64 r32_0.1), .d (.int .i64 r32_0.2.1), .d (.bool r32_0.2.2.1), .d (.int .i64 r32_0.2.2.2)])], 1⟩ [(2 : Int) ≠ 0] (by kernel_rfl) ⟨(by decide), trivial⟩ ?_
        rcases iteS h with ⟨b37_e0, h⟩ | ⟨b37_e0, h⟩
        · refine At.step hm ht ⟨[], [true], [], [1, 5, 8], [0]⟩ 17 ⟨[(1, .one (.c (.d (.int .i64 backs)))), (5, .one (.c (.ptr 0 0))), (8, .one (.c (.d (.int .i64 i))))], [], [(0, [.d (.int .i64 r32_0.1), .d (.int .i64 r32_0.2.1), .d (.bool r32_0.2.2.1), .d (.int .i64 r32_0.2.2.2)])], 1⟩ [(decide (((IntKind.wrap .i64 (Int.tdiv (IntKind.wrap .i64 (2 * n_)) 2)) : Int) > 256)) = true] (by kernel_rfl) ⟨b37_e0, trivial⟩ ?_
          refine At.step hm ht ⟨[], [], [], [1, 5, 7, 8], [0]⟩ 18 ⟨[(1, .one (.c (.d (.int .i64 backs)))), (5, .one (.c (.ptr 0 0))), (7, .one (.c (.d (.int .i64 256)))), (8, .one (.c (.d (.int .i64 i))))], [], [(0, [.d (.int .i64 r32_0.1), .d (.int .i64 r32_0.2.1), .d (.bool r32_0.2.2.1), .d (.int .i64 r32_0.2.2.2)])], 1⟩ [] (by kernel_rfl) trivial ?_
          obtain ⟨r39_0, cr39_0, h⟩ := bindS h
          rcases iteS h with ⟨b39_e0, h⟩ | ⟨b39_e0, h⟩
          · refine At.step hm ht ⟨[(0, .call [0] [] (f38_rto_Est_Patience_out r39_0))], [true], [], [], []⟩ 19 ⟨[], [], [], 0⟩ [FnOK Go.Proofs.Try.prog 38 (f38_rto_Est_Patience_in r32_0.1 r32_0.2.1 r32_0.2.2.1 r32_0.2.2.2) (f38_rto_Est_Patience_out r39_0), ((r39_0.1 : Int) != 256) = true] (by kernel_rfl) ⟨(f38_rto_Est_Patience_ok r32_0.1 r32_0.2.1 r32_0.2.2.1 r32_0.2.2.2 r39_0 cr39_0), b39_e0, trivial⟩ ?_
            have h := Option.some.inj h
            subst h
            have hk : o = f10_broughamlaw12_RtoBacks_out false := hk
            subst hk
            exact At.fin hm ht ⟨[], [], [], [4], []⟩ [] (by kernel_rfl) trivial
          · refine At.step hm ht ⟨[(0, .call [0] [] (f38_rto_Est_Patience_out r39_0))], [false], [], [1, 5, 7, 8], [0]⟩ 11 ⟨[(1, .one (.c (.d (.int .i64 backs)))), (5, .one (.c (.ptr 0 0))), (7, .one (.c (.d (.int .i64 256)))), (8, .one (.c (.d (.int .i64 i))))], [], [(0, [.d (.int .i64 r39_0.2.1), .d (.int .i64 r39_0.2.2.1), .d (.bool r39_0.2.2.2.1), .d (.int .i64 r39_0.2.2.2.2)])], 1⟩ [FnOK Go.Proofs.Try.prog 38 (f38_rto_Est_Patience_in r32_0.1 r32_0.2.1 r32_0.2.2.1 r32_0.2.2.2) (f38_rto_Est_Patience_out r39_0), ((r39_0.1 : Int) != 256) = false] (by kernel_rfl) ⟨(f38_rto_Est_Patience_ok r32_0.1 r32_0.2.1 r32_0.2.2.1 r32_0.2.2.2 r39_0 cr39_0), b39_e0, trivial⟩ ?_
            refine At.step hm ht ⟨[], [], [], [1, 5, 7, 8], [0]⟩ 10 ⟨[(1, .one (.c (.d (.int .i64 backs)))), (5, .one (.c (.ptr 0 0))), (7, .one (.c (.d (.int .i64 256)))), (8, .one (.c (.d (.int .i64 (IntKind.wrap .i64 (i + 1))))))], [], [(0, [.d (.int .i64 r39_0.2.1), .d (.int .i64 r39_0.2.2.1), .d (.bool r39_0.2.2.2.1), .d (.int .i64 r39_0.2.2.2.2)])], 1⟩ [] (by kernel_rfl) trivial ?_
            exact ih backs 256 (IntKind.wrap .i64 (i + 1)) r39_0.2.1 r39_0.2.2.1 r39_0.2.2.2.1 r39_0.2.2.2.2 w h o hk
        · refine At.step hm ht ⟨[], [false], [], [1, 5, 7, 8], [0]⟩ 18 ⟨[(1, .one (.c (.d (.int .i64 backs)))), (5, .one (.c (.ptr 0 0))), (7, .one (.c (.d (.int .i64 (IntKind.wrap .i64 (Int.tdiv (IntKind.wrap .i64 (2 * n_)) 2)))))), (8, .one (.c (.d (.int .i64 i))))], [], [(0, [.d (.int .i64 r32_0.1), .d (.int .i64 r32_0.2.1), .d (.bool r32_0.2.2.1), .d (.int .i64 r32_0.2.2.2)])], 1⟩ [(decide (((IntKind.wrap .i64 (Int.tdiv (IntKind.wrap .i64 (2 * n_)) 2)) : Int) > 256)) = false] (by kernel_rfl) ⟨b37_e0, trivial⟩ ?_
          obtain ⟨r42_0, cr42_0, h⟩ := bindS h
          rcases iteS h with ⟨b42_e0, h⟩ | ⟨b42_e0, h⟩
          · refine At.step hm ht ⟨[(0, .call [0] [] (f38_rto_Est_Patience_out r42_0))], [true], [], [], []⟩ 19 ⟨[], [], [], 0⟩ [FnOK Go.Proofs.Try.prog 38 (f38_rto_Est_Patience_in r32_0.1 r32_0.2.1 r32_0.2.2.1 r32_0.2.2.2) (f38_rto_Est_Patience_out r42_0), ((r42_0.1 : Int) != (IntKind.wrap .i64 (Int.tdiv (IntKind.wrap .i64 (2 * n_)) 2))) = true] (by kernel_rfl) ⟨(f38_rto_Est_Patience_ok r32_0.1 r32_0.2.1 r32_0.2.2.1 r32_0.2.2.2 r42_0 cr42_0), b42_e0, trivial⟩ ?_
            have h := Option.some.inj h
            subst h
            have hk : o = f10_broughamlaw12_RtoBacks_out false := hk
            subst hk
            exact At.fin hm ht ⟨[], [], [], [4], []⟩ [] (by kernel_rfl) trivial
          · refine At.step hm ht ⟨[(0, .call [0] [] (f38_rto_Est_Patience_out r42_0))], [false], [], [1, 5, 7, 8], [0]⟩ 11 ⟨[(1, .one (.c (.d (.int .i64 backs)))), (5, .one (.c (.ptr 0 0))), (7, .one (.c (.d (.int .i64 (IntKind.wrap .i64 (Int.tdiv (IntKind.wrap .i64 (2 * n_)) 2)))))), (8, .one (.c (.d (.int .i64 i))))], [], [(0, [.d (.int .i64 r42_0.2.1), .d (.int .i64 r42_0.2.2.1), .d (.bool r42_0.2.2.2.1), .d (.int .i64 r42_0.2.2.2.2)])], 1⟩ [FnOK Go.Proofs.Try.prog 38 (f38_rto_Est_Patience_in r32_0.1 r32_0.2.1 r32_0.2.2.1 r32_0.2.2.2) (f38_rto_Est_Patience_out r42_0), ((r42_0.1 : Int) != (IntKind.wrap .i64 (Int.tdiv (IntKind.wrap .i64 (2 * n_)) 2))) = false] (by kernel_rfl) ⟨(f38_rto_Est_Patience_ok r32_0.1 r32_0.2.1 r32_0.2.2.1 r32_0.2.2.2 r42_0 cr42_0), b42_e0, trivial⟩ ?_
            refine At.step hm ht ⟨[], [], [], [1, 5, 7, 8], [0]⟩ 10 ⟨[(1, .one (.c (.d (.int .i64 backs)))), (5, .one (.c (.ptr 0 0))), (7, .one (.c (.d (.int .i64 (IntKind.wrap .i64 (Int.tdiv (IntKind.wrap .i64 (2 * n_)) 2)))))), (8, .one (.c (.d (.int .i64 (IntKind.wrap .i64 (i + 1))))))], [], [(0, [.d (.int .i64 r42_0.2.1), .d (.int .i64 r42_0.2.2.1), .d (.bool r42_0.2.2.2.1), .d (.int .i64 r42_0.2.2.2.2)])], 1⟩ [] (by kernel_rfl) trivial ?_
            exact ih backs (IntKind.wrap .i64 (Int.tdiv (IntKind.wrap .i64 (2 * n_)) 2)) (IntKind.wrap .i64 (i + 1)) r42_0.2.1 r42_0.2.2.1 r42_0.2.2.2.1 r42_0.2.2.2.2 w h o hk
      · refine At.step hm ht ⟨[], [false], [], [1, 5, 7, 8], [0]⟩ 16 ⟨[(1, .one (.c (.d (.int .i64 backs)))), (5, .one (.c (.ptr 0 0))), (7, .one (.c (.d (.int .i64 (IntKind.wrap .i64 (2 * n_)))))), (8, .one (.c (.d (.int .i64 i))))], [], [(0, [.d (.int .i64 r32_0.1), .d (.int .i64 r32_0.2.1), .d (.bool r32_0.2.2.1), .d (.int .i64 r32_0.2.2.2)])], 1⟩ [(decide ((i : Int) ≥ 8)) = false] (by kernel_rfl) ⟨b35_e0, trivial⟩ ?_
        rcases iteS h with ⟨b45_e0, h⟩ | ⟨b45_e0, h⟩
        · refine At.step hm ht ⟨[], [true], [], [1, 5, 8], [0]⟩ 17 ⟨[(1, .one (.c (.d (.int .i64 backs)))), (5, .one (.c (.ptr 0 0))), (8, .one (.c (.d (.int .i64 i))))], [], [(0, [.d (.int .i64 r32_0.1), .d (.int .i64 r32_0.2.1), .d (.bool r32_0.2.2.1), .d (.int .i64 r32_0.2.2.2)])], 1⟩ [(decide (((IntKind.wrap .i64 (2 * n_)) : Int) > 256)) = true] (by kernel_rfl) ⟨b45_e0, trivial⟩ ?_
          refine At.step hm ht ⟨[], [], [], [1, 5, 7, 8], [0]⟩ 18 ⟨[(1, .one (.c (.d (.int .i64 backs)))), (5, .one (.c (.ptr 0 0))), (7, .one (.c (.d (.int .i64 256)))), (8, .one (.c (.d (.int .i64 i))))], [], [(0, [.d (.int .i64 r32_0.1), .d (.int .i64 r32_0.2.1), .d (.bool r32_0.2.2.1), .d (.int .i64 r32_0.2.2.2)])], 1⟩ [] (by kernel_rfl) trivial ?_
          obtain ⟨r47_0, cr47_0, h⟩ := bindS h
          rcases iteS h with ⟨b47_e0, h⟩ | ⟨b47_e0, h⟩
          · refine At.step hm ht ⟨[(0, .call [0] [] (f38_rto_Est_Patience_out r47_0))], [true], [], [], []⟩ 19 ⟨[], [], [], 0⟩ [FnOK Go.Proofs.Try.prog 38 (f38_rto_Est_Patience_in r32_0.1 r32_0.2.1 r32_0.2.2.1 r32_0.2.2.2) (f38_rto_Est_Patience_out r47_0), ((r47_0.1 : Int) != 256) = true] (by kernel_rfl) ⟨(f38_rto_Est_Patience_ok r32_0.1 r32_0.2.1 r32_0.2.2.1 r32_0.2.2.2 r47_0 cr47_0), b47_e0, trivial⟩ ?_
            have h := Option.some.inj h
            subst h
            have hk : o = f10_broughamlaw12_RtoBacks_out false := hk
            subst hk
            exact At.fin hm ht ⟨[], [], [], [4], []⟩ [] (by kernel_rfl) trivial
          · refine At.step hm ht ⟨[(0, .call [0] [] (f38_rto_Est_Patience_out r47_0))], [false], [], [1, 5, 7, 8], [0]⟩ 11 ⟨[(1, .one (.c (.d (.int .i64 backs)))), (5, .one (.c (.ptr 0 0))), (7, .one (.c (.d (.int .i64 256)))), (8, .one (.c (.d (.int .i64 i))))], [], [(0, [.d (.int .i64 r47_0.2.1), .d (.int .i64 r47_0.2.2.1), .d (.bool r47_0.2.2.2.1), .d (.int .i64 r47_0.2.2.2.2)])], 1⟩ [FnOK Go.Proofs.Try.prog 38 (f38_rto_Est_Patience_in r32_0.1 r32_0.2.1 r32_0.2.2.1 r32_0.2.2.2) (f38_rto_Est_Patience_out r47_0), ((r47_0.1 : Int) != 256) = false] (by kernel_rfl) ⟨(f38_rto_Est_Patience_ok r32_0.1 r32_0.2.1 r32_0.2.2.1 r32_0.2.2.2 r47_0 cr47_0), b47_e0, trivial⟩ ?_
            refine At.step hm ht ⟨[], [], [], [1, 5, 7, 8], [0]⟩ 10 ⟨[(1, .one (.c (.d (.int .i64 backs)))), (5, .one (.c (.ptr 0 0))), (7, .one (.c (.d (.int .i64 256)))), (8, .one (.c (.d (.int .i64 (IntKind.wrap .i64 (i + 1))))))], [], [(0, [.d (.int .i64 r47_0.2.1), .d (.int .i64 r47_0.2.2.1), .d (.bool r47_0.2.2.2.1), .d (.int .i64 r47_0.2.2.2.2)])], 1⟩ [] (by kernel_rfl) trivial ?_
            exact ih backs 256 (IntKind.wrap .i64 (i + 1)) r47_0.2.1 r47_0.2.2.1 r47_0.2.2.2.1 r47_0.2.2.2.2 w h o hk
        · refine At.step hm ht ⟨[], [false], [], [1, 5, 7, 8], [0]⟩ 18 ⟨[(1, .one (.c (.d (.int .i64 backs)))), (5, .one (.c (.ptr 0 0))), (7, .one (.c (.d (.int .i64 (IntKind.wrap .i64 (2 * n_)))))), (8, .one (.c (.d (.int .i64 i))))], [], [(0, [.d (.int .i64 r32_0.1), .d (.int .i64 r32_0.2.1), .d (.bool r32_0.2.2.1), .d (.int .i64 r32_0.2.2.2)])], 1⟩ [(decide (((IntKind.wrap .i64 (2 * n_)) : Int) > 256)) = false] (by kernel_rfl) ⟨b45_e0, trivial⟩ ?_
          obtain ⟨r50_0, cr50_0, h⟩ := bindS h
          rcases iteS h with ⟨b50_e0, h⟩ | ⟨b50_e0, h⟩
          · refine At.step hm ht ⟨[(0, .call [0] [] (f38_rto_Est_Patience_out r50_0))], [true], [], [], []⟩ 19 ⟨[], [], [], 0⟩ [FnOK Go.Proofs.Try.prog 38 (f38_rto_Est_Patience_in r32_0.1 r32_0.2.1 r32_0.2.2.1 r32_0.2.2.2) (f38_rto_Est_Patience_out r50_0), ((r50_0.1 : Int) != (IntKind.wrap .i64 (2 * n_))) = true] (by kernel_rfl) ⟨(f38_rto_Est_Patience_ok r32_0.1 r32_0.2.1 r32_0.2.2.1 r32_0.2.2.2 r50_0 cr50_0), b50_e0, trivial⟩ ?_
            have h := Option.some.inj h
            subst h
            have hk : o = f10_broughamlaw12_RtoBacks_out false := hk
            subst hk
            exact At.fin hm ht ⟨[], [], [], [4], []⟩ [] (by kernel_rfl) trivial
          · refine At.step hm ht ⟨[(0, .call [0] [] (f38_rto_Est_Patience_out r50_0))], [false], [], [1, 5, 7, 8], [0]⟩ 11 ⟨[(1, .one (.c (.d (.int .i64 backs)))), (5, .one (.c (.ptr 0 0))), (7, .one (.c (.d (.int .i64 (IntKind.wrap .i64 (2 * n_)))))), (8, .one (.c (.d (.int .i64 i))))], [], [(0, [.d (.int .i64 r50_0.2.1), .d (.int .i64 r50_0.2.2.1), .d (.bool r50_0.2.2.2.1), .d (.int .i64 r50_0.2.2.2.2)])], 1⟩ [FnOK Go.Proofs.Try.prog 38 (f38_rto_Est_Patience_in r32_0.1 r32_0.2.1 r32_0.2.2.1 r32_0.2.2.2) (f38_rto_Est_Patience_out r50_0), ((r50_0.1 : Int) != (IntKind.wrap .i64 (2 * n_))) = false] (by kernel_rfl) ⟨(f38_rto_Est_Patience_ok r32_0.1 r32_0.2.1 r32_0.2.2.1 r32_0.2.2.2 r50_0 cr50_0), b50_e0, trivial⟩ ?_
            refine At.step hm ht ⟨[], [], [], [1, 5, 7, 8], [0]⟩ 10 ⟨[(1, .one (.c (.d (.int .i64 backs)))), (5, .one (.c (.ptr 0 0))), (7, .one (.c (.d (.int .i64 (IntKind.wrap .i64 (2 * n_)))))), (8, .one (.c (.d (.int .i64 (IntKind.wrap .i64 (i + 1))))))], [], [(0, [.d (.int .i64 r50_0.2.1), .d (.int .i64 r50_0.2.2.1), .d (.bool r50_0.2.2.2.1), .d (.int .i64 r50_0.2.2.2.2)])], 1⟩ [] (by kernel_rfl) trivial ?_
            exact ih backs (IntKind.wrap .i64 (2 * n_)) (IntKind.wrap .i64 (i + 1)) r50_0.2.1 r50_0.2.2.1 r50_0.2.2.2.1 r50_0.2.2.2.2 w h o hk
    · refine At.step hm ht ⟨[], [false], [], [5], [0]⟩ 20 ⟨[(5, .one (.c (.ptr 0 0)))], [], [(0, [.d (.int .i64 e_0), .d (.int .i64 e_1), .d (.bool e_2), .d (.int .i64 e_3)])], 1⟩ [(decide ((i : Int) < backs)) = false] (by kernel_rfl) ⟨b31_e0, trivial⟩ ?_
      have h := Option.some.inj h
      subst h
      exact hk
def f10_broughamlaw12_RtoBacks (n : Nat) (l : List Int) (backs : Int) : Option (Bool) :=
  if (decide ((((l.length : Nat) : Int) : Int) > 100)) = true then
    some true
  else
    if (decide ((backs : Int) < 0)) = true then
      some true
    else
      if (decide ((backs : Int) > 20)) = true then
        some true
      else
        (f10_broughamlaw12_RtoBacks_L5 n l backs 0 0 0 false 0).bind fun w21 =>
        (f38_rto_Est_Patience w21.2.1 w21.2.2.1 w21.2.2.2.1 w21.2.2.2.2).bind fun r23_0 =>
        (f10_broughamlaw12_RtoBacks_L10 n w21.1 r23_0.1 0 r23_0.2.1 r23_0.2.2.1 r23_0.2.2.2.1 r23_0.2.2.2.2).bind fun w53 =>
        match w53 with
        | .inl e54 =>
          some e54
        | .inr e55 =>
          (f37_rto_Est_Sample 1 e55.1 e55.2.1 e55.2.2.1 e55.2.2.2).bind fun r56_0 =>
          (f40_rto_Est_Backs r56_0.1 r56_0.2.1 r56_0.2.2.1 r56_0.2.2.2).bind fun r57_0 =>
          if ((r57_0.1 : Int) == 0) = true then
            (f41_broughamlaw12_alive).bind fun r57_1 =>
            some r57_1
          else
            some false
theorem f10_broughamlaw12_RtoBacks_ok (n : Nat) (l : List Int) (backs : Int) (r : Bool) (h : f10_broughamlaw12_RtoBacks n l backs = some r) : FnOK Go.Proofs.Try.prog 10 (f10_broughamlaw12_RtoBacks_in l backs) (f10_broughamlaw12_RtoBacks_out r) := by
  unfold f10_broughamlaw12_RtoBacks at h
  refine At.fn (r := 0) Go.Proofs.Try.func10 rfl (by kernel_rfl) rfl rfl (by kernel_rfl) ?_
  show At Go.Proofs.Try.prog Go.Proofs.Try.f10 0 0 ⟨[(0, .one (.c (.d (.sl (.int .i64) l)))), (1, .one (.c (.d (.int .i64 backs))))], [], [], 0⟩ _
  refine At.step hm ht ⟨[], [], [], [0, 1], []⟩ 1 ⟨[(0, .one (.c (.d (.sl (.int .i64) l)))), (1, .one (.c (.d (.int .i64 backs))))], [], [], 0⟩ [] (by kernel_rfl) trivial ?_
  rcases iteS h with ⟨b2_3, h⟩ | ⟨b2_3, h⟩
  · refine At.step hm ht ⟨[(3, .b true)], [true], [], [], []⟩ 2 ⟨[], [], [], 0⟩ [(decide ((((l.length : Nat) : Int) : Int) > 100)) = true, true = true] (by kernel_rfl) ⟨b2_3, rfl, trivial⟩ ?_
    have h := Option.some.inj h
    subst h
    exact At.fin hm ht ⟨[], [], [], [4], []⟩ [] (by kernel_rfl) trivial
  · rcases iteS h with ⟨b2_7, h⟩ | ⟨b2_7, h⟩
    · refine At.step hm ht ⟨[(3, .b false), (7, .b true)], [true], [], [], []⟩ 2 ⟨[], [], [], 0⟩ [(decide ((((l.length : Nat) : Int) : Int) > 100)) = false, (decide ((backs : Int) < 0)) = true, true = true] (by kernel_rfl) ⟨b2_3, b2_7, rfl, trivial⟩ ?_
      have h := Option.some.inj h
      subst h
      exact At.fin hm ht ⟨[], [], [], [4], []⟩ [] (by kernel_rfl) trivial
    · rcases iteS h with ⟨b2_e0, h⟩ | ⟨b2_e0, h⟩
      · refine At.step hm ht ⟨[(3, .b false), (7, .b false)], [true], [], [], []⟩ 2 ⟨[], [], [], 0⟩ [(decide ((((l.length : Nat) : Int) : Int) > 100)) = false, (decide ((backs : Int) < 0)) = false, (decide ((backs : Int) > 20)) = true] (by kernel_rfl) ⟨b2_3, b2_7, b2_e0, trivial⟩ ?_
        have h := Option.some.inj h
        subst h
        exact At.fin hm ht ⟨[], [], [], [4], []⟩ [] (by kernel_rfl) trivial
      · refine At.step hm ht ⟨[(3, .b false), (7, .b false)], [false], [], [0, 1], []⟩ 3 ⟨[(0, .one (.c (.d (.sl (.int .i64) l)))), (1, .one (.c (.d (.int .i64 backs))))], [], [], 0⟩ [(decide ((((l.length : Nat) : Int) : Int) > 100)) = false, (decide ((backs : Int) < 0)) = false, (decide ((backs : Int) > 20)) = false] (by kernel_rfl) ⟨b2_3, b2_7, b2_e0, trivial⟩ ?_
        refine At.step hm ht ⟨[], [], [], [0, 1, 5], [1]⟩ 4 ⟨[(0, .one (.c (.d (.sl (.int .i64) l)))), (1, .one (.c (.d (.int .i64 backs)))), (5, .one (.c (.ptr 0 0)))], [], [(0, [.d (.int .i64 0), .d (.int .i64 0), .d (.bool false), .d (.int .i64 0)])], 1⟩ [0 + 4 ≤ 4] (by kernel_rfl) ⟨(by decide), trivial⟩ ?_
        refine At.step hm ht ⟨[], [], [], [0, 1, 5, 6], [0]⟩ 5 ⟨[(0, .one (.c (.d (.sl (.int .i64) l)))), (1, .one (.c (.d (.int .i64 backs)))), (5, .one (.c (.ptr 0 0))), (6, .one (.c (.d (.int .i64 0))))], [], [(0, [.d (.int .i64 0), .d (.int .i64 0), .d (.bool false), .d (.int .i64 0)])], 1⟩ [] (by kernel_rfl) trivial ?_
        obtain ⟨w21, cw21, h⟩ := bindS h
        refine f10_broughamlaw12_RtoBacks_L5_ok n l backs 0 0 0 false 0 w21 cw21 _ ?_
        show At Go.Proofs.Try.prog Go.Proofs.Try.f10 0 8 ⟨[(1, .one (.c (.d (.int .i64 w21.1)))), (5, .one (.c (.ptr 0 0)))], [], [(0, [.d (.int .i64 w21.2.1), .d (.int .i64 w21.2.2.1), .d (.bool w21.2.2.2.1), .d (.int .i64 w21.2.2.2.2)])], 1⟩ _
        obtain ⟨r23_0, cr23_0, h⟩ := bindS h
        refine At.step hm ht ⟨[(0, .call [0] [] (f38_rto_Est_Patience_out r23_0))], [], [], [1, 5, 7], [0]⟩ 9 ⟨[(1, .one (.c (.d (.int .i64 w21.1)))), (5, .one (.c (.ptr 0 0))), (7, .one (.c (.d (.int .i64 r23_0.1))))], [], [(0, [.d (.int .i64 r23_0.2.1), .d (.int .i64 r23_0.2.2.1), .d (.bool r23_0.2.2.2.1), .d (.int .i64 r23_0.2.2.2.2)])], 1⟩ [FnOK Go.Proofs.Try.prog 38 (f38_rto_Est_Patience_in w21.2.1 w21.2.2.1 w21.2.2.2.1 w21.2.2.2.2) (f38_rto_Est_Patience_out r23_0)] (by kernel_rfl) ⟨(f38_rto_Est_Patience_ok w21.2.1 w21.2.2.1 w21.2.2.2.1 w21.2.2.2.2 r23_0 cr23_0), trivial⟩ ?_
        refine At.step hm ht ⟨[], [], [], [1, 5, 7, 8], [0]⟩ 10 ⟨[(1, .one (.c (.d (.int .i64 w21.1)))), (5, .one (.c (.ptr 0 0))), (7, .one (.c (.d (.int .i64 r23_0.1)))), (8, .one (.c (.d (.int .i64 0))))], [], [(0, [.d (.int .i64 r23_0.2.1), .d (.int .i64 r23_0.2.2.1), .d (.bool r23_0.2.2.2.1), .d (.int .i64 r23_0.2.2.2.2)])], 1⟩ [] (by kernel_rfl) trivial ?_
        obtain ⟨w53, cw53, h⟩ := bindS h
        refine f10_broughamlaw12_RtoBacks_L10_ok n w21.1 r23_0.1 0 r23_0.2.1 r23_0.2.2.1 r23_0.2.2.2.1 r23_0.2.2.2.2 w53 cw53 _ ?_
        rcases w53 with e54 | e55
        · have h := Option.some.inj h
          subst h
          rfl
        · show At Go.Proofs.Try.prog Go.Proofs.Try.f10 0 20 ⟨[(5, .one (.c (.ptr 0 0)))], [], [(0, [.d (.int .i64 e55.1), .d (.int .i64 e55.2.1), .d (.bool e55.2.2.1), .d (.int .i64 e55.2.2.2)])], 1⟩ _
          obtain ⟨r56_0, cr56_0, h⟩ := bindS h
          refine At.step hm ht ⟨[(0, .call [0] [] (f37_rto_Est_Sample_out r56_0))], [], [], [5], [0]⟩ 21 ⟨[(5, .one (.c (.ptr 0 0)))], [], [(0, [.d (.int .i64 r56_0.1), .d (.int .i64 r56_0.2.1), .d (.bool r56_0.2.2.1), .d (.int .i64 r56_0.2.2.2)])], 1⟩ [FnOK Go.Proofs.Try.prog 37 (f37_rto_Est_Sample_in 1 e55.1 e55.2.1 e55.2.2.1 e55.2.2.2) (f37_rto_Est_Sample_out r56_0)] (by kernel_rfl) ⟨(f37_rto_Est_Sample_ok 1 e55.1 e55.2.1 e55.2.2.1 e55.2.2.2 r56_0 cr56_0), trivial⟩ ?_
          obtain ⟨r57_0, cr57_0, h⟩ := bindS h
          rcases iteS h with ⟨b57_2, h⟩ | ⟨b57_2, h⟩
          · obtain ⟨r57_1, cr57_1, h⟩ := bindS h
            have h := Option.some.inj h
            subst h
            exact At.fin hm ht ⟨[(0, .call [0] [] (f40_rto_Est_Backs_out r57_0)), (2, .b true), (3, .call [] [] (f41_broughamlaw12_alive_out r57_1))], [], [], [4], []⟩ [FnOK Go.Proofs.Try.prog 40 (f40_rto_Est_Backs_in r56_0.1 r56_0.2.1 r56_0.2.2.1 r56_0.2.2.2) (f40_rto_Est_Backs_out r57_0), ((r57_0.1 : Int) == 0) = true, FnOK Go.Proofs.Try.prog 41 (f41_broughamlaw12_alive_in) (f41_broughamlaw12_alive_out r57_1)] (by kernel_rfl) ⟨(f40_rto_Est_Backs_ok r56_0.1 r56_0.2.1 r56_0.2.2.1 r56_0.2.2.2 r57_0 cr57_0), b57_2, (f41_broughamlaw12_alive_ok r57_1 cr57_1), trivial⟩
          · have h := Option.some.inj h
            subst h
            exact At.fin hm ht ⟨[(0, .call [0] [] (f40_rto_Est_Backs_out r57_0)), (2, .b false)], [], [], [4], []⟩ [FnOK Go.Proofs.Try.prog 40 (f40_rto_Est_Backs_in r56_0.1 r56_0.2.1 r56_0.2.2.1 r56_0.2.2.2) (f40_rto_Est_Backs_out r57_0), ((r57_0.1 : Int) == 0) = false] (by kernel_rfl) ⟨(f40_rto_Est_Backs_ok r56_0.1 r56_0.2.1 r56_0.2.2.1 r56_0.2.2.2 r57_0 cr57_0), b57_2, trivial⟩
end Go.Proofs.YtjmebloeodcoaaaF12
