/- What the functions compute, and that they do: printed by a program of this session (zgen.py), proved by Zed. -/
import Derived.Test.YtdcnjkjgmagjmaaProg
import Derived.Test.YtdcnjkjgmagjmaaZedY
namespace Go.Proofs.YtdcnjkjgmagjmaaF15
open Go Zed
set_option maxRecDepth 100000
set_option linter.unusedVariables false
def tab : Tab := [(3, ⟨.int .i64, 1, 8, [.int .i64 0], some (.int .i64), none⟩), (4, ⟨.bool, 1, 1, [.bool false], some .bool, none⟩), (5, ⟨.int .u8, 1, 1, [.int .u8 0], some (.int .u8), none⟩), (21, ⟨.int .i32, 1, 4, [.int .i32 0], some (.int .i32), none⟩), (22, ⟨.int .u32, 1, 4, [.int .u32 0], some (.int .u32), none⟩), (23, ⟨.int .u16, 1, 2, [.int .u16 0], some (.int .u16), none⟩), (28, ⟨.slice 5, 1, 24, [.sl .unit []], some (.slice (.int .u8)), none⟩), (30, ⟨.struct [(0, 5), (1, 28)], 2, 32, [.int .u8 0, .sl .unit []], some (.pair (.int .u8) (.slice (.int .u8))), some [(0, 5), (1, 28)]⟩), (36, ⟨.int .i64, 1, 8, [.int .i64 0], some (.int .i64), none⟩), (38, ⟨.struct [(0, 36), (1, 22), (2, 22), (3, 22), (4, 22)], 5, 24, [.int .i64 0, .int .u32 0, .int .u32 0, .int .u32 0, .int .u32 0], some (.pair (.int .i64) (.pair (.int .u32) (.pair (.int .u32) (.pair (.int .u32) (.int .u32))))), some [(0, 36), (1, 22), (2, 22), (3, 22), (4, 22)]⟩), (46, ⟨.slice 30, 1, 24, [.sl .unit []], some (.slice (.pair (.int .u8) (.slice (.int .u8)))), none⟩), (48, ⟨.struct [(0, 23), (1, 23), (2, 22), (3, 22), (4, 5), (5, 46), (6, 28)], 7, 64, [.int .u16 0, .int .u16 0, .int .u32 0, .int .u32 0, .int .u8 0, .sl .unit [], .sl .unit []], some (.pair (.int .u16) (.pair (.int .u16) (.pair (.int .u32) (.pair (.int .u32) (.pair (.int .u8) (.pair (.slice (.pair (.int .u8) (.slice (.int .u8)))) (.slice (.int .u8)))))))), some [(0, 23), (1, 23), (2, 22), (3, 22), (4, 5), (5, 46), (6, 28)]⟩), (64, ⟨.struct [(0, 3), (1, 22), (2, 22), (3, 22), (4, 22)], 5, 24, [.int .i64 0, .int .u32 0, .int .u32 0, .int .u32 0, .int .u32 0], some (.pair (.int .i64) (.pair (.int .u32) (.pair (.int .u32) (.pair (.int .u32) (.int .u32))))), some [(0, 3), (1, 22), (2, 22), (3, 22), (4, 22)]⟩), (65, ⟨.int .i64, 1, 8, [.int .i64 0], some (.int .i64), none⟩), (71, ⟨.struct [(0, 22), (1, 22), (2, 4)], 3, 12, [.int .u32 0, .int .u32 0, .bool false], some (.pair (.int .u32) (.pair (.int .u32) .bool)), some [(0, 22), (1, 22), (2, 4)]⟩)]
theorem ht : TabOk Go.Proofs.Try.prog tab := tabOk_of (ts := [3, 4, 5, 21, 22, 23, 28, 30, 36, 38, 46, 48, 64, 65, 71]) (by kernel_rfl)
theorem hm : Go.Proofs.Try.prog.follows .mixedOrders = true := by kernel_rfl
/-! brougham/judge.opening -/
def f64_judge_opening_in (n__0 : Int) (n__1 : Int) (n__2 : Int) (n__3 : Int) (n__4 : Int) (s_0 : Int) (s_1 : Int) (s_2 : Int) (s_3 : Int) (s_4 : Int) (s_5 : List (Int × List Int)) (s_6 : List Int) : Inn := ⟨[.agg [.d (.int .i64 n__0), .d (.int .u32 n__1), .d (.int .u32 n__2), .d (.int .u32 n__3), .d (.int .u32 n__4)], .agg [.d (.int .u16 s_0), .d (.int .u16 s_1), .d (.int .u32 s_2), .d (.int .u32 s_3), .d (.int .u8 s_4), .d (.sl (.pair (.int .u8) (.slice (.int .u8))) s_5), .d (.sl (.int .u8) s_6)]], [], [], 0⟩
def f64_judge_opening_out (r : Int) : Out := ⟨.one (.c (.d (.int .i64 r))), [], [], 0⟩
def f64_judge_opening (n__0 : Int) (n__1 : Int) (n__2 : Int) (n__3 : Int) (n__4 : Int) (s_0 : Int) (s_1 : Int) (s_2 : Int) (s_3 : Int) (s_4 : Int) (s_5 : List (Int × List Int)) (s_6 : List Int) : Option (Int) :=
  if (((bits .and .u8 s_4 2) : Int) != 0) = true then
    if (!((s_3 : Int) == (IntKind.wrap .u32 (n__1 + 1)))) = true then
      if ((s_4 : Int) == 2) = true then
        some 5
      else
        if (!((s_3 : Int) == (IntKind.wrap .u32 (n__1 + 1)))) = true then
          some 2
        else
          if (((bits .and .u8 s_4 4) : Int) != 0) = true then
            some 4
          else
            if (((bits .and .u8 s_4 1) : Int) != 0) = true then
              some 1
            else
              some 2
    else
      if (!((s_3 : Int) == (IntKind.wrap .u32 (n__1 + 1)))) = true then
        some 2
      else
        if (((bits .and .u8 s_4 4) : Int) != 0) = true then
          some 4
        else
          if (((bits .and .u8 s_4 1) : Int) != 0) = true then
            some 1
          else
            some 2
  else
    if ((s_4 : Int) == 2) = true then
      some 5
    else
      some 2
theorem f64_judge_opening_ok (n__0 : Int) (n__1 : Int) (n__2 : Int) (n__3 : Int) (n__4 : Int) (s_0 : Int) (s_1 : Int) (s_2 : Int) (s_3 : Int) (s_4 : Int) (s_5 : List (Int × List Int)) (s_6 : List Int) (r : Int) (h : f64_judge_opening n__0 n__1 n__2 n__3 n__4 s_0 s_1 s_2 s_3 s_4 s_5 s_6 = some r) : FnOK Go.Proofs.Try.prog 64 (f64_judge_opening_in n__0 n__1 n__2 n__3 n__4 s_0 s_1 s_2 s_3 s_4 s_5 s_6) (f64_judge_opening_out r) := by
  unfold f64_judge_opening at h
  refine At.fn (r := 0) Go.Proofs.Try.func64 rfl (by kernel_rfl) rfl rfl (by kernel_rfl) ?_
  show At Go.Proofs.Try.prog Go.Proofs.Try.f64 0 0 ⟨[(0, .one (.agg [.d (.int .i64 n__0), .d (.int .u32 n__1), .d (.int .u32 n__2), .d (.int .u32 n__3), .d (.int .u32 n__4)])), (1, .one (.agg [.d (.int .u16 s_0), .d (.int .u16 s_1), .d (.int .u32 s_2), .d (.int .u32 s_3), .d (.int .u8 s_4), .d (.sl (.pair (.int .u8) (.slice (.int .u8))) s_5), .d (.sl (.int .u8) s_6)]))], [], [], 0⟩ _
  refine At.step hm ht ⟨[], [], [], [2, 3], [0, 1]⟩ 1 ⟨[(2, .one (.c (.ptr 0 0))), (3, .one (.c (.ptr 1 0)))], [], [(0, [.d (.int .i64 n__0), .d (.int .u32 n__1), .d (.int .u32 n__2), .d (.int .u32 n__3), .d (.int .u32 n__4)]), (1, [.d (.int .u16 s_0), .d (.int .u16 s_1), .d (.int .u32 s_2), .d (.int .u32 s_3), .d (.int .u8 s_4), .d (.sl (.pair (.int .u8) (.slice (.int .u8))) s_5), .d (.sl (.int .u8) s_6)])], 2⟩ [] (by kernel_rfl) trivial ?_
  rcases iteS h with ⟨b9_4, h⟩ | ⟨b9_4, h⟩
  · refine At.step hm ht ⟨[(4, .b true)], [], [], [3, 5], [1]⟩ 2 ⟨[(3, .one (.c (.ptr 0 0))), (5, .one (.c (.d (.bool ((s_3 : Int) == (IntKind.wrap .u32 (n__1 + 1)))))))], [], [(0, [.d (.int .u16 s_0), .d (.int .u16 s_1), .d (.int .u32 s_2), .d (.int .u32 s_3), .d (.int .u8 s_4), .d (.sl (.pair (.int .u8) (.slice (.int .u8))) s_5), .d (.sl (.int .u8) s_6)])], 1⟩ [(((bits .and .u8 s_4 2) : Int) != 0) = true] (by kernel_rfl) ⟨b9_4, trivial⟩ ?_
    rcases iteS h with ⟨b10_2, h⟩ | ⟨b10_2, h⟩
    · rcases iteS h with ⟨b10_e0, h⟩ | ⟨b10_e0, h⟩
      · refine At.step hm ht ⟨[(2, .b true)], [true], [], [], []⟩ 3 ⟨[], [], [], 0⟩ [(!((s_3 : Int) == (IntKind.wrap .u32 (n__1 + 1)))) = true, ((s_4 : Int) == 2) = true] (by kernel_rfl) ⟨b10_2, b10_e0, trivial⟩ ?_
        have h := Option.some.inj h
        subst h
        exact At.fin hm ht ⟨[], [], [], [4], []⟩ [] (by kernel_rfl) trivial
      · refine At.step hm ht ⟨[(2, .b true)], [false], [], [3, 5], [0]⟩ 4 ⟨[(3, .one (.c (.ptr 0 0))), (5, .one (.c (.d (.bool ((s_3 : Int) == (IntKind.wrap .u32 (n__1 + 1)))))))], [], [(0, [.d (.int .u16 s_0), .d (.int .u16 s_1), .d (.int .u32 s_2), .d (.int .u32 s_3), .d (.int .u8 s_4), .d (.sl (.pair (.int .u8) (.slice (.int .u8))) s_5), .d (.sl (.int .u8) s_6)])], 1⟩ [(!((s_3 : Int) == (IntKind.wrap .u32 (n__1 + 1)))) = true, ((s_4 : Int) == 2) = false] (by kernel_rfl) ⟨b10_2, b10_e0, trivial⟩ ?_
        rcases iteS h with ⟨b12_e0, h⟩ | ⟨b12_e0, h⟩
        · refine At.step hm ht ⟨[], [true], [], [], []⟩ 5 ⟨[], [], [], 0⟩ [(!((s_3 : Int) == (IntKind.wrap .u32 (n__1 + 1)))) = true] (by kernel_rfl) ⟨b12_e0, trivial⟩ ?_
          have h := Option.some.inj h
          subst h
          exact At.fin hm ht ⟨[], [], [], [4], []⟩ [] (by kernel_rfl) trivial
        · refine At.step hm ht ⟨[], [false], [], [3], [0]⟩ 6 ⟨[(3, .one (.c (.ptr 0 0)))], [], [(0, [.d (.int .u16 s_0), .d (.int .u16 s_1), .d (.int .u32 s_2), .d (.int .u32 s_3), .d (.int .u8 s_4), .d (.sl (.pair (.int .u8) (.slice (.int .u8))) s_5), .d (.sl (.int .u8) s_6)])], 1⟩ [(!((s_3 : Int) == (IntKind.wrap .u32 (n__1 + 1)))) = false] (by kernel_rfl) ⟨b12_e0, trivial⟩ ?_
          rcases iteS h with ⟨b14_e0, h⟩ | ⟨b14_e0, h⟩
          · refine At.step hm ht ⟨[], [true], [], [], []⟩ 7 ⟨[], [], [], 0⟩ [(((bits .and .u8 s_4 4) : Int) != 0) = true] (by kernel_rfl) ⟨b14_e0, trivial⟩ ?_
            have h := Option.some.inj h
            subst h
            exact At.fin hm ht ⟨[], [], [], [4], []⟩ [] (by kernel_rfl) trivial
          · refine At.step hm ht ⟨[], [false], [], [3], [0]⟩ 8 ⟨[(3, .one (.c (.ptr 0 0)))], [], [(0, [.d (.int .u16 s_0), .d (.int .u16 s_1), .d (.int .u32 s_2), .d (.int .u32 s_3), .d (.int .u8 s_4), .d (.sl (.pair (.int .u8) (.slice (.int .u8))) s_5), .d (.sl (.int .u8) s_6)])], 1⟩ [(((bits .and .u8 s_4 4) : Int) != 0) = false] (by kernel_rfl) ⟨b14_e0, trivial⟩ ?_
            rcases iteS h with ⟨b16_e0, h⟩ | ⟨b16_e0, h⟩
            · refine At.step hm ht ⟨[], [true], [], [], []⟩ 9 ⟨[], [], [], 0⟩ [(((bits .and .u8 s_4 1) : Int) != 0) = true] (by kernel_rfl) ⟨b16_e0, trivial⟩ ?_
              have h := Option.some.inj h
              subst h
              exact At.fin hm ht ⟨[], [], [], [4], []⟩ [] (by kernel_rfl) trivial
            · refine At.step hm ht ⟨[], [false], [], [], []⟩ 10 ⟨[], [], [], 0⟩ [(((bits .and .u8 s_4 1) : Int) != 0) = false] (by kernel_rfl) ⟨b16_e0, trivial⟩ ?_
              have h := Option.some.inj h
              subst h
              exact At.fin hm ht ⟨[], [], [], [4], []⟩ [] (by kernel_rfl) trivial
    · refine At.step hm ht ⟨[(2, .b false)], [false], [], [3, 5], [0]⟩ 4 ⟨[(3, .one (.c (.ptr 0 0))), (5, .one (.c (.d (.bool ((s_3 : Int) == (IntKind.wrap .u32 (n__1 + 1)))))))], [], [(0, [.d (.int .u16 s_0), .d (.int .u16 s_1), .d (.int .u32 s_2), .d (.int .u32 s_3), .d (.int .u8 s_4), .d (.sl (.pair (.int .u8) (.slice (.int .u8))) s_5), .d (.sl (.int .u8) s_6)])], 1⟩ [(!((s_3 : Int) == (IntKind.wrap .u32 (n__1 + 1)))) = false, false = false] (by kernel_rfl) ⟨b10_2, rfl, trivial⟩ ?_
      rcases iteS h with ⟨b19_e0, h⟩ | ⟨b19_e0, h⟩
      · refine At.step hm ht ⟨[], [true], [], [], []⟩ 5 ⟨[], [], [], 0⟩ [(!((s_3 : Int) == (IntKind.wrap .u32 (n__1 + 1)))) = true] (by kernel_rfl) ⟨b19_e0, trivial⟩ ?_
        have h := Option.some.inj h
        subst h
        exact At.fin hm ht ⟨[], [], [], [4], []⟩ [] (by kernel_rfl) trivial
      · refine At.step hm ht ⟨[], [false], [], [3], [0]⟩ 6 ⟨[(3, .one (.c (.ptr 0 0)))], [], [(0, [.d (.int .u16 s_0), .d (.int .u16 s_1), .d (.int .u32 s_2), .d (.int .u32 s_3), .d (.int .u8 s_4), .d (.sl (.pair (.int .u8) (.slice (.int .u8))) s_5), .d (.sl (.int .u8) s_6)])], 1⟩ [(!((s_3 : Int) == (IntKind.wrap .u32 (n__1 + 1)))) = false] (by kernel_rfl) ⟨b19_e0, trivial⟩ ?_
        rcases iteS h with ⟨b21_e0, h⟩ | ⟨b21_e0, h⟩
        · refine At.step hm ht ⟨[], [true], [], [], []⟩ 7 ⟨[], [], [], 0⟩ [(((bits .and .u8 s_4 4) : Int) != 0) = true] (by kernel_rfl) ⟨b21_e0, trivial⟩ ?_
          have h := Option.some.inj h
          subst h
          exact At.fin hm ht ⟨[], [], [], [4], []⟩ [] (by kernel_rfl) trivial
        · refine At.step hm ht ⟨[], [false], [], [3], [0]⟩ 8 ⟨[(3, .one (.c (.ptr 0 0)))], [], [(0, [.d (.int .u16 s_0), .d (.int .u16 s_1), .d (.int .u32 s_2), .d (.int .u32 s_3), .d (.int .u8 s_4), .d (.sl (.pair (.int .u8) (.slice (.int .u8))) s_5), .d (.sl (.int .u8) s_6)])], 1⟩ [(((bits .and .u8 s_4 4) : Int) != 0) = false] (by kernel_rfl) ⟨b21_e0, trivial⟩ ?_
          rcases iteS h with ⟨b23_e0, h⟩ | ⟨b23_e0, h⟩
          · refine At.step hm ht ⟨[], [true], [], [], []⟩ 9 ⟨[], [], [], 0⟩ [(((bits .and .u8 s_4 1) : Int) != 0) = true] (by kernel_rfl) ⟨b23_e0, trivial⟩ ?_
            have h := Option.some.inj h
            subst h
            exact At.fin hm ht ⟨[], [], [], [4], []⟩ [] (by kernel_rfl) trivial
          · refine At.step hm ht ⟨[], [false], [], [], []⟩ 10 ⟨[], [], [], 0⟩ [(((bits .and .u8 s_4 1) : Int) != 0) = false] (by kernel_rfl) ⟨b23_e0, trivial⟩ ?_
            have h := Option.some.inj h
            subst h
            exact At.fin hm ht ⟨[], [], [], [4], []⟩ [] (by kernel_rfl) trivial
  · refine At.step hm ht ⟨[(4, .b false)], [], [], [3, 5], [1]⟩ 2 ⟨[(3, .one (.c (.ptr 0 0))), (5, .one (.c (.d (.bool false))))], [], [(0, [.d (.int .u16 s_0), .d (.int .u16 s_1), .d (.int .u32 s_2), .d (.int .u32 s_3), .d (.int .u8 s_4), .d (.sl (.pair (.int .u8) (.slice (.int .u8))) s_5), .d (.sl (.int .u8) s_6)])], 1⟩ [(((bits .and .u8 s_4 2) : Int) != 0) = false] (by kernel_rfl) ⟨b9_4, trivial⟩ ?_
    rcases iteS h with ⟨b26_e0, h⟩ | ⟨b26_e0, h⟩
    · refine At.step hm ht ⟨[], [true], [], [], []⟩ 3 ⟨[], [], [], 0⟩ [((s_4 : Int) == 2) = true] (by kernel_rfl) ⟨b26_e0, trivial⟩ ?_
      have h := Option.some.inj h
      subst h
      exact At.fin hm ht ⟨[], [], [], [4], []⟩ [] (by kernel_rfl) trivial
    · refine At.step hm ht ⟨[], [false], [], [3, 5], [0]⟩ 4 ⟨[(3, .one (.c (.ptr 0 0))), (5, .one (.c (.d (.bool false))))], [], [(0, [.d (.int .u16 s_0), .d (.int .u16 s_1), .d (.int .u32 s_2), .d (.int .u32 s_3), .d (.int .u8 s_4), .d (.sl (.pair (.int .u8) (.slice (.int .u8))) s_5), .d (.sl (.int .u8) s_6)])], 1⟩ [((s_4 : Int) == 2) = false] (by kernel_rfl) ⟨b26_e0, trivial⟩ ?_
      refine At.step hm ht ⟨[], [true], [], [], []⟩ 5 ⟨[], [], [], 0⟩ [true = true] (by kernel_rfl) ⟨rfl, trivial⟩ ?_
      have h := Option.some.inj h
      subst h
      exact At.fin hm ht ⟨[], [], [], [4], []⟩ [] (by kernel_rfl) trivial
/-! brougham/serial.Within -/
def f112_serial_Within_in (x : Int) (from_ : Int) (size : Int) : Inn := ⟨[.c (.d (.int .u32 x)), .c (.d (.int .u32 from_)), .c (.d (.int .u32 size))], [], [], 0⟩
def f112_serial_Within_out (r : Bool) : Out := ⟨.one (.c (.d (.bool r))), [], [], 0⟩
def f112_serial_Within (x : Int) (from_ : Int) (size : Int) : Option (Bool) :=
  some (decide (((IntKind.wrap .u32 (x - from_)) : Int) < size))
theorem f112_serial_Within_ok (x : Int) (from_ : Int) (size : Int) (r : Bool) (h : f112_serial_Within x from_ size = some r) : FnOK Go.Proofs.Try.prog 112 (f112_serial_Within_in x from_ size) (f112_serial_Within_out r) := by
  unfold f112_serial_Within at h
  refine At.fn (r := 0) Go.Proofs.Try.func112 rfl (by kernel_rfl) rfl rfl (by kernel_rfl) ?_
  show At Go.Proofs.Try.prog Go.Proofs.Try.f112 0 0 ⟨[(0, .one (.c (.d (.int .u32 x)))), (1, .one (.c (.d (.int .u32 from_)))), (2, .one (.c (.d (.int .u32 size))))], [], [], 0⟩ _
  refine At.step hm ht ⟨[], [], [], [0, 1, 2], []⟩ 1 ⟨[(0, .one (.c (.d (.int .u32 x)))), (1, .one (.c (.d (.int .u32 from_)))), (2, .one (.c (.d (.int .u32 size))))], [], [], 0⟩ [] (by kernel_rfl) trivial ?_
  have h := Option.some.inj h
  subst h
  exact At.fin hm ht ⟨[], [], [], [6], []⟩ [] (by kernel_rfl) trivial
/-! brougham/serial.Near -/
def f136_serial_Near_in (x : Int) (to_ : Int) (size : Int) : Inn := ⟨[.c (.d (.int .u32 x)), .c (.d (.int .u32 to_)), .c (.d (.int .u32 size))], [], [], 0⟩
def f136_serial_Near_out (r : Bool) : Out := ⟨.one (.c (.d (.bool r))), [], [], 0⟩
def f136_serial_Near (x : Int) (to_ : Int) (size : Int) : Option (Bool) :=
  (f112_serial_Within x to_ size).bind fun r47_0 =>
  if r47_0 = true then
    some true
  else
    (f112_serial_Within to_ x size).bind fun r47_1 =>
    some r47_1
theorem f136_serial_Near_ok (x : Int) (to_ : Int) (size : Int) (r : Bool) (h : f136_serial_Near x to_ size = some r) : FnOK Go.Proofs.Try.prog 136 (f136_serial_Near_in x to_ size) (f136_serial_Near_out r) := by
  unfold f136_serial_Near at h
  refine At.fn (r := 0) Go.Proofs.Try.func136 rfl (by kernel_rfl) rfl rfl (by kernel_rfl) ?_
  show At Go.Proofs.Try.prog Go.Proofs.Try.f136 0 0 ⟨[(0, .one (.c (.d (.int .u32 x)))), (1, .one (.c (.d (.int .u32 to_)))), (2, .one (.c (.d (.int .u32 size))))], [], [], 0⟩ _
  refine At.step hm ht ⟨[], [], [], [0, 1, 2], []⟩ 1 ⟨[(0, .one (.c (.d (.int .u32 x)))), (1, .one (.c (.d (.int .u32 to_)))), (2, .one (.c (.d (.int .u32 size))))], [], [], 0⟩ [] (by kernel_rfl) trivial ?_
  obtain ⟨r47_0, cr47_0, h⟩ := bindS h
  rcases iteS h with ⟨b47_4, h⟩ | ⟨b47_4, h⟩
  · have h := Option.some.inj h
    subst h
    exact At.fin hm ht ⟨[(3, .call [] [] (f112_serial_Within_out r47_0)), (4, .b true)], [], [], [6], []⟩ [FnOK Go.Proofs.Try.prog 112 (f112_serial_Within_in x to_ size) (f112_serial_Within_out r47_0), r47_0 = true] (by kernel_rfl) ⟨(f112_serial_Within_ok x to_ size r47_0 cr47_0), b47_4, trivial⟩
  · obtain ⟨r47_1, cr47_1, h⟩ := bindS h
    have h := Option.some.inj h
    subst h
    exact At.fin hm ht ⟨[(3, .call [] [] (f112_serial_Within_out r47_0)), (4, .b false), (8, .call [] [] (f112_serial_Within_out r47_1))], [], [], [6], []⟩ [FnOK Go.Proofs.Try.prog 112 (f112_serial_Within_in x to_ size) (f112_serial_Within_out r47_0), r47_0 = false, FnOK Go.Proofs.Try.prog 112 (f112_serial_Within_in to_ x size) (f112_serial_Within_out r47_1)] (by kernel_rfl) ⟨(f112_serial_Within_ok x to_ size r47_0 cr47_0), b47_4, (f112_serial_Within_ok to_ x size r47_1 cr47_1), trivial⟩
/-! brougham/serial.Less -/
def f115_serial_Less_in (a : Int) (b : Int) : Inn := ⟨[.c (.d (.int .u32 a)), .c (.d (.int .u32 b))], [], [], 0⟩
def f115_serial_Less_out (r : Bool) : Out := ⟨.one (.c (.d (.bool r))), [], [], 0⟩
def f115_serial_Less (a : Int) (b : Int) : Option (Bool) :=
  some (decide (((IntKind.wrap .i32 (IntKind.wrap .u32 (a - b))) : Int) < 0))
theorem f115_serial_Less_ok (a : Int) (b : Int) (r : Bool) (h : f115_serial_Less a b = some r) : FnOK Go.Proofs.Try.prog 115 (f115_serial_Less_in a b) (f115_serial_Less_out r) := by
  unfold f115_serial_Less at h
  refine At.fn (r := 0) Go.Proofs.Try.func115 rfl (by kernel_rfl) rfl rfl (by kernel_rfl) ?_
  show At Go.Proofs.Try.prog Go.Proofs.Try.f115 0 0 ⟨[(0, .one (.c (.d (.int .u32 a)))), (1, .one (.c (.d (.int .u32 b))))], [], [], 0⟩ _
  refine At.step hm ht ⟨[], [], [], [0, 1], []⟩ 1 ⟨[(0, .one (.c (.d (.int .u32 a)))), (1, .one (.c (.d (.int .u32 b))))], [], [], 0⟩ [] (by kernel_rfl) trivial ?_
  have h := Option.some.inj h
  subst h
  exact At.fin hm ht ⟨[], [], [], [4], []⟩ [] (by kernel_rfl) trivial
/-! brougham/serial.Between -/
def f75_serial_Between_in (x : Int) (from_ : Int) (to_ : Int) : Inn := ⟨[.c (.d (.int .u32 x)), .c (.d (.int .u32 from_)), .c (.d (.int .u32 to_))], [], [], 0⟩
def f75_serial_Between_out (r : Bool) : Out := ⟨.one (.c (.d (.bool r))), [], [], 0⟩
def f75_serial_Between (x : Int) (from_ : Int) (to_ : Int) : Option (Bool) :=
  if ((x : Int) != from_) = true then
    if (decide (((IntKind.wrap .u32 (x - from_)) : Int) ≤ (IntKind.wrap .u32 (to_ - from_)))) = true then
      (f115_serial_Less to_ from_).bind fun r55_0 =>
      some (!r55_0)
    else
      some false
  else
    some false
theorem f75_serial_Between_ok (x : Int) (from_ : Int) (to_ : Int) (r : Bool) (h : f75_serial_Between x from_ to_ = some r) : FnOK Go.Proofs.Try.prog 75 (f75_serial_Between_in x from_ to_) (f75_serial_Between_out r) := by
  unfold f75_serial_Between at h
  refine At.fn (r := 0) Go.Proofs.Try.func75 rfl (by kernel_rfl) rfl rfl (by kernel_rfl) ?_
  show At Go.Proofs.Try.prog Go.Proofs.Try.f75 0 0 ⟨[(0, .one (.c (.d (.int .u32 x)))), (1, .one (.c (.d (.int .u32 from_)))), (2, .one (.c (.d (.int .u32 to_))))], [], [], 0⟩ _
  refine At.step hm ht ⟨[], [], [], [0, 1, 2], []⟩ 1 ⟨[(0, .one (.c (.d (.int .u32 x)))), (1, .one (.c (.d (.int .u32 from_)))), (2, .one (.c (.d (.int .u32 to_))))], [], [], 0⟩ [] (by kernel_rfl) trivial ?_
  rcases iteS h with ⟨b55_3, h⟩ | ⟨b55_3, h⟩
  · rcases iteS h with ⟨b55_12, h⟩ | ⟨b55_12, h⟩
    · obtain ⟨r55_0, cr55_0, h⟩ := bindS h
      have h := Option.some.inj h
      subst h
      exact At.fin hm ht ⟨[(3, .b true), (12, .b true), (15, .call [] [] (f115_serial_Less_out r55_0))], [], [], [6], []⟩ [((x : Int) != from_) = true, (decide (((IntKind.wrap .u32 (x - from_)) : Int) ≤ (IntKind.wrap .u32 (to_ - from_)))) = true, FnOK Go.Proofs.Try.prog 115 (f115_serial_Less_in to_ from_) (f115_serial_Less_out r55_0)] (by kernel_rfl) ⟨b55_3, b55_12, (f115_serial_Less_ok to_ from_ r55_0 cr55_0), trivial⟩
    · have h := Option.some.inj h
      subst h
      exact At.fin hm ht ⟨[(3, .b true), (12, .b false)], [], [], [6], []⟩ [((x : Int) != from_) = true, (decide (((IntKind.wrap .u32 (x - from_)) : Int) ≤ (IntKind.wrap .u32 (to_ - from_)))) = false] (by kernel_rfl) ⟨b55_3, b55_12, trivial⟩
  · have h := Option.some.inj h
    subst h
    exact At.fin hm ht ⟨[(3, .b false)], [], [], [6], []⟩ [((x : Int) != from_) = false] (by kernel_rfl) ⟨b55_3, trivial⟩
/-! brougham/judge.sure -/
def f111_judge_sure_in (n__0 : Int) (n__1 : Int) (n__2 : Int) (n__3 : Int) (n__4 : Int) (s_0 : Int) (s_1 : Int) (s_2 : Int) (s_3 : Int) (s_4 : Int) (s_5 : List (Int × List Int)) (s_6 : List Int) (sealed : Bool) : Inn := ⟨[.agg [.d (.int .i64 n__0), .d (.int .u32 n__1), .d (.int .u32 n__2), .d (.int .u32 n__3), .d (.int .u32 n__4)], .agg [.d (.int .u16 s_0), .d (.int .u16 s_1), .d (.int .u32 s_2), .d (.int .u32 s_3), .d (.int .u8 s_4), .d (.sl (.pair (.int .u8) (.slice (.int .u8))) s_5), .d (.sl (.int .u8) s_6)], .c (.d (.bool sealed))], [], [], 0⟩
def f111_judge_sure_out (r : Int) : Out := ⟨.one (.c (.d (.int .i64 r))), [], [], 0⟩
def f111_judge_sure (n__0 : Int) (n__1 : Int) (n__2 : Int) (n__3 : Int) (n__4 : Int) (s_0 : Int) (s_1 : Int) (s_2 : Int) (s_3 : Int) (s_4 : Int) (s_5 : List (Int × List Int)) (s_6 : List Int) (sealed : Bool) : Option (Int) :=
  if ((s_3 : Int) == n__2) = true then
    if sealed = true then
      if ((s_4 : Int) == 2) = true then
        (f136_serial_Near s_2 n__4 1048576).bind fun r45_0 =>
        if r45_0 = true then
          some 1
        else
          some 2
      else
        some 2
    else
      some 2
  else
    (f75_serial_Between s_3 n__2 n__3).bind fun r44_0 =>
    if r44_0 = true then
      if sealed = true then
        if ((s_4 : Int) == 2) = true then
          (f136_serial_Near s_2 n__4 1048576).bind fun r58_0 =>
          if r58_0 = true then
            some 1
          else
            some 2
        else
          some 2
      else
        some 2
    else
      (f112_serial_Within n__2 s_3 1048576).bind fun r44_1 =>
      if sealed = true then
        if ((s_4 : Int) == 2) = true then
          if r44_1 = true then
            (f136_serial_Near s_2 n__4 1048576).bind fun r63_0 =>
            if r63_0 = true then
              some 1
            else
              some 2
          else
            some 2
        else
          some 2
      else
        some 2
theorem f111_judge_sure_ok (n__0 : Int) (n__1 : Int) (n__2 : Int) (n__3 : Int) (n__4 : Int) (s_0 : Int) (s_1 : Int) (s_2 : Int) (s_3 : Int) (s_4 : Int) (s_5 : List (Int × List Int)) (s_6 : List Int) (sealed : Bool) (r : Int) (h : f111_judge_sure n__0 n__1 n__2 n__3 n__4 s_0 s_1 s_2 s_3 s_4 s_5 s_6 sealed = some r) : FnOK Go.Proofs.Try.prog 111 (f111_judge_sure_in n__0 n__1 n__2 n__3 n__4 s_0 s_1 s_2 s_3 s_4 s_5 s_6 sealed) (f111_judge_sure_out r) := by
  unfold f111_judge_sure at h
  refine At.fn (r := 0) Go.Proofs.Try.func111 rfl (by kernel_rfl) rfl rfl (by kernel_rfl) ?_
  show At Go.Proofs.Try.prog Go.Proofs.Try.f111 0 0 ⟨[(0, .one (.agg [.d (.int .i64 n__0), .d (.int .u32 n__1), .d (.int .u32 n__2), .d (.int .u32 n__3), .d (.int .u32 n__4)])), (1, .one (.agg [.d (.int .u16 s_0), .d (.int .u16 s_1), .d (.int .u32 s_2), .d (.int .u32 s_3), .d (.int .u8 s_4), .d (.sl (.pair (.int .u8) (.slice (.int .u8))) s_5), .d (.sl (.int .u8) s_6)])), (2, .one (.c (.d (.bool sealed))))], [], [], 0⟩ _
  refine At.step hm ht ⟨[], [], [], [2, 3, 4], [0, 1]⟩ 1 ⟨[(2, .one (.c (.d (.bool sealed)))), (3, .one (.c (.ptr 0 0))), (4, .one (.c (.ptr 1 0)))], [], [(0, [.d (.int .i64 n__0), .d (.int .u32 n__1), .d (.int .u32 n__2), .d (.int .u32 n__3), .d (.int .u32 n__4)]), (1, [.d (.int .u16 s_0), .d (.int .u16 s_1), .d (.int .u32 s_2), .d (.int .u32 s_3), .d (.int .u8 s_4), .d (.sl (.pair (.int .u8) (.slice (.int .u8))) s_5), .d (.sl (.int .u8) s_6)])], 2⟩ [] (by kernel_rfl) trivial ?_
  rcases iteS h with ⟨b44_5, h⟩ | ⟨b44_5, h⟩
  · refine At.step hm ht ⟨[(5, .b true)], [], [], [2, 3, 4, 7], [0, 1]⟩ 2 ⟨[(2, .one (.c (.d (.bool sealed)))), (3, .one (.c (.ptr 0 0))), (4, .one (.c (.ptr 1 0))), (7, .one (.c (.d (.bool true))))], [], [(0, [.d (.int .i64 n__0), .d (.int .u32 n__1), .d (.int .u32 n__2), .d (.int .u32 n__3), .d (.int .u32 n__4)]), (1, [.d (.int .u16 s_0), .d (.int .u16 s_1), .d (.int .u32 s_2), .d (.int .u32 s_3), .d (.int .u8 s_4), .d (.sl (.pair (.int .u8) (.slice (.int .u8))) s_5), .d (.sl (.int .u8) s_6)])], 2⟩ [((s_3 : Int) == n__2) = true] (by kernel_rfl) ⟨b44_5, trivial⟩ ?_
    rcases iteS h with ⟨b45_1, h⟩ | ⟨b45_1, h⟩
    · rcases iteS h with ⟨b45_6, h⟩ | ⟨b45_6, h⟩
      · obtain ⟨r45_0, cr45_0, h⟩ := bindS h
        rcases iteS h with ⟨b45_e0, h⟩ | ⟨b45_e0, h⟩
        · refine At.step hm ht ⟨[(1, .b true), (6, .b true), (14, .call [] [] (f136_serial_Near_out r45_0))], [true], [], [], []⟩ 3 ⟨[], [], [], 0⟩ [sealed = true, ((s_4 : Int) == 2) = true, FnOK Go.Proofs.Try.prog 136 (f136_serial_Near_in s_2 n__4 1048576) (f136_serial_Near_out r45_0), r45_0 = true] (by kernel_rfl) ⟨b45_1, b45_6, (f136_serial_Near_ok s_2 n__4 1048576 r45_0 cr45_0), b45_e0, trivial⟩ ?_
          have h := Option.some.inj h
          subst h
          exact At.fin hm ht ⟨[], [], [], [6], []⟩ [] (by kernel_rfl) trivial
        · refine At.step hm ht ⟨[(1, .b true), (6, .b true), (14, .call [] [] (f136_serial_Near_out r45_0))], [false], [], [], []⟩ 4 ⟨[], [], [], 0⟩ [sealed = true, ((s_4 : Int) == 2) = true, FnOK Go.Proofs.Try.prog 136 (f136_serial_Near_in s_2 n__4 1048576) (f136_serial_Near_out r45_0), r45_0 = false] (by kernel_rfl) ⟨b45_1, b45_6, (f136_serial_Near_ok s_2 n__4 1048576 r45_0 cr45_0), b45_e0, trivial⟩ ?_
          have h := Option.some.inj h
          subst h
          exact At.fin hm ht ⟨[], [], [], [6], []⟩ [] (by kernel_rfl) trivial
      · refine At.step hm ht ⟨[(1, .b true), (6, .b false)], [false], [], [], []⟩ 4 ⟨[], [], [], 0⟩ [sealed = true, ((s_4 : Int) == 2) = false, false = false] (by kernel_rfl) ⟨b45_1, b45_6, rfl, trivial⟩ ?_
        have h := Option.some.inj h
        subst h
        exact At.fin hm ht ⟨[], [], [], [6], []⟩ [] (by kernel_rfl) trivial
    · refine At.step hm ht ⟨[(1, .b false)], [false], [], [], []⟩ 4 ⟨[], [], [], 0⟩ [sealed = false, false = false] (by kernel_rfl) ⟨b45_1, rfl, trivial⟩ ?_
      have h := Option.some.inj h
      subst h
      exact At.fin hm ht ⟨[], [], [], [6], []⟩ [] (by kernel_rfl) trivial
  · obtain ⟨r44_0, cr44_0, h⟩ := bindS h
    rcases iteS h with ⟨b44_14, h⟩ | ⟨b44_14, h⟩
    · refine At.step hm ht ⟨[(5, .b false), (12, .call [] [] (f75_serial_Between_out r44_0)), (14, .b true)], [], [], [2, 3, 4, 7], [0, 1]⟩ 2 ⟨[(2, .one (.c (.d (.bool sealed)))), (3, .one (.c (.ptr 0 0))), (4, .one (.c (.ptr 1 0))), (7, .one (.c (.d (.bool true))))], [], [(0, [.d (.int .i64 n__0), .d (.int .u32 n__1), .d (.int .u32 n__2), .d (.int .u32 n__3), .d (.int .u32 n__4)]), (1, [.d (.int .u16 s_0), .d (.int .u16 s_1), .d (.int .u32 s_2), .d (.int .u32 s_3), .d (.int .u8 s_4), .d (.sl (.pair (.int .u8) (.slice (.int .u8))) s_5), .d (.sl (.int .u8) s_6)])], 2⟩ [((s_3 : Int) == n__2) = false, FnOK Go.Proofs.Try.prog 75 (f75_serial_Between_in s_3 n__2 n__3) (f75_serial_Between_out r44_0), r44_0 = true] (by kernel_rfl) ⟨b44_5, (f75_serial_Between_ok s_3 n__2 n__3 r44_0 cr44_0), b44_14, trivial⟩ ?_
      rcases iteS h with ⟨b58_1, h⟩ | ⟨b58_1, h⟩
      · rcases iteS h with ⟨b58_6, h⟩ | ⟨b58_6, h⟩
        · obtain ⟨r58_0, cr58_0, h⟩ := bindS h
          rcases iteS h with ⟨b58_e0, h⟩ | ⟨b58_e0, h⟩
          · refine At.step hm ht ⟨[(1, .b true), (6, .b true), (14, .call [] [] (f136_serial_Near_out r58_0))], [true], [], [], []⟩ 3 ⟨[], [], [], 0⟩ [sealed = true, ((s_4 : Int) == 2) = true, FnOK Go.Proofs.Try.prog 136 (f136_serial_Near_in s_2 n__4 1048576) (f136_serial_Near_out r58_0), r58_0 = true] (by kernel_rfl) ⟨b58_1, b58_6, (f136_serial_Near_ok s_2 n__4 1048576 r58_0 cr58_0), b58_e0, trivial⟩ ?_
            have h := Option.some.inj h
            subst h
            exact At.fin hm ht ⟨[], [], [], [6], []⟩ [] (by kernel_rfl) trivial
          · refine At.step hm ht ⟨[(1, .b true), (6, .b true), (14, .call [] [] (f136_serial_Near_out r58_0))], [false], [], [], []⟩ 4 ⟨[], [], [], 0⟩ [sealed = true, ((s_4 : Int) == 2) = true, FnOK Go.Proofs.Try.prog 136 (f136_serial_Near_in s_2 n__4 1048576) (f136_serial_Near_out r58_0), r58_0 = false] (by kernel_rfl) ⟨b58_1, b58_6, (f136_serial_Near_ok s_2 n__4 1048576 r58_0 cr58_0), b58_e0, trivial⟩ ?_
            have h := Option.some.inj h
            subst h
            exact At.fin hm ht ⟨[], [], [], [6], []⟩ [] (by kernel_rfl) trivial
        · refine At.step hm ht ⟨[(1, .b true), (6, .b false)], [false], [], [], []⟩ 4 ⟨[], [], [], 0⟩ [sealed = true, ((s_4 : Int) == 2) = false, false = false] (by kernel_rfl) ⟨b58_1, b58_6, rfl, trivial⟩ ?_
          have h := Option.some.inj h
          subst h
          exact At.fin hm ht ⟨[], [], [], [6], []⟩ [] (by kernel_rfl) trivial
      · refine At.step hm ht ⟨[(1, .b false)], [false], [], [], []⟩ 4 ⟨[], [], [], 0⟩ [sealed = false, false = false] (by kernel_rfl) ⟨b58_1, rfl, trivial⟩ ?_
        have h := Option.some.inj h
        subst h
        exact At.fin hm ht ⟨[], [], [], [6], []⟩ [] (by kernel_rfl) trivial
    · obtain ⟨r44_1, cr44_1, h⟩ := bindS h
      refine At.step hm ht ⟨[(5, .b false), (12, .call [] [] (f75_serial_Between_out r44_0)), (14, .b false), (19, .call [] [] (f112_serial_Within_out r44_1))], [], [], [2, 3, 4, 7], [0, 1]⟩ 2 ⟨[(2, .one (.c (.d (.bool sealed)))), (3, .one (.c (.ptr 0 0))), (4, .one (.c (.ptr 1 0))), (7, .one (.c (.d (.bool r44_1))))], [], [(0, [.d (.int .i64 n__0), .d (.int .u32 n__1), .d (.int .u32 n__2), .d (.int .u32 n__3), .d (.int .u32 n__4)]), (1, [.d (.int .u16 s_0), .d (.int .u16 s_1), .d (.int .u32 s_2), .d (.int .u32 s_3), .d (.int .u8 s_4), .d (.sl (.pair (.int .u8) (.slice (.int .u8))) s_5), .d (.sl (.int .u8) s_6)])], 2⟩ [((s_3 : Int) == n__2) = false, FnOK Go.Proofs.Try.prog 75 (f75_serial_Between_in s_3 n__2 n__3) (f75_serial_Between_out r44_0), r44_0 = false, FnOK Go.Proofs.Try.prog 112 (f112_serial_Within_in n__2 s_3 1048576) (f112_serial_Within_out r44_1)] (by kernel_rfl) ⟨b44_5, (f75_serial_Between_ok s_3 n__2 n__3 r44_0 cr44_0), b44_14, (f112_serial_Within_ok n__2 s_3 1048576 r44_1 cr44_1), trivial⟩ ?_
      rcases iteS h with ⟨b63_1, h⟩ | ⟨b63_1, h⟩
      · rcases iteS h with ⟨b63_6, h⟩ | ⟨b63_6, h⟩
        · rcases iteS h with ⟨b63_9, h⟩ | ⟨b63_9, h⟩
          · obtain ⟨r63_0, cr63_0, h⟩ := bindS h
            rcases iteS h with ⟨b63_e0, h⟩ | ⟨b63_e0, h⟩
            · refine At.step hm ht ⟨[(1, .b true), (6, .b true), (9, .b true), (14, .call [] [] (f136_serial_Near_out r63_0))], [true], [], [], []⟩ 3 ⟨[], [], [], 0⟩ [sealed = true, ((s_4 : Int) == 2) = true, r44_1 = true, FnOK Go.Proofs.Try.prog 136 (f136_serial_Near_in s_2 n__4 1048576) (f136_serial_Near_out r63_0), r63_0 = true] (by kernel_rfl) ⟨b63_1, b63_6, b63_9, (f136_serial_Near_ok s_2 n__4 1048576 r63_0 cr63_0), b63_e0, trivial⟩ ?_
              have h := Option.some.inj h
              subst h
              exact At.fin hm ht ⟨[], [], [], [6], []⟩ [] (by kernel_rfl) trivial
            · refine At.step hm ht ⟨[(1, .b true), (6, .b true), (9, .b true), (14, .call [] [] (f136_serial_Near_out r63_0))], [false], [], [], []⟩ 4 ⟨[], [], [], 0⟩ [sealed = true, ((s_4 : Int) == 2) = true, r44_1 = true, FnOK Go.Proofs.Try.prog 136 (f136_serial_Near_in s_2 n__4 1048576) (f136_serial_Near_out r63_0), r63_0 = false] (by kernel_rfl) ⟨b63_1, b63_6, b63_9, (f136_serial_Near_ok s_2 n__4 1048576 r63_0 cr63_0), b63_e0, trivial⟩ ?_
              have h := Option.some.inj h
              subst h
              exact At.fin hm ht ⟨[], [], [], [6], []⟩ [] (by kernel_rfl) trivial
          · refine At.step hm ht ⟨[(1, .b true), (6, .b true), (9, .b false)], [false], [], [], []⟩ 4 ⟨[], [], [], 0⟩ [sealed = true, ((s_4 : Int) == 2) = true, r44_1 = false, false = false] (by kernel_rfl) ⟨b63_1, b63_6, b63_9, rfl, trivial⟩ ?_
            have h := Option.some.inj h
            subst h
            exact At.fin hm ht ⟨[], [], [], [6], []⟩ [] (by kernel_rfl) trivial
        · refine At.step hm ht ⟨[(1, .b true), (6, .b false)], [false], [], [], []⟩ 4 ⟨[], [], [], 0⟩ [sealed = true, ((s_4 : Int) == 2) = false, false = false] (by kernel_rfl) ⟨b63_1, b63_6, rfl, trivial⟩ ?_
          have h := Option.some.inj h
          subst h
          exact At.fin hm ht ⟨[], [], [], [6], []⟩ [] (by kernel_rfl) trivial
      · refine At.step hm ht ⟨[(1, .b false)], [false], [], [], []⟩ 4 ⟨[], [], [], 0⟩ [sealed = false, false = false] (by kernel_rfl) ⟨b63_1, rfl, trivial⟩ ?_
        have h := Option.some.inj h
        subst h
        exact At.fin hm ht ⟨[], [], [], [6], []⟩ [] (by kernel_rfl) trivial
/-! brougham/judge.half -/
def f65_judge_half_in (n__0 : Int) (n__1 : Int) (n__2 : Int) (n__3 : Int) (n__4 : Int) (s_0 : Int) (s_1 : Int) (s_2 : Int) (s_3 : Int) (s_4 : Int) (s_5 : List (Int × List Int)) (s_6 : List Int) (sealed : Bool) : Inn := ⟨[.agg [.d (.int .i64 n__0), .d (.int .u32 n__1), .d (.int .u32 n__2), .d (.int .u32 n__3), .d (.int .u32 n__4)], .agg [.d (.int .u16 s_0), .d (.int .u16 s_1), .d (.int .u32 s_2), .d (.int .u32 s_3), .d (.int .u8 s_4), .d (.sl (.pair (.int .u8) (.slice (.int .u8))) s_5), .d (.sl (.int .u8) s_6)], .c (.d (.bool sealed))], [], [], 0⟩
def f65_judge_half_out (r : Int) : Out := ⟨.one (.c (.d (.int .i64 r))), [], [], 0⟩
def f65_judge_half (n__0 : Int) (n__1 : Int) (n__2 : Int) (n__3 : Int) (n__4 : Int) (s_0 : Int) (s_1 : Int) (s_2 : Int) (s_3 : Int) (s_4 : Int) (s_5 : List (Int × List Int)) (s_6 : List Int) (sealed : Bool) : Option (Int) :=
  if (((bits .and .u8 s_4 4) : Int) != 0) = true then
    if ((s_2 : Int) == n__4) = true then
      some 4
    else
      some 2
  else
    if (((bits .and .u8 s_4 1) : Int) != 0) = true then
      if ((s_4 : Int) == 1) = true then
        if (((IntKind.wrap .u32 (s_2 + 1)) : Int) == n__4) = true then
          some 1
        else
          some 2
      else
        some 2
    else
      (f111_judge_sure n__0 n__1 n__2 n__3 n__4 s_0 s_1 s_2 s_3 s_4 s_5 s_6 sealed).bind fun r42_0 =>
      some r42_0
theorem f65_judge_half_ok (n__0 : Int) (n__1 : Int) (n__2 : Int) (n__3 : Int) (n__4 : Int) (s_0 : Int) (s_1 : Int) (s_2 : Int) (s_3 : Int) (s_4 : Int) (s_5 : List (Int × List Int)) (s_6 : List Int) (sealed : Bool) (r : Int) (h : f65_judge_half n__0 n__1 n__2 n__3 n__4 s_0 s_1 s_2 s_3 s_4 s_5 s_6 sealed = some r) : FnOK Go.Proofs.Try.prog 65 (f65_judge_half_in n__0 n__1 n__2 n__3 n__4 s_0 s_1 s_2 s_3 s_4 s_5 s_6 sealed) (f65_judge_half_out r) := by
  unfold f65_judge_half at h
  refine At.fn (r := 0) Go.Proofs.Try.func65 rfl (by kernel_rfl) rfl rfl (by kernel_rfl) ?_
  show At Go.Proofs.Try.prog Go.Proofs.Try.f65 0 0 ⟨[(0, .one (.agg [.d (.int .i64 n__0), .d (.int .u32 n__1), .d (.int .u32 n__2), .d (.int .u32 n__3), .d (.int .u32 n__4)])), (1, .one (.agg [.d (.int .u16 s_0), .d (.int .u16 s_1), .d (.int .u32 s_2), .d (.int .u32 s_3), .d (.int .u8 s_4), .d (.sl (.pair (.int .u8) (.slice (.int .u8))) s_5), .d (.sl (.int .u8) s_6)])), (2, .one (.c (.d (.bool sealed))))], [], [], 0⟩ _
  refine At.step hm ht ⟨[], [], [], [2, 3, 4], [0, 1]⟩ 1 ⟨[(2, .one (.c (.d (.bool sealed)))), (3, .one (.c (.ptr 0 0))), (4, .one (.c (.ptr 1 0)))], [], [(0, [.d (.int .i64 n__0), .d (.int .u32 n__1), .d (.int .u32 n__2), .d (.int .u32 n__3), .d (.int .u32 n__4)]), (1, [.d (.int .u16 s_0), .d (.int .u16 s_1), .d (.int .u32 s_2), .d (.int .u32 s_3), .d (.int .u8 s_4), .d (.sl (.pair (.int .u8) (.slice (.int .u8))) s_5), .d (.sl (.int .u8) s_6)])], 2⟩ [] (by kernel_rfl) trivial ?_
  rcases iteS h with ⟨b33_e0, h⟩ | ⟨b33_e0, h⟩
  · refine At.step hm ht ⟨[], [true], [], [3, 4], [0, 1]⟩ 2 ⟨[(3, .one (.c (.ptr 0 0))), (4, .one (.c (.ptr 1 0)))], [], [(0, [.d (.int .i64 n__0), .d (.int .u32 n__1), .d (.int .u32 n__2), .d (.int .u32 n__3), .d (.int .u32 n__4)]), (1, [.d (.int .u16 s_0), .d (.int .u16 s_1), .d (.int .u32 s_2), .d (.int .u32 s_3), .d (.int .u8 s_4), .d (.sl (.pair (.int .u8) (.slice (.int .u8))) s_5), .d (.sl (.int .u8) s_6)])], 2⟩ [(((bits .and .u8 s_4 4) : Int) != 0) = true] (by kernel_rfl) ⟨b33_e0, trivial⟩ ?_
    rcases iteS h with ⟨b34_e0, h⟩ | ⟨b34_e0, h⟩
    · refine At.step hm ht ⟨[], [true], [], [], []⟩ 3 ⟨[], [], [], 0⟩ [((s_2 : Int) == n__4) = true] (by kernel_rfl) ⟨b34_e0, trivial⟩ ?_
      have h := Option.some.inj h
      subst h
      exact At.fin hm ht ⟨[], [], [], [6], []⟩ [] (by kernel_rfl) trivial
    · refine At.step hm ht ⟨[], [false], [], [], []⟩ 4 ⟨[], [], [], 0⟩ [((s_2 : Int) == n__4) = false] (by kernel_rfl) ⟨b34_e0, trivial⟩ ?_
      have h := Option.some.inj h
      subst h
      exact At.fin hm ht ⟨[], [], [], [6], []⟩ [] (by kernel_rfl) trivial
  · refine At.step hm ht ⟨[], [false], [], [2, 3, 4], [0, 1]⟩ 5 ⟨[(2, .one (.c (.d (.bool sealed)))), (3, .one (.c (.ptr 0 0))), (4, .one (.c (.ptr 1 0)))], [], [(0, [.d (.int .i64 n__0), .d (.int .u32 n__1), .d (.int .u32 n__2), .d (.int .u32 n__3), .d (.int .u32 n__4)]), (1, [.d (.int .u16 s_0), .d (.int .u16 s_1), .d (.int .u32 s_2), .d (.int .u32 s_3), .d (.int .u8 s_4), .d (.sl (.pair (.int .u8) (.slice (.int .u8))) s_5), .d (.sl (.int .u8) s_6)])], 2⟩ [(((bits .and .u8 s_4 4) : Int) != 0) = false] (by kernel_rfl) ⟨b33_e0, trivial⟩ ?_
    rcases iteS h with ⟨b37_e0, h⟩ | ⟨b37_e0, h⟩
    · refine At.step hm ht ⟨[], [true], [], [3, 4], [0, 1]⟩ 6 ⟨[(3, .one (.c (.ptr 0 0))), (4, .one (.c (.ptr 1 0)))], [], [(0, [.d (.int .i64 n__0), .d (.int .u32 n__1), .d (.int .u32 n__2), .d (.int .u32 n__3), .d (.int .u32 n__4)]), (1, [.d (.int .u16 s_0), .d (.int .u16 s_1), .d (.int .u32 s_2), .d (.int .u32 s_3), .d (.int .u8 s_4), .d (.sl (.pair (.int .u8) (.slice (.int .u8))) s_5), .d (.sl (.int .u8) s_6)])], 2⟩ [(((bits .and .u8 s_4 1) : Int) != 0) = true] (by kernel_rfl) ⟨b37_e0, trivial⟩ ?_
      rcases iteS h with ⟨b38_3, h⟩ | ⟨b38_3, h⟩
      · rcases iteS h with ⟨b38_e0, h⟩ | ⟨b38_e0, h⟩
        · refine At.step hm ht ⟨[(3, .b true)], [true], [], [], []⟩ 7 ⟨[], [], [], 0⟩ [((s_4 : Int) == 1) = true, (((IntKind.wrap .u32 (s_2 + 1)) : Int) == n__4) = true] (by kernel_rfl) ⟨b38_3, b38_e0, trivial⟩ ?_
          have h := Option.some.inj h
          subst h
          exact At.fin hm ht ⟨[], [], [], [6], []⟩ [] (by kernel_rfl) trivial
        · refine At.step hm ht ⟨[(3, .b true)], [false], [], [], []⟩ 8 ⟨[], [], [], 0⟩ [((s_4 : Int) == 1) = true, (((IntKind.wrap .u32 (s_2 + 1)) : Int) == n__4) = false] (by kernel_rfl) ⟨b38_3, b38_e0, trivial⟩ ?_
          have h := Option.some.inj h
          subst h
          exact At.fin hm ht ⟨[], [], [], [6], []⟩ [] (by kernel_rfl) trivial
      · refine At.step hm ht ⟨[(3, .b false)], [false], [], [], []⟩ 8 ⟨[], [], [], 0⟩ [((s_4 : Int) == 1) = false, false = false] (by kernel_rfl) ⟨b38_3, rfl, trivial⟩ ?_
        have h := Option.some.inj h
        subst h
        exact At.fin hm ht ⟨[], [], [], [6], []⟩ [] (by kernel_rfl) trivial
    · refine At.step hm ht ⟨[], [false], [], [2, 3, 4], [0, 1]⟩ 9 ⟨[(2, .one (.c (.d (.bool sealed)))), (3, .one (.c (.ptr 0 0))), (4, .one (.c (.ptr 1 0)))], [], [(0, [.d (.int .i64 n__0), .d (.int .u32 n__1), .d (.int .u32 n__2), .d (.int .u32 n__3), .d (.int .u32 n__4)]), (1, [.d (.int .u16 s_0), .d (.int .u16 s_1), .d (.int .u32 s_2), .d (.int .u32 s_3), .d (.int .u8 s_4), .d (.sl (.pair (.int .u8) (.slice (.int .u8))) s_5), .d (.sl (.int .u8) s_6)])], 2⟩ [(((bits .and .u8 s_4 1) : Int) != 0) = false] (by kernel_rfl) ⟨b37_e0, trivial⟩ ?_
      obtain ⟨r42_0, cr42_0, h⟩ := bindS h
      have h := Option.some.inj h
      subst h
      exact At.fin hm ht ⟨[(3, .call [] [] (f111_judge_sure_out r42_0))], [], [], [6], []⟩ [FnOK Go.Proofs.Try.prog 111 (f111_judge_sure_in n__0 n__1 n__2 n__3 n__4 s_0 s_1 s_2 s_3 s_4 s_5 s_6 sealed) (f111_judge_sure_out r42_0)] (by kernel_rfl) ⟨(f111_judge_sure_ok n__0 n__1 n__2 n__3 n__4 s_0 s_1 s_2 s_3 s_4 s_5 s_6 sealed r42_0 cr42_0), trivial⟩
/-! brougham/judge.up -/
def f66_judge_up_in (n__0 : Int) (n__1 : Int) (n__2 : Int) (n__3 : Int) (n__4 : Int) (s_0 : Int) (s_1 : Int) (s_2 : Int) (s_3 : Int) (s_4 : Int) (s_5 : List (Int × List Int)) (s_6 : List Int) (sealed : Bool) : Inn := ⟨[.agg [.d (.int .i64 n__0), .d (.int .u32 n__1), .d (.int .u32 n__2), .d (.int .u32 n__3), .d (.int .u32 n__4)], .agg [.d (.int .u16 s_0), .d (.int .u16 s_1), .d (.int .u32 s_2), .d (.int .u32 s_3), .d (.int .u8 s_4), .d (.sl (.pair (.int .u8) (.slice (.int .u8))) s_5), .d (.sl (.int .u8) s_6)], .c (.d (.bool sealed))], [], [], 0⟩
def f66_judge_up_out (r : Int) : Out := ⟨.one (.c (.d (.int .i64 r))), [], [], 0⟩
def f66_judge_up (n__0 : Int) (n__1 : Int) (n__2 : Int) (n__3 : Int) (n__4 : Int) (s_0 : Int) (s_1 : Int) (s_2 : Int) (s_3 : Int) (s_4 : Int) (s_5 : List (Int × List Int)) (s_6 : List Int) (sealed : Bool) : Option (Int) :=
  if (((bits .and .u8 s_4 4) : Int) != 0) = true then
    if ((s_2 : Int) == n__4) = true then
      some 4
    else
      (f112_serial_Within s_2 n__4 1048576).bind fun r75_0 =>
      if r75_0 = true then
        some 3
      else
        some 2
  else
    if (((bits .and .u8 s_4 1) : Int) != 0) = true then
      some 3
    else
      (f111_judge_sure n__0 n__1 n__2 n__3 n__4 s_0 s_1 s_2 s_3 s_4 s_5 s_6 sealed).bind fun r80_0 =>
      some r80_0
theorem f66_judge_up_ok (n__0 : Int) (n__1 : Int) (n__2 : Int) (n__3 : Int) (n__4 : Int) (s_0 : Int) (s_1 : Int) (s_2 : Int) (s_3 : Int) (s_4 : Int) (s_5 : List (Int × List Int)) (s_6 : List Int) (sealed : Bool) (r : Int) (h : f66_judge_up n__0 n__1 n__2 n__3 n__4 s_0 s_1 s_2 s_3 s_4 s_5 s_6 sealed = some r) : FnOK Go.Proofs.Try.prog 66 (f66_judge_up_in n__0 n__1 n__2 n__3 n__4 s_0 s_1 s_2 s_3 s_4 s_5 s_6 sealed) (f66_judge_up_out r) := by
  unfold f66_judge_up at h
  refine At.fn (r := 0) Go.Proofs.Try.func66 rfl (by kernel_rfl) rfl rfl (by kernel_rfl) ?_
  show At Go.Proofs.Try.prog Go.Proofs.Try.f66 0 0 ⟨[(0, .one (.agg [.d (.int .i64 n__0), .d (.int .u32 n__1), .d (.int .u32 n__2), .d (.int .u32 n__3), .d (.int .u32 n__4)])), (1, .one (.agg [.d (.int .u16 s_0), .d (.int .u16 s_1), .d (.int .u32 s_2), .d (.int .u32 s_3), .d (.int .u8 s_4), .d (.sl (.pair (.int .u8) (.slice (.int .u8))) s_5), .d (.sl (.int .u8) s_6)])), (2, .one (.c (.d (.bool sealed))))], [], [], 0⟩ _
  refine At.step hm ht ⟨[], [], [], [2, 3, 4], [0, 1]⟩ 1 ⟨[(2, .one (.c (.d (.bool sealed)))), (3, .one (.c (.ptr 0 0))), (4, .one (.c (.ptr 1 0)))], [], [(0, [.d (.int .i64 n__0), .d (.int .u32 n__1), .d (.int .u32 n__2), .d (.int .u32 n__3), .d (.int .u32 n__4)]), (1, [.d (.int .u16 s_0), .d (.int .u16 s_1), .d (.int .u32 s_2), .d (.int .u32 s_3), .d (.int .u8 s_4), .d (.sl (.pair (.int .u8) (.slice (.int .u8))) s_5), .d (.sl (.int .u8) s_6)])], 2⟩ [] (by kernel_rfl) trivial ?_
  rcases iteS h with ⟨b72_e0, h⟩ | ⟨b72_e0, h⟩
  · refine At.step hm ht ⟨[], [true], [], [3, 4], [0, 1]⟩ 2 ⟨[(3, .one (.c (.ptr 0 0))), (4, .one (.c (.ptr 1 0)))], [], [(0, [.d (.int .i64 n__0), .d (.int .u32 n__1), .d (.int .u32 n__2), .d (.int .u32 n__3), .d (.int .u32 n__4)]), (1, [.d (.int .u16 s_0), .d (.int .u16 s_1), .d (.int .u32 s_2), .d (.int .u32 s_3), .d (.int .u8 s_4), .d (.sl (.pair (.int .u8) (.slice (.int .u8))) s_5), .d (.sl (.int .u8) s_6)])], 2⟩ [(((bits .and .u8 s_4 4) : Int) != 0) = true] (by kernel_rfl) ⟨b72_e0, trivial⟩ ?_
    rcases iteS h with ⟨b73_e0, h⟩ | ⟨b73_e0, h⟩
    · refine At.step hm ht ⟨[], [true], [], [], []⟩ 3 ⟨[], [], [], 0⟩ [((s_2 : Int) == n__4) = true] (by kernel_rfl) ⟨b73_e0, trivial⟩ ?_
      have h := Option.some.inj h
      subst h
      exact At.fin hm ht ⟨[], [], [], [6], []⟩ [] (by kernel_rfl) trivial
    · refine At.step hm ht ⟨[], [false], [], [3, 4], [0, 1]⟩ 4 ⟨[(3, .one (.c (.ptr 0 0))), (4, .one (.c (.ptr 1 0)))], [], [(0, [.d (.int .i64 n__0), .d (.int .u32 n__1), .d (.int .u32 n__2), .d (.int .u32 n__3), .d (.int .u32 n__4)]), (1, [.d (.int .u16 s_0), .d (.int .u16 s_1), .d (.int .u32 s_2), .d (.int .u32 s_3), .d (.int .u8 s_4), .d (.sl (.pair (.int .u8) (.slice (.int .u8))) s_5), .d (.sl (.int .u8) s_6)])], 2⟩ [((s_2 : Int) == n__4) = false] (by kernel_rfl) ⟨b73_e0, trivial⟩ ?_
      obtain ⟨r75_0, cr75_0, h⟩ := bindS h
      rcases iteS h with ⟨b75_e0, h⟩ | ⟨b75_e0, h⟩
      · refine At.step hm ht ⟨[(4, .call [] [] (f112_serial_Within_out r75_0))], [true], [], [], []⟩ 5 ⟨[], [], [], 0⟩ [FnOK Go.Proofs.Try.prog 112 (f112_serial_Within_in s_2 n__4 1048576) (f112_serial_Within_out r75_0), r75_0 = true] (by kernel_rfl) ⟨(f112_serial_Within_ok s_2 n__4 1048576 r75_0 cr75_0), b75_e0, trivial⟩ ?_
        have h := Option.some.inj h
        subst h
        exact At.fin hm ht ⟨[], [], [], [6], []⟩ [] (by kernel_rfl) trivial
      · refine At.step hm ht ⟨[(4, .call [] [] (f112_serial_Within_out r75_0))], [false], [], [], []⟩ 6 ⟨[], [], [], 0⟩ [FnOK Go.Proofs.Try.prog 112 (f112_serial_Within_in s_2 n__4 1048576) (f112_serial_Within_out r75_0), r75_0 = false] (by kernel_rfl) ⟨(f112_serial_Within_ok s_2 n__4 1048576 r75_0 cr75_0), b75_e0, trivial⟩ ?_
        have h := Option.some.inj h
        subst h
        exact At.fin hm ht ⟨[], [], [], [6], []⟩ [] (by kernel_rfl) trivial
  · refine At.step hm ht ⟨[], [false], [], [2, 3, 4], [0, 1]⟩ 7 ⟨[(2, .one (.c (.d (.bool sealed)))), (3, .one (.c (.ptr 0 0))), (4, .one (.c (.ptr 1 0)))], [], [(0, [.d (.int .i64 n__0), .d (.int .u32 n__1), .d (.int .u32 n__2), .d (.int .u32 n__3), .d (.int .u32 n__4)]), (1, [.d (.int .u16 s_0), .d (.int .u16 s_1), .d (.int .u32 s_2), .d (.int .u32 s_3), .d (.int .u8 s_4), .d (.sl (.pair (.int .u8) (.slice (.int .u8))) s_5), .d (.sl (.int .u8) s_6)])], 2⟩ [(((bits .and .u8 s_4 4) : Int) != 0) = false] (by kernel_rfl) ⟨b72_e0, trivial⟩ ?_
    rcases iteS h with ⟨b78_e0, h⟩ | ⟨b78_e0, h⟩
    · refine At.step hm ht ⟨[], [true], [], [], []⟩ 8 ⟨[], [], [], 0⟩ [(((bits .and .u8 s_4 1) : Int) != 0) = true] (by kernel_rfl) ⟨b78_e0, trivial⟩ ?_
      have h := Option.some.inj h
      subst h
      exact At.fin hm ht ⟨[], [], [], [6], []⟩ [] (by kernel_rfl) trivial
    · refine At.step hm ht ⟨[], [false], [], [2, 3, 4], [0, 1]⟩ 9 ⟨[(2, .one (.c (.d (.bool sealed)))), (3, .one (.c (.ptr 0 0))), (4, .one (.c (.ptr 1 0)))], [], [(0, [.d (.int .i64 n__0), .d (.int .u32 n__1), .d (.int .u32 n__2), .d (.int .u32 n__3), .d (.int .u32 n__4)]), (1, [.d (.int .u16 s_0), .d (.int .u16 s_1), .d (.int .u32 s_2), .d (.int .u32 s_3), .d (.int .u8 s_4), .d (.sl (.pair (.int .u8) (.slice (.int .u8))) s_5), .d (.sl (.int .u8) s_6)])], 2⟩ [(((bits .and .u8 s_4 1) : Int) != 0) = false] (by kernel_rfl) ⟨b78_e0, trivial⟩ ?_
      obtain ⟨r80_0, cr80_0, h⟩ := bindS h
      have h := Option.some.inj h
      subst h
      exact At.fin hm ht ⟨[(3, .call [] [] (f111_judge_sure_out r80_0))], [], [], [6], []⟩ [FnOK Go.Proofs.Try.prog 111 (f111_judge_sure_in n__0 n__1 n__2 n__3 n__4 s_0 s_1 s_2 s_3 s_4 s_5 s_6 sealed) (f111_judge_sure_out r80_0)] (by kernel_rfl) ⟨(f111_judge_sure_ok n__0 n__1 n__2 n__3 n__4 s_0 s_1 s_2 s_3 s_4 s_5 s_6 sealed r80_0 cr80_0), trivial⟩
/-! brougham/judge.Judge -/
def f23_judge_Judge_in (n__0 : Int) (n__1 : Int) (n__2 : Int) (n__3 : Int) (n__4 : Int) (s_0 : Int) (s_1 : Int) (s_2 : Int) (s_3 : Int) (s_4 : Int) (s_5 : List (Int × List Int)) (s_6 : List Int) (sealed : Bool) : Inn := ⟨[.agg [.d (.int .i64 n__0), .d (.int .u32 n__1), .d (.int .u32 n__2), .d (.int .u32 n__3), .d (.int .u32 n__4)], .agg [.d (.int .u16 s_0), .d (.int .u16 s_1), .d (.int .u32 s_2), .d (.int .u32 s_3), .d (.int .u8 s_4), .d (.sl (.pair (.int .u8) (.slice (.int .u8))) s_5), .d (.sl (.int .u8) s_6)], .c (.d (.bool sealed))], [], [], 0⟩
def f23_judge_Judge_out (r : Int) : Out := ⟨.one (.c (.d (.int .i64 r))), [], [], 0⟩
def f23_judge_Judge (n__0 : Int) (n__1 : Int) (n__2 : Int) (n__3 : Int) (n__4 : Int) (s_0 : Int) (s_1 : Int) (s_2 : Int) (s_3 : Int) (s_4 : Int) (s_5 : List (Int × List Int)) (s_6 : List Int) (sealed : Bool) : Option (Int) :=
  if ((n__0 : Int) == 1) = true then
    (f64_judge_opening n__0 n__1 n__2 n__3 n__4 s_0 s_1 s_2 s_3 s_4 s_5 s_6).bind fun r7_0 =>
    some r7_0
  else
    if ((n__0 : Int) == 2) = true then
      (f65_judge_half n__0 n__1 n__2 n__3 n__4 s_0 s_1 s_2 s_3 s_4 s_5 s_6 sealed).bind fun r31_0 =>
      some r31_0
    else
      if ((n__0 : Int) == 3) = true then
        (f66_judge_up n__0 n__1 n__2 n__3 n__4 s_0 s_1 s_2 s_3 s_4 s_5 s_6 sealed).bind fun r70_0 =>
        some r70_0
      else
        some 2
theorem f23_judge_Judge_ok (n__0 : Int) (n__1 : Int) (n__2 : Int) (n__3 : Int) (n__4 : Int) (s_0 : Int) (s_1 : Int) (s_2 : Int) (s_3 : Int) (s_4 : Int) (s_5 : List (Int × List Int)) (s_6 : List Int) (sealed : Bool) (r : Int) (h : f23_judge_Judge n__0 n__1 n__2 n__3 n__4 s_0 s_1 s_2 s_3 s_4 s_5 s_6 sealed = some r) : FnOK Go.Proofs.Try.prog 23 (f23_judge_Judge_in n__0 n__1 n__2 n__3 n__4 s_0 s_1 s_2 s_3 s_4 s_5 s_6 sealed) (f23_judge_Judge_out r) := by
  unfold f23_judge_Judge at h
  refine At.fn (r := 0) Go.Proofs.Try.func23 rfl (by kernel_rfl) rfl rfl (by kernel_rfl) ?_
  show At Go.Proofs.Try.prog Go.Proofs.Try.f23 0 0 ⟨[(0, .one (.agg [.d (.int .i64 n__0), .d (.int .u32 n__1), .d (.int .u32 n__2), .d (.int .u32 n__3), .d (.int .u32 n__4)])), (1, .one (.agg [.d (.int .u16 s_0), .d (.int .u16 s_1), .d (.int .u32 s_2), .d (.int .u32 s_3), .d (.int .u8 s_4), .d (.sl (.pair (.int .u8) (.slice (.int .u8))) s_5), .d (.sl (.int .u8) s_6)])), (2, .one (.c (.d (.bool sealed))))], [], [], 0⟩ _
  refine At.step hm ht ⟨[], [], [], [2, 3, 4], [0, 1]⟩ 1 ⟨[(2, .one (.c (.d (.bool sealed)))), (3, .one (.c (.ptr 0 0))), (4, .one (.c (.ptr 1 0)))], [], [(0, [.d (.int .i64 n__0), .d (.int .u32 n__1), .d (.int .u32 n__2), .d (.int .u32 n__3), .d (.int .u32 n__4)]), (1, [.d (.int .u16 s_0), .d (.int .u16 s_1), .d (.int .u32 s_2), .d (.int .u32 s_3), .d (.int .u8 s_4), .d (.sl (.pair (.int .u8) (.slice (.int .u8))) s_5), .d (.sl (.int .u8) s_6)])], 2⟩ [] (by kernel_rfl) trivial ?_
  refine At.step hm ht ⟨[], [], [], [2, 3, 4, 8], [0, 1]⟩ 2 ⟨[(2, .one (.c (.d (.bool sealed)))), (3, .one (.c (.ptr 0 0))), (4, .one (.c (.ptr 1 0))), (8, .one (.c (.d (.int .i64 n__0))))], [], [(0, [.d (.int .i64 n__0), .d (.int .u32 n__1), .d (.int .u32 n__2), .d (.int .u32 n__3), .d (.int .u32 n__4)]), (1, [.d (.int .u16 s_0), .d (.int .u16 s_1), .d (.int .u32 s_2), .d (.int .u32 s_3), .d (.int .u8 s_4), .d (.sl (.pair (.int .u8) (.slice (.int .u8))) s_5), .d (.sl (.int .u8) s_6)])], 2⟩ [] (by kernel_rfl) trivial ?_
  rcases iteS h with ⟨b6_e0, h⟩ | ⟨b6_e0, h⟩
  · refine At.step hm ht ⟨[], [true], [], [3, 4], [0, 1]⟩ 3 ⟨[(3, .one (.c (.ptr 0 0))), (4, .one (.c (.ptr 1 0)))], [], [(0, [.d (.int .i64 n__0), .d (.int .u32 n__1), .d (.int .u32 n__2), .d (.int .u32 n__3), .d (.int .u32 n__4)]), (1, [.d (.int .u16 s_0), .d (.int .u16 s_1), .d (.int .u32 s_2), .d (.int .u32 s_3), .d (.int .u8 s_4), .d (.sl (.pair (.int .u8) (.slice (.int .u8))) s_5), .d (.sl (.int .u8) s_6)])], 2⟩ [((n__0 : Int) == 1) = true] (by kernel_rfl) ⟨b6_e0, trivial⟩ ?_
    obtain ⟨r7_0, cr7_0, h⟩ := bindS h
    have h := Option.some.inj h
    subst h
    exact At.fin hm ht ⟨[(2, .call [] [] (f64_judge_opening_out r7_0))], [], [], [6], []⟩ [FnOK Go.Proofs.Try.prog 64 (f64_judge_opening_in n__0 n__1 n__2 n__3 n__4 s_0 s_1 s_2 s_3 s_4 s_5 s_6) (f64_judge_opening_out r7_0)] (by kernel_rfl) ⟨(f64_judge_opening_ok n__0 n__1 n__2 n__3 n__4 s_0 s_1 s_2 s_3 s_4 s_5 s_6 r7_0 cr7_0), trivial⟩
  · refine At.step hm ht ⟨[], [false], [], [2, 3, 4, 8], [0, 1]⟩ 4 ⟨[(2, .one (.c (.d (.bool sealed)))), (3, .one (.c (.ptr 0 0))), (4, .one (.c (.ptr 1 0))), (8, .one (.c (.d (.int .i64 n__0))))], [], [(0, [.d (.int .i64 n__0), .d (.int .u32 n__1), .d (.int .u32 n__2), .d (.int .u32 n__3), .d (.int .u32 n__4)]), (1, [.d (.int .u16 s_0), .d (.int .u16 s_1), .d (.int .u32 s_2), .d (.int .u32 s_3), .d (.int .u8 s_4), .d (.sl (.pair (.int .u8) (.slice (.int .u8))) s_5), .d (.sl (.int .u8) s_6)])], 2⟩ [((n__0 : Int) == 1) = false] (by kernel_rfl) ⟨b6_e0, trivial⟩ ?_
    rcases iteS h with ⟨b30_e0, h⟩ | ⟨b30_e0, h⟩
    · refine At.step hm ht ⟨[], [true], [], [2, 3, 4], [0, 1]⟩ 5 ⟨[(2, .one (.c (.d (.bool sealed)))), (3, .one (.c (.ptr 0 0))), (4, .one (.c (.ptr 1 0)))], [], [(0, [.d (.int .i64 n__0), .d (.int .u32 n__1), .d (.int .u32 n__2), .d (.int .u32 n__3), .d (.int .u32 n__4)]), (1, [.d (.int .u16 s_0), .d (.int .u16 s_1), .d (.int .u32 s_2), .d (.int .u32 s_3), .d (.int .u8 s_4), .d (.sl (.pair (.int .u8) (.slice (.int .u8))) s_5), .d (.sl (.int .u8) s_6)])], 2⟩ [((n__0 : Int) == 2) = true] (by kernel_rfl) ⟨b30_e0, trivial⟩ ?_
      obtain ⟨r31_0, cr31_0, h⟩ := bindS h
      have h := Option.some.inj h
      subst h
      exact At.fin hm ht ⟨[(3, .call [] [] (f65_judge_half_out r31_0))], [], [], [6], []⟩ [FnOK Go.Proofs.Try.prog 65 (f65_judge_half_in n__0 n__1 n__2 n__3 n__4 s_0 s_1 s_2 s_3 s_4 s_5 s_6 sealed) (f65_judge_half_out r31_0)] (by kernel_rfl) ⟨(f65_judge_half_ok n__0 n__1 n__2 n__3 n__4 s_0 s_1 s_2 s_3 s_4 s_5 s_6 sealed r31_0 cr31_0), trivial⟩
    · refine At.step hm ht ⟨[], [false], [], [2, 3, 4, 8], [0, 1]⟩ 6 ⟨[(2, .one (.c (.d (.bool sealed)))), (3, .one (.c (.ptr 0 0))), (4, .one (.c (.ptr 1 0))), (8, .one (.c (.d (.int .i64 n__0))))], [], [(0, [.d (.int .i64 n__0), .d (.int .u32 n__1), .d (.int .u32 n__2), .d (.int .u32 n__3), .d (.int .u32 n__4)]), (1, [.d (.int .u16 s_0), .d (.int .u16 s_1), .d (.int .u32 s_2), .d (.int .u32 s_3), .d (.int .u8 s_4), .d (.sl (.pair (.int .u8) (.slice (.int .u8))) s_5), .d (.sl (.int .u8) s_6)])], 2⟩ [((n__0 : Int) == 2) = false] (by kernel_rfl) ⟨b30_e0, trivial⟩ ?_
      rcases iteS h with ⟨b69_e0, h⟩ | ⟨b69_e0, h⟩
      · refine At.step hm ht ⟨[], [true], [], [2, 3, 4], [0, 1]⟩ 7 ⟨[(2, .one (.c (.d (.bool sealed)))), (3, .one (.c (.ptr 0 0))), (4, .one (.c (.ptr 1 0)))], [], [(0, [.d (.int .i64 n__0), .d (.int .u32 n__1), .d (.int .u32 n__2), .d (.int .u32 n__3), .d (.int .u32 n__4)]), (1, [.d (.int .u16 s_0), .d (.int .u16 s_1), .d (.int .u32 s_2), .d (.int .u32 s_3), .d (.int .u8 s_4), .d (.sl (.pair (.int .u8) (.slice (.int .u8))) s_5), .d (.sl (.int .u8) s_6)])], 2⟩ [((n__0 : Int) == 3) = true] (by kernel_rfl) ⟨b69_e0, trivial⟩ ?_
        obtain ⟨r70_0, cr70_0, h⟩ := bindS h
        have h := Option.some.inj h
        subst h
        exact At.fin hm ht ⟨[(3, .call [] [] (f66_judge_up_out r70_0))], [], [], [6], []⟩ [FnOK Go.Proofs.Try.prog 66 (f66_judge_up_in n__0 n__1 n__2 n__3 n__4 s_0 s_1 s_2 s_3 s_4 s_5 s_6 sealed) (f66_judge_up_out r70_0)] (by kernel_rfl) ⟨(f66_judge_up_ok n__0 n__1 n__2 n__3 n__4 s_0 s_1 s_2 s_3 s_4 s_5 s_6 sealed r70_0 cr70_0), trivial⟩
      · refine At.step hm ht ⟨[], [false], [], [], []⟩ 8 ⟨[], [], [], 0⟩ [((n__0 : Int) == 3) = false] (by kernel_rfl) ⟨b69_e0, trivial⟩ ?_
        have h := Option.some.inj h
        subst h
        exact At.fin hm ht ⟨[], [], [], [6], []⟩ [] (by kernel_rfl) trivial
/-! brougham/broughamref15.has -/
def f67_broughamref15_has_in (s_0 : Int) (s_1 : Int) (s_2 : Int) (s_3 : Int) (s_4 : Int) (s_5 : List (Int × List Int)) (s_6 : List Int) (flag : Int) : Inn := ⟨[.agg [.d (.int .u16 s_0), .d (.int .u16 s_1), .d (.int .u32 s_2), .d (.int .u32 s_3), .d (.int .u8 s_4), .d (.sl (.pair (.int .u8) (.slice (.int .u8))) s_5), .d (.sl (.int .u8) s_6)], .c (.d (.int .i64 flag))], [], [], 0⟩
def f67_broughamref15_has_out (r : Bool) : Out := ⟨.one (.c (.d (.bool r))), [], [], 0⟩
def f67_broughamref15_has (s_0 : Int) (s_1 : Int) (s_2 : Int) (s_3 : Int) (s_4 : Int) (s_5 : List (Int × List Int)) (s_6 : List Int) (flag : Int) : Option (Bool) :=
  if (flag : Int) ≠ 0 then
  some (((Int.tmod (IntKind.wrap .i64 (Int.tdiv (IntKind.wrap .i64 s_4) flag)) 2) : Int) == 1)
  else none
theorem f67_broughamref15_has_ok (s_0 : Int) (s_1 : Int) (s_2 : Int) (s_3 : Int) (s_4 : Int) (s_5 : List (Int × List Int)) (s_6 : List Int) (flag : Int) (r : Bool) (h : f67_broughamref15_has s_0 s_1 s_2 s_3 s_4 s_5 s_6 flag = some r) : FnOK Go.Proofs.Try.prog 67 (f67_broughamref15_has_in s_0 s_1 s_2 s_3 s_4 s_5 s_6 flag) (f67_broughamref15_has_out r) := by
  unfold f67_broughamref15_has at h
  refine At.fn (r := 0) Go.Proofs.Try.func67 rfl (by kernel_rfl) rfl rfl (by kernel_rfl) ?_
  show At Go.Proofs.Try.prog Go.Proofs.Try.f67 0 0 ⟨[(0, .one (.agg [.d (.int .u16 s_0), .d (.int .u16 s_1), .d (.int .u32 s_2), .d (.int .u32 s_3), .d (.int .u8 s_4), .d (.sl (.pair (.int .u8) (.slice (.int .u8))) s_5), .d (.sl (.int .u8) s_6)])), (1, .one (.c (.d (.int .i64 flag))))], [], [], 0⟩ _
  refine At.step hm ht ⟨[], [], [], [1, 2], [0]⟩ 1 ⟨[(1, .one (.c (.d (.int .i64 flag)))), (2, .one (.c (.ptr 0 0)))], [], [(0, [.d (.int .u16 s_0), .d (.int .u16 s_1), .d (.int .u32 s_2), .d (.int .u32 s_3), .d (.int .u8 s_4), .d (.sl (.pair (.int .u8) (.slice (.int .u8))) s_5), .d (.sl (.int .u8) s_6)])], 1⟩ [] (by kernel_rfl) trivial ?_
  obtain ⟨g86_0, h⟩ := ifS h
  have h := Option.some.inj h
  subst h
  exact At.fin hm ht ⟨[], [], [], [4], []⟩ [(flag : Int) ≠ 0, (2 : Int) ≠ 0] (by kernel_rfl) ⟨g86_0, (by decide), trivial⟩
/-! brougham/broughamref15.pass -/
def f68_broughamref15_pass_in (is_ : Bool) : Inn := ⟨[.c (.d (.bool is_))], [], [], 0⟩
def f68_broughamref15_pass_out (r : Int) : Out := ⟨.one (.c (.d (.int .i64 r))), [], [], 0⟩
def f68_broughamref15_pass (is_ : Bool) : Option (Int) :=
  if is_ = true then
    some 1
  else
    some 2
theorem f68_broughamref15_pass_ok (is_ : Bool) (r : Int) (h : f68_broughamref15_pass is_ = some r) : FnOK Go.Proofs.Try.prog 68 (f68_broughamref15_pass_in is_) (f68_broughamref15_pass_out r) := by
  unfold f68_broughamref15_pass at h
  refine At.fn (r := 0) Go.Proofs.Try.func68 rfl (by kernel_rfl) rfl rfl (by kernel_rfl) ?_
  show At Go.Proofs.Try.prog Go.Proofs.Try.f68 0 0 ⟨[(0, .one (.c (.d (.bool is_))))], [], [], 0⟩ _
  refine At.step hm ht ⟨[], [], [], [0], []⟩ 1 ⟨[(0, .one (.c (.d (.bool is_))))], [], [], 0⟩ [] (by kernel_rfl) trivial ?_
  rcases iteS h with ⟨b97_e0, h⟩ | ⟨b97_e0, h⟩
  · refine At.step hm ht ⟨[], [true], [], [], []⟩ 2 ⟨[], [], [], 0⟩ [is_ = true] (by kernel_rfl) ⟨b97_e0, trivial⟩ ?_
    have h := Option.some.inj h
    subst h
    exact At.fin hm ht ⟨[], [], [], [2], []⟩ [] (by kernel_rfl) trivial
  · refine At.step hm ht ⟨[], [false], [], [], []⟩ 3 ⟨[], [], [], 0⟩ [is_ = false] (by kernel_rfl) ⟨b97_e0, trivial⟩ ?_
    have h := Option.some.inj h
    subst h
    exact At.fin hm ht ⟨[], [], [], [2], []⟩ [] (by kernel_rfl) trivial
/-! brougham/broughamref04.ahead -/
def f113_broughamref04_ahead_in (from_ : Int) (to_ : Int) : Inn := ⟨[.c (.d (.int .u32 from_)), .c (.d (.int .u32 to_))], [], [], 0⟩
def f113_broughamref04_ahead_out (r : Int) : Out := ⟨.one (.c (.d (.int .i64 r))), [], [], 0⟩
def f113_broughamref04_ahead (from_ : Int) (to_ : Int) : Option (Int) :=
  if (decide (((IntKind.wrap .i64 ((IntKind.wrap .i64 to_) - (IntKind.wrap .i64 from_))) : Int) < 0)) = true then
    some (IntKind.wrap .i64 ((IntKind.wrap .i64 ((IntKind.wrap .i64 to_) - (IntKind.wrap .i64 from_))) + 4294967296))
  else
    some (IntKind.wrap .i64 ((IntKind.wrap .i64 to_) - (IntKind.wrap .i64 from_)))
theorem f113_broughamref04_ahead_ok (from_ : Int) (to_ : Int) (r : Int) (h : f113_broughamref04_ahead from_ to_ = some r) : FnOK Go.Proofs.Try.prog 113 (f113_broughamref04_ahead_in from_ to_) (f113_broughamref04_ahead_out r) := by
  unfold f113_broughamref04_ahead at h
  refine At.fn (r := 0) Go.Proofs.Try.func113 rfl (by kernel_rfl) rfl rfl (by kernel_rfl) ?_
  show At Go.Proofs.Try.prog Go.Proofs.Try.f113 0 0 ⟨[(0, .one (.c (.d (.int .u32 from_)))), (1, .one (.c (.d (.int .u32 to_))))], [], [], 0⟩ _
  refine At.step hm ht ⟨[], [], [], [0, 1], []⟩ 1 ⟨[(0, .one (.c (.d (.int .u32 from_)))), (1, .one (.c (.d (.int .u32 to_))))], [], [], 0⟩ [] (by kernel_rfl) trivial ?_
  refine At.step hm ht ⟨[], [], [], [5], []⟩ 2 ⟨[(5, .one (.c (.d (.int .i64 (IntKind.wrap .i64 ((IntKind.wrap .i64 to_) - (IntKind.wrap .i64 from_)))))))], [], [], 0⟩ [] (by kernel_rfl) trivial ?_
  rcases iteS h with ⟨b110_e0, h⟩ | ⟨b110_e0, h⟩
  · refine At.step hm ht ⟨[], [true], [], [5], []⟩ 3 ⟨[(5, .one (.c (.d (.int .i64 (IntKind.wrap .i64 ((IntKind.wrap .i64 to_) - (IntKind.wrap .i64 from_)))))))], [], [], 0⟩ [(decide (((IntKind.wrap .i64 ((IntKind.wrap .i64 to_) - (IntKind.wrap .i64 from_))) : Int) < 0)) = true] (by kernel_rfl) ⟨b110_e0, trivial⟩ ?_
    refine At.step hm ht ⟨[], [], [], [5], []⟩ 4 ⟨[(5, .one (.c (.d (.int .i64 (IntKind.wrap .i64 ((IntKind.wrap .i64 ((IntKind.wrap .i64 to_) - (IntKind.wrap .i64 from_))) + 4294967296))))))], [], [], 0⟩ [] (by kernel_rfl) trivial ?_
    have h := Option.some.inj h
    subst h
    exact At.fin hm ht ⟨[], [], [], [4], []⟩ [] (by kernel_rfl) trivial
  · refine At.step hm ht ⟨[], [false], [], [5], []⟩ 4 ⟨[(5, .one (.c (.d (.int .i64 (IntKind.wrap .i64 ((IntKind.wrap .i64 to_) - (IntKind.wrap .i64 from_)))))))], [], [], 0⟩ [(decide (((IntKind.wrap .i64 ((IntKind.wrap .i64 to_) - (IntKind.wrap .i64 from_))) : Int) < 0)) = false] (by kernel_rfl) ⟨b110_e0, trivial⟩ ?_
    have h := Option.some.inj h
    subst h
    exact At.fin hm ht ⟨[], [], [], [4], []⟩ [] (by kernel_rfl) trivial
/-! brougham/broughamref04.Within -/
def f69_broughamref04_Within_in (x : Int) (from_ : Int) (size : Int) : Inn := ⟨[.c (.d (.int .u32 x)), .c (.d (.int .u32 from_)), .c (.d (.int .u32 size))], [], [], 0⟩
def f69_broughamref04_Within_out (r : Bool) : Out := ⟨.one (.c (.d (.bool r))), [], [], 0⟩
def f69_broughamref04_Within (x : Int) (from_ : Int) (size : Int) : Option (Bool) :=
  (f113_broughamref04_ahead from_ x).bind fun r107_0 =>
  some (decide ((r107_0 : Int) < (IntKind.wrap .i64 size)))
theorem f69_broughamref04_Within_ok (x : Int) (from_ : Int) (size : Int) (r : Bool) (h : f69_broughamref04_Within x from_ size = some r) : FnOK Go.Proofs.Try.prog 69 (f69_broughamref04_Within_in x from_ size) (f69_broughamref04_Within_out r) := by
  unfold f69_broughamref04_Within at h
  refine At.fn (r := 0) Go.Proofs.Try.func69 rfl (by kernel_rfl) rfl rfl (by kernel_rfl) ?_
  show At Go.Proofs.Try.prog Go.Proofs.Try.f69 0 0 ⟨[(0, .one (.c (.d (.int .u32 x)))), (1, .one (.c (.d (.int .u32 from_)))), (2, .one (.c (.d (.int .u32 size))))], [], [], 0⟩ _
  refine At.step hm ht ⟨[], [], [], [0, 1, 2], []⟩ 1 ⟨[(0, .one (.c (.d (.int .u32 x)))), (1, .one (.c (.d (.int .u32 from_)))), (2, .one (.c (.d (.int .u32 size))))], [], [], 0⟩ [] (by kernel_rfl) trivial ?_
  obtain ⟨r107_0, cr107_0, h⟩ := bindS h
  have h := Option.some.inj h
  subst h
  exact At.fin hm ht ⟨[(2, .call [] [] (f113_broughamref04_ahead_out r107_0))], [], [], [6], []⟩ [FnOK Go.Proofs.Try.prog 113 (f113_broughamref04_ahead_in from_ x) (f113_broughamref04_ahead_out r107_0)] (by kernel_rfl) ⟨(f113_broughamref04_ahead_ok from_ x r107_0 cr107_0), trivial⟩
/-! brougham/broughamref04.Diff -/
def f137_broughamref04_Diff_in (a : Int) (b : Int) : Inn := ⟨[.c (.d (.int .u32 a)), .c (.d (.int .u32 b))], [], [], 0⟩
def f137_broughamref04_Diff_out (r : Int) : Out := ⟨.one (.c (.d (.int .i64 r))), [], [], 0⟩
def f137_broughamref04_Diff (a : Int) (b : Int) : Option (Int) :=
  if (decide (((IntKind.wrap .i64 ((IntKind.wrap .i64 a) - (IntKind.wrap .i64 b))) : Int) < (-2147483648))) = true then
    if (decide (((IntKind.wrap .i64 ((IntKind.wrap .i64 ((IntKind.wrap .i64 a) - (IntKind.wrap .i64 b))) + 4294967296)) : Int) ≥ 2147483648)) = true then
      some (IntKind.wrap .i64 ((IntKind.wrap .i64 ((IntKind.wrap .i64 ((IntKind.wrap .i64 a) - (IntKind.wrap .i64 b))) + 4294967296)) - 4294967296))
    else
      some (IntKind.wrap .i64 ((IntKind.wrap .i64 ((IntKind.wrap .i64 a) - (IntKind.wrap .i64 b))) + 4294967296))
  else
    if (decide (((IntKind.wrap .i64 ((IntKind.wrap .i64 a) - (IntKind.wrap .i64 b))) : Int) ≥ 2147483648)) = true then
      some (IntKind.wrap .i64 ((IntKind.wrap .i64 ((IntKind.wrap .i64 a) - (IntKind.wrap .i64 b))) - 4294967296))
    else
      some (IntKind.wrap .i64 ((IntKind.wrap .i64 a) - (IntKind.wrap .i64 b)))
theorem f137_broughamref04_Diff_ok (a : Int) (b : Int) (r : Int) (h : f137_broughamref04_Diff a b = some r) : FnOK Go.Proofs.Try.prog 137 (f137_broughamref04_Diff_in a b) (f137_broughamref04_Diff_out r) := by
  unfold f137_broughamref04_Diff at h
  refine At.fn (r := 0) Go.Proofs.Try.func137 rfl (by kernel_rfl) rfl rfl (by kernel_rfl) ?_
  show At Go.Proofs.Try.prog Go.Proofs.Try.f137 0 0 ⟨[(0, .one (.c (.d (.int .u32 a)))), (1, .one (.c (.d (.int .u32 b))))], [], [], 0⟩ _
  refine At.step hm ht ⟨[], [], [], [0, 1], []⟩ 1 ⟨[(0, .one (.c (.d (.int .u32 a)))), (1, .one (.c (.d (.int .u32 b))))], [], [], 0⟩ [] (by kernel_rfl) trivial ?_
  refine At.step hm ht ⟨[], [], [], [5], []⟩ 2 ⟨[(5, .one (.c (.d (.int .i64 (IntKind.wrap .i64 ((IntKind.wrap .i64 a) - (IntKind.wrap .i64 b)))))))], [], [], 0⟩ [] (by kernel_rfl) trivial ?_
  rcases iteS h with ⟨b130_e0, h⟩ | ⟨b130_e0, h⟩
  · refine At.step hm ht ⟨[], [true], [], [5], []⟩ 3 ⟨[(5, .one (.c (.d (.int .i64 (IntKind.wrap .i64 ((IntKind.wrap .i64 a) - (IntKind.wrap .i64 b)))))))], [], [], 0⟩ [(decide (((IntKind.wrap .i64 ((IntKind.wrap .i64 a) - (IntKind.wrap .i64 b))) : Int) < (-2147483648))) = true] (by kernel_rfl) ⟨b130_e0, trivial⟩ ?_
    refine At.step hm ht ⟨[], [], [], [5], []⟩ 4 ⟨[(5, .one (.c (.d (.int .i64 (IntKind.wrap .i64 ((IntKind.wrap .i64 ((IntKind.wrap .i64 a) - (IntKind.wrap .i64 b))) + 4294967296))))))], [], [], 0⟩ [] (by kernel_rfl) trivial ?_
    rcases iteS h with ⟨b132_e0, h⟩ | ⟨b132_e0, h⟩
    · refine At.step hm ht ⟨[], [true], [], [5], []⟩ 5 ⟨[(5, .one (.c (.d (.int .i64 (IntKind.wrap .i64 ((IntKind.wrap .i64 ((IntKind.wrap .i64 a) - (IntKind.wrap .i64 b))) + 4294967296))))))], [], [], 0⟩ [(decide (((IntKind.wrap .i64 ((IntKind.wrap .i64 ((IntKind.wrap .i64 a) - (IntKind.wrap .i64 b))) + 4294967296)) : Int) ≥ 2147483648)) = true] (by kernel_rfl) ⟨b132_e0, trivial⟩ ?_
      refine At.step hm ht ⟨[], [], [], [5], []⟩ 6 ⟨[(5, .one (.c (.d (.int .i64 (IntKind.wrap .i64 ((IntKind.wrap .i64 ((IntKind.wrap .i64 ((IntKind.wrap .i64 a) - (IntKind.wrap .i64 b))) + 4294967296)) - 4294967296))))))], [], [], 0⟩ [] (by kernel_rfl) trivial ?_
      have h := Option.some.inj h
      subst h
      exact At.fin hm ht ⟨[], [], [], [4], []⟩ [] (by kernel_rfl) trivial
    · refine At.step hm ht ⟨[], [false], [], [5], []⟩ 6 ⟨[(5, .one (.c (.d (.int .i64 (IntKind.wrap .i64 ((IntKind.wrap .i64 ((IntKind.wrap .i64 a) - (IntKind.wrap .i64 b))) + 4294967296))))))], [], [], 0⟩ [(decide (((IntKind.wrap .i64 ((IntKind.wrap .i64 ((IntKind.wrap .i64 a) - (IntKind.wrap .i64 b))) + 4294967296)) : Int) ≥ 2147483648)) = false] (by kernel_rfl) ⟨b132_e0, trivial⟩ ?_
      have h := Option.some.inj h
      subst h
      exact At.fin hm ht ⟨[], [], [], [4], []⟩ [] (by kernel_rfl) trivial
  · refine At.step hm ht ⟨[], [false], [], [5], []⟩ 4 ⟨[(5, .one (.c (.d (.int .i64 (IntKind.wrap .i64 ((IntKind.wrap .i64 a) - (IntKind.wrap .i64 b)))))))], [], [], 0⟩ [(decide (((IntKind.wrap .i64 ((IntKind.wrap .i64 a) - (IntKind.wrap .i64 b))) : Int) < (-2147483648))) = false] (by kernel_rfl) ⟨b130_e0, trivial⟩ ?_
    rcases iteS h with ⟨b136_e0, h⟩ | ⟨b136_e0, h⟩
    · refine At.step hm ht ⟨[], [true], [], [5], []⟩ 5 ⟨[(5, .one (.c (.d (.int .i64 (IntKind.wrap .i64 ((IntKind.wrap .i64 a) - (IntKind.wrap .i64 b)))))))], [], [], 0⟩ [(decide (((IntKind.wrap .i64 ((IntKind.wrap .i64 a) - (IntKind.wrap .i64 b))) : Int) ≥ 2147483648)) = true] (by kernel_rfl) ⟨b136_e0, trivial⟩ ?_
      refine At.step hm ht ⟨[], [], [], [5], []⟩ 6 ⟨[(5, .one (.c (.d (.int .i64 (IntKind.wrap .i64 ((IntKind.wrap .i64 ((IntKind.wrap .i64 a) - (IntKind.wrap .i64 b))) - 4294967296))))))], [], [], 0⟩ [] (by kernel_rfl) trivial ?_
      have h := Option.some.inj h
      subst h
      exact At.fin hm ht ⟨[], [], [], [4], []⟩ [] (by kernel_rfl) trivial
    · refine At.step hm ht ⟨[], [false], [], [5], []⟩ 6 ⟨[(5, .one (.c (.d (.int .i64 (IntKind.wrap .i64 ((IntKind.wrap .i64 a) - (IntKind.wrap .i64 b)))))))], [], [], 0⟩ [(decide (((IntKind.wrap .i64 ((IntKind.wrap .i64 a) - (IntKind.wrap .i64 b))) : Int) ≥ 2147483648)) = false] (by kernel_rfl) ⟨b136_e0, trivial⟩ ?_
      have h := Option.some.inj h
      subst h
      exact At.fin hm ht ⟨[], [], [], [4], []⟩ [] (by kernel_rfl) trivial
/-! brougham/broughamref04.Between -/
def f114_broughamref04_Between_in (x : Int) (from_ : Int) (to_ : Int) : Inn := ⟨[.c (.d (.int .u32 x)), .c (.d (.int .u32 from_)), .c (.d (.int .u32 to_))], [], [], 0⟩
def f114_broughamref04_Between_out (r : Bool) : Out := ⟨.one (.c (.d (.bool r))), [], [], 0⟩
def f114_broughamref04_Between (x : Int) (from_ : Int) (to_ : Int) : Option (Bool) :=
  (f137_broughamref04_Diff to_ from_).bind fun r127_0 =>
  if (decide ((r127_0 : Int) ≥ 0)) = true then
    if ((x : Int) != from_) = true then
      (f113_broughamref04_ahead from_ x).bind fun r127_1 =>
      (f113_broughamref04_ahead from_ to_).bind fun r127_2 =>
      some (decide ((r127_1 : Int) ≤ r127_2))
    else
      some false
  else
    some false
theorem f114_broughamref04_Between_ok (x : Int) (from_ : Int) (to_ : Int) (r : Bool) (h : f114_broughamref04_Between x from_ to_ = some r) : FnOK Go.Proofs.Try.prog 114 (f114_broughamref04_Between_in x from_ to_) (f114_broughamref04_Between_out r) := by
  unfold f114_broughamref04_Between at h
  refine At.fn (r := 0) Go.Proofs.Try.func114 rfl (by kernel_rfl) rfl rfl (by kernel_rfl) ?_
  show At Go.Proofs.Try.prog Go.Proofs.Try.f114 0 0 ⟨[(0, .one (.c (.d (.int .u32 x)))), (1, .one (.c (.d (.int .u32 from_)))), (2, .one (.c (.d (.int .u32 to_))))], [], [], 0⟩ _
  refine At.step hm ht ⟨[], [], [], [0, 1, 2], []⟩ 1 ⟨[(0, .one (.c (.d (.int .u32 x)))), (1, .one (.c (.d (.int .u32 from_)))), (2, .one (.c (.d (.int .u32 to_))))], [], [], 0⟩ [] (by kernel_rfl) trivial ?_
  obtain ⟨r127_0, cr127_0, h⟩ := bindS h
  rcases iteS h with ⟨b127_4, h⟩ | ⟨b127_4, h⟩
  · rcases iteS h with ⟨b127_9, h⟩ | ⟨b127_9, h⟩
    · obtain ⟨r127_1, cr127_1, h⟩ := bindS h
      obtain ⟨r127_2, cr127_2, h⟩ := bindS h
      have h := Option.some.inj h
      subst h
      exact At.fin hm ht ⟨[(2, .call [] [] (f137_broughamref04_Diff_out r127_0)), (4, .b true), (9, .b true), (12, .call [] [] (f113_broughamref04_ahead_out r127_1)), (15, .call [] [] (f113_broughamref04_ahead_out r127_2))], [], [], [6], []⟩ [FnOK Go.Proofs.Try.prog 137 (f137_broughamref04_Diff_in to_ from_) (f137_broughamref04_Diff_out r127_0), (decide ((r127_0 : Int) ≥ 0)) = true, ((x : Int) != from_) = true, FnOK Go.Proofs.Try.prog 113 (f113_broughamref04_ahead_in from_ x) (f113_broughamref04_ahead_out r127_1), FnOK Go.Proofs.Try.prog 113 (f113_broughamref04_ahead_in from_ to_) (f113_broughamref04_ahead_out r127_2)] (by kernel_rfl) ⟨(f137_broughamref04_Diff_ok to_ from_ r127_0 cr127_0), b127_4, b127_9, (f113_broughamref04_ahead_ok from_ x r127_1 cr127_1), (f113_broughamref04_ahead_ok from_ to_ r127_2 cr127_2), trivial⟩
    · have h := Option.some.inj h
      subst h
      exact At.fin hm ht ⟨[(2, .call [] [] (f137_broughamref04_Diff_out r127_0)), (4, .b true), (9, .b false)], [], [], [6], []⟩ [FnOK Go.Proofs.Try.prog 137 (f137_broughamref04_Diff_in to_ from_) (f137_broughamref04_Diff_out r127_0), (decide ((r127_0 : Int) ≥ 0)) = true, ((x : Int) != from_) = false] (by kernel_rfl) ⟨(f137_broughamref04_Diff_ok to_ from_ r127_0 cr127_0), b127_4, b127_9, trivial⟩
  · have h := Option.some.inj h
    subst h
    exact At.fin hm ht ⟨[(2, .call [] [] (f137_broughamref04_Diff_out r127_0)), (4, .b false)], [], [], [6], []⟩ [FnOK Go.Proofs.Try.prog 137 (f137_broughamref04_Diff_in to_ from_) (f137_broughamref04_Diff_out r127_0), (decide ((r127_0 : Int) ≥ 0)) = false] (by kernel_rfl) ⟨(f137_broughamref04_Diff_ok to_ from_ r127_0 cr127_0), b127_4, trivial⟩
/-! brougham/broughamref15.Fits -/
def f70_broughamref15_Fits_in (n__0 : Int) (n__1 : Int) (n__2 : Int) (n__3 : Int) (n__4 : Int) (s_0 : Int) (s_1 : Int) (s_2 : Int) (s_3 : Int) (s_4 : Int) (s_5 : List (Int × List Int)) (s_6 : List Int) (sealed : Bool) : Inn := ⟨[.agg [.d (.int .i64 n__0), .d (.int .u32 n__1), .d (.int .u32 n__2), .d (.int .u32 n__3), .d (.int .u32 n__4)], .agg [.d (.int .u16 s_0), .d (.int .u16 s_1), .d (.int .u32 s_2), .d (.int .u32 s_3), .d (.int .u8 s_4), .d (.sl (.pair (.int .u8) (.slice (.int .u8))) s_5), .d (.sl (.int .u8) s_6)], .c (.d (.bool sealed))], [], [], 0⟩
def f70_broughamref15_Fits_out (r : Bool) : Out := ⟨.one (.c (.d (.bool r))), [], [], 0⟩
def f70_broughamref15_Fits (n__0 : Int) (n__1 : Int) (n__2 : Int) (n__3 : Int) (n__4 : Int) (s_0 : Int) (s_1 : Int) (s_2 : Int) (s_3 : Int) (s_4 : Int) (s_5 : List (Int × List Int)) (s_6 : List Int) (sealed : Bool) : Option (Bool) :=
  (f69_broughamref04_Within s_2 n__4 1048576).bind fun r123_0 =>
  if r123_0 = true then
    if ((s_3 : Int) == n__2) = true then
      if sealed = true then
        if ((s_4 : Int) == 2) = true then
          some true
        else
          some false
      else
        some false
    else
      (f114_broughamref04_Between s_3 n__2 n__3).bind fun r124_0 =>
      if r124_0 = true then
        if sealed = true then
          if ((s_4 : Int) == 2) = true then
            some true
          else
            some false
        else
          some false
      else
        (f69_broughamref04_Within n__2 s_3 1048576).bind fun r124_1 =>
        if sealed = true then
          if ((s_4 : Int) == 2) = true then
            some r124_1
          else
            some false
        else
          some false
  else
    (f69_broughamref04_Within n__4 s_2 1048576).bind fun r123_1 =>
    if ((s_3 : Int) == n__2) = true then
      if sealed = true then
        if ((s_4 : Int) == 2) = true then
          if r123_1 = true then
            some true
          else
            some false
        else
          some false
      else
        some false
    else
      (f114_broughamref04_Between s_3 n__2 n__3).bind fun r142_0 =>
      if r142_0 = true then
        if sealed = true then
          if ((s_4 : Int) == 2) = true then
            if r123_1 = true then
              some true
            else
              some false
          else
            some false
        else
          some false
      else
        (f69_broughamref04_Within n__2 s_3 1048576).bind fun r142_1 =>
        if sealed = true then
          if ((s_4 : Int) == 2) = true then
            if r123_1 = true then
              some r142_1
            else
              some false
          else
            some false
        else
          some false
theorem f70_broughamref15_Fits_ok (n__0 : Int) (n__1 : Int) (n__2 : Int) (n__3 : Int) (n__4 : Int) (s_0 : Int) (s_1 : Int) (s_2 : Int) (s_3 : Int) (s_4 : Int) (s_5 : List (Int × List Int)) (s_6 : List Int) (sealed : Bool) (r : Bool) (h : f70_broughamref15_Fits n__0 n__1 n__2 n__3 n__4 s_0 s_1 s_2 s_3 s_4 s_5 s_6 sealed = some r) : FnOK Go.Proofs.Try.prog 70 (f70_broughamref15_Fits_in n__0 n__1 n__2 n__3 n__4 s_0 s_1 s_2 s_3 s_4 s_5 s_6 sealed) (f70_broughamref15_Fits_out r) := by
  unfold f70_broughamref15_Fits at h
  refine At.fn (r := 0) Go.Proofs.Try.func70 rfl (by kernel_rfl) rfl rfl (by kernel_rfl) ?_
  show At Go.Proofs.Try.prog Go.Proofs.Try.f70 0 0 ⟨[(0, .one (.agg [.d (.int .i64 n__0), .d (.int .u32 n__1), .d (.int .u32 n__2), .d (.int .u32 n__3), .d (.int .u32 n__4)])), (1, .one (.agg [.d (.int .u16 s_0), .d (.int .u16 s_1), .d (.int .u32 s_2), .d (.int .u32 s_3), .d (.int .u8 s_4), .d (.sl (.pair (.int .u8) (.slice (.int .u8))) s_5), .d (.sl (.int .u8) s_6)])), (2, .one (.c (.d (.bool sealed))))], [], [], 0⟩ _
  refine At.step hm ht ⟨[], [], [], [2, 3, 4], [0, 1]⟩ 1 ⟨[(2, .one (.c (.d (.bool sealed)))), (3, .one (.c (.ptr 0 0))), (4, .one (.c (.ptr 1 0)))], [], [(0, [.d (.int .i64 n__0), .d (.int .u32 n__1), .d (.int .u32 n__2), .d (.int .u32 n__3), .d (.int .u32 n__4)]), (1, [.d (.int .u16 s_0), .d (.int .u16 s_1), .d (.int .u32 s_2), .d (.int .u32 s_3), .d (.int .u8 s_4), .d (.sl (.pair (.int .u8) (.slice (.int .u8))) s_5), .d (.sl (.int .u8) s_6)])], 2⟩ [] (by kernel_rfl) trivial ?_
  obtain ⟨r123_0, cr123_0, h⟩ := bindS h
  rcases iteS h with ⟨b123_5, h⟩ | ⟨b123_5, h⟩
  · refine At.step hm ht ⟨[(4, .call [] [] (f69_broughamref04_Within_out r123_0)), (5, .b true)], [], [], [2, 3, 4, 7], [0, 1]⟩ 2 ⟨[(2, .one (.c (.d (.bool sealed)))), (3, .one (.c (.ptr 0 0))), (4, .one (.c (.ptr 1 0))), (7, .one (.c (.d (.bool true))))], [], [(0, [.d (.int .i64 n__0), .d (.int .u32 n__1), .d (.int .u32 n__2), .d (.int .u32 n__3), .d (.int .u32 n__4)]), (1, [.d (.int .u16 s_0), .d (.int .u16 s_1), .d (.int .u32 s_2), .d (.int .u32 s_3), .d (.int .u8 s_4), .d (.sl (.pair (.int .u8) (.slice (.int .u8))) s_5), .d (.sl (.int .u8) s_6)])], 2⟩ [FnOK Go.Proofs.Try.prog 69 (f69_broughamref04_Within_in s_2 n__4 1048576) (f69_broughamref04_Within_out r123_0), r123_0 = true] (by kernel_rfl) ⟨(f69_broughamref04_Within_ok s_2 n__4 1048576 r123_0 cr123_0), b123_5, trivial⟩ ?_
    rcases iteS h with ⟨b124_5, h⟩ | ⟨b124_5, h⟩
    · refine At.step hm ht ⟨[(5, .b true)], [], [], [2, 4, 7, 8], [1]⟩ 3 ⟨[(2, .one (.c (.d (.bool sealed)))), (4, .one (.c (.ptr 0 0))), (7, .one (.c (.d (.bool true)))), (8, .one (.c (.d (.bool true))))], [], [(0, [.d (.int .u16 s_0), .d (.int .u16 s_1), .d (.int .u32 s_2), .d (.int .u32 s_3), .d (.int .u8 s_4), .d (.sl (.pair (.int .u8) (.slice (.int .u8))) s_5), .d (.sl (.int .u8) s_6)])], 1⟩ [((s_3 : Int) == n__2) = true] (by kernel_rfl) ⟨b124_5, trivial⟩ ?_
      rcases iteS h with ⟨b125_1, h⟩ | ⟨b125_1, h⟩
      · rcases iteS h with ⟨b125_6, h⟩ | ⟨b125_6, h⟩
        · have h := Option.some.inj h
          subst h
          exact At.fin hm ht ⟨[(1, .b true), (6, .b true)], [], [], [6], []⟩ [sealed = true, ((s_4 : Int) == 2) = true] (by kernel_rfl) ⟨b125_1, b125_6, trivial⟩
        · have h := Option.some.inj h
          subst h
          exact At.fin hm ht ⟨[(1, .b true), (6, .b false)], [], [], [6], []⟩ [sealed = true, ((s_4 : Int) == 2) = false] (by kernel_rfl) ⟨b125_1, b125_6, trivial⟩
      · have h := Option.some.inj h
        subst h
        exact At.fin hm ht ⟨[(1, .b false)], [], [], [6], []⟩ [sealed = false] (by kernel_rfl) ⟨b125_1, trivial⟩
    · obtain ⟨r124_0, cr124_0, h⟩ := bindS h
      rcases iteS h with ⟨b124_14, h⟩ | ⟨b124_14, h⟩
      · refine At.step hm ht ⟨[(5, .b false), (12, .call [] [] (f114_broughamref04_Between_out r124_0)), (14, .b true)], [], [], [2, 4, 7, 8], [1]⟩ 3 ⟨[(2, .one (.c (.d (.bool sealed)))), (4, .one (.c (.ptr 0 0))), (7, .one (.c (.d (.bool true)))), (8, .one (.c (.d (.bool true))))], [], [(0, [.d (.int .u16 s_0), .d (.int .u16 s_1), .d (.int .u32 s_2), .d (.int .u32 s_3), .d (.int .u8 s_4), .d (.sl (.pair (.int .u8) (.slice (.int .u8))) s_5), .d (.sl (.int .u8) s_6)])], 1⟩ [((s_3 : Int) == n__2) = false, FnOK Go.Proofs.Try.prog 114 (f114_broughamref04_Between_in s_3 n__2 n__3) (f114_broughamref04_Between_out r124_0), r124_0 = true] (by kernel_rfl) ⟨b124_5, (f114_broughamref04_Between_ok s_3 n__2 n__3 r124_0 cr124_0), b124_14, trivial⟩ ?_
        rcases iteS h with ⟨b140_1, h⟩ | ⟨b140_1, h⟩
        · rcases iteS h with ⟨b140_6, h⟩ | ⟨b140_6, h⟩
          · have h := Option.some.inj h
            subst h
            exact At.fin hm ht ⟨[(1, .b true), (6, .b true)], [], [], [6], []⟩ [sealed = true, ((s_4 : Int) == 2) = true] (by kernel_rfl) ⟨b140_1, b140_6, trivial⟩
          · have h := Option.some.inj h
            subst h
            exact At.fin hm ht ⟨[(1, .b true), (6, .b false)], [], [], [6], []⟩ [sealed = true, ((s_4 : Int) == 2) = false] (by kernel_rfl) ⟨b140_1, b140_6, trivial⟩
        · have h := Option.some.inj h
          subst h
          exact At.fin hm ht ⟨[(1, .b false)], [], [], [6], []⟩ [sealed = false] (by kernel_rfl) ⟨b140_1, trivial⟩
      · obtain ⟨r124_1, cr124_1, h⟩ := bindS h
        refine At.step hm ht ⟨[(5, .b false), (12, .call [] [] (f114_broughamref04_Between_out r124_0)), (14, .b false), (19, .call [] [] (f69_broughamref04_Within_out r124_1))], [], [], [2, 4, 7, 8], [1]⟩ 3 ⟨[(2, .one (.c (.d (.bool sealed)))), (4, .one (.c (.ptr 0 0))), (7, .one (.c (.d (.bool true)))), (8, .one (.c (.d (.bool r124_1))))], [], [(0, [.d (.int .u16 s_0), .d (.int .u16 s_1), .d (.int .u32 s_2), .d (.int .u32 s_3), .d (.int .u8 s_4), .d (.sl (.pair (.int .u8) (.slice (.int .u8))) s_5), .d (.sl (.int .u8) s_6)])], 1⟩ [((s_3 : Int) == n__2) = false, FnOK Go.Proofs.Try.prog 114 (f114_broughamref04_Between_in s_3 n__2 n__3) (f114_broughamref04_Between_out r124_0), r124_0 = false, FnOK Go.Proofs.Try.prog 69 (f69_broughamref04_Within_in n__2 s_3 1048576) (f69_broughamref04_Within_out r124_1)] (by kernel_rfl) ⟨b124_5, (f114_broughamref04_Between_ok s_3 n__2 n__3 r124_0 cr124_0), b124_14, (f69_broughamref04_Within_ok n__2 s_3 1048576 r124_1 cr124_1), trivial⟩ ?_
        rcases iteS h with ⟨b141_1, h⟩ | ⟨b141_1, h⟩
        · rcases iteS h with ⟨b141_6, h⟩ | ⟨b141_6, h⟩
          · have h := Option.some.inj h
            subst h
            exact At.fin hm ht ⟨[(1, .b true), (6, .b true)], [], [], [6], []⟩ [sealed = true, ((s_4 : Int) == 2) = true] (by kernel_rfl) ⟨b141_1, b141_6, trivial⟩
          · have h := Option.some.inj h
            subst h
            exact At.fin hm ht ⟨[(1, .b true), (6, .b false)], [], [], [6], []⟩ [sealed = true, ((s_4 : Int) == 2) = false] (by kernel_rfl) ⟨b141_1, b141_6, trivial⟩
        · have h := Option.some.inj h
          subst h
          exact At.fin hm ht ⟨[(1, .b false)], [], [], [6], []⟩ [sealed = false] (by kernel_rfl) ⟨b141_1, trivial⟩
  · obtain ⟨r123_1, cr123_1, h⟩ := bindS h
    refine At.step hm ht ⟨[(4, .call [] [] (f69_broughamref04_Within_out r123_0)), (5, .b false), (10, .call [] [] (f69_broughamref04_Within_out r123_1))], [], [], [2, 3, 4, 7], [0, 1]⟩ 2 ⟨[(2, .one (.c (.d (.bool sealed)))), (3, .one (.c (.ptr 0 0))), (4, .one (.c (.ptr 1 0))), (7, .one (.c (.d (.bool r123_1))))], [], [(0, [.d (.int .i64 n__0), .d (.int .u32 n__1), .d (.int .u32 n__2), .d (.int .u32 n__3), .d (.int .u32 n__4)]), (1, [.d (.int .u16 s_0), .d (.int .u16 s_1), .d (.int .u32 s_2), .d (.int .u32 s_3), .d (.int .u8 s_4), .d (.sl (.pair (.int .u8) (.slice (.int .u8))) s_5), .d (.sl (.int .u8) s_6)])], 2⟩ [FnOK Go.Proofs.Try.prog 69 (f69_broughamref04_Within_in s_2 n__4 1048576) (f69_broughamref04_Within_out r123_0), r123_0 = false, FnOK Go.Proofs.Try.prog 69 (f69_broughamref04_Within_in n__4 s_2 1048576) (f69_broughamref04_Within_out r123_1)] (by kernel_rfl) ⟨(f69_broughamref04_Within_ok s_2 n__4 1048576 r123_0 cr123_0), b123_5, (f69_broughamref04_Within_ok n__4 s_2 1048576 r123_1 cr123_1), trivial⟩ ?_
    rcases iteS h with ⟨b142_5, h⟩ | ⟨b142_5, h⟩
    · refine At.step hm ht ⟨[(5, .b true)], [], [], [2, 4, 7, 8], [1]⟩ 3 ⟨[(2, .one (.c (.d (.bool sealed)))), (4, .one (.c (.ptr 0 0))), (7, .one (.c (.d (.bool r123_1)))), (8, .one (.c (.d (.bool true))))], [], [(0, [.d (.int .u16 s_0), .d (.int .u16 s_1), .d (.int .u32 s_2), .d (.int .u32 s_3), .d (.int .u8 s_4), .d (.sl (.pair (.int .u8) (.slice (.int .u8))) s_5), .d (.sl (.int .u8) s_6)])], 1⟩ [((s_3 : Int) == n__2) = true] (by kernel_rfl) ⟨b142_5, trivial⟩ ?_
      rcases iteS h with ⟨b143_1, h⟩ | ⟨b143_1, h⟩
      · rcases iteS h with ⟨b143_6, h⟩ | ⟨b143_6, h⟩
        · rcases iteS h with ⟨b143_9, h⟩ | ⟨b143_9, h⟩
          · have h := Option.some.inj h
            subst h
            exact At.fin hm ht ⟨[(1, .b true), (6, .b true), (9, .b true)], [], [], [6], []⟩ [sealed = true, ((s_4 : Int) == 2) = true, r123_1 = true] (by kernel_rfl) ⟨b143_1, b143_6, b143_9, trivial⟩
          · have h := Option.some.inj h
            subst h
            exact At.fin hm ht ⟨[(1, .b true), (6, .b true), (9, .b false)], [], [], [6], []⟩ [sealed = true, ((s_4 : Int) == 2) = true, r123_1 = false] (by kernel_rfl) ⟨b143_1, b143_6, b143_9, trivial⟩
        · have h := Option.some.inj h
          subst h
          exact At.fin hm ht ⟨[(1, .b true), (6, .b false)], [], [], [6], []⟩ [sealed = true, ((s_4 : Int) == 2) = false] (by kernel_rfl) ⟨b143_1, b143_6, trivial⟩
      · have h := Option.some.inj h
        subst h
        exact At.fin hm ht ⟨[(1, .b false)], [], [], [6], []⟩ [sealed = false] (by kernel_rfl) ⟨b143_1, trivial⟩
    · obtain ⟨r142_0, cr142_0, h⟩ := bindS h
      rcases iteS h with ⟨b142_14, h⟩ | ⟨b142_14, h⟩
      · refine At.step hm ht ⟨[(5, .b false), (12, .call [] [] (f114_broughamref04_Between_out r142_0)), (14, .b true)], [], [], [2, 4, 7, 8], [1]⟩ 3 ⟨[(2, .one (.c (.d (.bool sealed)))), (4, .one (.c (.ptr 0 0))), (7, .one (.c (.d (.bool r123_1)))), (8, .one (.c (.d (.bool true))))], [], [(0, [.d (.int .u16 s_0), .d (.int .u16 s_1), .d (.int .u32 s_2), .d (.int .u32 s_3), .d (.int .u8 s_4), .d (.sl (.pair (.int .u8) (.slice (.int .u8))) s_5), .d (.sl (.int .u8) s_6)])], 1⟩ [((s_3 : Int) == n__2) = false, FnOK Go.Proofs.Try.prog 114 (f114_broughamref04_Between_in s_3 n__2 n__3) (f114_broughamref04_Between_out r142_0), r142_0 = true] (by kernel_rfl) ⟨b142_5, (f114_broughamref04_Between_ok s_3 n__2 n__3 r142_0 cr142_0), b142_14, trivial⟩ ?_
        rcases iteS h with ⟨b144_1, h⟩ | ⟨b144_1, h⟩
        · rcases iteS h with ⟨b144_6, h⟩ | ⟨b144_6, h⟩
          · rcases iteS h with ⟨b144_9, h⟩ | ⟨b144_9, h⟩
            · have h := Option.some.inj h
              subst h
              exact At.fin hm ht ⟨[(1, .b true), (6, .b true), (9, .b true)], [], [], [6], []⟩ [sealed = true, ((s_4 : Int) == 2) = true, r123_1 = true] (by kernel_rfl) ⟨b144_1, b144_6, b144_9, trivial⟩
            · have h := Option.some.inj h
              subst h
              exact At.fin hm ht ⟨[(1, .b true), (6, .b true), (9, .b false)], [], [], [6], []⟩ [sealed = true, ((s_4 : Int) == 2) = true, r123_1 = false] (by kernel_rfl) ⟨b144_1, b144_6, b144_9, trivial⟩
          · have h := Option.some.inj h
            subst h
            exact At.fin hm ht ⟨[(1, .b true), (6, .b false)], [], [], [6], []⟩ [sealed = true, ((s_4 : Int) == 2) = false] (by kernel_rfl) ⟨b144_1, b144_6, trivial⟩
        · have h := Option.some.inj h
          subst h
          exact At.fin hm ht ⟨[(1, .b false)], [], [], [6], []⟩ [sealed = false] (by kernel_rfl) ⟨b144_1, trivial⟩
      · obtain ⟨r142_1, cr142_1, h⟩ := bindS h
        refine At.step hm ht ⟨[(5, .b false), (12, .call [] [] (f114_broughamref04_Between_out r142_0)), (14, .b false), (19, .call [] [] (f69_broughamref04_Within_out r142_1))], [], [], [2, 4, 7, 8], [1]⟩ 3 ⟨[(2, .one (.c (.d (.bool sealed)))), (4, .one (.c (.ptr 0 0))), (7, .one (.c (.d (.bool r123_1)))), (8, .one (.c (.d (.bool r142_1))))], [], [(0, [.d (.int .u16 s_0), .d (.int .u16 s_1), .d (.int .u32 s_2), .d (.int .u32 s_3), .d (.int .u8 s_4), .d (.sl (.pair (.int .u8) (.slice (.int .u8))) s_5), .d (.sl (.int .u8) s_6)])], 1⟩ [((s_3 : Int) == n__2) = false, FnOK Go.Proofs.Try.prog 114 (f114_broughamref04_Between_in s_3 n__2 n__3) (f114_broughamref04_Between_out r142_0), r142_0 = false, FnOK Go.Proofs.Try.prog 69 (f69_broughamref04_Within_in n__2 s_3 1048576) (f69_broughamref04_Within_out r142_1)] (by kernel_rfl) ⟨b142_5, (f114_broughamref04_Between_ok s_3 n__2 n__3 r142_0 cr142_0), b142_14, (f69_broughamref04_Within_ok n__2 s_3 1048576 r142_1 cr142_1), trivial⟩ ?_
        rcases iteS h with ⟨b145_1, h⟩ | ⟨b145_1, h⟩
        · rcases iteS h with ⟨b145_6, h⟩ | ⟨b145_6, h⟩
          · rcases iteS h with ⟨b145_9, h⟩ | ⟨b145_9, h⟩
            · have h := Option.some.inj h
              subst h
              exact At.fin hm ht ⟨[(1, .b true), (6, .b true), (9, .b true)], [], [], [6], []⟩ [sealed = true, ((s_4 : Int) == 2) = true, r123_1 = true] (by kernel_rfl) ⟨b145_1, b145_6, b145_9, trivial⟩
            · have h := Option.some.inj h
              subst h
              exact At.fin hm ht ⟨[(1, .b true), (6, .b true), (9, .b false)], [], [], [6], []⟩ [sealed = true, ((s_4 : Int) == 2) = true, r123_1 = false] (by kernel_rfl) ⟨b145_1, b145_6, b145_9, trivial⟩
          · have h := Option.some.inj h
            subst h
            exact At.fin hm ht ⟨[(1, .b true), (6, .b false)], [], [], [6], []⟩ [sealed = true, ((s_4 : Int) == 2) = false] (by kernel_rfl) ⟨b145_1, b145_6, trivial⟩
        · have h := Option.some.inj h
          subst h
          exact At.fin hm ht ⟨[(1, .b false)], [], [], [6], []⟩ [sealed = false] (by kernel_rfl) ⟨b145_1, trivial⟩
/-! brougham/broughamref15.Judge -/
def f24_broughamref15_Judge_in (n__0 : Int) (n__1 : Int) (n__2 : Int) (n__3 : Int) (n__4 : Int) (s_0 : Int) (s_1 : Int) (s_2 : Int) (s_3 : Int) (s_4 : Int) (s_5 : List (Int × List Int)) (s_6 : List Int) (sealed : Bool) : Inn := ⟨[.agg [.d (.int .i64 n__0), .d (.int .u32 n__1), .d (.int .u32 n__2), .d (.int .u32 n__3), .d (.int .u32 n__4)], .agg [.d (.int .u16 s_0), .d (.int .u16 s_1), .d (.int .u32 s_2), .d (.int .u32 s_3), .d (.int .u8 s_4), .d (.sl (.pair (.int .u8) (.slice (.int .u8))) s_5), .d (.sl (.int .u8) s_6)], .c (.d (.bool sealed))], [], [], 0⟩
def f24_broughamref15_Judge_out (r : Int) : Out := ⟨.one (.c (.d (.int .i64 r))), [], [], 0⟩
def f24_broughamref15_Judge (n__0 : Int) (n__1 : Int) (n__2 : Int) (n__3 : Int) (n__4 : Int) (s_0 : Int) (s_1 : Int) (s_2 : Int) (s_3 : Int) (s_4 : Int) (s_5 : List (Int × List Int)) (s_6 : List Int) (sealed : Bool) : Option (Int) :=
  if ((n__0 : Int) == 1) = true then
    (f67_broughamref15_has s_0 s_1 s_2 s_3 s_4 s_5 s_6 2).bind fun r84_0 =>
    if (!r84_0) = true then
      if ((s_4 : Int) == 2) = true then
        some 5
      else
        some 2
    else
      if ((s_3 : Int) != (IntKind.wrap .u32 (n__1 + 1))) = true then
        if ((s_4 : Int) == 2) = true then
          some 5
        else
          some 2
      else
        (f67_broughamref15_has s_0 s_1 s_2 s_3 s_4 s_5 s_6 4).bind fun r93_0 =>
        if r93_0 = true then
          some 4
        else
          (f67_broughamref15_has s_0 s_1 s_2 s_3 s_4 s_5 s_6 1).bind fun r95_0 =>
          (f68_broughamref15_pass r95_0).bind fun r95_1 =>
          some r95_1
  else
    if ((n__0 : Int) != 2) = true then
      if ((n__0 : Int) != 3) = true then
        some 2
      else
        (f67_broughamref15_has s_0 s_1 s_2 s_3 s_4 s_5 s_6 4).bind fun r102_0 =>
        if r102_0 = true then
          if ((s_2 : Int) == n__4) = true then
            some 4
          else
            if ((n__0 : Int) == 3) = true then
              (f69_broughamref04_Within s_2 n__4 1048576).bind fun r105_0 =>
              if r105_0 = true then
                some 3
              else
                some 2
            else
              some 2
        else
          (f67_broughamref15_has s_0 s_1 s_2 s_3 s_4 s_5 s_6 1).bind fun r117_0 =>
          if r117_0 = true then
            if ((n__0 : Int) == 3) = true then
              some 3
            else
              if ((s_4 : Int) == 1) = true then
                (f68_broughamref15_pass (((IntKind.wrap .u32 (s_2 + 1)) : Int) == n__4)).bind fun r120_0 =>
                some r120_0
              else
                (f68_broughamref15_pass false).bind fun r120_0 =>
                some r120_0
          else
            (f70_broughamref15_Fits n__0 n__1 n__2 n__3 n__4 s_0 s_1 s_2 s_3 s_4 s_5 s_6 sealed).bind fun r121_0 =>
            (f68_broughamref15_pass r121_0).bind fun r121_1 =>
            some r121_1
    else
      (f67_broughamref15_has s_0 s_1 s_2 s_3 s_4 s_5 s_6 4).bind fun r146_0 =>
      if r146_0 = true then
        if ((s_2 : Int) == n__4) = true then
          some 4
        else
          if ((n__0 : Int) == 3) = true then
            (f69_broughamref04_Within s_2 n__4 1048576).bind fun r149_0 =>
            if r149_0 = true then
              some 3
            else
              some 2
          else
            some 2
      else
        (f67_broughamref15_has s_0 s_1 s_2 s_3 s_4 s_5 s_6 1).bind fun r153_0 =>
        if r153_0 = true then
          if ((n__0 : Int) == 3) = true then
            some 3
          else
            if ((s_4 : Int) == 1) = true then
              (f68_broughamref15_pass (((IntKind.wrap .u32 (s_2 + 1)) : Int) == n__4)).bind fun r156_0 =>
              some r156_0
            else
              (f68_broughamref15_pass false).bind fun r156_0 =>
              some r156_0
        else
          (f70_broughamref15_Fits n__0 n__1 n__2 n__3 n__4 s_0 s_1 s_2 s_3 s_4 s_5 s_6 sealed).bind fun r157_0 =>
          (f68_broughamref15_pass r157_0).bind fun r157_1 =>
          some r157_1
theorem f24_broughamref15_Judge_ok (n__0 : Int) (n__1 : Int) (n__2 : Int) (n__3 : Int) (n__4 : Int) (s_0 : Int) (s_1 : Int) (s_2 : Int) (s_3 : Int) (s_4 : Int) (s_5 : List (Int × List Int)) (s_6 : List Int) (sealed : Bool) (r : Int) (h : f24_broughamref15_Judge n__0 n__1 n__2 n__3 n__4 s_0 s_1 s_2 s_3 s_4 s_5 s_6 sealed = some r) : FnOK Go.Proofs.Try.prog 24 (f24_broughamref15_Judge_in n__0 n__1 n__2 n__3 n__4 s_0 s_1 s_2 s_3 s_4 s_5 s_6 sealed) (f24_broughamref15_Judge_out r) := by
  unfold f24_broughamref15_Judge at h
  refine At.fn (r := 0) Go.Proofs.Try.func24 rfl (by kernel_rfl) rfl rfl (by kernel_rfl) ?_
  show At Go.Proofs.Try.prog Go.Proofs.Try.f24 0 0 ⟨[(0, .one (.agg [.d (.int .i64 n__0), .d (.int .u32 n__1), .d (.int .u32 n__2), .d (.int .u32 n__3), .d (.int .u32 n__4)])), (1, .one (.agg [.d (.int .u16 s_0), .d (.int .u16 s_1), .d (.int .u32 s_2), .d (.int .u32 s_3), .d (.int .u8 s_4), .d (.sl (.pair (.int .u8) (.slice (.int .u8))) s_5), .d (.sl (.int .u8) s_6)])), (2, .one (.c (.d (.bool sealed))))], [], [], 0⟩ _
  refine At.step hm ht ⟨[], [], [], [2, 3, 4], [0, 1]⟩ 1 ⟨[(2, .one (.c (.d (.bool sealed)))), (3, .one (.c (.ptr 0 0))), (4, .one (.c (.ptr 1 0)))], [], [(0, [.d (.int .i64 n__0), .d (.int .u32 n__1), .d (.int .u32 n__2), .d (.int .u32 n__3), .d (.int .u32 n__4)]), (1, [.d (.int .u16 s_0), .d (.int .u16 s_1), .d (.int .u32 s_2), .d (.int .u32 s_3), .d (.int .u8 s_4), .d (.sl (.pair (.int .u8) (.slice (.int .u8))) s_5), .d (.sl (.int .u8) s_6)])], 2⟩ [] (by kernel_rfl) trivial ?_
  rcases iteS h with ⟨b83_e0, h⟩ | ⟨b83_e0, h⟩
  · refine At.step hm ht ⟨[], [true], [], [3, 4], [0, 1]⟩ 2 ⟨[(3, .one (.c (.ptr 0 0))), (4, .one (.c (.ptr 1 0)))], [], [(0, [.d (.int .i64 n__0), .d (.int .u32 n__1), .d (.int .u32 n__2), .d (.int .u32 n__3), .d (.int .u32 n__4)]), (1, [.d (.int .u16 s_0), .d (.int .u16 s_1), .d (.int .u32 s_2), .d (.int .u32 s_3), .d (.int .u8 s_4), .d (.sl (.pair (.int .u8) (.slice (.int .u8))) s_5), .d (.sl (.int .u8) s_6)])], 2⟩ [((n__0 : Int) == 1) = true] (by kernel_rfl) ⟨b83_e0, trivial⟩ ?_
    obtain ⟨r84_0, cr84_0, h⟩ := bindS h
    rcases iteS h with ⟨b84_3, h⟩ | ⟨b84_3, h⟩
    · refine At.step hm ht ⟨[(1, .call [] [] (f67_broughamref15_has_out r84_0)), (3, .b true)], [true], [], [4], [1]⟩ 3 ⟨[(4, .one (.c (.ptr 0 0)))], [], [(0, [.d (.int .u16 s_0), .d (.int .u16 s_1), .d (.int .u32 s_2), .d (.int .u32 s_3), .d (.int .u8 s_4), .d (.sl (.pair (.int .u8) (.slice (.int .u8))) s_5), .d (.sl (.int .u8) s_6)])], 1⟩ [FnOK Go.Proofs.Try.prog 67 (f67_broughamref15_has_in s_0 s_1 s_2 s_3 s_4 s_5 s_6 2) (f67_broughamref15_has_out r84_0), (!r84_0) = true, true = true] (by kernel_rfl) ⟨(f67_broughamref15_has_ok s_0 s_1 s_2 s_3 s_4 s_5 s_6 2 r84_0 cr84_0), b84_3, rfl, trivial⟩ ?_
      rcases iteS h with ⟨b87_e0, h⟩ | ⟨b87_e0, h⟩
      · refine At.step hm ht ⟨[], [true], [], [], []⟩ 4 ⟨[], [], [], 0⟩ [((s_4 : Int) == 2) = true] (by kernel_rfl) ⟨b87_e0, trivial⟩ ?_
        have h := Option.some.inj h
        subst h
        exact At.fin hm ht ⟨[], [], [], [6], []⟩ [] (by kernel_rfl) trivial
      · refine At.step hm ht ⟨[], [false], [], [], []⟩ 5 ⟨[], [], [], 0⟩ [((s_4 : Int) == 2) = false] (by kernel_rfl) ⟨b87_e0, trivial⟩ ?_
        have h := Option.some.inj h
        subst h
        exact At.fin hm ht ⟨[], [], [], [6], []⟩ [] (by kernel_rfl) trivial
    · rcases iteS h with ⟨b84_e0, h⟩ | ⟨b84_e0, h⟩
      · refine At.step hm ht ⟨[(1, .call [] [] (f67_broughamref15_has_out r84_0)), (3, .b false)], [true], [], [4], [1]⟩ 3 ⟨[(4, .one (.c (.ptr 0 0)))], [], [(0, [.d (.int .u16 s_0), .d (.int .u16 s_1), .d (.int .u32 s_2), .d (.int .u32 s_3), .d (.int .u8 s_4), .d (.sl (.pair (.int .u8) (.slice (.int .u8))) s_5), .d (.sl (.int .u8) s_6)])], 1⟩ [FnOK Go.Proofs.Try.prog 67 (f67_broughamref15_has_in s_0 s_1 s_2 s_3 s_4 s_5 s_6 2) (f67_broughamref15_has_out r84_0), (!r84_0) = false, ((s_3 : Int) != (IntKind.wrap .u32 (n__1 + 1))) = true] (by kernel_rfl) ⟨(f67_broughamref15_has_ok s_0 s_1 s_2 s_3 s_4 s_5 s_6 2 r84_0 cr84_0), b84_3, b84_e0, trivial⟩ ?_
        rcases iteS h with ⟨b90_e0, h⟩ | ⟨b90_e0, h⟩
        · refine At.step hm ht ⟨[], [true], [], [], []⟩ 4 ⟨[], [], [], 0⟩ [((s_4 : Int) == 2) = true] (by kernel_rfl) ⟨b90_e0, trivial⟩ ?_
          have h := Option.some.inj h
          subst h
          exact At.fin hm ht ⟨[], [], [], [6], []⟩ [] (by kernel_rfl) trivial
        · refine At.step hm ht ⟨[], [false], [], [], []⟩ 5 ⟨[], [], [], 0⟩ [((s_4 : Int) == 2) = false] (by kernel_rfl) ⟨b90_e0, trivial⟩ ?_
          have h := Option.some.inj h
          subst h
          exact At.fin hm ht ⟨[], [], [], [6], []⟩ [] (by kernel_rfl) trivial
      · refine At.step hm ht ⟨[(1, .call [] [] (f67_broughamref15_has_out r84_0)), (3, .b false)], [false], [], [4], [1]⟩ 6 ⟨[(4, .one (.c (.ptr 0 0)))], [], [(0, [.d (.int .u16 s_0), .d (.int .u16 s_1), .d (.int .u32 s_2), .d (.int .u32 s_3), .d (.int .u8 s_4), .d (.sl (.pair (.int .u8) (.slice (.int .u8))) s_5), .d (.sl (.int .u8) s_6)])], 1⟩ [FnOK Go.Proofs.Try.prog 67 (f67_broughamref15_has_in s_0 s_1 s_2 s_3 s_4 s_5 s_6 2) (f67_broughamref15_has_out r84_0), (!r84_0) = false, ((s_3 : Int) != (IntKind.wrap .u32 (n__1 + 1))) = false] (by kernel_rfl) ⟨(f67_broughamref15_has_ok s_0 s_1 s_2 s_3 s_4 s_5 s_6 2 r84_0 cr84_0), b84_3, b84_e0, trivial⟩ ?_
        obtain ⟨r93_0, cr93_0, h⟩ := bindS h
        rcases iteS h with ⟨b93_e0, h⟩ | ⟨b93_e0, h⟩
        · refine At.step hm ht ⟨[(1, .call [] [] (f67_broughamref15_has_out r93_0))], [true], [], [], []⟩ 7 ⟨[], [], [], 0⟩ [FnOK Go.Proofs.Try.prog 67 (f67_broughamref15_has_in s_0 s_1 s_2 s_3 s_4 s_5 s_6 4) (f67_broughamref15_has_out r93_0), r93_0 = true] (by kernel_rfl) ⟨(f67_broughamref15_has_ok s_0 s_1 s_2 s_3 s_4 s_5 s_6 4 r93_0 cr93_0), b93_e0, trivial⟩ ?_
          have h := Option.some.inj h
          subst h
          exact At.fin hm ht ⟨[], [], [], [6], []⟩ [] (by kernel_rfl) trivial
        · refine At.step hm ht ⟨[(1, .call [] [] (f67_broughamref15_has_out r93_0))], [false], [], [4], [0]⟩ 8 ⟨[(4, .one (.c (.ptr 0 0)))], [], [(0, [.d (.int .u16 s_0), .d (.int .u16 s_1), .d (.int .u32 s_2), .d (.int .u32 s_3), .d (.int .u8 s_4), .d (.sl (.pair (.int .u8) (.slice (.int .u8))) s_5), .d (.sl (.int .u8) s_6)])], 1⟩ [FnOK Go.Proofs.Try.prog 67 (f67_broughamref15_has_in s_0 s_1 s_2 s_3 s_4 s_5 s_6 4) (f67_broughamref15_has_out r93_0), r93_0 = false] (by kernel_rfl) ⟨(f67_broughamref15_has_ok s_0 s_1 s_2 s_3 s_4 s_5 s_6 4 r93_0 cr93_0), b93_e0, trivial⟩ ?_
          obtain ⟨r95_0, cr95_0, h⟩ := bindS h
          obtain ⟨r95_1, cr95_1, h⟩ := bindS h
          have h := Option.some.inj h
          subst h
          exact At.fin hm ht ⟨[(1, .call [] [] (f67_broughamref15_has_out r95_0)), (2, .call [] [] (f68_broughamref15_pass_out r95_1))], [], [], [6], []⟩ [FnOK Go.Proofs.Try.prog 67 (f67_broughamref15_has_in s_0 s_1 s_2 s_3 s_4 s_5 s_6 1) (f67_broughamref15_has_out r95_0), FnOK Go.Proofs.Try.prog 68 (f68_broughamref15_pass_in r95_0) (f68_broughamref15_pass_out r95_1)] (by kernel_rfl) ⟨(f67_broughamref15_has_ok s_0 s_1 s_2 s_3 s_4 s_5 s_6 1 r95_0 cr95_0), (f68_broughamref15_pass_ok r95_0 r95_1 cr95_1), trivial⟩
  · refine At.step hm ht ⟨[], [false], [], [2, 3, 4], [0, 1]⟩ 9 ⟨[(2, .one (.c (.d (.bool sealed)))), (3, .one (.c (.ptr 0 0))), (4, .one (.c (.ptr 1 0)))], [], [(0, [.d (.int .i64 n__0), .d (.int .u32 n__1), .d (.int .u32 n__2), .d (.int .u32 n__3), .d (.int .u32 n__4)]), (1, [.d (.int .u16 s_0), .d (.int .u16 s_1), .d (.int .u32 s_2), .d (.int .u32 s_3), .d (.int .u8 s_4), .d (.sl (.pair (.int .u8) (.slice (.int .u8))) s_5), .d (.sl (.int .u8) s_6)])], 2⟩ [((n__0 : Int) == 1) = false] (by kernel_rfl) ⟨b83_e0, trivial⟩ ?_
    rcases iteS h with ⟨b100_3, h⟩ | ⟨b100_3, h⟩
    · rcases iteS h with ⟨b100_e0, h⟩ | ⟨b100_e0, h⟩
      · refine At.step hm ht ⟨[(3, .b true)], [true], [], [], []⟩ 10 ⟨[], [], [], 0⟩ [((n__0 : Int) != 2) = true, ((n__0 : Int) != 3) = true] (by kernel_rfl) ⟨b100_3, b100_e0, trivial⟩ ?_
        have h := Option.some.inj h
        subst h
        exact At.fin hm ht ⟨[], [], [], [6], []⟩ [] (by kernel_rfl) trivial
      · refine At.step hm ht ⟨[(3, .b true)], [false], [], [2, 3, 4], [0, 1]⟩ 11 ⟨[(2, .one (.c (.d (.bool sealed)))), (3, .one (.c (.ptr 0 0))), (4, .one (.c (.ptr 1 0)))], [], [(0, [.d (.int .i64 n__0), .d (.int .u32 n__1), .d (.int .u32 n__2), .d (.int .u32 n__3), .d (.int .u32 n__4)]), (1, [.d (.int .u16 s_0), .d (.int .u16 s_1), .d (.int .u32 s_2), .d (.int .u32 s_3), .d (.int .u8 s_4), .d (.sl (.pair (.int .u8) (.slice (.int .u8))) s_5), .d (.sl (.int .u8) s_6)])], 2⟩ [((n__0 : Int) != 2) = true, ((n__0 : Int) != 3) = false] (by kernel_rfl) ⟨b100_3, b100_e0, trivial⟩ ?_
        obtain ⟨r102_0, cr102_0, h⟩ := bindS h
        rcases iteS h with ⟨b102_e0, h⟩ | ⟨b102_e0, h⟩
        · refine At.step hm ht ⟨[(1, .call [] [] (f67_broughamref15_has_out r102_0))], [true], [], [3, 4], [0, 1]⟩ 12 ⟨[(3, .one (.c (.ptr 0 0))), (4, .one (.c (.ptr 1 0)))], [], [(0, [.d (.int .i64 n__0), .d (.int .u32 n__1), .d (.int .u32 n__2), .d (.int .u32 n__3), .d (.int .u32 n__4)]), (1, [.d (.int .u16 s_0), .d (.int .u16 s_1), .d (.int .u32 s_2), .d (.int .u32 s_3), .d (.int .u8 s_4), .d (.sl (.pair (.int .u8) (.slice (.int .u8))) s_5), .d (.sl (.int .u8) s_6)])], 2⟩ [FnOK Go.Proofs.Try.prog 67 (f67_broughamref15_has_in s_0 s_1 s_2 s_3 s_4 s_5 s_6 4) (f67_broughamref15_has_out r102_0), r102_0 = true] (by kernel_rfl) ⟨(f67_broughamref15_has_ok s_0 s_1 s_2 s_3 s_4 s_5 s_6 4 r102_0 cr102_0), b102_e0, trivial⟩ ?_
          rcases iteS h with ⟨b103_e0, h⟩ | ⟨b103_e0, h⟩
          · refine At.step hm ht ⟨[], [true], [], [], []⟩ 13 ⟨[], [], [], 0⟩ [((s_2 : Int) == n__4) = true] (by kernel_rfl) ⟨b103_e0, trivial⟩ ?_
            have h := Option.some.inj h
            subst h
            exact At.fin hm ht ⟨[], [], [], [6], []⟩ [] (by kernel_rfl) trivial
          · refine At.step hm ht ⟨[], [false], [], [3, 4], [0, 1]⟩ 14 ⟨[(3, .one (.c (.ptr 0 0))), (4, .one (.c (.ptr 1 0)))], [], [(0, [.d (.int .i64 n__0), .d (.int .u32 n__1), .d (.int .u32 n__2), .d (.int .u32 n__3), .d (.int .u32 n__4)]), (1, [.d (.int .u16 s_0), .d (.int .u16 s_1), .d (.int .u32 s_2), .d (.int .u32 s_3), .d (.int .u8 s_4), .d (.sl (.pair (.int .u8) (.slice (.int .u8))) s_5), .d (.sl (.int .u8) s_6)])], 2⟩ [((s_2 : Int) == n__4) = false] (by kernel_rfl) ⟨b103_e0, trivial⟩ ?_
            rcases iteS h with ⟨b105_3, h⟩ | ⟨b105_3, h⟩
            · obtain ⟨r105_0, cr105_0, h⟩ := bindS h
              rcases iteS h with ⟨b105_e0, h⟩ | ⟨b105_e0, h⟩
              · refine At.step hm ht ⟨[(3, .b true), (8, .call [] [] (f69_broughamref04_Within_out r105_0))], [true], [], [], []⟩ 15 ⟨[], [], [], 0⟩ [((n__0 : Int) == 3) = true, FnOK Go.Proofs.Try.prog 69 (f69_broughamref04_Within_in s_2 n__4 1048576) (f69_broughamref04_Within_out r105_0), r105_0 = true] (by kernel_rfl) ⟨b105_3, (f69_broughamref04_Within_ok s_2 n__4 1048576 r105_0 cr105_0), b105_e0, trivial⟩ ?_
                have h := Option.some.inj h
                subst h
                exact At.fin hm ht ⟨[], [], [], [6], []⟩ [] (by kernel_rfl) trivial
              · refine At.step hm ht ⟨[(3, .b true), (8, .call [] [] (f69_broughamref04_Within_out r105_0))], [false], [], [], []⟩ 16 ⟨[], [], [], 0⟩ [((n__0 : Int) == 3) = true, FnOK Go.Proofs.Try.prog 69 (f69_broughamref04_Within_in s_2 n__4 1048576) (f69_broughamref04_Within_out r105_0), r105_0 = false] (by kernel_rfl) ⟨b105_3, (f69_broughamref04_Within_ok s_2 n__4 1048576 r105_0 cr105_0), b105_e0, trivial⟩ ?_
                have h := Option.some.inj h
                subst h
                exact At.fin hm ht ⟨[], [], [], [6], []⟩ [] (by kernel_rfl) trivial
            · refine At.step hm ht ⟨[(3, .b false)], [false], [], [], []⟩ 16 ⟨[], [], [], 0⟩ [((n__0 : Int) == 3) = false, false = false] (by kernel_rfl) ⟨b105_3, rfl, trivial⟩ ?_
              have h := Option.some.inj h
              subst h
              exact At.fin hm ht ⟨[], [], [], [6], []⟩ [] (by kernel_rfl) trivial
        · refine At.step hm ht ⟨[(1, .call [] [] (f67_broughamref15_has_out r102_0))], [false], [], [2, 3, 4], [0, 1]⟩ 17 ⟨[(2, .one (.c (.d (.bool sealed)))), (3, .one (.c (.ptr 0 0))), (4, .one (.c (.ptr 1 0)))], [], [(0, [.d (.int .i64 n__0), .d (.int .u32 n__1), .d (.int .u32 n__2), .d (.int .u32 n__3), .d (.int .u32 n__4)]), (1, [.d (.int .u16 s_0), .d (.int .u16 s_1), .d (.int .u32 s_2), .d (.int .u32 s_3), .d (.int .u8 s_4), .d (.sl (.pair (.int .u8) (.slice (.int .u8))) s_5), .d (.sl (.int .u8) s_6)])], 2⟩ [FnOK Go.Proofs.Try.prog 67 (f67_broughamref15_has_in s_0 s_1 s_2 s_3 s_4 s_5 s_6 4) (f67_broughamref15_has_out r102_0), r102_0 = false] (by kernel_rfl) ⟨(f67_broughamref15_has_ok s_0 s_1 s_2 s_3 s_4 s_5 s_6 4 r102_0 cr102_0), b102_e0, trivial⟩ ?_
          obtain ⟨r117_0, cr117_0, h⟩ := bindS h
          rcases iteS h with ⟨b117_e0, h⟩ | ⟨b117_e0, h⟩
          · refine At.step hm ht ⟨[(1, .call [] [] (f67_broughamref15_has_out r117_0))], [true], [], [3, 4], [0, 1]⟩ 18 ⟨[(3, .one (.c (.ptr 0 0))), (4, .one (.c (.ptr 1 0)))], [], [(0, [.d (.int .i64 n__0), .d (.int .u32 n__1), .d (.int .u32 n__2), .d (.int .u32 n__3), .d (.int .u32 n__4)]), (1, [.d (.int .u16 s_0), .d (.int .u16 s_1), .d (.int .u32 s_2), .d (.int .u32 s_3), .d (.int .u8 s_4), .d (.sl (.pair (.int .u8) (.slice (.int .u8))) s_5), .d (.sl (.int .u8) s_6)])], 2⟩ [FnOK Go.Proofs.Try.prog 67 (f67_broughamref15_has_in s_0 s_1 s_2 s_3 s_4 s_5 s_6 1) (f67_broughamref15_has_out r117_0), r117_0 = true] (by kernel_rfl) ⟨(f67_broughamref15_has_ok s_0 s_1 s_2 s_3 s_4 s_5 s_6 1 r117_0 cr117_0), b117_e0, trivial⟩ ?_
            rcases iteS h with ⟨b118_e0, h⟩ | ⟨b118_e0, h⟩
            · refine At.step hm ht ⟨[], [true], [], [], []⟩ 19 ⟨[], [], [], 0⟩ [((n__0 : Int) == 3) = true] (by kernel_rfl) ⟨b118_e0, trivial⟩ ?_
              have h := Option.some.inj h
              subst h
              exact At.fin hm ht ⟨[], [], [], [6], []⟩ [] (by kernel_rfl) trivial
            · refine At.step hm ht ⟨[], [false], [], [3, 4], [0, 1]⟩ 20 ⟨[(3, .one (.c (.ptr 0 0))), (4, .one (.c (.ptr 1 0)))], [], [(0, [.d (.int .i64 n__0), .d (.int .u32 n__1), .d (.int .u32 n__2), .d (.int .u32 n__3), .d (.int .u32 n__4)]), (1, [.d (.int .u16 s_0), .d (.int .u16 s_1), .d (.int .u32 s_2), .d (.int .u32 s_3), .d (.int .u8 s_4), .d (.sl (.pair (.int .u8) (.slice (.int .u8))) s_5), .d (.sl (.int .u8) s_6)])], 2⟩ [((n__0 : Int) == 3) = false] (by kernel_rfl) ⟨b118_e0, trivial⟩ ?_
              rcases iteS h with ⟨b120_3, h⟩ | ⟨b120_3, h⟩
              · obtain ⟨r120_0, cr120_0, h⟩ := bindS h
                have h := Option.some.inj h
                subst h
                exact At.fin hm ht ⟨[(3, .b true), (11, .call [] [] (f68_broughamref15_pass_out r120_0))], [], [], [6], []⟩ [((s_4 : Int) == 1) = true, FnOK Go.Proofs.Try.prog 68 (f68_broughamref15_pass_in (((IntKind.wrap .u32 (s_2 + 1)) : Int) == n__4)) (f68_broughamref15_pass_out r120_0)] (by kernel_rfl) ⟨b120_3, (f68_broughamref15_pass_ok (((IntKind.wrap .u32 (s_2 + 1)) : Int) == n__4) r120_0 cr120_0), trivial⟩
              · obtain ⟨r120_0, cr120_0, h⟩ := bindS h
                have h := Option.some.inj h
                subst h
                exact At.fin hm ht ⟨[(3, .b false), (11, .call [] [] (f68_broughamref15_pass_out r120_0))], [], [], [6], []⟩ [((s_4 : Int) == 1) = false, FnOK Go.Proofs.Try.prog 68 (f68_broughamref15_pass_in false) (f68_broughamref15_pass_out r120_0)] (by kernel_rfl) ⟨b120_3, (f68_broughamref15_pass_ok false r120_0 cr120_0), trivial⟩
          · refine At.step hm ht ⟨[(1, .call [] [] (f67_broughamref15_has_out r117_0))], [false], [], [2, 3, 4], [0, 1]⟩ 21 ⟨[(2, .one (.c (.d (.bool sealed)))), (3, .one (.c (.ptr 0 0))), (4, .one (.c (.ptr 1 0)))], [], [(0, [.d (.int .i64 n__0), .d (.int .u32 n__1), .d (.int .u32 n__2), .d (.int .u32 n__3), .d (.int .u32 n__4)]), (1, [.d (.int .u16 s_0), .d (.int .u16 s_1), .d (.int .u32 s_2), .d (.int .u32 s_3), .d (.int .u8 s_4), .d (.sl (.pair (.int .u8) (.slice (.int .u8))) s_5), .d (.sl (.int .u8) s_6)])], 2⟩ [FnOK Go.Proofs.Try.prog 67 (f67_broughamref15_has_in s_0 s_1 s_2 s_3 s_4 s_5 s_6 1) (f67_broughamref15_has_out r117_0), r117_0 = false] (by kernel_rfl) ⟨(f67_broughamref15_has_ok s_0 s_1 s_2 s_3 s_4 s_5 s_6 1 r117_0 cr117_0), b117_e0, trivial⟩ ?_
            obtain ⟨r121_0, cr121_0, h⟩ := bindS h
            obtain ⟨r121_1, cr121_1, h⟩ := bindS h
            have h := Option.some.inj h
            subst h
            exact At.fin hm ht ⟨[(3, .call [] [] (f70_broughamref15_Fits_out r121_0)), (4, .call [] [] (f68_broughamref15_pass_out r121_1))], [], [], [6], []⟩ [FnOK Go.Proofs.Try.prog 70 (f70_broughamref15_Fits_in n__0 n__1 n__2 n__3 n__4 s_0 s_1 s_2 s_3 s_4 s_5 s_6 sealed) (f70_broughamref15_Fits_out r121_0), FnOK Go.Proofs.Try.prog 68 (f68_broughamref15_pass_in r121_0) (f68_broughamref15_pass_out r121_1)] (by kernel_rfl) ⟨(f70_broughamref15_Fits_ok n__0 n__1 n__2 n__3 n__4 s_0 s_1 s_2 s_3 s_4 s_5 s_6 sealed r121_0 cr121_0), (f68_broughamref15_pass_ok r121_0 r121_1 cr121_1), trivial⟩
    · refine At.step hm ht ⟨[(3, .b false)], [false], [], [2, 3, 4], [0, 1]⟩ 11 ⟨[(2, .one (.c (.d (.bool sealed)))), (3, .one (.c (.ptr 0 0))), (4, .one (.c (.ptr 1 0)))], [], [(0, [.d (.int .i64 n__0), .d (.int .u32 n__1), .d (.int .u32 n__2), .d (.int .u32 n__3), .d (.int .u32 n__4)]), (1, [.d (.int .u16 s_0), .d (.int .u16 s_1), .d (.int .u32 s_2), .d (.int .u32 s_3), .d (.int .u8 s_4), .d (.sl (.pair (.int .u8) (.slice (.int .u8))) s_5), .d (.sl (.int .u8) s_6)])], 2⟩ [((n__0 : Int) != 2) = false, false = false] (by kernel_rfl) ⟨b100_3, rfl, trivial⟩ ?_
      obtain ⟨r146_0, cr146_0, h⟩ := bindS h
      rcases iteS h with ⟨b146_e0, h⟩ | ⟨b146_e0, h⟩
      · refine At.step hm ht ⟨[(1, .call [] [] (f67_broughamref15_has_out r146_0))], [true], [], [3, 4], [0, 1]⟩ 12 ⟨[(3, .one (.c (.ptr 0 0))), (4, .one (.c (.ptr 1 0)))], [], [(0, [.d (.int .i64 n__0), .d (.int .u32 n__1), .d (.int .u32 n__2), .d (.int .u32 n__3), .d (.int .u32 n__4)]), (1, [.d (.int .u16 s_0), .d (.int .u16 s_1), .d (.int .u32 s_2), .d (.int .u32 s_3), .d (.int .u8 s_4), .d (.sl (.pair (.int .u8) (.slice (.int .u8))) s_5), .d (.sl (.int .u8) s_6)])], 2⟩ [FnOK Go.Proofs.Try.prog 67 (f67_broughamref15_has_in s_0 s_1 s_2 s_3 s_4 s_5 s_6 4) (f67_broughamref15_has_out r146_0), r146_0 = true] (by kernel_rfl) ⟨(f67_broughamref15_has_ok s_0 s_1 s_2 s_3 s_4 s_5 s_6 4 r146_0 cr146_0), b146_e0, trivial⟩ ?_
        rcases iteS h with ⟨b147_e0, h⟩ | ⟨b147_e0, h⟩
        · refine At.step hm ht ⟨[], [true], [], [], []⟩ 13 ⟨[], [], [], 0⟩ [((s_2 : Int) == n__4) = true] (by kernel_rfl) ⟨b147_e0, trivial⟩ ?_
          have h := Option.some.inj h
          subst h
          exact At.fin hm ht ⟨[], [], [], [6], []⟩ [] (by kernel_rfl) trivial
        · refine At.step hm ht ⟨[], [false], [], [3, 4], [0, 1]⟩ 14 ⟨[(3, .one (.c (.ptr 0 0))), (4, .one (.c (.ptr 1 0)))], [], [(0, [.d (.int .i64 n__0), .d (.int .u32 n__1), .d (.int .u32 n__2), .d (.int .u32 n__3), .d (.int .u32 n__4)]), (1, [.d (.int .u16 s_0), .d (.int .u16 s_1), .d (.int .u32 s_2), .d (.int .u32 s_3), .d (.int .u8 s_4), .d (.sl (.pair (.int .u8) (.slice (.int .u8))) s_5), .d (.sl (.int .u8) s_6)])], 2⟩ [((s_2 : Int) == n__4) = false] (by kernel_rfl) ⟨b147_e0, trivial⟩ ?_
          rcases iteS h with ⟨b149_3, h⟩ | ⟨b149_3, h⟩
          · obtain ⟨r149_0, cr149_0, h⟩ := bindS h
            rcases iteS h with ⟨b149_e0, h⟩ | ⟨b149_e0, h⟩
            · refine At.step hm ht ⟨[(3, .b true), (8, .call [] [] (f69_broughamref04_Within_out r149_0))], [true], [], [], []⟩ 15 ⟨[], [], [], 0⟩ [((n__0 : Int) == 3) = true, FnOK Go.Proofs.Try.prog 69 (f69_broughamref04_Within_in s_2 n__4 1048576) (f69_broughamref04_Within_out r149_0), r149_0 = true] (by kernel_rfl) ⟨b149_3, (f69_broughamref04_Within_ok s_2 n__4 1048576 r149_0 cr149_0), b149_e0, trivial⟩ ?_
              have h := Option.some.inj h
              subst h
              exact At.fin hm ht ⟨[], [], [], [6], []⟩ [] (by kernel_rfl) trivial
            · refine At.step hm ht ⟨[(3, .b true), (8, .call [] [] (f69_broughamref04_Within_out r149_0))], [false], [], [], []⟩ 16 ⟨[], [], [], 0⟩ [((n__0 : Int) == 3) = true, FnOK Go.Proofs.Try.prog 69 (f69_broughamref04_Within_in s_2 n__4 1048576) (f69_broughamref04_Within_out r149_0), r149_0 = false] (by kernel_rfl) ⟨b149_3, (f69_broughamref04_Within_ok s_2 n__4 1048576 r149_0 cr149_0), b149_e0, trivial⟩ ?_
              have h := Option.some.inj h
              subst h
              exact At.fin hm ht ⟨[], [], [], [6], []⟩ [] (by kernel_rfl) trivial
          · refine At.step hm ht ⟨[(3, .b false)], [false], [], [], []⟩ 16 ⟨[], [], [], 0⟩ [((n__0 : Int) == 3) = false, false = false] (by kernel_rfl) ⟨b149_3, rfl, trivial⟩ ?_
            have h := Option.some.inj h
            subst h
            exact At.fin hm ht ⟨[], [], [], [6], []⟩ [] (by kernel_rfl) trivial
      · refine At.step hm ht ⟨[(1, .call [] [] (f67_broughamref15_has_out r146_0))], [false], [], [2, 3, 4], [0, 1]⟩ 17 ⟨[(2, .one (.c (.d (.bool sealed)))), (3, .one (.c (.ptr 0 0))), (4, .one (.c (.ptr 1 0)))], [], [(0, [.d (.int .i64 n__0), .d (.int .u32 n__1), .d (.int .u32 n__2), .d (.int .u32 n__3), .d (.int .u32 n__4)]), (1, [.d (.int .u16 s_0), .d (.int .u16 s_1), .d (.int .u32 s_2), .d (.int .u32 s_3), .d (.int .u8 s_4), .d (.sl (.pair (.int .u8) (.slice (.int .u8))) s_5), .d (.sl (.int .u8) s_6)])], 2⟩ [FnOK Go.Proofs.Try.prog 67 (f67_broughamref15_has_in s_0 s_1 s_2 s_3 s_4 s_5 s_6 4) (f67_broughamref15_has_out r146_0), r146_0 = false] (by kernel_rfl) ⟨(f67_broughamref15_has_ok s_0 s_1 s_2 s_3 s_4 s_5 s_6 4 r146_0 cr146_0), b146_e0, trivial⟩ ?_
        obtain ⟨r153_0, cr153_0, h⟩ := bindS h
        rcases iteS h with ⟨b153_e0, h⟩ | ⟨b153_e0, h⟩
        · refine At.step hm ht ⟨[(1, .call [] [] (f67_broughamref15_has_out r153_0))], [true], [], [3, 4], [0, 1]⟩ 18 ⟨[(3, .one (.c (.ptr 0 0))), (4, .one (.c (.ptr 1 0)))], [], [(0, [.d (.int .i64 n__0), .d (.int .u32 n__1), .d (.int .u32 n__2), .d (.int .u32 n__3), .d (.int .u32 n__4)]), (1, [.d (.int .u16 s_0), .d (.int .u16 s_1), .d (.int .u32 s_2), .d (.int .u32 s_3), .d (.int .u8 s_4), .d (.sl (.pair (.int .u8) (.slice (.int .u8))) s_5), .d (.sl (.int .u8) s_6)])], 2⟩ [FnOK Go.Proofs.Try.prog 67 (f67_broughamref15_has_in s_0 s_1 s_2 s_3 s_4 s_5 s_6 1) (f67_broughamref15_has_out r153_0), r153_0 = true] (by kernel_rfl) ⟨(f67_broughamref15_has_ok s_0 s_1 s_2 s_3 s_4 s_5 s_6 1 r153_0 cr153_0), b153_e0, trivial⟩ ?_
          rcases iteS h with ⟨b154_e0, h⟩ | ⟨b154_e0, h⟩
          · refine At.step hm ht ⟨[], [true], [], [], []⟩ 19 ⟨[], [], [], 0⟩ [((n__0 : Int) == 3) = true] (by kernel_rfl) ⟨b154_e0, trivial⟩ ?_
            have h := Option.some.inj h
            subst h
            exact At.fin hm ht ⟨[], [], [], [6], []⟩ [] (by kernel_rfl) trivial
          · refine At.step hm ht ⟨[], [false], [], [3, 4], [0, 1]⟩ 20 ⟨[(3, .one (.c (.ptr 0 0))), (4, .one (.c (.ptr 1 0)))], [], [(0, [.d (.int .i64 n__0), .d (.int .u32 n__1), .d (.int .u32 n__2), .d (.int .u32 n__3), .d (.int .u32 n__4)]), (1, [.d (.int .u16 s_0), .d (.int .u16 s_1), .d (.int .u32 s_2), .d (.int .u32 s_3), .d (.int .u8 s_4), .d (.sl (.pair (.int .u8) (.slice (.int .u8))) s_5), .d (.sl (.int .u8) s_6)])], 2⟩ [((n__0 : Int) == 3) = false] (by kernel_rfl) ⟨b154_e0, trivial⟩ ?_
            rcases iteS h with ⟨b156_3, h⟩ | ⟨b156_3, h⟩
            · obtain ⟨r156_0, cr156_0, h⟩ := bindS h
              have h := Option.some.inj h
              subst h
              exact At.fin hm ht ⟨[(3, .b true), (11, .call [] [] (f68_broughamref15_pass_out r156_0))], [], [], [6], []⟩ [((s_4 : Int) == 1) = true, FnOK Go.Proofs.Try.prog 68 (f68_broughamref15_pass_in (((IntKind.wrap .u32 (s_2 + 1)) : Int) == n__4)) (f68_broughamref15_pass_out r156_0)] (by kernel_rfl) ⟨b156_3, (f68_broughamref15_pass_ok (((IntKind.wrap .u32 (s_2 + 1)) : Int) == n__4) r156_0 cr156_0), trivial⟩
            · obtain ⟨r156_0, cr156_0, h⟩ := bindS h
              have h := Option.some.inj h
              subst h
              exact At.fin hm ht ⟨[(3, .b false), (11, .call [] [] (f68_broughamref15_pass_out r156_0))], [], [], [6], []⟩ [((s_4 : Int) == 1) = false, FnOK Go.Proofs.Try.prog 68 (f68_broughamref15_pass_in false) (f68_broughamref15_pass_out r156_0)] (by kernel_rfl) ⟨b156_3, (f68_broughamref15_pass_ok false r156_0 cr156_0), trivial⟩
        · refine At.step hm ht ⟨[(1, .call [] [] (f67_broughamref15_has_out r153_0))], [false], [], [2, 3, 4], [0, 1]⟩ 21 ⟨[(2, .one (.c (.d (.bool sealed)))), (3, .one (.c (.ptr 0 0))), (4, .one (.c (.ptr 1 0)))], [], [(0, [.d (.int .i64 n__0), .d (.int .u32 n__1), .d (.int .u32 n__2), .d (.int .u32 n__3), .d (.int .u32 n__4)]), (1, [.d (.int .u16 s_0), .d (.int .u16 s_1), .d (.int .u32 s_2), .d (.int .u32 s_3), .d (.int .u8 s_4), .d (.sl (.pair (.int .u8) (.slice (.int .u8))) s_5), .d (.sl (.int .u8) s_6)])], 2⟩ [FnOK Go.Proofs.Try.prog 67 (f67_broughamref15_has_in s_0 s_1 s_2 s_3 s_4 s_5 s_6 1) (f67_broughamref15_has_out r153_0), r153_0 = false] (by kernel_rfl) ⟨(f67_broughamref15_has_ok s_0 s_1 s_2 s_3 s_4 s_5 s_6 1 r153_0 cr153_0), b153_e0, trivial⟩ ?_
          obtain ⟨r157_0, cr157_0, h⟩ := bindS h
          obtain ⟨r157_1, cr157_1, h⟩ := bindS h
          have h := Option.some.inj h
          subst h
          exact At.fin hm ht ⟨[(3, .call [] [] (f70_broughamref15_Fits_out r157_0)), (4, .call [] [] (f68_broughamref15_pass_out r157_1))], [], [], [6], []⟩ [FnOK Go.Proofs.Try.prog 70 (f70_broughamref15_Fits_in n__0 n__1 n__2 n__3 n__4 s_0 s_1 s_2 s_3 s_4 s_5 s_6 sealed) (f70_broughamref15_Fits_out r157_0), FnOK Go.Proofs.Try.prog 68 (f68_broughamref15_pass_in r157_0) (f68_broughamref15_pass_out r157_1)] (by kernel_rfl) ⟨(f70_broughamref15_Fits_ok n__0 n__1 n__2 n__3 n__4 s_0 s_1 s_2 s_3 s_4 s_5 s_6 sealed r157_0 cr157_0), (f68_broughamref15_pass_ok r157_0 r157_1 cr157_1), trivial⟩
/-! brougham/broughamlaw15.alive -/
def f25_broughamlaw15_alive_in : Inn := ⟨[], [], [], 0⟩
def f25_broughamlaw15_alive_out (r : Bool) : Out := ⟨.one (.c (.d (.bool r))), [], [], 0⟩
def f25_broughamlaw15_alive : Option (Bool) :=
  (f23_judge_Judge 3 0 0 0 5 0 0 5 0 4 [] [] false).bind fun r160_0 =>
  if ((r160_0 : Int) == 4) = true then
    (f23_judge_Judge 3 0 0 0 5 0 0 6 0 4 [] [] false).bind fun r160_1 =>
    if ((r160_1 : Int) == 3) = true then
      (f23_judge_Judge 3 0 0 0 5 0 0 4 0 4 [] [] false).bind fun r160_2 =>
      some ((r160_2 : Int) == 2)
    else
      some false
  else
    some false
theorem f25_broughamlaw15_alive_ok (r : Bool) (h : f25_broughamlaw15_alive = some r) : FnOK Go.Proofs.Try.prog 25 (f25_broughamlaw15_alive_in) (f25_broughamlaw15_alive_out r) := by
  unfold f25_broughamlaw15_alive at h
  refine At.fn (r := 0) Go.Proofs.Try.func25 rfl (by kernel_rfl) rfl rfl (by kernel_rfl) ?_
  show At Go.Proofs.Try.prog Go.Proofs.Try.f25 0 0 ⟨[], [], [], 0⟩ _
  refine At.step hm ht ⟨[], [], [], [], []⟩ 1 ⟨[], [], [], 0⟩ [] (by kernel_rfl) trivial ?_
  refine At.step hm ht ⟨[], [], [], [1], [1]⟩ 2 ⟨[(1, .one (.c (.ptr 0 0)))], [], [(0, [.d (.int .i64 3), .d (.int .u32 0), .d (.int .u32 0), .d (.int .u32 0), .d (.int .u32 5)])], 1⟩ [0 + 5 ≤ 5] (by kernel_rfl) ⟨(by decide), trivial⟩ ?_
  obtain ⟨r160_0, cr160_0, h⟩ := bindS h
  rcases iteS h with ⟨b160_4, h⟩ | ⟨b160_4, h⟩
  · obtain ⟨r160_1, cr160_1, h⟩ := bindS h
    rcases iteS h with ⟨b160_10, h⟩ | ⟨b160_10, h⟩
    · obtain ⟨r160_2, cr160_2, h⟩ := bindS h
      have h := Option.some.inj h
      subst h
      exact At.fin hm ht ⟨[(2, .call [] [(1, 5, (.pair (.int .u8) (.slice (.int .u8)))), (1, 6, (.int .u8))] (f23_judge_Judge_out r160_0)), (4, .b true), (7, .call [] [(1, 5, (.pair (.int .u8) (.slice (.int .u8)))), (1, 6, (.int .u8))] (f23_judge_Judge_out r160_1)), (10, .b true), (13, .call [] [(1, 5, (.pair (.int .u8) (.slice (.int .u8)))), (1, 6, (.int .u8))] (f23_judge_Judge_out r160_2))], [], [], [0], []⟩ [FnOK Go.Proofs.Try.prog 23 (f23_judge_Judge_in 3 0 0 0 5 0 0 5 0 4 [] [] false) (f23_judge_Judge_out r160_0), ((r160_0 : Int) == 4) = true, FnOK Go.Proofs.Try.prog 23 (f23_judge_Judge_in 3 0 0 0 5 0 0 6 0 4 [] [] false) (f23_judge_Judge_out r160_1), ((r160_1 : Int) == 3) = true, FnOK Go.Proofs.Try.prog 23 (f23_judge_Judge_in 3 0 0 0 5 0 0 4 0 4 [] [] false) (f23_judge_Judge_out r160_2)] (by kernel_rfl) ⟨(f23_judge_Judge_ok 3 0 0 0 5 0 0 5 0 4 [] [] false r160_0 cr160_0), b160_4, (f23_judge_Judge_ok 3 0 0 0 5 0 0 6 0 4 [] [] false r160_1 cr160_1), b160_10, (f23_judge_Judge_ok 3 0 0 0 5 0 0 4 0 4 [] [] false r160_2 cr160_2), trivial⟩
    · have h := Option.some.inj h
      subst h
      exact At.fin hm ht ⟨[(2, .call [] [(1, 5, (.pair (.int .u8) (.slice (.int .u8)))), (1, 6, (.int .u8))] (f23_judge_Judge_out r160_0)), (4, .b true), (7, .call [] [(1, 5, (.pair (.int .u8) (.slice (.int .u8)))), (1, 6, (.int .u8))] (f23_judge_Judge_out r160_1)), (10, .b false)], [], [], [0], []⟩ [FnOK Go.Proofs.Try.prog 23 (f23_judge_Judge_in 3 0 0 0 5 0 0 5 0 4 [] [] false) (f23_judge_Judge_out r160_0), ((r160_0 : Int) == 4) = true, FnOK Go.Proofs.Try.prog 23 (f23_judge_Judge_in 3 0 0 0 5 0 0 6 0 4 [] [] false) (f23_judge_Judge_out r160_1), ((r160_1 : Int) == 3) = false] (by kernel_rfl) ⟨(f23_judge_Judge_ok 3 0 0 0 5 0 0 5 0 4 [] [] false r160_0 cr160_0), b160_4, (f23_judge_Judge_ok 3 0 0 0 5 0 0 6 0 4 [] [] false r160_1 cr160_1), b160_10, trivial⟩
  · have h := Option.some.inj h
    subst h
    exact At.fin hm ht ⟨[(2, .call [] [(1, 5, (.pair (.int .u8) (.slice (.int .u8)))), (1, 6, (.int .u8))] (f23_judge_Judge_out r160_0)), (4, .b false)], [], [], [0], []⟩ [FnOK Go.Proofs.Try.prog 23 (f23_judge_Judge_in 3 0 0 0 5 0 0 5 0 4 [] [] false) (f23_judge_Judge_out r160_0), ((r160_0 : Int) == 4) = false] (by kernel_rfl) ⟨(f23_judge_Judge_ok 3 0 0 0 5 0 0 5 0 4 [] [] false r160_0 cr160_0), b160_4, trivial⟩
/-! brougham/broughamlaw15.JudgeDecides -/
def f4_broughamlaw15_JudgeDecides_in (n__0 : Int) (n__1 : Int) (n__2 : Int) (n__3 : Int) (n__4 : Int) (s_0 : Int) (s_1 : Int) (s_2 : Int) (s_3 : Int) (s_4 : Int) (s_5 : List (Int × List Int)) (s_6 : List Int) (sealed : Bool) : Inn := ⟨[.agg [.d (.int .i64 n__0), .d (.int .u32 n__1), .d (.int .u32 n__2), .d (.int .u32 n__3), .d (.int .u32 n__4)], .agg [.d (.int .u16 s_0), .d (.int .u16 s_1), .d (.int .u32 s_2), .d (.int .u32 s_3), .d (.int .u8 s_4), .d (.sl (.pair (.int .u8) (.slice (.int .u8))) s_5), .d (.sl (.int .u8) s_6)], .c (.d (.bool sealed))], [], [], 0⟩
def f4_broughamlaw15_JudgeDecides_out (r : Bool) : Out := ⟨.one (.c (.d (.bool r))), [], [], 0⟩
def f4_broughamlaw15_JudgeDecides (n__0 : Int) (n__1 : Int) (n__2 : Int) (n__3 : Int) (n__4 : Int) (s_0 : Int) (s_1 : Int) (s_2 : Int) (s_3 : Int) (s_4 : Int) (s_5 : List (Int × List Int)) (s_6 : List Int) (sealed : Bool) : Option (Bool) :=
  (f23_judge_Judge n__0 n__1 n__2 n__3 n__4 s_0 s_1 s_2 s_3 s_4 s_5 s_6 sealed).bind fun r3_0 =>
  (f24_broughamref15_Judge n__0 n__1 n__2 n__3 n__4 s_0 s_1 s_2 s_3 s_4 s_5 s_6 sealed).bind fun r3_1 =>
  if ((r3_0 : Int) == r3_1) = true then
    (f25_broughamlaw15_alive).bind fun r3_2 =>
    some r3_2
  else
    some false
theorem f4_broughamlaw15_JudgeDecides_ok (n__0 : Int) (n__1 : Int) (n__2 : Int) (n__3 : Int) (n__4 : Int) (s_0 : Int) (s_1 : Int) (s_2 : Int) (s_3 : Int) (s_4 : Int) (s_5 : List (Int × List Int)) (s_6 : List Int) (sealed : Bool) (r : Bool) (h : f4_broughamlaw15_JudgeDecides n__0 n__1 n__2 n__3 n__4 s_0 s_1 s_2 s_3 s_4 s_5 s_6 sealed = some r) : FnOK Go.Proofs.Try.prog 4 (f4_broughamlaw15_JudgeDecides_in n__0 n__1 n__2 n__3 n__4 s_0 s_1 s_2 s_3 s_4 s_5 s_6 sealed) (f4_broughamlaw15_JudgeDecides_out r) := by
  unfold f4_broughamlaw15_JudgeDecides at h
  refine At.fn (r := 0) Go.Proofs.Try.func4 rfl (by kernel_rfl) rfl rfl (by kernel_rfl) ?_
  show At Go.Proofs.Try.prog Go.Proofs.Try.f4 0 0 ⟨[(0, .one (.agg [.d (.int .i64 n__0), .d (.int .u32 n__1), .d (.int .u32 n__2), .d (.int .u32 n__3), .d (.int .u32 n__4)])), (1, .one (.agg [.d (.int .u16 s_0), .d (.int .u16 s_1), .d (.int .u32 s_2), .d (.int .u32 s_3), .d (.int .u8 s_4), .d (.sl (.pair (.int .u8) (.slice (.int .u8))) s_5), .d (.sl (.int .u8) s_6)])), (2, .one (.c (.d (.bool sealed))))], [], [], 0⟩ _
  refine At.step hm ht ⟨[], [], [], [2, 3, 4], [0, 1]⟩ 1 ⟨[(2, .one (.c (.d (.bool sealed)))), (3, .one (.c (.ptr 0 0))), (4, .one (.c (.ptr 1 0)))], [], [(0, [.d (.int .i64 n__0), .d (.int .u32 n__1), .d (.int .u32 n__2), .d (.int .u32 n__3), .d (.int .u32 n__4)]), (1, [.d (.int .u16 s_0), .d (.int .u16 s_1), .d (.int .u32 s_2), .d (.int .u32 s_3), .d (.int .u8 s_4), .d (.sl (.pair (.int .u8) (.slice (.int .u8))) s_5), .d (.sl (.int .u8) s_6)])], 2⟩ [] (by kernel_rfl) trivial ?_
  refine At.step hm ht ⟨[], [], [], [2, 3, 4, 7], [0, 1, 13]⟩ 2 ⟨[(2, .one (.c (.d (.bool sealed)))), (3, .one (.c (.ptr 0 0))), (4, .one (.c (.ptr 1 0))), (7, .one (.c (.ptr 2 0)))], [], [(0, [.d (.int .i64 n__0), .d (.int .u32 n__1), .d (.int .u32 n__2), .d (.int .u32 n__3), .d (.int .u32 n__4)]), (1, [.d (.int .u16 s_0), .d (.int .u16 s_1), .d (.int .u32 s_2), .d (.int .u32 s_3), .d (.int .u8 s_4), .d (.sl (.pair (.int .u8) (.slice (.int .u8))) s_5), .d (.sl (.int .u8) s_6)]), (2, [.d (.int .i64 n__0), .d (.int .u32 n__1), .d (.int .u32 n__2), .d (.int .u32 n__3), .d (.int .u32 n__4)])], 3⟩ [0 + 5 ≤ 5] (by kernel_rfl) ⟨(by decide), trivial⟩ ?_
  obtain ⟨r3_0, cr3_0, h⟩ := bindS h
  obtain ⟨r3_1, cr3_1, h⟩ := bindS h
  rcases iteS h with ⟨b3_9, h⟩ | ⟨b3_9, h⟩
  · obtain ⟨r3_2, cr3_2, h⟩ := bindS h
    have h := Option.some.inj h
    subst h
    exact At.fin hm ht ⟨[(3, .call [] [] (f23_judge_Judge_out r3_0)), (7, .call [] [] (f24_broughamref15_Judge_out r3_1)), (9, .b true), (10, .call [] [] (f25_broughamlaw15_alive_out r3_2))], [], [], [6], []⟩ [FnOK Go.Proofs.Try.prog 23 (f23_judge_Judge_in n__0 n__1 n__2 n__3 n__4 s_0 s_1 s_2 s_3 s_4 s_5 s_6 sealed) (f23_judge_Judge_out r3_0), FnOK Go.Proofs.Try.prog 24 (f24_broughamref15_Judge_in n__0 n__1 n__2 n__3 n__4 s_0 s_1 s_2 s_3 s_4 s_5 s_6 sealed) (f24_broughamref15_Judge_out r3_1), ((r3_0 : Int) == r3_1) = true, FnOK Go.Proofs.Try.prog 25 (f25_broughamlaw15_alive_in) (f25_broughamlaw15_alive_out r3_2)] (by kernel_rfl) ⟨(f23_judge_Judge_ok n__0 n__1 n__2 n__3 n__4 s_0 s_1 s_2 s_3 s_4 s_5 s_6 sealed r3_0 cr3_0), (f24_broughamref15_Judge_ok n__0 n__1 n__2 n__3 n__4 s_0 s_1 s_2 s_3 s_4 s_5 s_6 sealed r3_1 cr3_1), b3_9, (f25_broughamlaw15_alive_ok r3_2 cr3_2), trivial⟩
  · have h := Option.some.inj h
    subst h
    exact At.fin hm ht ⟨[(3, .call [] [] (f23_judge_Judge_out r3_0)), (7, .call [] [] (f24_broughamref15_Judge_out r3_1)), (9, .b false)], [], [], [6], []⟩ [FnOK Go.Proofs.Try.prog 23 (f23_judge_Judge_in n__0 n__1 n__2 n__3 n__4 s_0 s_1 s_2 s_3 s_4 s_5 s_6 sealed) (f23_judge_Judge_out r3_0), FnOK Go.Proofs.Try.prog 24 (f24_broughamref15_Judge_in n__0 n__1 n__2 n__3 n__4 s_0 s_1 s_2 s_3 s_4 s_5 s_6 sealed) (f24_broughamref15_Judge_out r3_1), ((r3_0 : Int) == r3_1) = false] (by kernel_rfl) ⟨(f23_judge_Judge_ok n__0 n__1 n__2 n__3 n__4 s_0 s_1 s_2 s_3 s_4 s_5 s_6 sealed r3_0 cr3_0), (f24_broughamref15_Judge_ok n__0 n__1 n__2 n__3 n__4 s_0 s_1 s_2 s_3 s_4 s_5 s_6 sealed r3_1 cr3_1), b3_9, trivial⟩
/-! brougham/broughamlaw15.JudgeBlind -/
def f5_broughamlaw15_JudgeBlind_in (n__0 : Int) (n__1 : Int) (n__2 : Int) (n__3 : Int) (n__4 : Int) (s_0 : Int) (s_1 : Int) (s_2 : Int) (s_3 : Int) (s_4 : Int) (s_5 : List (Int × List Int)) (s_6 : List Int) : Inn := ⟨[.agg [.d (.int .i64 n__0), .d (.int .u32 n__1), .d (.int .u32 n__2), .d (.int .u32 n__3), .d (.int .u32 n__4)], .agg [.d (.int .u16 s_0), .d (.int .u16 s_1), .d (.int .u32 s_2), .d (.int .u32 s_3), .d (.int .u8 s_4), .d (.sl (.pair (.int .u8) (.slice (.int .u8))) s_5), .d (.sl (.int .u8) s_6)]], [], [], 0⟩
def f5_broughamlaw15_JudgeBlind_out (r : Bool) : Out := ⟨.one (.c (.d (.bool r))), [], [], 0⟩
def f5_broughamlaw15_JudgeBlind (n__0 : Int) (n__1 : Int) (n__2 : Int) (n__3 : Int) (n__4 : Int) (s_0 : Int) (s_1 : Int) (s_2 : Int) (s_3 : Int) (s_4 : Int) (s_5 : List (Int × List Int)) (s_6 : List Int) : Option (Bool) :=
  (f23_judge_Judge 3 n__1 n__2 n__3 n__4 s_0 s_1 s_2 s_3 s_4 s_5 s_6 false).bind fun r163_0 =>
  if (decide ((s_4 : Int) ≥ 4)) = true then
    if (decide ((s_4 : Int) < 8)) = true then
      if (decide ((s_4 : Int) > 7)) = true then
        if ((r163_0 : Int) != 1) = true then
          (f25_broughamlaw15_alive).bind fun r166_0 =>
          some r166_0
        else
          some false
      else
        if ((r163_0 : Int) != 1) = true then
          if (((r163_0 : Int) == 4) == ((s_2 : Int) == n__4)) = true then
            (f25_broughamlaw15_alive).bind fun r167_0 =>
            some r167_0
          else
            some false
        else
          some false
    else
      if (decide ((s_4 : Int) > 7)) = true then
        if ((r163_0 : Int) != 1) = true then
          (f25_broughamlaw15_alive).bind fun r169_0 =>
          some r169_0
        else
          some false
      else
        if ((r163_0 : Int) != 1) = true then
          if (((r163_0 : Int) == 4) == false) = true then
            (f25_broughamlaw15_alive).bind fun r170_0 =>
            some r170_0
          else
            some false
        else
          some false
  else
    if (decide ((s_4 : Int) > 7)) = true then
      if ((r163_0 : Int) != 1) = true then
        (f25_broughamlaw15_alive).bind fun r172_0 =>
        some r172_0
      else
        some false
    else
      if ((r163_0 : Int) != 1) = true then
        if (((r163_0 : Int) == 4) == false) = true then
          (f25_broughamlaw15_alive).bind fun r173_0 =>
          some r173_0
        else
          some false
      else
        some false
theorem f5_broughamlaw15_JudgeBlind_ok (n__0 : Int) (n__1 : Int) (n__2 : Int) (n__3 : Int) (n__4 : Int) (s_0 : Int) (s_1 : Int) (s_2 : Int) (s_3 : Int) (s_4 : Int) (s_5 : List (Int × List Int)) (s_6 : List Int) (r : Bool) (h : f5_broughamlaw15_JudgeBlind n__0 n__1 n__2 n__3 n__4 s_0 s_1 s_2 s_3 s_4 s_5 s_6 = some r) : FnOK Go.Proofs.Try.prog 5 (f5_broughamlaw15_JudgeBlind_in n__0 n__1 n__2 n__3 n__4 s_0 s_1 s_2 s_3 s_4 s_5 s_6) (f5_broughamlaw15_JudgeBlind_out r) := by
  unfold f5_broughamlaw15_JudgeBlind at h
  refine At.fn (r := 0) Go.Proofs.Try.func5 rfl (by kernel_rfl) rfl rfl (by kernel_rfl) ?_
  show At Go.Proofs.Try.prog Go.Proofs.Try.f5 0 0 ⟨[(0, .one (.agg [.d (.int .i64 n__0), .d (.int .u32 n__1), .d (.int .u32 n__2), .d (.int .u32 n__3), .d (.int .u32 n__4)])), (1, .one (.agg [.d (.int .u16 s_0), .d (.int .u16 s_1), .d (.int .u32 s_2), .d (.int .u32 s_3), .d (.int .u8 s_4), .d (.sl (.pair (.int .u8) (.slice (.int .u8))) s_5), .d (.sl (.int .u8) s_6)]))], [], [], 0⟩ _
  refine At.step hm ht ⟨[], [], [], [2, 3], [0, 1]⟩ 1 ⟨[(2, .one (.c (.ptr 0 0))), (3, .one (.c (.ptr 1 0)))], [], [(0, [.d (.int .i64 n__0), .d (.int .u32 n__1), .d (.int .u32 n__2), .d (.int .u32 n__3), .d (.int .u32 n__4)]), (1, [.d (.int .u16 s_0), .d (.int .u16 s_1), .d (.int .u32 s_2), .d (.int .u32 s_3), .d (.int .u8 s_4), .d (.sl (.pair (.int .u8) (.slice (.int .u8))) s_5), .d (.sl (.int .u8) s_6)])], 2⟩ [] (by kernel_rfl) trivial ?_
  refine At.step hm ht ⟨[], [], [], [2, 3], [0, 1]⟩ 2 ⟨[(2, .one (.c (.ptr 0 0))), (3, .one (.c (.ptr 1 0)))], [], [(0, [.d (.int .i64 3), .d (.int .u32 n__1), .d (.int .u32 n__2), .d (.int .u32 n__3), .d (.int .u32 n__4)]), (1, [.d (.int .u16 s_0), .d (.int .u16 s_1), .d (.int .u32 s_2), .d (.int .u32 s_3), .d (.int .u8 s_4), .d (.sl (.pair (.int .u8) (.slice (.int .u8))) s_5), .d (.sl (.int .u8) s_6)])], 2⟩ [0 + 1 ≤ 5] (by kernel_rfl) ⟨(by decide), trivial⟩ ?_
  obtain ⟨r163_0, cr163_0, h⟩ := bindS h
  refine At.step hm ht ⟨[(2, .call [] [] (f23_judge_Judge_out r163_0))], [], [], [2, 3, 5], [0, 1]⟩ 3 ⟨[(2, .one (.c (.ptr 0 0))), (3, .one (.c (.ptr 1 0))), (5, .one (.c (.d (.int .i64 r163_0))))], [], [(0, [.d (.int .i64 3), .d (.int .u32 n__1), .d (.int .u32 n__2), .d (.int .u32 n__3), .d (.int .u32 n__4)]), (1, [.d (.int .u16 s_0), .d (.int .u16 s_1), .d (.int .u32 s_2), .d (.int .u32 s_3), .d (.int .u8 s_4), .d (.sl (.pair (.int .u8) (.slice (.int .u8))) s_5), .d (.sl (.int .u8) s_6)])], 2⟩ [FnOK Go.Proofs.Try.prog 23 (f23_judge_Judge_in 3 n__1 n__2 n__3 n__4 s_0 s_1 s_2 s_3 s_4 s_5 s_6 false) (f23_judge_Judge_out r163_0)] (by kernel_rfl) ⟨(f23_judge_Judge_ok 3 n__1 n__2 n__3 n__4 s_0 s_1 s_2 s_3 s_4 s_5 s_6 false r163_0 cr163_0), trivial⟩ ?_
  rcases iteS h with ⟨b164_3, h⟩ | ⟨b164_3, h⟩
  · rcases iteS h with ⟨b164_8, h⟩ | ⟨b164_8, h⟩
    · refine At.step hm ht ⟨[(3, .b true), (8, .b true)], [], [], [3, 5, 6], [1]⟩ 4 ⟨[(3, .one (.c (.ptr 0 0))), (5, .one (.c (.d (.int .i64 r163_0)))), (6, .one (.c (.d (.bool ((s_2 : Int) == n__4)))))], [], [(0, [.d (.int .u16 s_0), .d (.int .u16 s_1), .d (.int .u32 s_2), .d (.int .u32 s_3), .d (.int .u8 s_4), .d (.sl (.pair (.int .u8) (.slice (.int .u8))) s_5), .d (.sl (.int .u8) s_6)])], 1⟩ [(decide ((s_4 : Int) ≥ 4)) = true, (decide ((s_4 : Int) < 8)) = true] (by kernel_rfl) ⟨b164_3, b164_8, trivial⟩ ?_
      rcases iteS h with ⟨b165_e0, h⟩ | ⟨b165_e0, h⟩
      · refine At.step hm ht ⟨[], [true], [], [5], []⟩ 5 ⟨[(5, .one (.c (.d (.int .i64 r163_0))))], [], [], 0⟩ [(decide ((s_4 : Int) > 7)) = true] (by kernel_rfl) ⟨b165_e0, trivial⟩ ?_
        rcases iteS h with ⟨b166_2, h⟩ | ⟨b166_2, h⟩
        · obtain ⟨r166_0, cr166_0, h⟩ := bindS h
          have h := Option.some.inj h
          subst h
          exact At.fin hm ht ⟨[(2, .b true), (3, .call [] [] (f25_broughamlaw15_alive_out r166_0))], [], [], [4], []⟩ [((r163_0 : Int) != 1) = true, FnOK Go.Proofs.Try.prog 25 (f25_broughamlaw15_alive_in) (f25_broughamlaw15_alive_out r166_0)] (by kernel_rfl) ⟨b166_2, (f25_broughamlaw15_alive_ok r166_0 cr166_0), trivial⟩
        · have h := Option.some.inj h
          subst h
          exact At.fin hm ht ⟨[(2, .b false)], [], [], [4], []⟩ [((r163_0 : Int) != 1) = false] (by kernel_rfl) ⟨b166_2, trivial⟩
      · refine At.step hm ht ⟨[], [false], [], [5, 6], []⟩ 6 ⟨[(5, .one (.c (.d (.int .i64 r163_0)))), (6, .one (.c (.d (.bool ((s_2 : Int) == n__4)))))], [], [], 0⟩ [(decide ((s_4 : Int) > 7)) = false] (by kernel_rfl) ⟨b165_e0, trivial⟩ ?_
        rcases iteS h with ⟨b167_2, h⟩ | ⟨b167_2, h⟩
        · rcases iteS h with ⟨b167_8, h⟩ | ⟨b167_8, h⟩
          · obtain ⟨r167_0, cr167_0, h⟩ := bindS h
            have h := Option.some.inj h
            subst h
            exact At.fin hm ht ⟨[(2, .b true), (8, .b true), (9, .call [] [] (f25_broughamlaw15_alive_out r167_0))], [], [], [4], []⟩ [((r163_0 : Int) != 1) = true, (((r163_0 : Int) == 4) == ((s_2 : Int) == n__4)) = true, FnOK Go.Proofs.Try.prog 25 (f25_broughamlaw15_alive_in) (f25_broughamlaw15_alive_out r167_0)] (by kernel_rfl) ⟨b167_2, b167_8, (f25_broughamlaw15_alive_ok r167_0 cr167_0), trivial⟩
          · have h := Option.some.inj h
            subst h
            exact At.fin hm ht ⟨[(2, .b true), (8, .b false)], [], [], [4], []⟩ [((r163_0 : Int) != 1) = true, (((r163_0 : Int) == 4) == ((s_2 : Int) == n__4)) = false] (by kernel_rfl) ⟨b167_2, b167_8, trivial⟩
        · have h := Option.some.inj h
          subst h
          exact At.fin hm ht ⟨[(2, .b false)], [], [], [4], []⟩ [((r163_0 : Int) != 1) = false] (by kernel_rfl) ⟨b167_2, trivial⟩
    · refine At.step hm ht ⟨[(3, .b true), (8, .b false)], [], [], [3, 5, 6], [1]⟩ 4 ⟨[(3, .one (.c (.ptr 0 0))), (5, .one (.c (.d (.int .i64 r163_0)))), (6, .one (.c (.d (.bool false))))], [], [(0, [.d (.int .u16 s_0), .d (.int .u16 s_1), .d (.int .u32 s_2), .d (.int .u32 s_3), .d (.int .u8 s_4), .d (.sl (.pair (.int .u8) (.slice (.int .u8))) s_5), .d (.sl (.int .u8) s_6)])], 1⟩ [(decide ((s_4 : Int) ≥ 4)) = true, (decide ((s_4 : Int) < 8)) = false] (by kernel_rfl) ⟨b164_3, b164_8, trivial⟩ ?_
      rcases iteS h with ⟨b168_e0, h⟩ | ⟨b168_e0, h⟩
      · refine At.step hm ht ⟨[], [true], [], [5], []⟩ 5 ⟨[(5, .one (.c (.d (.int .i64 r163_0))))], [], [], 0⟩ [(decide ((s_4 : Int) > 7)) = true] (by kernel_rfl) ⟨b168_e0, trivial⟩ ?_
        rcases iteS h with ⟨b169_2, h⟩ | ⟨b169_2, h⟩
        · obtain ⟨r169_0, cr169_0, h⟩ := bindS h
          have h := Option.some.inj h
          subst h
          exact At.fin hm ht ⟨[(2, .b true), (3, .call [] [] (f25_broughamlaw15_alive_out r169_0))], [], [], [4], []⟩ [((r163_0 : Int) != 1) = true, FnOK Go.Proofs.Try.prog 25 (f25_broughamlaw15_alive_in) (f25_broughamlaw15_alive_out r169_0)] (by kernel_rfl) ⟨b169_2, (f25_broughamlaw15_alive_ok r169_0 cr169_0), trivial⟩
        · have h := Option.some.inj h
          subst h
          exact At.fin hm ht ⟨[(2, .b false)], [], [], [4], []⟩ [((r163_0 : Int) != 1) = false] (by kernel_rfl) ⟨b169_2, trivial⟩
      · refine At.step hm ht ⟨[], [false], [], [5, 6], []⟩ 6 ⟨[(5, .one (.c (.d (.int .i64 r163_0)))), (6, .one (.c (.d (.bool false))))], [], [], 0⟩ [(decide ((s_4 : Int) > 7)) = false] (by kernel_rfl) ⟨b168_e0, trivial⟩ ?_
        rcases iteS h with ⟨b170_2, h⟩ | ⟨b170_2, h⟩
        · rcases iteS h with ⟨b170_8, h⟩ | ⟨b170_8, h⟩
          · obtain ⟨r170_0, cr170_0, h⟩ := bindS h
            have h := Option.some.inj h
            subst h
            exact At.fin hm ht ⟨[(2, .b true), (8, .b true), (9, .call [] [] (f25_broughamlaw15_alive_out r170_0))], [], [], [4], []⟩ [((r163_0 : Int) != 1) = true, (((r163_0 : Int) == 4) == false) = true, FnOK Go.Proofs.Try.prog 25 (f25_broughamlaw15_alive_in) (f25_broughamlaw15_alive_out r170_0)] (by kernel_rfl) ⟨b170_2, b170_8, (f25_broughamlaw15_alive_ok r170_0 cr170_0), trivial⟩
          · have h := Option.some.inj h
            subst h
            exact At.fin hm ht ⟨[(2, .b true), (8, .b false)], [], [], [4], []⟩ [((r163_0 : Int) != 1) = true, (((r163_0 : Int) == 4) == false) = false] (by kernel_rfl) ⟨b170_2, b170_8, trivial⟩
        · have h := Option.some.inj h
          subst h
          exact At.fin hm ht ⟨[(2, .b false)], [], [], [4], []⟩ [((r163_0 : Int) != 1) = false] (by kernel_rfl) ⟨b170_2, trivial⟩
  · refine At.step hm ht ⟨[(3, .b false)], [], [], [3, 5, 6], [1]⟩ 4 ⟨[(3, .one (.c (.ptr 0 0))), (5, .one (.c (.d (.int .i64 r163_0)))), (6, .one (.c (.d (.bool false))))], [], [(0, [.d (.int .u16 s_0), .d (.int .u16 s_1), .d (.int .u32 s_2), .d (.int .u32 s_3), .d (.int .u8 s_4), .d (.sl (.pair (.int .u8) (.slice (.int .u8))) s_5), .d (.sl (.int .u8) s_6)])], 1⟩ [(decide ((s_4 : Int) ≥ 4)) = false] (by kernel_rfl) ⟨b164_3, trivial⟩ ?_
    rcases iteS h with ⟨b171_e0, h⟩ | ⟨b171_e0, h⟩
    · refine At.step hm ht ⟨[], [true], [], [5], []⟩ 5 ⟨[(5, .one (.c (.d (.int .i64 r163_0))))], [], [], 0⟩ [(decide ((s_4 : Int) > 7)) = true] (by kernel_rfl) ⟨b171_e0, trivial⟩ ?_
      rcases iteS h with ⟨b172_2, h⟩ | ⟨b172_2, h⟩
      · obtain ⟨r172_0, cr172_0, h⟩ := bindS h
        have h := Option.some.inj h
        subst h
        exact At.fin hm ht ⟨[(2, .b true), (3, .call [] [] (f25_broughamlaw15_alive_out r172_0))], [], [], [4], []⟩ [((r163_0 : Int) != 1) = true, FnOK Go.Proofs.Try.prog 25 (f25_broughamlaw15_alive_in) (f25_broughamlaw15_alive_out r172_0)] (by kernel_rfl) ⟨b172_2, (f25_broughamlaw15_alive_ok r172_0 cr172_0), trivial⟩
      · have h := Option.some.inj h
        subst h
        exact At.fin hm ht ⟨[(2, .b false)], [], [], [4], []⟩ [((r163_0 : Int) != 1) = false] (by kernel_rfl) ⟨b172_2, trivial⟩
    · refine At.step hm ht ⟨[], [false], [], [5, 6], []⟩ 6 ⟨[(5, .one (.c (.d (.int .i64 r163_0)))), (6, .one (.c (.d (.bool false))))], [], [], 0⟩ [(decide ((s_4 : Int) > 7)) = false] (by kernel_rfl) ⟨b171_e0, trivial⟩ ?_
      rcases iteS h with ⟨b173_2, h⟩ | ⟨b173_2, h⟩
      · rcases iteS h with ⟨b173_8, h⟩ | ⟨b173_8, h⟩
        · obtain ⟨r173_0, cr173_0, h⟩ := bindS h
          have h := Option.some.inj h
          subst h
          exact At.fin hm ht ⟨[(2, .b true), (8, .b true), (9, .call [] [] (f25_broughamlaw15_alive_out r173_0))], [], [], [4], []⟩ [((r163_0 : Int) != 1) = true, (((r163_0 : Int) == 4) == false) = true, FnOK Go.Proofs.Try.prog 25 (f25_broughamlaw15_alive_in) (f25_broughamlaw15_alive_out r173_0)] (by kernel_rfl) ⟨b173_2, b173_8, (f25_broughamlaw15_alive_ok r173_0 cr173_0), trivial⟩
        · have h := Option.some.inj h
          subst h
          exact At.fin hm ht ⟨[(2, .b true), (8, .b false)], [], [], [4], []⟩ [((r163_0 : Int) != 1) = true, (((r163_0 : Int) == 4) == false) = false] (by kernel_rfl) ⟨b173_2, b173_8, trivial⟩
      · have h := Option.some.inj h
        subst h
        exact At.fin hm ht ⟨[(2, .b false)], [], [], [4], []⟩ [((r163_0 : Int) != 1) = false] (by kernel_rfl) ⟨b173_2, trivial⟩
/-! brougham/broughamlaw15.JudgeMoves -/
def f6_broughamlaw15_JudgeMoves_in (n__0 : Int) (n__1 : Int) (n__2 : Int) (n__3 : Int) (n__4 : Int) (s_0 : Int) (s_1 : Int) (s_2 : Int) (s_3 : Int) (s_4 : Int) (s_5 : List (Int × List Int)) (s_6 : List Int) (by__0 : Int) (by__1 : Int) (by__2 : Bool) : Inn := ⟨[.agg [.d (.int .i64 n__0), .d (.int .u32 n__1), .d (.int .u32 n__2), .d (.int .u32 n__3), .d (.int .u32 n__4)], .agg [.d (.int .u16 s_0), .d (.int .u16 s_1), .d (.int .u32 s_2), .d (.int .u32 s_3), .d (.int .u8 s_4), .d (.sl (.pair (.int .u8) (.slice (.int .u8))) s_5), .d (.sl (.int .u8) s_6)], .agg [.d (.int .u32 by__0), .d (.int .u32 by__1), .d (.bool by__2)]], [], [], 0⟩
def f6_broughamlaw15_JudgeMoves_out (r : Bool) : Out := ⟨.one (.c (.d (.bool r))), [], [], 0⟩
def f6_broughamlaw15_JudgeMoves (n__0 : Int) (n__1 : Int) (n__2 : Int) (n__3 : Int) (n__4 : Int) (s_0 : Int) (s_1 : Int) (s_2 : Int) (s_3 : Int) (s_4 : Int) (s_5 : List (Int × List Int)) (s_6 : List Int) (by__0 : Int) (by__1 : Int) (by__2 : Bool) : Option (Bool) :=
  (f23_judge_Judge n__0 n__1 n__2 n__3 n__4 s_0 s_1 s_2 s_3 s_4 s_5 s_6 by__2).bind fun r178_0 =>
  (f23_judge_Judge n__0 (IntKind.wrap .u32 (n__1 + by__0)) (IntKind.wrap .u32 (n__2 + by__0)) (IntKind.wrap .u32 (n__3 + by__0)) (IntKind.wrap .u32 (n__4 + by__1)) s_0 s_1 (IntKind.wrap .u32 (s_2 + by__1)) (IntKind.wrap .u32 (s_3 + by__0)) s_4 s_5 s_6 by__2).bind fun r178_1 =>
  if ((r178_0 : Int) == r178_1) = true then
    (f25_broughamlaw15_alive).bind fun r178_2 =>
    some r178_2
  else
    some false
theorem f6_broughamlaw15_JudgeMoves_ok (n__0 : Int) (n__1 : Int) (n__2 : Int) (n__3 : Int) (n__4 : Int) (s_0 : Int) (s_1 : Int) (s_2 : Int) (s_3 : Int) (s_4 : Int) (s_5 : List (Int × List Int)) (s_6 : List Int) (by__0 : Int) (by__1 : Int) (by__2 : Bool) (r : Bool) (h : f6_broughamlaw15_JudgeMoves n__0 n__1 n__2 n__3 n__4 s_0 s_1 s_2 s_3 s_4 s_5 s_6 by__0 by__1 by__2 = some r) : FnOK Go.Proofs.Try.prog 6 (f6_broughamlaw15_JudgeMoves_in n__0 n__1 n__2 n__3 n__4 s_0 s_1 s_2 s_3 s_4 s_5 s_6 by__0 by__1 by__2) (f6_broughamlaw15_JudgeMoves_out r) := by
  unfold f6_broughamlaw15_JudgeMoves at h
  refine At.fn (r := 0) Go.Proofs.Try.func6 rfl (by kernel_rfl) rfl rfl (by kernel_rfl) ?_
  show At Go.Proofs.Try.prog Go.Proofs.Try.f6 0 0 ⟨[(0, .one (.agg [.d (.int .i64 n__0), .d (.int .u32 n__1), .d (.int .u32 n__2), .d (.int .u32 n__3), .d (.int .u32 n__4)])), (1, .one (.agg [.d (.int .u16 s_0), .d (.int .u16 s_1), .d (.int .u32 s_2), .d (.int .u32 s_3), .d (.int .u8 s_4), .d (.sl (.pair (.int .u8) (.slice (.int .u8))) s_5), .d (.sl (.int .u8) s_6)])), (2, .one (.agg [.d (.int .u32 by__0), .d (.int .u32 by__1), .d (.bool by__2)]))], [], [], 0⟩ _
  refine At.step hm ht ⟨[], [], [], [3, 4, 5], [0, 1, 2]⟩ 1 ⟨[(3, .one (.c (.ptr 0 0))), (4, .one (.c (.ptr 1 0))), (5, .one (.c (.ptr 2 0)))], [], [(0, [.d (.int .i64 n__0), .d (.int .u32 n__1), .d (.int .u32 n__2), .d (.int .u32 n__3), .d (.int .u32 n__4)]), (1, [.d (.int .u16 s_0), .d (.int .u16 s_1), .d (.int .u32 s_2), .d (.int .u32 s_3), .d (.int .u8 s_4), .d (.sl (.pair (.int .u8) (.slice (.int .u8))) s_5), .d (.sl (.int .u8) s_6)]), (2, [.d (.int .u32 by__0), .d (.int .u32 by__1), .d (.bool by__2)])], 3⟩ [] (by kernel_rfl) trivial ?_
  refine At.step hm ht ⟨[], [], [], [3, 4, 5, 7, 8], [0, 1, 2, 5, 6]⟩ 2 ⟨[(3, .one (.c (.ptr 0 0))), (4, .one (.c (.ptr 1 0))), (5, .one (.c (.ptr 2 0))), (7, .one (.c (.ptr 3 0))), (8, .one (.c (.ptr 4 0)))], [], [(0, [.d (.int .i64 n__0), .d (.int .u32 n__1), .d (.int .u32 n__2), .d (.int .u32 n__3), .d (.int .u32 n__4)]), (1, [.d (.int .u16 s_0), .d (.int .u16 s_1), .d (.int .u32 s_2), .d (.int .u32 s_3), .d (.int .u8 s_4), .d (.sl (.pair (.int .u8) (.slice (.int .u8))) s_5), .d (.sl (.int .u8) s_6)]), (2, [.d (.int .u32 by__0), .d (.int .u32 by__1), .d (.bool by__2)]), (3, [.d (.int .i64 n__0), .d (.int .u32 n__1), .d (.int .u32 n__2), .d (.int .u32 n__3), .d (.int .u32 n__4)]), (4, [.d (.int .u16 s_0), .d (.int .u16 s_1), .d (.int .u32 s_2), .d (.int .u32 s_3), .d (.int .u8 s_4), .d (.sl (.pair (.int .u8) (.slice (.int .u8))) s_5), .d (.sl (.int .u8) s_6)])], 5⟩ [0 + 5 ≤ 5, 0 + 7 ≤ 7] (by kernel_rfl) ⟨(by decide), (by decide), trivial⟩ ?_
  refine At.step hm ht ⟨[], [], [], [3, 4, 5, 7, 8], [0, 1, 2, 3, 4]⟩ 3 ⟨[(3, .one (.c (.ptr 0 0))), (4, .one (.c (.ptr 1 0))), (5, .one (.c (.ptr 2 0))), (7, .one (.c (.ptr 3 0))), (8, .one (.c (.ptr 4 0)))], [], [(0, [.d (.int .i64 n__0), .d (.int .u32 n__1), .d (.int .u32 n__2), .d (.int .u32 n__3), .d (.int .u32 n__4)]), (1, [.d (.int .u16 s_0), .d (.int .u16 s_1), .d (.int .u32 s_2), .d (.int .u32 s_3), .d (.int .u8 s_4), .d (.sl (.pair (.int .u8) (.slice (.int .u8))) s_5), .d (.sl (.int .u8) s_6)]), (2, [.d (.int .u32 by__0), .d (.int .u32 by__1), .d (.bool by__2)]), (3, [.d (.int .i64 n__0), .d (.int .u32 (IntKind.wrap .u32 (n__1 + by__0))), .d (.int .u32 (IntKind.wrap .u32 (n__2 + by__0))), .d (.int .u32 (IntKind.wrap .u32 (n__3 + by__0))), .d (.int .u32 n__4)]), (4, [.d (.int .u16 s_0), .d (.int .u16 s_1), .d (.int .u32 s_2), .d (.int .u32 (IntKind.wrap .u32 (s_3 + by__0))), .d (.int .u8 s_4), .d (.sl (.pair (.int .u8) (.slice (.int .u8))) s_5), .d (.sl (.int .u8) s_6)])], 5⟩ [1 + 1 ≤ 5, 2 + 1 ≤ 5, 3 + 1 ≤ 5, 3 + 1 ≤ 7] (by kernel_rfl) ⟨(by decide), (by decide), (by decide), (by decide), trivial⟩ ?_
  refine At.step hm ht ⟨[], [], [], [3, 4, 5, 7, 8], [0, 1, 2, 3, 4]⟩ 4 ⟨[(3, .one (.c (.ptr 0 0))), (4, .one (.c (.ptr 1 0))), (5, .one (.c (.ptr 2 0))), (7, .one (.c (.ptr 3 0))), (8, .one (.c (.ptr 4 0)))], [], [(0, [.d (.int .i64 n__0), .d (.int .u32 n__1), .d (.int .u32 n__2), .d (.int .u32 n__3), .d (.int .u32 n__4)]), (1, [.d (.int .u16 s_0), .d (.int .u16 s_1), .d (.int .u32 s_2), .d (.int .u32 s_3), .d (.int .u8 s_4), .d (.sl (.pair (.int .u8) (.slice (.int .u8))) s_5), .d (.sl (.int .u8) s_6)]), (2, [.d (.int .u32 by__0), .d (.int .u32 by__1), .d (.bool by__2)]), (3, [.d (.int .i64 n__0), .d (.int .u32 (IntKind.wrap .u32 (n__1 + by__0))), .d (.int .u32 (IntKind.wrap .u32 (n__2 + by__0))), .d (.int .u32 (IntKind.wrap .u32 (n__3 + by__0))), .d (.int .u32 (IntKind.wrap .u32 (n__4 + by__1)))]), (4, [.d (.int .u16 s_0), .d (.int .u16 s_1), .d (.int .u32 (IntKind.wrap .u32 (s_2 + by__1))), .d (.int .u32 (IntKind.wrap .u32 (s_3 + by__0))), .d (.int .u8 s_4), .d (.sl (.pair (.int .u8) (.slice (.int .u8))) s_5), .d (.sl (.int .u8) s_6)])], 5⟩ [4 + 1 ≤ 5, 2 + 1 ≤ 7] (by kernel_rfl) ⟨(by decide), (by decide), trivial⟩ ?_
  obtain ⟨r178_0, cr178_0, h⟩ := bindS h
  obtain ⟨r178_1, cr178_1, h⟩ := bindS h
  rcases iteS h with ⟨b178_11, h⟩ | ⟨b178_11, h⟩
  · obtain ⟨r178_2, cr178_2, h⟩ := bindS h
    have h := Option.some.inj h
    subst h
    exact At.fin hm ht ⟨[(4, .call [] [] (f23_judge_Judge_out r178_0)), (9, .call [] [] (f23_judge_Judge_out r178_1)), (11, .b true), (12, .call [] [] (f25_broughamlaw15_alive_out r178_2))], [], [], [6], []⟩ [FnOK Go.Proofs.Try.prog 23 (f23_judge_Judge_in n__0 n__1 n__2 n__3 n__4 s_0 s_1 s_2 s_3 s_4 s_5 s_6 by__2) (f23_judge_Judge_out r178_0), FnOK Go.Proofs.Try.prog 23 (f23_judge_Judge_in n__0 (IntKind.wrap .u32 (n__1 + by__0)) (IntKind.wrap .u32 (n__2 + by__0)) (IntKind.wrap .u32 (n__3 + by__0)) (IntKind.wrap .u32 (n__4 + by__1)) s_0 s_1 (IntKind.wrap .u32 (s_2 + by__1)) (IntKind.wrap .u32 (s_3 + by__0)) s_4 s_5 s_6 by__2) (f23_judge_Judge_out r178_1), ((r178_0 : Int) == r178_1) = true, FnOK Go.Proofs.Try.prog 25 (f25_broughamlaw15_alive_in) (f25_broughamlaw15_alive_out r178_2)] (by kernel_rfl) ⟨(f23_judge_Judge_ok n__0 n__1 n__2 n__3 n__4 s_0 s_1 s_2 s_3 s_4 s_5 s_6 by__2 r178_0 cr178_0), (f23_judge_Judge_ok n__0 (IntKind.wrap .u32 (n__1 + by__0)) (IntKind.wrap .u32 (n__2 + by__0)) (IntKind.wrap .u32 (n__3 + by__0)) (IntKind.wrap .u32 (n__4 + by__1)) s_0 s_1 (IntKind.wrap .u32 (s_2 + by__1)) (IntKind.wrap .u32 (s_3 + by__0)) s_4 s_5 s_6 by__2 r178_1 cr178_1), b178_11, (f25_broughamlaw15_alive_ok r178_2 cr178_2), trivial⟩
  · have h := Option.some.inj h
    subst h
    exact At.fin hm ht ⟨[(4, .call [] [] (f23_judge_Judge_out r178_0)), (9, .call [] [] (f23_judge_Judge_out r178_1)), (11, .b false)], [], [], [6], []⟩ [FnOK Go.Proofs.Try.prog 23 (f23_judge_Judge_in n__0 n__1 n__2 n__3 n__4 s_0 s_1 s_2 s_3 s_4 s_5 s_6 by__2) (f23_judge_Judge_out r178_0), FnOK Go.Proofs.Try.prog 23 (f23_judge_Judge_in n__0 (IntKind.wrap .u32 (n__1 + by__0)) (IntKind.wrap .u32 (n__2 + by__0)) (IntKind.wrap .u32 (n__3 + by__0)) (IntKind.wrap .u32 (n__4 + by__1)) s_0 s_1 (IntKind.wrap .u32 (s_2 + by__1)) (IntKind.wrap .u32 (s_3 + by__0)) s_4 s_5 s_6 by__2) (f23_judge_Judge_out r178_1), ((r178_0 : Int) == r178_1) = false] (by kernel_rfl) ⟨(f23_judge_Judge_ok n__0 n__1 n__2 n__3 n__4 s_0 s_1 s_2 s_3 s_4 s_5 s_6 by__2 r178_0 cr178_0), (f23_judge_Judge_ok n__0 (IntKind.wrap .u32 (n__1 + by__0)) (IntKind.wrap .u32 (n__2 + by__0)) (IntKind.wrap .u32 (n__3 + by__0)) (IntKind.wrap .u32 (n__4 + by__1)) s_0 s_1 (IntKind.wrap .u32 (s_2 + by__1)) (IntKind.wrap .u32 (s_3 + by__0)) s_4 s_5 s_6 by__2 r178_1 cr178_1), b178_11, trivial⟩
end Go.Proofs.YtdcnjkjgmagjmaaF15
