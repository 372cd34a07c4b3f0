/- What the functions compute, and that they do: printed by a program of this session (zgen.py), proved by Zed. -/
import Derived.Test.YtjmebloeodcoaaaProg
import Derived.Test.YtjmebloeodcoaaaZedY
namespace Go.Proofs.YtjmebloeodcoaaaF04
open Go Zed
set_option maxRecDepth 100000
set_option linter.unusedVariables false
def tab : Tab := [(3, ⟨.int .i64, 1, 8, [.int .i64 0], some (.int .i64), none⟩), (4, ⟨.bool, 1, 1, [.bool false], some .bool, none⟩), (21, ⟨.int .i32, 1, 4, [.int .i32 0], some (.int .i32), none⟩), (38, ⟨.int .u64, 1, 8, [.int .u64 0], some (.int .u64), none⟩), (39, ⟨.int .u32, 1, 4, [.int .u32 0], some (.int .u32), none⟩)]
theorem ht : TabOk Go.Proofs.Try.prog tab := tabOk_of (ts := [3, 4, 21, 38, 39]) (by kernel_rfl)
theorem hm : Go.Proofs.Try.prog.follows .mixedOrders = true := by kernel_rfl
/-! brougham/serial.Diff -/
def f35_serial_Diff_in (a : Int) (b : Int) : Inn := ⟨[.c (.d (.int .u32 a)), .c (.d (.int .u32 b))], [], [], 0⟩
def f35_serial_Diff_out (r : Int) : Out := ⟨.one (.c (.d (.int .i64 r))), [], [], 0⟩
def f35_serial_Diff (a : Int) (b : Int) : Option (Int) :=
  some (IntKind.wrap .i64 (IntKind.wrap .i32 (IntKind.wrap .u32 (a - b))))
theorem f35_serial_Diff_ok (a : Int) (b : Int) (r : Int) (h : f35_serial_Diff a b = some r) : FnOK Go.Proofs.Try.prog 35 (f35_serial_Diff_in a b) (f35_serial_Diff_out r) := by
  unfold f35_serial_Diff at h
  refine At.fn (r := 0) Go.Proofs.Try.func35 rfl (by kernel_rfl) rfl rfl (by kernel_rfl) ?_
  show At Go.Proofs.Try.prog Go.Proofs.Try.f35 0 0 ⟨[(0, .one (.c (.d (.int .u32 a)))), (1, .one (.c (.d (.int .u32 b))))], [], [], 0⟩ _
  refine At.step hm ht ⟨[], [], [], [0, 1], []⟩ 1 ⟨[(0, .one (.c (.d (.int .u32 a)))), (1, .one (.c (.d (.int .u32 b))))], [], [], 0⟩ [] (by kernel_rfl) trivial ?_
  have h := Option.some.inj h
  subst h
  exact At.fin hm ht ⟨[], [], [], [4], []⟩ [] (by kernel_rfl) trivial
/-! brougham/serial.Less -/
def f32_serial_Less_in (a : Int) (b : Int) : Inn := ⟨[.c (.d (.int .u32 a)), .c (.d (.int .u32 b))], [], [], 0⟩
def f32_serial_Less_out (r : Bool) : Out := ⟨.one (.c (.d (.bool r))), [], [], 0⟩
def f32_serial_Less (a : Int) (b : Int) : Option (Bool) :=
  some (decide (((IntKind.wrap .i32 (IntKind.wrap .u32 (a - b))) : Int) < 0))
theorem f32_serial_Less_ok (a : Int) (b : Int) (r : Bool) (h : f32_serial_Less a b = some r) : FnOK Go.Proofs.Try.prog 32 (f32_serial_Less_in a b) (f32_serial_Less_out r) := by
  unfold f32_serial_Less at h
  refine At.fn (r := 0) Go.Proofs.Try.func32 rfl (by kernel_rfl) rfl rfl (by kernel_rfl) ?_
  show At Go.Proofs.Try.prog Go.Proofs.Try.f32 0 0 ⟨[(0, .one (.c (.d (.int .u32 a)))), (1, .one (.c (.d (.int .u32 b))))], [], [], 0⟩ _
  refine At.step hm ht ⟨[], [], [], [0, 1], []⟩ 1 ⟨[(0, .one (.c (.d (.int .u32 a)))), (1, .one (.c (.d (.int .u32 b))))], [], [], 0⟩ [] (by kernel_rfl) trivial ?_
  have h := Option.some.inj h
  subst h
  exact At.fin hm ht ⟨[], [], [], [4], []⟩ [] (by kernel_rfl) trivial
/-! brougham/serial.Max -/
def f34_serial_Max_in (a : Int) (b : Int) : Inn := ⟨[.c (.d (.int .u32 a)), .c (.d (.int .u32 b))], [], [], 0⟩
def f34_serial_Max_out (r : Int) : Out := ⟨.one (.c (.d (.int .u32 r))), [], [], 0⟩
def f34_serial_Max (a : Int) (b : Int) : Option (Int) :=
  (f32_serial_Less a b).bind fun r8_0 =>
  if r8_0 = true then
    some b
  else
    some a
theorem f34_serial_Max_ok (a : Int) (b : Int) (r : Int) (h : f34_serial_Max a b = some r) : FnOK Go.Proofs.Try.prog 34 (f34_serial_Max_in a b) (f34_serial_Max_out r) := by
  unfold f34_serial_Max at h
  refine At.fn (r := 0) Go.Proofs.Try.func34 rfl (by kernel_rfl) rfl rfl (by kernel_rfl) ?_
  show At Go.Proofs.Try.prog Go.Proofs.Try.f34 0 0 ⟨[(0, .one (.c (.d (.int .u32 a)))), (1, .one (.c (.d (.int .u32 b))))], [], [], 0⟩ _
  refine At.step hm ht ⟨[], [], [], [0, 1], []⟩ 1 ⟨[(0, .one (.c (.d (.int .u32 a)))), (1, .one (.c (.d (.int .u32 b))))], [], [], 0⟩ [] (by kernel_rfl) trivial ?_
  obtain ⟨r8_0, cr8_0, h⟩ := bindS h
  rcases iteS h with ⟨b8_e0, h⟩ | ⟨b8_e0, h⟩
  · refine At.step hm ht ⟨[(2, .call [] [] (f32_serial_Less_out r8_0))], [true], [], [1], []⟩ 2 ⟨[(1, .one (.c (.d (.int .u32 b))))], [], [], 0⟩ [FnOK Go.Proofs.Try.prog 32 (f32_serial_Less_in a b) (f32_serial_Less_out r8_0), r8_0 = true] (by kernel_rfl) ⟨(f32_serial_Less_ok a b r8_0 cr8_0), b8_e0, trivial⟩ ?_
    have h := Option.some.inj h
    subst h
    exact At.fin hm ht ⟨[], [], [], [4], []⟩ [] (by kernel_rfl) trivial
  · refine At.step hm ht ⟨[(2, .call [] [] (f32_serial_Less_out r8_0))], [false], [], [0], []⟩ 3 ⟨[(0, .one (.c (.d (.int .u32 a))))], [], [], 0⟩ [FnOK Go.Proofs.Try.prog 32 (f32_serial_Less_in a b) (f32_serial_Less_out r8_0), r8_0 = false] (by kernel_rfl) ⟨(f32_serial_Less_ok a b r8_0 cr8_0), b8_e0, trivial⟩ ?_
    have h := Option.some.inj h
    subst h
    exact At.fin hm ht ⟨[], [], [], [4], []⟩ [] (by kernel_rfl) trivial
/-! brougham/serial.Within -/
def f36_serial_Within_in (x : Int) (from_ : Int) (size : Int) : Inn := ⟨[.c (.d (.int .u32 x)), .c (.d (.int .u32 from_)), .c (.d (.int .u32 size))], [], [], 0⟩
def f36_serial_Within_out (r : Bool) : Out := ⟨.one (.c (.d (.bool r))), [], [], 0⟩
def f36_serial_Within (x : Int) (from_ : Int) (size : Int) : Option (Bool) :=
  some (decide (((IntKind.wrap .u32 (x - from_)) : Int) < size))
theorem f36_serial_Within_ok (x : Int) (from_ : Int) (size : Int) (r : Bool) (h : f36_serial_Within x from_ size = some r) : FnOK Go.Proofs.Try.prog 36 (f36_serial_Within_in x from_ size) (f36_serial_Within_out r) := by
  unfold f36_serial_Within at h
  refine At.fn (r := 0) Go.Proofs.Try.func36 rfl (by kernel_rfl) rfl rfl (by kernel_rfl) ?_
  show At Go.Proofs.Try.prog Go.Proofs.Try.f36 0 0 ⟨[(0, .one (.c (.d (.int .u32 x)))), (1, .one (.c (.d (.int .u32 from_)))), (2, .one (.c (.d (.int .u32 size))))], [], [], 0⟩ _
  refine At.step hm ht ⟨[], [], [], [0, 1, 2], []⟩ 1 ⟨[(0, .one (.c (.d (.int .u32 x)))), (1, .one (.c (.d (.int .u32 from_)))), (2, .one (.c (.d (.int .u32 size))))], [], [], 0⟩ [] (by kernel_rfl) trivial ?_
  have h := Option.some.inj h
  subst h
  exact At.fin hm ht ⟨[], [], [], [6], []⟩ [] (by kernel_rfl) trivial
/-! brougham/serial.Wide -/
def f29_serial_Wide_in (near : Int) (low : Int) : Inn := ⟨[.c (.d (.int .u64 near)), .c (.d (.int .u32 low))], [], [], 0⟩
def f29_serial_Wide_out (r : Int) : Out := ⟨.one (.c (.d (.int .u64 r))), [], [], 0⟩
def f29_serial_Wide (near : Int) (low : Int) : Option (Int) :=
  (f35_serial_Diff low (IntKind.wrap .u32 near)).bind fun r16_0 =>
  if (decide ((r16_0 : Int) < 0)) = true then
    if (decide (((IntKind.wrap .u64 (IntKind.wrap .i64 (0 - r16_0))) : Int) > near)) = true then
      some (IntKind.wrap .u64 (near + (IntKind.wrap .u64 (4294967296 - (IntKind.wrap .u64 (IntKind.wrap .i64 (0 - r16_0)))))))
    else
      if ((r16_0 : Int) == (-2147483648)) = true then
        if (decide (((IntKind.wrap .u64 (near + 2147483648)) : Int) > near)) = true then
          some (IntKind.wrap .u64 (near + 2147483648))
        else
          if (decide ((r16_0 : Int) > 0)) = true then
            if (decide (((IntKind.wrap .u64 (near + (IntKind.wrap .u64 r16_0))) : Int) < near)) = true then
              some (IntKind.wrap .u64 (near - (IntKind.wrap .u64 (4294967296 - (IntKind.wrap .u64 r16_0)))))
            else
              some (IntKind.wrap .u64 (near + (IntKind.wrap .u64 r16_0)))
          else
            some (IntKind.wrap .u64 (near + (IntKind.wrap .u64 r16_0)))
      else
        if (decide ((r16_0 : Int) > 0)) = true then
          if (decide (((IntKind.wrap .u64 (near + (IntKind.wrap .u64 r16_0))) : Int) < near)) = true then
            some (IntKind.wrap .u64 (near - (IntKind.wrap .u64 (4294967296 - (IntKind.wrap .u64 r16_0)))))
          else
            some (IntKind.wrap .u64 (near + (IntKind.wrap .u64 r16_0)))
        else
          some (IntKind.wrap .u64 (near + (IntKind.wrap .u64 r16_0)))
  else
    if ((r16_0 : Int) == (-2147483648)) = true then
      if (decide (((IntKind.wrap .u64 (near + 2147483648)) : Int) > near)) = true then
        some (IntKind.wrap .u64 (near + 2147483648))
      else
        if (decide ((r16_0 : Int) > 0)) = true then
          if (decide (((IntKind.wrap .u64 (near + (IntKind.wrap .u64 r16_0))) : Int) < near)) = true then
            some (IntKind.wrap .u64 (near - (IntKind.wrap .u64 (4294967296 - (IntKind.wrap .u64 r16_0)))))
          else
            some (IntKind.wrap .u64 (near + (IntKind.wrap .u64 r16_0)))
        else
          some (IntKind.wrap .u64 (near + (IntKind.wrap .u64 r16_0)))
    else
      if (decide ((r16_0 : Int) > 0)) = true then
        if (decide (((IntKind.wrap .u64 (near + (IntKind.wrap .u64 r16_0))) : Int) < near)) = true then
          some (IntKind.wrap .u64 (near - (IntKind.wrap .u64 (4294967296 - (IntKind.wrap .u64 r16_0)))))
        else
          some (IntKind.wrap .u64 (near + (IntKind.wrap .u64 r16_0)))
      else
        some (IntKind.wrap .u64 (near + (IntKind.wrap .u64 r16_0)))
theorem f29_serial_Wide_ok (near : Int) (low : Int) (r : Int) (h : f29_serial_Wide near low = some r) : FnOK Go.Proofs.Try.prog 29 (f29_serial_Wide_in near low) (f29_serial_Wide_out r) := by
  unfold f29_serial_Wide at h
  refine At.fn (r := 0) Go.Proofs.Try.func29 rfl (by kernel_rfl) rfl rfl (by kernel_rfl) ?_
  show At Go.Proofs.Try.prog Go.Proofs.Try.f29 0 0 ⟨[(0, .one (.c (.d (.int .u64 near)))), (1, .one (.c (.d (.int .u32 low))))], [], [], 0⟩ _
  refine At.step hm ht ⟨[], [], [], [0, 1], []⟩ 1 ⟨[(0, .one (.c (.d (.int .u64 near)))), (1, .one (.c (.d (.int .u32 low))))], [], [], 0⟩ [] (by kernel_rfl) trivial ?_
  obtain ⟨r16_0, cr16_0, h⟩ := bindS h
  refine At.step hm ht ⟨[(3, .call [] [] (f35_serial_Diff_out r16_0))], [], [], [0, 5], []⟩ 2 ⟨[(0, .one (.c (.d (.int .u64 near)))), (5, .one (.c (.d (.int .i64 r16_0))))], [], [], 0⟩ [FnOK Go.Proofs.Try.prog 35 (f35_serial_Diff_in low (IntKind.wrap .u32 near)) (f35_serial_Diff_out r16_0)] (by kernel_rfl) ⟨(f35_serial_Diff_ok low (IntKind.wrap .u32 near) r16_0 cr16_0), trivial⟩ ?_
  rcases iteS h with ⟨b17_2, h⟩ | ⟨b17_2, h⟩
  · rcases iteS h with ⟨b17_e0, h⟩ | ⟨b17_e0, h⟩
    · refine At.step hm ht ⟨[(2, .b true)], [true], [], [0, 5], []⟩ 3 ⟨[(0, .one (.c (.d (.int .u64 near)))), (5, .one (.c (.d (.int .i64 r16_0))))], [], [], 0⟩ [(decide ((r16_0 : Int) < 0)) = true, (decide (((IntKind.wrap .u64 (IntKind.wrap .i64 (0 - r16_0))) : Int) > near)) = true] (by kernel_rfl) ⟨b17_2, b17_e0, trivial⟩ ?_
      have h := Option.some.inj h
      subst h
      exact At.fin hm ht ⟨[], [], [], [4], []⟩ [] (by kernel_rfl) trivial
    · refine At.step hm ht ⟨[(2, .b true)], [false], [], [0, 5], []⟩ 4 ⟨[(0, .one (.c (.d (.int .u64 near)))), (5, .one (.c (.d (.int .i64 r16_0))))], [], [], 0⟩ [(decide ((r16_0 : Int) < 0)) = true, (decide (((IntKind.wrap .u64 (IntKind.wrap .i64 (0 - r16_0))) : Int) > near)) = false] (by kernel_rfl) ⟨b17_2, b17_e0, trivial⟩ ?_
      rcases iteS h with ⟨b19_2, h⟩ | ⟨b19_2, h⟩
      · rcases iteS h with ⟨b19_e0, h⟩ | ⟨b19_e0, h⟩
        · refine At.step hm ht ⟨[(2, .b true)], [true], [], [0], []⟩ 5 ⟨[(0, .one (.c (.d (.int .u64 near))))], [], [], 0⟩ [((r16_0 : Int) == (-2147483648)) = true, (decide (((IntKind.wrap .u64 (near + 2147483648)) : Int) > near)) = true] (by kernel_rfl) ⟨b19_2, b19_e0, trivial⟩ ?_
          have h := Option.some.inj h
          subst h
          exact At.fin hm ht ⟨[], [], [], [4], []⟩ [] (by kernel_rfl) trivial
        · refine At.step hm ht ⟨[(2, .b true)], [false], [], [0, 5], []⟩ 6 ⟨[(0, .one (.c (.d (.int .u64 near)))), (5, .one (.c (.d (.int .i64 r16_0))))], [], [], 0⟩ [((r16_0 : Int) == (-2147483648)) = true, (decide (((IntKind.wrap .u64 (near + 2147483648)) : Int) > near)) = false] (by kernel_rfl) ⟨b19_2, b19_e0, trivial⟩ ?_
          rcases iteS h with ⟨b21_2, h⟩ | ⟨b21_2, h⟩
          · rcases iteS h with ⟨b21_e0, h⟩ | ⟨b21_e0, h⟩
            · refine At.step hm ht ⟨[(2, .b true)], [true], [], [0, 5], []⟩ 7 ⟨[(0, .one (.c (.d (.int .u64 near)))), (5, .one (.c (.d (.int .i64 r16_0))))], [], [], 0⟩ [(decide ((r16_0 : Int) > 0)) = true, (decide (((IntKind.wrap .u64 (near + (IntKind.wrap .u64 r16_0))) : Int) < near)) = true] (by kernel_rfl) ⟨b21_2, b21_e0, trivial⟩ ?_
              have h := Option.some.inj h
              subst h
              exact At.fin hm ht ⟨[], [], [], [4], []⟩ [] (by kernel_rfl) trivial
            · refine At.step hm ht ⟨[(2, .b true)], [false], [], [0, 5], []⟩ 8 ⟨[(0, .one (.c (.d (.int .u64 near)))), (5, .one (.c (.d (.int .i64 r16_0))))], [], [], 0⟩ [(decide ((r16_0 : Int) > 0)) = true, (decide (((IntKind.wrap .u64 (near + (IntKind.wrap .u64 r16_0))) : Int) < near)) = false] (by kernel_rfl) ⟨b21_2, b21_e0, trivial⟩ ?_
              have h := Option.some.inj h
              subst h
              exact At.fin hm ht ⟨[], [], [], [4], []⟩ [] (by kernel_rfl) trivial
          · refine At.step hm ht ⟨[(2, .b false)], [false], [], [0, 5], []⟩ 8 ⟨[(0, .one (.c (.d (.int .u64 near)))), (5, .one (.c (.d (.int .i64 r16_0))))], [], [], 0⟩ [(decide ((r16_0 : Int) > 0)) = false, false = false] (by kernel_rfl) ⟨b21_2, rfl, trivial⟩ ?_
            have h := Option.some.inj h
            subst h
            exact At.fin hm ht ⟨[], [], [], [4], []⟩ [] (by kernel_rfl) trivial
      · refine At.step hm ht ⟨[(2, .b false)], [false], [], [0, 5], []⟩ 6 ⟨[(0, .one (.c (.d (.int .u64 near)))), (5, .one (.c (.d (.int .i64 r16_0))))], [], [], 0⟩ [((r16_0 : Int) == (-2147483648)) = false, false = false] (by kernel_rfl) ⟨b19_2, rfl, trivial⟩ ?_
        rcases iteS h with ⟨b25_2, h⟩ | ⟨b25_2, h⟩
        · rcases iteS h with ⟨b25_e0, h⟩ | ⟨b25_e0, h⟩
          · refine At.step hm ht ⟨[(2, .b true)], [true], [], [0, 5], []⟩ 7 ⟨[(0, .one (.c (.d (.int .u64 near)))), (5, .one (.c (.d (.int .i64 r16_0))))], [], [], 0⟩ [(decide ((r16_0 : Int) > 0)) = true, (decide (((IntKind.wrap .u64 (near + (IntKind.wrap .u64 r16_0))) : Int) < near)) = true] (by kernel_rfl) ⟨b25_2, b25_e0, trivial⟩ ?_
            have h := Option.some.inj h
            subst h
            exact At.fin hm ht ⟨[], [], [], [4], []⟩ [] (by kernel_rfl) trivial
          · refine At.step hm ht ⟨[(2, .b true)], [false], [], [0, 5], []⟩ 8 ⟨[(0, .one (.c (.d (.int .u64 near)))), (5, .one (.c (.d (.int .i64 r16_0))))], [], [], 0⟩ [(decide ((r16_0 : Int) > 0)) = true, (decide (((IntKind.wrap .u64 (near + (IntKind.wrap .u64 r16_0))) : Int) < near)) = false] (by kernel_rfl) ⟨b25_2, b25_e0, trivial⟩ ?_
            have h := Option.some.inj h
            subst h
            exact At.fin hm ht ⟨[], [], [], [4], []⟩ [] (by kernel_rfl) trivial
        · refine At.step hm ht ⟨[(2, .b false)], [false], [], [0, 5], []⟩ 8 ⟨[(0, .one (.c (.d (.int .u64 near)))), (5, .one (.c (.d (.int .i64 r16_0))))], [], [], 0⟩ [(decide ((r16_0 : Int) > 0)) = false, false = false] (by kernel_rfl) ⟨b25_2, rfl, trivial⟩ ?_
          have h := Option.some.inj h
          subst h
          exact At.fin hm ht ⟨[], [], [], [4], []⟩ [] (by kernel_rfl) trivial
  · refine At.step hm ht ⟨[(2, .b false)], [false], [], [0, 5], []⟩ 4 ⟨[(0, .one (.c (.d (.int .u64 near)))), (5, .one (.c (.d (.int .i64 r16_0))))], [], [], 0⟩ [(decide ((r16_0 : Int) < 0)) = false, false = false] (by kernel_rfl) ⟨b17_2, rfl, trivial⟩ ?_
    rcases iteS h with ⟨b29_2, h⟩ | ⟨b29_2, h⟩
    · rcases iteS h with ⟨b29_e0, h⟩ | ⟨b29_e0, h⟩
      · refine At.step hm ht ⟨[(2, .b true)], [true], [], [0], []⟩ 5 ⟨[(0, .one (.c (.d (.int .u64 near))))], [], [], 0⟩ [((r16_0 : Int) == (-2147483648)) = true, (decide (((IntKind.wrap .u64 (near + 2147483648)) : Int) > near)) = true] (by kernel_rfl) ⟨b29_2, b29_e0, trivial⟩ ?_
        have h := Option.some.inj h
        subst h
        exact At.fin hm ht ⟨[], [], [], [4], []⟩ [] (by kernel_rfl) trivial
      · refine At.step hm ht ⟨[(2, .b true)], [false], [], [0, 5], []⟩ 6 ⟨[(0, .one (.c (.d (.int .u64 near)))), (5, .one (.c (.d (.int .i64 r16_0))))], [], [], 0⟩ [((r16_0 : Int) == (-2147483648)) = true, (decide (((IntKind.wrap .u64 (near + 2147483648)) : Int) > near)) = false] (by kernel_rfl) ⟨b29_2, b29_e0, trivial⟩ ?_
        rcases iteS h with ⟨b31_2, h⟩ | ⟨b31_2, h⟩
        · rcases iteS h with ⟨b31_e0, h⟩ | ⟨b31_e0, h⟩
          · refine At.step hm ht ⟨[(2, .b true)], [true], [], [0, 5], []⟩ 7 ⟨[(0, .one (.c (.d (.int .u64 near)))), (5, .one (.c (.d (.int .i64 r16_0))))], [], [], 0⟩ [(decide ((r16_0 : Int) > 0)) = true, (decide (((IntKind.wrap .u64 (near + (IntKind.wrap .u64 r16_0))) : Int) < near)) = true] (by kernel_rfl) ⟨b31_2, b31_e0, trivial⟩ ?_
            have h := Option.some.inj h
            subst h
            exact At.fin hm ht ⟨[], [], [], [4], []⟩ [] (by kernel_rfl) trivial
          · refine At.step hm ht ⟨[(2, .b true)], [false], [], [0, 5], []⟩ 8 ⟨[(0, .one (.c (.d (.int .u64 near)))), (5, .one (.c (.d (.int .i64 r16_0))))], [], [], 0⟩ [(decide ((r16_0 : Int) > 0)) = true, (decide (((IntKind.wrap .u64 (near + (IntKind.wrap .u64 r16_0))) : Int) < near)) = false] (by kernel_rfl) ⟨b31_2, b31_e0, trivial⟩ ?_
            have h := Option.some.inj h
            subst h
            exact At.fin hm ht ⟨[], [], [], [4], []⟩ [] (by kernel_rfl) trivial
        · refine At.step hm ht ⟨[(2, .b false)], [false], [], [0, 5], []⟩ 8 ⟨[(0, .one (.c (.d (.int .u64 near)))), (5, .one (.c (.d (.int .i64 r16_0))))], [], [], 0⟩ [(decide ((r16_0 : Int) > 0)) = false, false = false] (by kernel_rfl) ⟨b31_2, rfl, trivial⟩ ?_
          have h := Option.some.inj h
          subst h
          exact At.fin hm ht ⟨[], [], [], [4], []⟩ [] (by kernel_rfl) trivial
    · refine At.step hm ht ⟨[(2, .b false)], [false], [], [0, 5], []⟩ 6 ⟨[(0, .one (.c (.d (.int .u64 near)))), (5, .one (.c (.d (.int .i64 r16_0))))], [], [], 0⟩ [((r16_0 : Int) == (-2147483648)) = false, false = false] (by kernel_rfl) ⟨b29_2, rfl, trivial⟩ ?_
      rcases iteS h with ⟨b35_2, h⟩ | ⟨b35_2, h⟩
      · rcases iteS h with ⟨b35_e0, h⟩ | ⟨b35_e0, h⟩
        · refine At.step hm ht ⟨[(2, .b true)], [true], [], [0, 5], []⟩ 7 ⟨[(0, .one (.c (.d (.int .u64 near)))), (5, .one (.c (.d (.int .i64 r16_0))))], [], [], 0⟩ [(decide ((r16_0 : Int) > 0)) = true, (decide (((IntKind.wrap .u64 (near + (IntKind.wrap .u64 r16_0))) : Int) < near)) = true] (by kernel_rfl) ⟨b35_2, b35_e0, trivial⟩ ?_
          have h := Option.some.inj h
          subst h
          exact At.fin hm ht ⟨[], [], [], [4], []⟩ [] (by kernel_rfl) trivial
        · refine At.step hm ht ⟨[(2, .b true)], [false], [], [0, 5], []⟩ 8 ⟨[(0, .one (.c (.d (.int .u64 near)))), (5, .one (.c (.d (.int .i64 r16_0))))], [], [], 0⟩ [(decide ((r16_0 : Int) > 0)) = true, (decide (((IntKind.wrap .u64 (near + (IntKind.wrap .u64 r16_0))) : Int) < near)) = false] (by kernel_rfl) ⟨b35_2, b35_e0, trivial⟩ ?_
          have h := Option.some.inj h
          subst h
          exact At.fin hm ht ⟨[], [], [], [4], []⟩ [] (by kernel_rfl) trivial
      · refine At.step hm ht ⟨[(2, .b false)], [false], [], [0, 5], []⟩ 8 ⟨[(0, .one (.c (.d (.int .u64 near)))), (5, .one (.c (.d (.int .i64 r16_0))))], [], [], 0⟩ [(decide ((r16_0 : Int) > 0)) = false, false = false] (by kernel_rfl) ⟨b35_2, rfl, trivial⟩ ?_
        have h := Option.some.inj h
        subst h
        exact At.fin hm ht ⟨[], [], [], [4], []⟩ [] (by kernel_rfl) trivial
/-! brougham/serial.Between -/
def f33_serial_Between_in (x : Int) (from_ : Int) (to_ : Int) : Inn := ⟨[.c (.d (.int .u32 x)), .c (.d (.int .u32 from_)), .c (.d (.int .u32 to_))], [], [], 0⟩
def f33_serial_Between_out (r : Bool) : Out := ⟨.one (.c (.d (.bool r))), [], [], 0⟩
def f33_serial_Between (x : Int) (from_ : Int) (to_ : Int) : Option (Bool) :=
  if ((x : Int) != from_) = true then
    if (decide (((IntKind.wrap .u32 (x - from_)) : Int) ≤ (IntKind.wrap .u32 (to_ - from_)))) = true then
      (f32_serial_Less to_ from_).bind fun r40_0 =>
      some (!r40_0)
    else
      some false
  else
    some false
theorem f33_serial_Between_ok (x : Int) (from_ : Int) (to_ : Int) (r : Bool) (h : f33_serial_Between x from_ to_ = some r) : FnOK Go.Proofs.Try.prog 33 (f33_serial_Between_in x from_ to_) (f33_serial_Between_out r) := by
  unfold f33_serial_Between at h
  refine At.fn (r := 0) Go.Proofs.Try.func33 rfl (by kernel_rfl) rfl rfl (by kernel_rfl) ?_
  show At Go.Proofs.Try.prog Go.Proofs.Try.f33 0 0 ⟨[(0, .one (.c (.d (.int .u32 x)))), (1, .one (.c (.d (.int .u32 from_)))), (2, .one (.c (.d (.int .u32 to_))))], [], [], 0⟩ _
  refine At.step hm ht ⟨[], [], [], [0, 1, 2], []⟩ 1 ⟨[(0, .one (.c (.d (.int .u32 x)))), (1, .one (.c (.d (.int .u32 from_)))), (2, .one (.c (.d (.int .u32 to_))))], [], [], 0⟩ [] (by kernel_rfl) trivial ?_
  rcases iteS h with ⟨b40_3, h⟩ | ⟨b40_3, h⟩
  · rcases iteS h with ⟨b40_12, h⟩ | ⟨b40_12, h⟩
    · obtain ⟨r40_0, cr40_0, h⟩ := bindS h
      have h := Option.some.inj h
      subst h
      exact At.fin hm ht ⟨[(3, .b true), (12, .b true), (15, .call [] [] (f32_serial_Less_out r40_0))], [], [], [6], []⟩ [((x : Int) != from_) = true, (decide (((IntKind.wrap .u32 (x - from_)) : Int) ≤ (IntKind.wrap .u32 (to_ - from_)))) = true, FnOK Go.Proofs.Try.prog 32 (f32_serial_Less_in to_ from_) (f32_serial_Less_out r40_0)] (by kernel_rfl) ⟨b40_3, b40_12, (f32_serial_Less_ok to_ from_ r40_0 cr40_0), trivial⟩
    · have h := Option.some.inj h
      subst h
      exact At.fin hm ht ⟨[(3, .b true), (12, .b false)], [], [], [6], []⟩ [((x : Int) != from_) = true, (decide (((IntKind.wrap .u32 (x - from_)) : Int) ≤ (IntKind.wrap .u32 (to_ - from_)))) = false] (by kernel_rfl) ⟨b40_3, b40_12, trivial⟩
  · have h := Option.some.inj h
    subst h
    exact At.fin hm ht ⟨[(3, .b false)], [], [], [6], []⟩ [((x : Int) != from_) = false] (by kernel_rfl) ⟨b40_3, trivial⟩
/-! brougham/broughamlaw04.alive -/
def f31_broughamlaw04_alive_in : Inn := ⟨[], [], [], 0⟩
def f31_broughamlaw04_alive_out (r : Bool) : Out := ⟨.one (.c (.d (.bool r))), [], [], 0⟩
def f31_broughamlaw04_alive : Option (Bool) :=
  (f32_serial_Less 4294967295 0).bind fun r14_0 =>
  if r14_0 = true then
    (f32_serial_Less 0 4294967295).bind fun r14_1 =>
    if (!r14_1) = true then
      (f29_serial_Wide 4294967296 4294967295).bind fun r14_2 =>
      if ((r14_2 : Int) == 4294967295) = true then
        (f34_serial_Max 3 5).bind fun r14_3 =>
        if ((r14_3 : Int) == 5) = true then
          (f33_serial_Between 2 1 2).bind fun r14_4 =>
          some r14_4
        else
          some false
      else
        some false
    else
      some false
  else
    some false
theorem f31_broughamlaw04_alive_ok (r : Bool) (h : f31_broughamlaw04_alive = some r) : FnOK Go.Proofs.Try.prog 31 (f31_broughamlaw04_alive_in) (f31_broughamlaw04_alive_out r) := by
  unfold f31_broughamlaw04_alive at h
  refine At.fn (r := 0) Go.Proofs.Try.func31 rfl (by kernel_rfl) rfl rfl (by kernel_rfl) ?_
  show At Go.Proofs.Try.prog Go.Proofs.Try.f31 0 0 ⟨[], [], [], 0⟩ _
  refine At.step hm ht ⟨[], [], [], [], []⟩ 1 ⟨[], [], [], 0⟩ [] (by kernel_rfl) trivial ?_
  obtain ⟨r14_0, cr14_0, h⟩ := bindS h
  rcases iteS h with ⟨b14_1, h⟩ | ⟨b14_1, h⟩
  · obtain ⟨r14_1, cr14_1, h⟩ := bindS h
    rcases iteS h with ⟨b14_5, h⟩ | ⟨b14_5, h⟩
    · obtain ⟨r14_2, cr14_2, h⟩ := bindS h
      rcases iteS h with ⟨b14_9, h⟩ | ⟨b14_9, h⟩
      · obtain ⟨r14_3, cr14_3, h⟩ := bindS h
        rcases iteS h with ⟨b14_13, h⟩ | ⟨b14_13, h⟩
        · obtain ⟨r14_4, cr14_4, h⟩ := bindS h
          have h := Option.some.inj h
          subst h
          exact At.fin hm ht ⟨[(0, .call [] [] (f32_serial_Less_out r14_0)), (1, .b true), (2, .call [] [] (f32_serial_Less_out r14_1)), (5, .b true), (6, .call [] [] (f29_serial_Wide_out r14_2)), (9, .b true), (10, .call [] [] (f34_serial_Max_out r14_3)), (13, .b true), (14, .call [] [] (f33_serial_Between_out r14_4))], [], [], [0], []⟩ [FnOK Go.Proofs.Try.prog 32 (f32_serial_Less_in 4294967295 0) (f32_serial_Less_out r14_0), r14_0 = true, FnOK Go.Proofs.Try.prog 32 (f32_serial_Less_in 0 4294967295) (f32_serial_Less_out r14_1), (!r14_1) = true, FnOK Go.Proofs.Try.prog 29 (f29_serial_Wide_in 4294967296 4294967295) (f29_serial_Wide_out r14_2), ((r14_2 : Int) == 4294967295) = true, FnOK Go.Proofs.Try.prog 34 (f34_serial_Max_in 3 5) (f34_serial_Max_out r14_3), ((r14_3 : Int) == 5) = true, FnOK Go.Proofs.Try.prog 33 (f33_serial_Between_in 2 1 2) (f33_serial_Between_out r14_4)] (by kernel_rfl) ⟨(f32_serial_Less_ok 4294967295 0 r14_0 cr14_0), b14_1, (f32_serial_Less_ok 0 4294967295 r14_1 cr14_1), b14_5, (f29_serial_Wide_ok 4294967296 4294967295 r14_2 cr14_2), b14_9, (f34_serial_Max_ok 3 5 r14_3 cr14_3), b14_13, (f33_serial_Between_ok 2 1 2 r14_4 cr14_4), trivial⟩
        · have h := Option.some.inj h
          subst h
          exact At.fin hm ht ⟨[(0, .call [] [] (f32_serial_Less_out r14_0)), (1, .b true), (2, .call [] [] (f32_serial_Less_out r14_1)), (5, .b true), (6, .call [] [] (f29_serial_Wide_out r14_2)), (9, .b true), (10, .call [] [] (f34_serial_Max_out r14_3)), (13, .b false)], [], [], [0], []⟩ [FnOK Go.Proofs.Try.prog 32 (f32_serial_Less_in 4294967295 0) (f32_serial_Less_out r14_0), r14_0 = true, FnOK Go.Proofs.Try.prog 32 (f32_serial_Less_in 0 4294967295) (f32_serial_Less_out r14_1), (!r14_1) = true, FnOK Go.Proofs.Try.prog 29 (f29_serial_Wide_in 4294967296 4294967295) (f29_serial_Wide_out r14_2), ((r14_2 : Int) == 4294967295) = true, FnOK Go.Proofs.Try.prog 34 (f34_serial_Max_in 3 5) (f34_serial_Max_out r14_3), ((r14_3 : Int) == 5) = false] (by kernel_rfl) ⟨(f32_serial_Less_ok 4294967295 0 r14_0 cr14_0), b14_1, (f32_serial_Less_ok 0 4294967295 r14_1 cr14_1), b14_5, (f29_serial_Wide_ok 4294967296 4294967295 r14_2 cr14_2), b14_9, (f34_serial_Max_ok 3 5 r14_3 cr14_3), b14_13, trivial⟩
      · have h := Option.some.inj h
        subst h
        exact At.fin hm ht ⟨[(0, .call [] [] (f32_serial_Less_out r14_0)), (1, .b true), (2, .call [] [] (f32_serial_Less_out r14_1)), (5, .b true), (6, .call [] [] (f29_serial_Wide_out r14_2)), (9, .b false)], [], [], [0], []⟩ [FnOK Go.Proofs.Try.prog 32 (f32_serial_Less_in 4294967295 0) (f32_serial_Less_out r14_0), r14_0 = true, FnOK Go.Proofs.Try.prog 32 (f32_serial_Less_in 0 4294967295) (f32_serial_Less_out r14_1), (!r14_1) = true, FnOK Go.Proofs.Try.prog 29 (f29_serial_Wide_in 4294967296 4294967295) (f29_serial_Wide_out r14_2), ((r14_2 : Int) == 4294967295) = false] (by kernel_rfl) ⟨(f32_serial_Less_ok 4294967295 0 r14_0 cr14_0), b14_1, (f32_serial_Less_ok 0 4294967295 r14_1 cr14_1), b14_5, (f29_serial_Wide_ok 4294967296 4294967295 r14_2 cr14_2), b14_9, trivial⟩
    · have h := Option.some.inj h
      subst h
      exact At.fin hm ht ⟨[(0, .call [] [] (f32_serial_Less_out r14_0)), (1, .b true), (2, .call [] [] (f32_serial_Less_out r14_1)), (5, .b false)], [], [], [0], []⟩ [FnOK Go.Proofs.Try.prog 32 (f32_serial_Less_in 4294967295 0) (f32_serial_Less_out r14_0), r14_0 = true, FnOK Go.Proofs.Try.prog 32 (f32_serial_Less_in 0 4294967295) (f32_serial_Less_out r14_1), (!r14_1) = false] (by kernel_rfl) ⟨(f32_serial_Less_ok 4294967295 0 r14_0 cr14_0), b14_1, (f32_serial_Less_ok 0 4294967295 r14_1 cr14_1), b14_5, trivial⟩
  · have h := Option.some.inj h
    subst h
    exact At.fin hm ht ⟨[(0, .call [] [] (f32_serial_Less_out r14_0)), (1, .b false)], [], [], [0], []⟩ [FnOK Go.Proofs.Try.prog 32 (f32_serial_Less_in 4294967295 0) (f32_serial_Less_out r14_0), r14_0 = false] (by kernel_rfl) ⟨(f32_serial_Less_ok 4294967295 0 r14_0 cr14_0), b14_1, trivial⟩
/-! brougham/broughamlaw04.SerialMoves -/
def f9_broughamlaw04_SerialMoves_in (a : Int) (b : Int) (by_ : Int) : Inn := ⟨[.c (.d (.int .u32 a)), .c (.d (.int .u32 b)), .c (.d (.int .u32 by_))], [], [], 0⟩
def f9_broughamlaw04_SerialMoves_out (r : Bool) : Out := ⟨.one (.c (.d (.bool r))), [], [], 0⟩
def f9_broughamlaw04_SerialMoves (a : Int) (b : Int) (by_ : Int) : Option (Bool) :=
  (f35_serial_Diff (IntKind.wrap .u32 (a + by_)) (IntKind.wrap .u32 (b + by_))).bind fun r2_0 =>
  (f35_serial_Diff a b).bind fun r2_1 =>
  if ((r2_0 : Int) == r2_1) = true then
    (f32_serial_Less (IntKind.wrap .u32 (a + by_)) (IntKind.wrap .u32 (b + by_))).bind fun r2_2 =>
    (f32_serial_Less a b).bind fun r2_3 =>
    if (r2_2 == r2_3) = true then
      (f34_serial_Max (IntKind.wrap .u32 (a + by_)) (IntKind.wrap .u32 (b + by_))).bind fun r2_4 =>
      (f34_serial_Max a b).bind fun r2_5 =>
      if ((r2_4 : Int) == (IntKind.wrap .u32 (r2_5 + by_))) = true then
        (f36_serial_Within (IntKind.wrap .u32 (a + by_)) (IntKind.wrap .u32 (b + by_)) 1000).bind fun r2_6 =>
        (f36_serial_Within a b 1000).bind fun r2_7 =>
        if (r2_6 == r2_7) = true then
          (f35_serial_Diff a b).bind fun r2_8 =>
          (f35_serial_Diff b a).bind fun r2_9 =>
          if ((r2_8 : Int) == (IntKind.wrap .i64 (0 - r2_9))) = true then
            (f31_broughamlaw04_alive).bind fun r2_10 =>
            some r2_10
          else
            if (((IntKind.wrap .u32 (a - b)) : Int) == 2147483648) = true then
              (f31_broughamlaw04_alive).bind fun r2_10 =>
              some r2_10
            else
              some false
        else
          some false
      else
        some false
    else
      some false
  else
    some false
theorem f9_broughamlaw04_SerialMoves_ok (a : Int) (b : Int) (by_ : Int) (r : Bool) (h : f9_broughamlaw04_SerialMoves a b by_ = some r) : FnOK Go.Proofs.Try.prog 9 (f9_broughamlaw04_SerialMoves_in a b by_) (f9_broughamlaw04_SerialMoves_out r) := by
  unfold f9_broughamlaw04_SerialMoves at h
  refine At.fn (r := 0) Go.Proofs.Try.func9 rfl (by kernel_rfl) rfl rfl (by kernel_rfl) ?_
  show At Go.Proofs.Try.prog Go.Proofs.Try.f9 0 0 ⟨[(0, .one (.c (.d (.int .u32 a)))), (1, .one (.c (.d (.int .u32 b)))), (2, .one (.c (.d (.int .u32 by_))))], [], [], 0⟩ _
  refine At.step hm ht ⟨[], [], [], [0, 1, 2], []⟩ 1 ⟨[(0, .one (.c (.d (.int .u32 a)))), (1, .one (.c (.d (.int .u32 b)))), (2, .one (.c (.d (.int .u32 by_))))], [], [], 0⟩ [] (by kernel_rfl) trivial ?_
  obtain ⟨r2_0, cr2_0, h⟩ := bindS h
  obtain ⟨r2_1, cr2_1, h⟩ := bindS h
  rcases iteS h with ⟨b2_11, h⟩ | ⟨b2_11, h⟩
  · obtain ⟨r2_2, cr2_2, h⟩ := bindS h
    obtain ⟨r2_3, cr2_3, h⟩ := bindS h
    rcases iteS h with ⟨b2_24, h⟩ | ⟨b2_24, h⟩
    · obtain ⟨r2_4, cr2_4, h⟩ := bindS h
      obtain ⟨r2_5, cr2_5, h⟩ := bindS h
      rcases iteS h with ⟨b2_39, h⟩ | ⟨b2_39, h⟩
      · obtain ⟨r2_6, cr2_6, h⟩ := bindS h
        obtain ⟨r2_7, cr2_7, h⟩ := bindS h
        rcases iteS h with ⟨b2_52, h⟩ | ⟨b2_52, h⟩
        · obtain ⟨r2_8, cr2_8, h⟩ := bindS h
          obtain ⟨r2_9, cr2_9, h⟩ := bindS h
          rcases iteS h with ⟨b2_61, h⟩ | ⟨b2_61, h⟩
          · obtain ⟨r2_10, cr2_10, h⟩ := bindS h
            have h := Option.some.inj h
            subst h
            exact At.fin hm ht ⟨[(6, .call [] [] (f35_serial_Diff_out r2_0)), (9, .call [] [] (f35_serial_Diff_out r2_1)), (11, .b true), (18, .call [] [] (f32_serial_Less_out r2_2)), (21, .call [] [] (f32_serial_Less_out r2_3)), (24, .b true), (31, .call [] [] (f34_serial_Max_out r2_4)), (34, .call [] [] (f34_serial_Max_out r2_5)), (39, .b true), (46, .call [] [] (f36_serial_Within_out r2_6)), (49, .call [] [] (f36_serial_Within_out r2_7)), (52, .b true), (55, .call [] [] (f35_serial_Diff_out r2_8)), (58, .call [] [] (f35_serial_Diff_out r2_9)), (61, .b true), (69, .call [] [] (f31_broughamlaw04_alive_out r2_10))], [], [], [6], []⟩ [FnOK Go.Proofs.Try.prog 35 (f35_serial_Diff_in (IntKind.wrap .u32 (a + by_)) (IntKind.wrap .u32 (b + by_))) (f35_serial_Diff_out r2_0), FnOK Go.Proofs.Try.prog 35 (f35_serial_Diff_in a b) (f35_serial_Diff_out r2_1), ((r2_0 : Int) == r2_1) = true, FnOK Go.Proofs.Try.prog 32 (f32_serial_Less_in (IntKind.wrap .u32 (a + by_)) (IntKind.wrap .u32 (b + by_))) (f32_serial_Less_out r2_2), FnOK Go.Proofs.Try.prog 32 (f32_serial_Less_in a b) (f32_serial_Less_out r2_3), (r2_2 == r2_3) = true, FnOK Go.Proofs.Try.prog 34 (f34_serial_Max_in (IntKind.wrap .u32 (a + by_)) (IntKind.wrap .u32 (b + by_))) (f34_serial_Max_out r2_4), FnOK Go.Proofs.Try.prog 34 (f34_serial_Max_in a b) (f34_serial_Max_out r2_5), ((r2_4 : Int) == (IntKind.wrap .u32 (r2_5 + by_))) = true, FnOK Go.Proofs.Try.prog 36 (f36_serial_Within_in (IntKind.wrap .u32 (a + by_)) (IntKind.wrap .u32 (b + by_)) 1000) (f36_serial_Within_out r2_6), FnOK Go.Proofs.Try.prog 36 (f36_serial_Within_in a b 1000) (f36_serial_Within_out r2_7), (r2_6 == r2_7) = true, FnOK Go.Proofs.Try.prog 35 (f35_serial_Diff_in a b) (f35_serial_Diff_out r2_8), FnOK Go.Proofs.Try.prog 35 (f35_serial_Diff_in b a) (f35_serial_Diff_out r2_9), ((r2_8 : Int) == (IntKind.wrap .i64 (0 - r2_9))) = true, FnOK Go.Proofs.Try.prog 31 (f31_broughamlaw04_alive_in) (f31_broughamlaw04_alive_out r2_10)] (by kernel_rfl) ⟨(f35_serial_Diff_ok (IntKind.wrap .u32 (a + by_)) (IntKind.wrap .u32 (b + by_)) r2_0 cr2_0), (f35_serial_Diff_ok a b r2_1 cr2_1), b2_11, (f32_serial_Less_ok (IntKind.wrap .u32 (a + by_)) (IntKind.wrap .u32 (b + by_)) r2_2 cr2_2), (f32_serial_Less_ok a b r2_3 cr2_3), b2_24, (f34_serial_Max_ok (IntKind.wrap .u32 (a + by_)) (IntKind.wrap .u32 (b + by_)) r2_4 cr2_4), (f34_serial_Max_ok a b r2_5 cr2_5), b2_39, (f36_serial_Within_ok (IntKind.wrap .u32 (a + by_)) (IntKind.wrap .u32 (b + by_)) 1000 r2_6 cr2_6), (f36_serial_Within_ok a b 1000 r2_7 cr2_7), b2_52, (f35_serial_Diff_ok a b r2_8 cr2_8), (f35_serial_Diff_ok b a r2_9 cr2_9), b2_61, (f31_broughamlaw04_alive_ok r2_10 cr2_10), trivial⟩
          · rcases iteS h with ⟨b2_68, h⟩ | ⟨b2_68, h⟩
            · obtain ⟨r2_10, cr2_10, h⟩ := bindS h
              have h := Option.some.inj h
              subst h
              exact At.fin hm ht ⟨[(6, .call [] [] (f35_serial_Diff_out r2_0)), (9, .call [] [] (f35_serial_Diff_out r2_1)), (11, .b true), (18, .call [] [] (f32_serial_Less_out r2_2)), (21, .call [] [] (f32_serial_Less_out r2_3)), (24, .b true), (31, .call [] [] (f34_serial_Max_out r2_4)), (34, .call [] [] (f34_serial_Max_out r2_5)), (39, .b true), (46, .call [] [] (f36_serial_Within_out r2_6)), (49, .call [] [] (f36_serial_Within_out r2_7)), (52, .b true), (55, .call [] [] (f35_serial_Diff_out r2_8)), (58, .call [] [] (f35_serial_Diff_out r2_9)), (61, .b false), (68, .b true), (69, .call [] [] (f31_broughamlaw04_alive_out r2_10))], [], [], [6], []⟩ [FnOK Go.Proofs.Try.prog 35 (f35_serial_Diff_in (IntKind.wrap .u32 (a + by_)) (IntKind.wrap .u32 (b + by_))) (f35_serial_Diff_out r2_0), FnOK Go.Proofs.Try.prog 35 (f35_serial_Diff_in a b) (f35_serial_Diff_out r2_1), ((r2_0 : Int) == r2_1) = true, FnOK Go.Proofs.Try.prog 32 (f32_serial_Less_in (IntKind.wrap .u32 (a + by_)) (IntKind.wrap .u32 (b + by_))) (f32_serial_Less_out r2_2), FnOK Go.Proofs.Try.prog 32 (f32_serial_Less_in a b) (f32_serial_Less_out r2_3), (r2_2 == r2_3) = true, FnOK Go.Proofs.Try.prog 34 (f34_serial_Max_in (IntKind.wrap .u32 (a + by_)) (IntKind.wrap .u32 (b + by_))) (f34_serial_Max_out r2_4), FnOK Go.Proofs.Try.prog 34 (f34_serial_Max_in a b) (f34_serial_Max_out r2_5), ((r2_4 : Int) == (IntKind.wrap .u32 (r2_5 + by_))) = true, FnOK Go.Proofs.Try.prog 36 (f36_serial_Within_in (IntKind.wrap .u32 (a + by_)) (IntKind.wrap .u32 (b + by_)) 1000) (f36_serial_Within_out r2_6), FnOK Go.Proofs.Try.prog 36 (f36_serial_Within_in a b 1000) (f36_serial_Within_out r2_7), (r2_6 == r2_7) = true, FnOK Go.Proofs.Try.prog 35 (f35_serial_Diff_in a b) (f35_serial_Diff_out r2_8), FnOK Go.Proofs.Try.prog 35 (f35_serial_Diff_in b a) (f35_serial_Diff_out r2_9), ((r2_8 : Int) == (IntKind.wrap .i64 (0 - r2_9))) = false, (((IntKind.wrap .u32 (a - b)) : Int) == 2147483648) = true, FnOK Go.Proofs.Try.prog 31 (f31_broughamlaw04_alive_in) (f31_broughamlaw04_alive_out r2_10)] (by kernel_rfl) ⟨(f35_serial_Diff_ok (IntKind.wrap .u32 (a + by_)) (IntKind.wrap .u32 (b + by_)) r2_0 cr2_0), (f35_serial_Diff_ok a b r2_1 cr2_1), b2_11, (f32_serial_Less_ok (IntKind.wrap .u32 (a + by_)) (IntKind.wrap .u32 (b + by_)) r2_2 cr2_2), (f32_serial_Less_ok a b r2_3 cr2_3), b2_24, (f34_serial_Max_ok (IntKind.wrap .u32 (a + by_)) (IntKind.wrap .u32 (b + by_)) r2_4 cr2_4), (f34_serial_Max_ok a b r2_5 cr2_5), b2_39, (f36_serial_Within_ok (IntKind.wrap .u32 (a + by_)) (IntKind.wrap .u32 (b + by_)) 1000 r2_6 cr2_6), (f36_serial_Within_ok a b 1000 r2_7 cr2_7), b2_52, (f35_serial_Diff_ok a b r2_8 cr2_8), (f35_serial_Diff_ok b a r2_9 cr2_9), b2_61, b2_68, (f31_broughamlaw04_alive_ok r2_10 cr2_10), trivial⟩
            · have h := Option.some.inj h
              subst h
              exact At.fin hm ht ⟨[(6, .call [] [] (f35_serial_Diff_out r2_0)), (9, .call [] [] (f35_serial_Diff_out r2_1)), (11, .b true), (18, .call [] [] (f32_serial_Less_out r2_2)), (21, .call [] [] (f32_serial_Less_out r2_3)), (24, .b true), (31, .call [] [] (f34_serial_Max_out r2_4)), (34, .call [] [] (f34_serial_Max_out r2_5)), (39, .b true), (46, .call [] [] (f36_serial_Within_out r2_6)), (49, .call [] [] (f36_serial_Within_out r2_7)), (52, .b true), (55, .call [] [] (f35_serial_Diff_out r2_8)), (58, .call [] [] (f35_serial_Diff_out r2_9)), (61, .b false), (68, .b false)], [], [], [6], []⟩ [FnOK Go.Proofs.Try.prog 35 (f35_serial_Diff_in (IntKind.wrap .u32 (a + by_)) (IntKind.wrap .u32 (b + by_))) (f35_serial_Diff_out r2_0), FnOK Go.Proofs.Try.prog 35 (f35_serial_Diff_in a b) (f35_serial_Diff_out r2_1), ((r2_0 : Int) == r2_1) = true, FnOK Go.Proofs.Try.prog 32 (f32_serial_Less_in (IntKind.wrap .u32 (a + by_)) (IntKind.wrap .u32 (b + by_))) (f32_serial_Less_out r2_2), FnOK Go.Proofs.Try.prog 32 (f32_serial_Less_in a b) (f32_serial_Less_out r2_3), (r2_2 == r2_3) = true, FnOK Go.Proofs.Try.prog 34 (f34_serial_Max_in (IntKind.wrap .u32 (a + by_)) (IntKind.wrap .u32 (b + by_))) (f34_serial_Max_out r2_4), FnOK Go.Proofs.Try.prog 34 (f34_serial_Max_in a b) (f34_serial_Max_out r2_5), ((r2_4 : Int) == (IntKind.wrap .u32 (r2_5 + by_))) = true, FnOK Go.Proofs.Try.prog 36 (f36_serial_Within_in (IntKind.wrap .u32 (a + by_)) (IntKind.wrap .u32 (b + by_)) 1000) (f36_serial_Within_out r2_6), FnOK Go.Proofs.Try.prog 36 (f36_serial_Within_in a b 1000) (f36_serial_Within_out r2_7), (r2_6 == r2_7) = true, FnOK Go.Proofs.Try.prog 35 (f35_serial_Diff_in a b) (f35_serial_Diff_out r2_8), FnOK Go.Proofs.Try.prog 35 (f35_serial_Diff_in b a) (f35_serial_Diff_out r2_9), ((r2_8 : Int) == (IntKind.wrap .i64 (0 - r2_9))) = false, (((IntKind.wrap .u32 (a - b)) : Int) == 2147483648) = false] (by kernel_rfl) ⟨(f35_serial_Diff_ok (IntKind.wrap .u32 (a + by_)) (IntKind.wrap .u32 (b + by_)) r2_0 cr2_0), (f35_serial_Diff_ok a b r2_1 cr2_1), b2_11, (f32_serial_Less_ok (IntKind.wrap .u32 (a + by_)) (IntKind.wrap .u32 (b + by_)) r2_2 cr2_2), (f32_serial_Less_ok a b r2_3 cr2_3), b2_24, (f34_serial_Max_ok (IntKind.wrap .u32 (a + by_)) (IntKind.wrap .u32 (b + by_)) r2_4 cr2_4), (f34_serial_Max_ok a b r2_5 cr2_5), b2_39, (f36_serial_Within_ok (IntKind.wrap .u32 (a + by_)) (IntKind.wrap .u32 (b + by_)) 1000 r2_6 cr2_6), (f36_serial_Within_ok a b 1000 r2_7 cr2_7), b2_52, (f35_serial_Diff_ok a b r2_8 cr2_8), (f35_serial_Diff_ok b a r2_9 cr2_9), b2_61, b2_68, trivial⟩
        · have h := Option.some.inj h
          subst h
          exact At.fin hm ht ⟨[(6, .call [] [] (f35_serial_Diff_out r2_0)), (9, .call [] [] (f35_serial_Diff_out r2_1)), (11, .b true), (18, .call [] [] (f32_serial_Less_out r2_2)), (21, .call [] [] (f32_serial_Less_out r2_3)), (24, .b true), (31, .call [] [] (f34_serial_Max_out r2_4)), (34, .call [] [] (f34_serial_Max_out r2_5)), (39, .b true), (46, .call [] [] (f36_serial_Within_out r2_6)), (49, .call [] [] (f36_serial_Within_out r2_7)), (52, .b false)], [], [], [6], []⟩ [FnOK Go.Proofs.Try.prog 35 (f35_serial_Diff_in (IntKind.wrap .u32 (a + by_)) (IntKind.wrap .u32 (b + by_))) (f35_serial_Diff_out r2_0), FnOK Go.Proofs.Try.prog 35 (f35_serial_Diff_in a b) (f35_serial_Diff_out r2_1), ((r2_0 : Int) == r2_1) = true, FnOK Go.Proofs.Try.prog 32 (f32_serial_Less_in (IntKind.wrap .u32 (a + by_)) (IntKind.wrap .u32 (b + by_))) (f32_serial_Less_out r2_2), FnOK Go.Proofs.Try.prog 32 (f32_serial_Less_in a b) (f32_serial_Less_out r2_3), (r2_2 == r2_3) = true, FnOK Go.Proofs.Try.prog 34 (f34_serial_Max_in (IntKind.wrap .u32 (a + by_)) (IntKind.wrap .u32 (b + by_))) (f34_serial_Max_out r2_4), FnOK Go.Proofs.Try.prog 34 (f34_serial_Max_in a b) (f34_serial_Max_out r2_5), ((r2_4 : Int) == (IntKind.wrap .u32 (r2_5 + by_))) = true, FnOK Go.Proofs.Try.prog 36 (f36_serial_Within_in (IntKind.wrap .u32 (a + by_)) (IntKind.wrap .u32 (b + by_)) 1000) (f36_serial_Within_out r2_6), FnOK Go.Proofs.Try.prog 36 (f36_serial_Within_in a b 1000) (f36_serial_Within_out r2_7), (r2_6 == r2_7) = false] (by kernel_rfl) ⟨(f35_serial_Diff_ok (IntKind.wrap .u32 (a + by_)) (IntKind.wrap .u32 (b + by_)) r2_0 cr2_0), (f35_serial_Diff_ok a b r2_1 cr2_1), b2_11, (f32_serial_Less_ok (IntKind.wrap .u32 (a + by_)) (IntKind.wrap .u32 (b + by_)) r2_2 cr2_2), (f32_serial_Less_ok a b r2_3 cr2_3), b2_24, (f34_serial_Max_ok (IntKind.wrap .u32 (a + by_)) (IntKind.wrap .u32 (b + by_)) r2_4 cr2_4), (f34_serial_Max_ok a b r2_5 cr2_5), b2_39, (f36_serial_Within_ok (IntKind.wrap .u32 (a + by_)) (IntKind.wrap .u32 (b + by_)) 1000 r2_6 cr2_6), (f36_serial_Within_ok a b 1000 r2_7 cr2_7), b2_52, trivial⟩
      · have h := Option.some.inj h
        subst h
        exact At.fin hm ht ⟨[(6, .call [] [] (f35_serial_Diff_out r2_0)), (9, .call [] [] (f35_serial_Diff_out r2_1)), (11, .b true), (18, .call [] [] (f32_serial_Less_out r2_2)), (21, .call [] [] (f32_serial_Less_out r2_3)), (24, .b true), (31, .call [] [] (f34_serial_Max_out r2_4)), (34, .call [] [] (f34_serial_Max_out r2_5)), (39, .b false)], [], [], [6], []⟩ [FnOK Go.Proofs.Try.prog 35 (f35_serial_Diff_in (IntKind.wrap .u32 (a + by_)) (IntKind.wrap .u32 (b + by_))) (f35_serial_Diff_out r2_0), FnOK Go.Proofs.Try.prog 35 (f35_serial_Diff_in a b) (f35_serial_Diff_out r2_1), ((r2_0 : Int) == r2_1) = true, FnOK Go.Proofs.Try.prog 32 (f32_serial_Less_in (IntKind.wrap .u32 (a + by_)) (IntKind.wrap .u32 (b + by_))) (f32_serial_Less_out r2_2), FnOK Go.Proofs.Try.prog 32 (f32_serial_Less_in a b) (f32_serial_Less_out r2_3), (r2_2 == r2_3) = true, FnOK Go.Proofs.Try.prog 34 (f34_serial_Max_in (IntKind.wrap .u32 (a + by_)) (IntKind.wrap .u32 (b + by_))) (f34_serial_Max_out r2_4), FnOK Go.Proofs.Try.prog 34 (f34_serial_Max_in a b) (f34_serial_Max_out r2_5), ((r2_4 : Int) == (IntKind.wrap .u32 (r2_5 + by_))) = false] (by kernel_rfl) ⟨(f35_serial_Diff_ok (IntKind.wrap .u32 (a + by_)) (IntKind.wrap .u32 (b + by_)) r2_0 cr2_0), (f35_serial_Diff_ok a b r2_1 cr2_1), b2_11, (f32_serial_Less_ok (IntKind.wrap .u32 (a + by_)) (IntKind.wrap .u32 (b + by_)) r2_2 cr2_2), (f32_serial_Less_ok a b r2_3 cr2_3), b2_24, (f34_serial_Max_ok (IntKind.wrap .u32 (a + by_)) (IntKind.wrap .u32 (b + by_)) r2_4 cr2_4), (f34_serial_Max_ok a b r2_5 cr2_5), b2_39, trivial⟩
    · have h := Option.some.inj h
      subst h
      exact At.fin hm ht ⟨[(6, .call [] [] (f35_serial_Diff_out r2_0)), (9, .call [] [] (f35_serial_Diff_out r2_1)), (11, .b true), (18, .call [] [] (f32_serial_Less_out r2_2)), (21, .call [] [] (f32_serial_Less_out r2_3)), (24, .b false)], [], [], [6], []⟩ [FnOK Go.Proofs.Try.prog 35 (f35_serial_Diff_in (IntKind.wrap .u32 (a + by_)) (IntKind.wrap .u32 (b + by_))) (f35_serial_Diff_out r2_0), FnOK Go.Proofs.Try.prog 35 (f35_serial_Diff_in a b) (f35_serial_Diff_out r2_1), ((r2_0 : Int) == r2_1) = true, FnOK Go.Proofs.Try.prog 32 (f32_serial_Less_in (IntKind.wrap .u32 (a + by_)) (IntKind.wrap .u32 (b + by_))) (f32_serial_Less_out r2_2), FnOK Go.Proofs.Try.prog 32 (f32_serial_Less_in a b) (f32_serial_Less_out r2_3), (r2_2 == r2_3) = false] (by kernel_rfl) ⟨(f35_serial_Diff_ok (IntKind.wrap .u32 (a + by_)) (IntKind.wrap .u32 (b + by_)) r2_0 cr2_0), (f35_serial_Diff_ok a b r2_1 cr2_1), b2_11, (f32_serial_Less_ok (IntKind.wrap .u32 (a + by_)) (IntKind.wrap .u32 (b + by_)) r2_2 cr2_2), (f32_serial_Less_ok a b r2_3 cr2_3), b2_24, trivial⟩
  · have h := Option.some.inj h
    subst h
    exact At.fin hm ht ⟨[(6, .call [] [] (f35_serial_Diff_out r2_0)), (9, .call [] [] (f35_serial_Diff_out r2_1)), (11, .b false)], [], [], [6], []⟩ [FnOK Go.Proofs.Try.prog 35 (f35_serial_Diff_in (IntKind.wrap .u32 (a + by_)) (IntKind.wrap .u32 (b + by_))) (f35_serial_Diff_out r2_0), FnOK Go.Proofs.Try.prog 35 (f35_serial_Diff_in a b) (f35_serial_Diff_out r2_1), ((r2_0 : Int) == r2_1) = false] (by kernel_rfl) ⟨(f35_serial_Diff_ok (IntKind.wrap .u32 (a + by_)) (IntKind.wrap .u32 (b + by_)) r2_0 cr2_0), (f35_serial_Diff_ok a b r2_1 cr2_1), b2_11, trivial⟩
end Go.Proofs.YtjmebloeodcoaaaF04
