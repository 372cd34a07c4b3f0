/- What the functions compute, and that they do: printed by a program of this session (zgen.py), proved by Zed. -/
import Derived.Test.YtjoibacjpapncaaF31x0
namespace Go.Proofs.YtjoibacjpapncaaF31
open Go Zed
set_option maxRecDepth 100000
set_option linter.unusedVariables false
/-! (*brougham/sack.Board).Came -/
def f33_sack_Board_Came_v2_in (from_ : Int) (many : Int) (x_0 : Int) (x_1 : Int) (x_2 : List (Int × Int)) : Inn := ⟨[.c (.ptr 0 0), .c (.d (.int .u32 from_)), .c (.d (.int .i64 many))], [], [(0, [.d (.int .u32 x_0), .d (.int .i64 x_1), .d (.sl (.pair (.int .u32) (.int .u32)) x_2)])], 1⟩
def f33_sack_Board_Came_v2_out (r : Bool × Int × Int × List (Int × Int)) : Out := ⟨.one (.c (.d (.bool r.1))), [], [(0, [.d (.int .u32 r.2.1), .d (.int .i64 r.2.2.1), .d (.sl (.pair (.int .u32) (.int .u32)) r.2.2.2)])], 1⟩
def f33_sack_Board_Came_v2 (n : Nat) (from_ : Int) (many : Int) (x_0 : Int) (x_1 : Int) (x_2 : List (Int × Int)) : Option (Bool × Int × Int × List (Int × Int)) :=
  if (decide ((many : Int) < 1)) = true then
    some (((many : Int) == 0), x_0, x_1, x_2)
  else
    if (decide ((many : Int) > 1024)) = true then
      some (((many : Int) == 0), x_0, x_1, x_2)
    else
      (f89_serial_Diff (IntKind.wrap .u32 (from_ + (IntKind.wrap .u32 many))) x_0).bind fun r632_0 =>
      if (decide ((r632_0 : Int) ≤ 0)) = true then
        (f90_serial_Near from_ x_0 1048576).bind fun r633_0 =>
        some (r633_0, x_0, x_1, x_2)
      else
        (f91_serial_Less from_ x_0).bind fun r634_0 =>
        if r634_0 = true then
          (f92_sack_Board_near_v2 x_0 x_0 x_1 x_2).bind fun r636_0 =>
          if (!r636_0.1) = true then
            some (false, r636_0.2.1, r636_0.2.2.1, r636_0.2.2.2)
          else
            (f92_sack_Board_near_v2 (IntKind.wrap .u32 (from_ + (IntKind.wrap .u32 many))) r636_0.2.1 r636_0.2.2.1 r636_0.2.2.2).bind fun r636_1 =>
            if (!r636_1.1) = true then
              some (false, r636_1.2.1, r636_1.2.2.1, r636_1.2.2.2)
            else
              (f93_sack_Board_put_v2 n x_0 (IntKind.wrap .u32 (from_ + (IntKind.wrap .u32 many))) r636_1.2.1 r636_1.2.2.1 r636_1.2.2.2).bind fun r641_0 =>
              some (r641_0.1, r641_0.2.1, r641_0.2.2.1, r641_0.2.2.2)
        else
          (f92_sack_Board_near_v2 from_ x_0 x_1 x_2).bind fun r700_0 =>
          if (!r700_0.1) = true then
            some (false, r700_0.2.1, r700_0.2.2.1, r700_0.2.2.2)
          else
            (f92_sack_Board_near_v2 (IntKind.wrap .u32 (from_ + (IntKind.wrap .u32 many))) r700_0.2.1 r700_0.2.2.1 r700_0.2.2.2).bind fun r700_1 =>
            if (!r700_1.1) = true then
              some (false, r700_1.2.1, r700_1.2.2.1, r700_1.2.2.2)
            else
              (f93_sack_Board_put_v2 n from_ (IntKind.wrap .u32 (from_ + (IntKind.wrap .u32 many))) r700_1.2.1 r700_1.2.2.1 r700_1.2.2.2).bind fun r703_0 =>
              some (r703_0.1, r703_0.2.1, r703_0.2.2.1, r703_0.2.2.2)
theorem f33_sack_Board_Came_v2_ok (n : Nat) (from_ : Int) (many : Int) (x_0 : Int) (x_1 : Int) (x_2 : List (Int × Int)) (r : Bool × Int × Int × List (Int × Int)) (h : f33_sack_Board_Came_v2 n from_ many x_0 x_1 x_2 = some r) : FnOK Go.Proofs.Try.prog 33 (f33_sack_Board_Came_v2_in from_ many x_0 x_1 x_2) (f33_sack_Board_Came_v2_out r) := by
  unfold f33_sack_Board_Came_v2 at h
  refine At.fn (r := 0) Go.Proofs.Try.func33 rfl (by kernel_rfl) rfl rfl (by kernel_rfl) ?_
  show At Go.Proofs.Try.prog Go.Proofs.Try.f33 1 0 ⟨[(0, .one (.c (.ptr 0 0))), (1, .one (.c (.d (.int .u32 from_)))), (2, .one (.c (.d (.int .i64 many))))], [], [(0, [.d (.int .u32 x_0), .d (.int .i64 x_1), .d (.sl (.pair (.int .u32) (.int .u32)) x_2)])], 1⟩ _
  refine At.step hm ht ⟨[], [], [], [0, 1, 2], [0]⟩ 1 ⟨[(0, .one (.c (.ptr 0 0))), (1, .one (.c (.d (.int .u32 from_)))), (2, .one (.c (.d (.int .i64 many))))], [], [(0, [.d (.int .u32 x_0), .d (.int .i64 x_1), .d (.sl (.pair (.int .u32) (.int .u32)) x_2)])], 1⟩ [] (by kernel_rfl) trivial ?_
  rcases iteS h with ⟨b628_2, h⟩ | ⟨b628_2, h⟩
  · refine At.step hm ht ⟨[(2, .b true)], [true], [], [2], [0]⟩ 2 ⟨[(2, .one (.c (.d (.int .i64 many))))], [], [(0, [.d (.int .u32 x_0), .d (.int .i64 x_1), .d (.sl (.pair (.int .u32) (.int .u32)) x_2)])], 1⟩ [(decide ((many : Int) < 1)) = true, true = true] (by kernel_rfl) ⟨b628_2, rfl, trivial⟩ ?_
    have h := Option.some.inj h
    subst h
    exact At.fin hm ht ⟨[], [], [], [6], [0]⟩ [] (by kernel_rfl) trivial
  · rcases iteS h with ⟨b628_e0, h⟩ | ⟨b628_e0, h⟩
    · refine At.step hm ht ⟨[(2, .b false)], [true], [], [2], [0]⟩ 2 ⟨[(2, .one (.c (.d (.int .i64 many))))], [], [(0, [.d (.int .u32 x_0), .d (.int .i64 x_1), .d (.sl (.pair (.int .u32) (.int .u32)) x_2)])], 1⟩ [(decide ((many : Int) < 1)) = false, (decide ((many : Int) > 1024)) = true] (by kernel_rfl) ⟨b628_2, b628_e0, trivial⟩ ?_
      have h := Option.some.inj h
      subst h
      exact At.fin hm ht ⟨[], [], [], [6], [0]⟩ [] (by kernel_rfl) trivial
    · refine At.step hm ht ⟨[(2, .b false)], [false], [], [0, 1, 2], [0]⟩ 3 ⟨[(0, .one (.c (.ptr 0 0))), (1, .one (.c (.d (.int .u32 from_)))), (2, .one (.c (.d (.int .i64 many))))], [], [(0, [.d (.int .u32 x_0), .d (.int .i64 x_1), .d (.sl (.pair (.int .u32) (.int .u32)) x_2)])], 1⟩ [(decide ((many : Int) < 1)) = false, (decide ((many : Int) > 1024)) = false] (by kernel_rfl) ⟨b628_2, b628_e0, trivial⟩ ?_
      refine At.step hm ht ⟨[], [], [], [0, 1, 7], [0]⟩ 4 ⟨[(0, .one (.c (.ptr 0 0))), (1, .one (.c (.d (.int .u32 from_)))), (7, .one (.c (.d (.int .u32 (IntKind.wrap .u32 (from_ + (IntKind.wrap .u32 many)))))))], [], [(0, [.d (.int .u32 x_0), .d (.int .i64 x_1), .d (.sl (.pair (.int .u32) (.int .u32)) x_2)])], 1⟩ [] (by kernel_rfl) trivial ?_
      obtain ⟨r632_0, cr632_0, h⟩ := bindS h
      rcases iteS h with ⟨b632_e0, h⟩ | ⟨b632_e0, h⟩
      · refine At.step hm ht ⟨[(5, .call [] [] (f89_serial_Diff_out r632_0))], [true], [], [0, 1], [0]⟩ 5 ⟨[(0, .one (.c (.ptr 0 0))), (1, .one (.c (.d (.int .u32 from_))))], [], [(0, [.d (.int .u32 x_0), .d (.int .i64 x_1), .d (.sl (.pair (.int .u32) (.int .u32)) x_2)])], 1⟩ [FnOK Go.Proofs.Try.prog 89 (f89_serial_Diff_in (IntKind.wrap .u32 (from_ + (IntKind.wrap .u32 many))) x_0) (f89_serial_Diff_out r632_0), (decide ((r632_0 : Int) ≤ 0)) = true] (by kernel_rfl) ⟨(f89_serial_Diff_ok (IntKind.wrap .u32 (from_ + (IntKind.wrap .u32 many))) x_0 r632_0 cr632_0), b632_e0, trivial⟩ ?_
        obtain ⟨r633_0, cr633_0, h⟩ := bindS h
        have h := Option.some.inj h
        subst h
        exact At.fin hm ht ⟨[(5, .call [] [] (f90_serial_Near_out r633_0))], [], [], [6], [0]⟩ [FnOK Go.Proofs.Try.prog 90 (f90_serial_Near_in from_ x_0 1048576) (f90_serial_Near_out r633_0)] (by kernel_rfl) ⟨(f90_serial_Near_ok from_ x_0 1048576 r633_0 cr633_0), trivial⟩
      · refine At.step hm ht ⟨[(5, .call [] [] (f89_serial_Diff_out r632_0))], [false], [], [0, 1, 7], [0]⟩ 6 ⟨[(0, .one (.c (.ptr 0 0))), (1, .one (.c (.d (.int .u32 from_)))), (7, .one (.c (.d (.int .u32 (IntKind.wrap .u32 (from_ + (IntKind.wrap .u32 many)))))))], [], [(0, [.d (.int .u32 x_0), .d (.int .i64 x_1), .d (.sl (.pair (.int .u32) (.int .u32)) x_2)])], 1⟩ [FnOK Go.Proofs.Try.prog 89 (f89_serial_Diff_in (IntKind.wrap .u32 (from_ + (IntKind.wrap .u32 many))) x_0) (f89_serial_Diff_out r632_0), (decide ((r632_0 : Int) ≤ 0)) = false] (by kernel_rfl) ⟨(f89_serial_Diff_ok (IntKind.wrap .u32 (from_ + (IntKind.wrap .u32 many))) x_0 r632_0 cr632_0), b632_e0, trivial⟩ ?_
        obtain ⟨r634_0, cr634_0, h⟩ := bindS h
        rcases iteS h with ⟨b634_e0, h⟩ | ⟨b634_e0, h⟩
        · refine At.step hm ht ⟨[(5, .call [] [] (f91_serial_Less_out r634_0))], [true], [], [0, 7], [0]⟩ 7 ⟨[(0, .one (.c (.ptr 0 0))), (7, .one (.c (.d (.int .u32 (IntKind.wrap .u32 (from_ + (IntKind.wrap .u32 many)))))))], [], [(0, [.d (.int .u32 x_0), .d (.int .i64 x_1), .d (.sl (.pair (.int .u32) (.int .u32)) x_2)])], 1⟩ [FnOK Go.Proofs.Try.prog 91 (f91_serial_Less_in from_ x_0) (f91_serial_Less_out r634_0), r634_0 = true] (by kernel_rfl) ⟨(f91_serial_Less_ok from_ x_0 r634_0 cr634_0), b634_e0, trivial⟩ ?_
          refine At.step hm ht ⟨[], [], [], [0, 1, 7], [0]⟩ 8 ⟨[(0, .one (.c (.ptr 0 0))), (1, .one (.c (.d (.int .u32 x_0)))), (7, .one (.c (.d (.int .u32 (IntKind.wrap .u32 (from_ + (IntKind.wrap .u32 many)))))))], [], [(0, [.d (.int .u32 x_0), .d (.int .i64 x_1), .d (.sl (.pair (.int .u32) (.int .u32)) x_2)])], 1⟩ [] (by kernel_rfl) trivial ?_
          obtain ⟨r636_0, cr636_0, h⟩ := bindS h
          rcases iteS h with ⟨b636_4, h⟩ | ⟨b636_4, h⟩
          · refine At.step hm ht ⟨[(2, .call [0] [] (f92_sack_Board_near_v2_out r636_0)), (4, .b true)], [true], [], [], [0]⟩ 9 ⟨[], [], [(0, [.d (.int .u32 r636_0.2.1), .d (.int .i64 r636_0.2.2.1), .d (.sl (.pair (.int .u32) (.int .u32)) r636_0.2.2.2)])], 1⟩ [FnOK Go.Proofs.Try.prog 92 (f92_sack_Board_near_v2_in x_0 x_0 x_1 x_2) (f92_sack_Board_near_v2_out r636_0), (!r636_0.1) = true, true = true] (by kernel_rfl) ⟨(f92_sack_Board_near_v2_ok x_0 x_0 x_1 x_2 r636_0 cr636_0), b636_4, rfl, trivial⟩ ?_
            have h := Option.some.inj h
            subst h
            exact At.fin hm ht ⟨[], [], [], [6], [0]⟩ [] (by kernel_rfl) trivial
          · obtain ⟨r636_1, cr636_1, h⟩ := bindS h
            rcases iteS h with ⟨b636_e0, h⟩ | ⟨b636_e0, h⟩
            · refine At.step hm ht ⟨[(2, .call [0] [] (f92_sack_Board_near_v2_out r636_0)), (4, .b false), (7, .call [0] [] (f92_sack_Board_near_v2_out r636_1))], [true], [], [], [0]⟩ 9 ⟨[], [], [(0, [.d (.int .u32 r636_1.2.1), .d (.int .i64 r636_1.2.2.1), .d (.sl (.pair (.int .u32) (.int .u32)) r636_1.2.2.2)])], 1⟩ [FnOK Go.Proofs.Try.prog 92 (f92_sack_Board_near_v2_in x_0 x_0 x_1 x_2) (f92_sack_Board_near_v2_out r636_0), (!r636_0.1) = false, FnOK Go.Proofs.Try.prog 92 (f92_sack_Board_near_v2_in (IntKind.wrap .u32 (from_ + (IntKind.wrap .u32 many))) r636_0.2.1 r636_0.2.2.1 r636_0.2.2.2) (f92_sack_Board_near_v2_out r636_1), (!r636_1.1) = true] (by kernel_rfl) ⟨(f92_sack_Board_near_v2_ok x_0 x_0 x_1 x_2 r636_0 cr636_0), b636_4, (f92_sack_Board_near_v2_ok (IntKind.wrap .u32 (from_ + (IntKind.wrap .u32 many))) r636_0.2.1 r636_0.2.2.1 r636_0.2.2.2 r636_1 cr636_1), b636_e0, trivial⟩ ?_
              have h := Option.some.inj h
              subst h
              exact At.fin hm ht ⟨[], [], [], [6], [0]⟩ [] (by kernel_rfl) trivial
            · refine At.step hm ht ⟨[(2, .call [0] [] (f92_sack_Board_near_v2_out r636_0)), (4, .b false), (7, .call [0] [] (f92_sack_Board_near_v2_out r636_1))], [false], [], [0, 1, 7], [0]⟩ 10 ⟨[(0, .one (.c (.ptr 0 0))), (1, .one (.c (.d (.int .u32 x_0)))), (7, .one (.c (.d (.int .u32 (IntKind.wrap .u32 (from_ + (IntKind.wrap .u32 many)))))))], [], [(0, [.d (.int .u32 r636_1.2.1), .d (.int .i64 r636_1.2.2.1), .d (.sl (.pair (.int .u32) (.int .u32)) r636_1.2.2.2)])], 1⟩ [FnOK Go.Proofs.Try.prog 92 (f92_sack_Board_near_v2_in x_0 x_0 x_1 x_2) (f92_sack_Board_near_v2_out r636_0), (!r636_0.1) = false, FnOK Go.Proofs.Try.prog 92 (f92_sack_Board_near_v2_in (IntKind.wrap .u32 (from_ + (IntKind.wrap .u32 many))) r636_0.2.1 r636_0.2.2.1 r636_0.2.2.2) (f92_sack_Board_near_v2_out r636_1), (!r636_1.1) = false] (by kernel_rfl) ⟨(f92_sack_Board_near_v2_ok x_0 x_0 x_1 x_2 r636_0 cr636_0), b636_4, (f92_sack_Board_near_v2_ok (IntKind.wrap .u32 (from_ + (IntKind.wrap .u32 many))) r636_0.2.1 r636_0.2.2.1 r636_0.2.2.2 r636_1 cr636_1), b636_e0, trivial⟩ ?_
              obtain ⟨r641_0, cr641_0, h⟩ := bindS h
              have h := Option.some.inj h
              subst h
              exact At.fin hm ht ⟨[(4, .call [0] [] (f93_sack_Board_put_v2_out r641_0))], [], [], [6], [0]⟩ [FnOK Go.Proofs.Try.prog 93 (f93_sack_Board_put_v2_in x_0 (IntKind.wrap .u32 (from_ + (IntKind.wrap .u32 many))) r636_1.2.1 r636_1.2.2.1 r636_1.2.2.2) (f93_sack_Board_put_v2_out r641_0)] (by kernel_rfl) ⟨(f93_sack_Board_put_v2_ok n x_0 (IntKind.wrap .u32 (from_ + (IntKind.wrap .u32 many))) r636_1.2.1 r636_1.2.2.1 r636_1.2.2.2 r641_0 cr641_0), trivial⟩
        · refine At.step hm ht ⟨[(5, .call [] [] (f91_serial_Less_out r634_0))], [false], [], [0, 1, 7], [0]⟩ 8 ⟨[(0, .one (.c (.ptr 0 0))), (1, .one (.c (.d (.int .u32 from_)))), (7, .one (.c (.d (.int .u32 (IntKind.wrap .u32 (from_ + (IntKind.wrap .u32 many)))))))], [], [(0, [.d (.int .u32 x_0), .d (.int .i64 x_1), .d (.sl (.pair (.int .u32) (.int .u32)) x_2)])], 1⟩ [FnOK Go.Proofs.Try.prog 91 (f91_serial_Less_in from_ x_0) (f91_serial_Less_out r634_0), r634_0 = false] (by kernel_rfl) ⟨(f91_serial_Less_ok from_ x_0 r634_0 cr634_0), b634_e0, trivial⟩ ?_
          obtain ⟨r700_0, cr700_0, h⟩ := bindS h
          rcases iteS h with ⟨b700_4, h⟩ | ⟨b700_4, h⟩
          · refine At.step hm ht ⟨[(2, .call [0] [] (f92_sack_Board_near_v2_out r700_0)), (4, .b true)], [true], [], [], [0]⟩ 9 ⟨[], [], [(0, [.d (.int .u32 r700_0.2.1), .d (.int .i64 r700_0.2.2.1), .d (.sl (.pair (.int .u32) (.int .u32)) r700_0.2.2.2)])], 1⟩ [FnOK Go.Proofs.Try.prog 92 (f92_sack_Board_near_v2_in from_ x_0 x_1 x_2) (f92_sack_Board_near_v2_out r700_0), (!r700_0.1) = true, true = true] (by kernel_rfl) ⟨(f92_sack_Board_near_v2_ok from_ x_0 x_1 x_2 r700_0 cr700_0), b700_4, rfl, trivial⟩ ?_
            have h := Option.some.inj h
            subst h
            exact At.fin hm ht ⟨[], [], [], [6], [0]⟩ [] (by kernel_rfl) trivial
          · obtain ⟨r700_1, cr700_1, h⟩ := bindS h
            rcases iteS h with ⟨b700_e0, h⟩ | ⟨b700_e0, h⟩
            · refine At.step hm ht ⟨[(2, .call [0] [] (f92_sack_Board_near_v2_out r700_0)), (4, .b false), (7, .call [0] [] (f92_sack_Board_near_v2_out r700_1))], [true], [], [], [0]⟩ 9 ⟨[], [], [(0, [.d (.int .u32 r700_1.2.1), .d (.int .i64 r700_1.2.2.1), .d (.sl (.pair (.int .u32) (.int .u32)) r700_1.2.2.2)])], 1⟩ [FnOK Go.Proofs.Try.prog 92 (f92_sack_Board_near_v2_in from_ x_0 x_1 x_2) (f92_sack_Board_near_v2_out r700_0), (!r700_0.1) = false, FnOK Go.Proofs.Try.prog 92 (f92_sack_Board_near_v2_in (IntKind.wrap .u32 (from_ + (IntKind.wrap .u32 many))) r700_0.2.1 r700_0.2.2.1 r700_0.2.2.2) (f92_sack_Board_near_v2_out r700_1), (!r700_1.1) = true] (by kernel_rfl) ⟨(f92_sack_Board_near_v2_ok from_ x_0 x_1 x_2 r700_0 cr700_0), b700_4, (f92_sack_Board_near_v2_ok (IntKind.wrap .u32 (from_ + (IntKind.wrap .u32 many))) r700_0.2.1 r700_0.2.2.1 r700_0.2.2.2 r700_1 cr700_1), b700_e0, trivial⟩ ?_
              have h := Option.some.inj h
              subst h
              exact At.fin hm ht ⟨[], [], [], [6], [0]⟩ [] (by kernel_rfl) trivial
            · refine At.step hm ht ⟨[(2, .call [0] [] (f92_sack_Board_near_v2_out r700_0)), (4, .b false), (7, .call [0] [] (f92_sack_Board_near_v2_out r700_1))], [false], [], [0, 1, 7], [0]⟩ 10 ⟨[(0, .one (.c (.ptr 0 0))), (1, .one (.c (.d (.int .u32 from_)))), (7, .one (.c (.d (.int .u32 (IntKind.wrap .u32 (from_ + (IntKind.wrap .u32 many)))))))], [], [(0, [.d (.int .u32 r700_1.2.1), .d (.int .i64 r700_1.2.2.1), .d (.sl (.pair (.int .u32) (.int .u32)) r700_1.2.2.2)])], 1⟩ [FnOK Go.Proofs.Try.prog 92 (f92_sack_Board_near_v2_in from_ x_0 x_1 x_2) (f92_sack_Board_near_v2_out r700_0), (!r700_0.1) = false, FnOK Go.Proofs.Try.prog 92 (f92_sack_Board_near_v2_in (IntKind.wrap .u32 (from_ + (IntKind.wrap .u32 many))) r700_0.2.1 r700_0.2.2.1 r700_0.2.2.2) (f92_sack_Board_near_v2_out r700_1), (!r700_1.1) = false] (by kernel_rfl) ⟨(f92_sack_Board_near_v2_ok from_ x_0 x_1 x_2 r700_0 cr700_0), b700_4, (f92_sack_Board_near_v2_ok (IntKind.wrap .u32 (from_ + (IntKind.wrap .u32 many))) r700_0.2.1 r700_0.2.2.1 r700_0.2.2.2 r700_1 cr700_1), b700_e0, trivial⟩ ?_
              obtain ⟨r703_0, cr703_0, h⟩ := bindS h
              have h := Option.some.inj h
              subst h
              exact At.fin hm ht ⟨[(4, .call [0] [] (f93_sack_Board_put_v2_out r703_0))], [], [], [6], [0]⟩ [FnOK Go.Proofs.Try.prog 93 (f93_sack_Board_put_v2_in from_ (IntKind.wrap .u32 (from_ + (IntKind.wrap .u32 many))) r700_1.2.1 r700_1.2.2.1 r700_1.2.2.2) (f93_sack_Board_put_v2_out r703_0)] (by kernel_rfl) ⟨(f93_sack_Board_put_v2_ok n from_ (IntKind.wrap .u32 (from_ + (IntKind.wrap .u32 many))) r700_1.2.1 r700_1.2.2.1 r700_1.2.2.2 r703_0 cr703_0), trivial⟩
/-! (*brougham/sack.Board).Blocks -/
def f37_sack_Board_Blocks_in (x_0 : Int) (x_1 : Int) (x_2 : List (Int × Int)) : Inn := ⟨[.c (.ptr 0 0)], [], [(0, [.d (.int .u32 x_0), .d (.int .i64 x_1), .d (.sl (.pair (.int .u32) (.int .u32)) x_2)])], 1⟩
def f37_sack_Board_Blocks_out (r : (List (Int × Int)) × Int × Int × List (Int × Int)) : Out := ⟨.one (.c (.d (.sl (.pair (.int .u32) (.int .u32)) r.1))), [], [(0, [.d (.int .u32 r.2.1), .d (.int .i64 r.2.2.1), .d (.sl (.pair (.int .u32) (.int .u32)) r.2.2.2)])], 1⟩
def f37_sack_Board_Blocks (x_0 : Int) (x_1 : Int) (x_2 : List (Int × Int)) : Option ((List (Int × Int)) × Int × Int × List (Int × Int)) :=
  (f94_sack_Block x_2).bind fun r706_0 =>
  some (r706_0, x_0, x_1, x_2)
theorem f37_sack_Board_Blocks_ok (x_0 : Int) (x_1 : Int) (x_2 : List (Int × Int)) (r : (List (Int × Int)) × Int × Int × List (Int × Int)) (h : f37_sack_Board_Blocks x_0 x_1 x_2 = some r) : FnOK Go.Proofs.Try.prog 37 (f37_sack_Board_Blocks_in x_0 x_1 x_2) (f37_sack_Board_Blocks_out r) := by
  unfold f37_sack_Board_Blocks at h
  refine At.fn (r := 0) Go.Proofs.Try.func37 rfl (by kernel_rfl) rfl rfl (by kernel_rfl) ?_
  show At Go.Proofs.Try.prog Go.Proofs.Try.f37 1 0 ⟨[(0, .one (.c (.ptr 0 0)))], [], [(0, [.d (.int .u32 x_0), .d (.int .i64 x_1), .d (.sl (.pair (.int .u32) (.int .u32)) x_2)])], 1⟩ _
  refine At.step hm ht ⟨[], [], [], [0], [0]⟩ 1 ⟨[(0, .one (.c (.ptr 0 0)))], [], [(0, [.d (.int .u32 x_0), .d (.int .i64 x_1), .d (.sl (.pair (.int .u32) (.int .u32)) x_2)])], 1⟩ [] (by kernel_rfl) trivial ?_
  obtain ⟨r706_0, cr706_0, h⟩ := bindS h
  have h := Option.some.inj h
  subst h
  exact At.fin hm ht ⟨[(4, .call [] [] (f94_sack_Block_out r706_0))], [], [], [2], [0]⟩ [FnOK Go.Proofs.Try.prog 94 (f94_sack_Block_in x_2) (f94_sack_Block_out r706_0)] (by kernel_rfl) ⟨(f94_sack_Block_ok x_2 r706_0 cr706_0), trivial⟩
/-! (*brougham/sack.Board).Wait -/
def f34_sack_Board_Wait_in (x_0 : Int) (x_1 : Int) (x_2 : List (Int × Int)) : Inn := ⟨[.c (.ptr 0 0)], [], [(0, [.d (.int .u32 x_0), .d (.int .i64 x_1), .d (.sl (.pair (.int .u32) (.int .u32)) x_2)])], 1⟩
def f34_sack_Board_Wait_out (r : Int × Int × Int × List (Int × Int)) : Out := ⟨.one (.c (.d (.int .u32 r.1))), [], [(0, [.d (.int .u32 r.2.1), .d (.int .i64 r.2.2.1), .d (.sl (.pair (.int .u32) (.int .u32)) r.2.2.2)])], 1⟩
def f34_sack_Board_Wait (x_0 : Int) (x_1 : Int) (x_2 : List (Int × Int)) : Option (Int × Int × Int × List (Int × Int)) :=
  some (x_0, x_0, x_1, x_2)
theorem f34_sack_Board_Wait_ok (x_0 : Int) (x_1 : Int) (x_2 : List (Int × Int)) (r : Int × Int × Int × List (Int × Int)) (h : f34_sack_Board_Wait x_0 x_1 x_2 = some r) : FnOK Go.Proofs.Try.prog 34 (f34_sack_Board_Wait_in x_0 x_1 x_2) (f34_sack_Board_Wait_out r) := by
  unfold f34_sack_Board_Wait at h
  refine At.fn (r := 0) Go.Proofs.Try.func34 rfl (by kernel_rfl) rfl rfl (by kernel_rfl) ?_
  show At Go.Proofs.Try.prog Go.Proofs.Try.f34 1 0 ⟨[(0, .one (.c (.ptr 0 0)))], [], [(0, [.d (.int .u32 x_0), .d (.int .i64 x_1), .d (.sl (.pair (.int .u32) (.int .u32)) x_2)])], 1⟩ _
  refine At.step hm ht ⟨[], [], [], [0], [0]⟩ 1 ⟨[(0, .one (.c (.ptr 0 0)))], [], [(0, [.d (.int .u32 x_0), .d (.int .i64 x_1), .d (.sl (.pair (.int .u32) (.int .u32)) x_2)])], 1⟩ [] (by kernel_rfl) trivial ?_
  have h := Option.some.inj h
  subst h
  exact At.fin hm ht ⟨[], [], [], [2], [0]⟩ [] (by kernel_rfl) trivial
/-! brougham/broughamlaw31.alive -/
def f41_broughamlaw31_alive_in : Inn := ⟨[], [], [], 0⟩
def f41_broughamlaw31_alive_out (r : Bool) : Out := ⟨.one (.c (.d (.bool r))), [], [], 0⟩
def f41_broughamlaw31_alive (n : Nat) : Option (Bool) :=
  (f31_sack_New 5 4).bind fun r477_0 =>
  (f33_sack_Board_Came n 7 2 r477_0.1 r477_0.2).bind fun r481_0 =>
  (f33_sack_Board_Came_v2 n 5 1 r481_0.2.1 r481_0.2.2.1 r481_0.2.2.2).bind fun r626_0 =>
  (f37_sack_Board_Blocks r626_0.2.1 r626_0.2.2.1 r626_0.2.2.2).bind fun r704_0 =>
  (f34_sack_Board_Wait r704_0.2.1 r704_0.2.2.1 r704_0.2.2.2).bind fun r707_0 =>
  (f33_sack_Board_Came_v2 n 6 1 r707_0.2.1 r707_0.2.2.1 r707_0.2.2.2).bind fun r710_0 =>
  if r481_0.1 = true then
    if r626_0.1 = true then
      if ((((r704_0.1.length : Nat) : Int) : Int) == 1) = true then
        if (0 : Int) ≤ 0 ∧ 0 < (((r704_0.1).length : Nat) : Int) then
        if (((((r704_0.1.getD 0 (0, 0)).1) : Int) == 7) && ((((r704_0.1.getD 0 (0, 0)).2) : Int) == 9)) = true then
          if ((r707_0.1 : Int) == 6) = true then
            if r710_0.1 = true then
              (f34_sack_Board_Wait r710_0.2.1 r710_0.2.2.1 r710_0.2.2.2).bind fun r711_1 =>
              if ((r711_1.1 : Int) == 9) = true then
                some true
              else
                some false
            else
              some false
          else
            some false
        else
          some false
        else none
      else
        some false
    else
      some false
  else
    some false
theorem f41_broughamlaw31_alive_ok (n : Nat) (r : Bool) (h : f41_broughamlaw31_alive n = some r) : FnOK Go.Proofs.Try.prog 41 (f41_broughamlaw31_alive_in) (f41_broughamlaw31_alive_out r) := by
  unfold f41_broughamlaw31_alive at h
  refine At.fn (r := 0) Go.Proofs.Try.func41 rfl (by kernel_rfl) rfl rfl (by kernel_rfl) ?_
  show At Go.Proofs.Try.prog Go.Proofs.Try.f41 0 0 ⟨[], [], [], 0⟩ _
  refine At.step hm ht ⟨[], [], [], [], []⟩ 1 ⟨[], [], [], 0⟩ [] (by kernel_rfl) trivial ?_
  obtain ⟨r477_0, cr477_0, h⟩ := bindS h
  refine At.step hm ht ⟨[(0, .call [] [] (f31_sack_New_out r477_0))], [], [], [1], [0]⟩ 2 ⟨[(1, .one (.c (.ptr 0 0)))], [], [(0, [.d (.int .u32 r477_0.1), .d (.int .i64 r477_0.2), .d (.sl .unit [])])], 1⟩ [FnOK Go.Proofs.Try.prog 31 (f31_sack_New_in 5 4) (f31_sack_New_out r477_0)] (by kernel_rfl) ⟨(f31_sack_New_ok 5 4 r477_0 cr477_0), trivial⟩ ?_
  refine At.step hm ht ⟨[], [false], [], [1], [0]⟩ 4 ⟨[(1, .one (.c (.ptr 0 0)))], [], [(0, [.d (.int .u32 r477_0.1), .d (.int .i64 r477_0.2), .d (.sl .unit [])])], 1⟩ [false = false] (by kernel_rfl) ⟨rfl, trivial⟩ ?_
  obtain ⟨r481_0, cr481_0, h⟩ := bindS h
  refine At.step hm ht ⟨[(1, .call [0] [] (f33_sack_Board_Came_out r481_0))], [], [], [1, 2], [0]⟩ 5 ⟨[(1, .one (.c (.ptr 0 0))), (2, .one (.c (.d (.bool r481_0.1))))], [], [(0, [.d (.int .u32 r481_0.2.1), .d (.int .i64 r481_0.2.2.1), .d (.sl (.pair (.int .u32) (.int .u32)) r481_0.2.2.2)])], 1⟩ [FnOK Go.Proofs.Try.prog 33 (f33_sack_Board_Came_in 7 2 r477_0.1 r477_0.2) (f33_sack_Board_Came_out r481_0)] (by kernel_rfl) ⟨(f33_sack_Board_Came_ok n 7 2 r477_0.1 r477_0.2 r481_0 cr481_0), trivial⟩ ?_
  obtain ⟨r626_0, cr626_0, h⟩ := bindS h
  refine At.step hm ht ⟨[(1, .call [0] [] (f33_sack_Board_Came_v2_out r626_0))], [], [], [1, 2, 3], [0]⟩ 6 ⟨[(1, .one (.c (.ptr 0 0))), (2, .one (.c (.d (.bool r481_0.1)))), (3, .one (.c (.d (.bool r626_0.1))))], [], [(0, [.d (.int .u32 r626_0.2.1), .d (.int .i64 r626_0.2.2.1), .d (.sl (.pair (.int .u32) (.int .u32)) r626_0.2.2.2)])], 1⟩ [FnOK Go.Proofs.Try.prog 33 (f33_sack_Board_Came_v2_in 5 1 r481_0.2.1 r481_0.2.2.1 r481_0.2.2.2) (f33_sack_Board_Came_v2_out r626_0)] (by kernel_rfl) ⟨(f33_sack_Board_Came_v2_ok n 5 1 r481_0.2.1 r481_0.2.2.1 r481_0.2.2.2 r626_0 cr626_0), trivial⟩ ?_
  obtain ⟨r704_0, cr704_0, h⟩ := bindS h
  refine At.step hm ht ⟨[(1, .call [0] [] (f37_sack_Board_Blocks_out r704_0))], [], [], [1, 2, 3, 4], [0]⟩ 7 ⟨[(1, .one (.c (.ptr 0 0))), (2, .one (.c (.d (.bool r481_0.1)))), (3, .one (.c (.d (.bool r626_0.1)))), (4, .one (.c (.d (.sl (.pair (.int .u32) (.int .u32)) r704_0.1))))], [], [(0, [.d (.int .u32 r704_0.2.1), .d (.int .i64 r704_0.2.2.1), .d (.sl (.pair (.int .u32) (.int .u32)) r704_0.2.2.2)])], 1⟩ [FnOK Go.Proofs.Try.prog 37 (f37_sack_Board_Blocks_in r626_0.2.1 r626_0.2.2.1 r626_0.2.2.2) (f37_sack_Board_Blocks_out r704_0)] (by kernel_rfl) ⟨(f37_sack_Board_Blocks_ok r626_0.2.1 r626_0.2.2.1 r626_0.2.2.2 r704_0 cr704_0), trivial⟩ ?_
  obtain ⟨r707_0, cr707_0, h⟩ := bindS h
  refine At.step hm ht ⟨[(1, .call [0] [] (f34_sack_Board_Wait_out r707_0))], [], [], [1, 2, 3, 4, 5], [0]⟩ 8 ⟨[(1, .one (.c (.ptr 0 0))), (2, .one (.c (.d (.bool r481_0.1)))), (3, .one (.c (.d (.bool r626_0.1)))), (4, .one (.c (.d (.sl (.pair (.int .u32) (.int .u32)) r704_0.1)))), (5, .one (.c (.d (.int .u32 r707_0.1))))], [], [(0, [.d (.int .u32 r707_0.2.1), .d (.int .i64 r707_0.2.2.1), .d (.sl (.pair (.int .u32) (.int .u32)) r707_0.2.2.2)])], 1⟩ [FnOK Go.Proofs.Try.prog 34 (f34_sack_Board_Wait_in r704_0.2.1 r704_0.2.2.1 r704_0.2.2.2) (f34_sack_Board_Wait_out r707_0)] (by kernel_rfl) ⟨(f34_sack_Board_Wait_ok r704_0.2.1 r704_0.2.2.1 r704_0.2.2.2 r707_0 cr707_0), trivial⟩ ?_
  obtain ⟨r710_0, cr710_0, h⟩ := bindS h
  refine At.step hm ht ⟨[(1, .call [0] [] (f33_sack_Board_Came_v2_out r710_0))], [], [], [1, 2, 3, 4, 5, 6], [0]⟩ 9 ⟨[(1, .one (.c (.ptr 0 0))), (2, .one (.c (.d (.bool r481_0.1)))), (3, .one (.c (.d (.bool r626_0.1)))), (4, .one (.c (.d (.sl (.pair (.int .u32) (.int .u32)) r704_0.1)))), (5, .one (.c (.d (.int .u32 r707_0.1)))), (6, .one (.c (.d (.bool r710_0.1))))], [], [(0, [.d (.int .u32 r710_0.2.1), .d (.int .i64 r710_0.2.2.1), .d (.sl (.pair (.int .u32) (.int .u32)) r710_0.2.2.2)])], 1⟩ [FnOK Go.Proofs.Try.prog 33 (f33_sack_Board_Came_v2_in 6 1 r707_0.2.1 r707_0.2.2.1 r707_0.2.2.2) (f33_sack_Board_Came_v2_out r710_0)] (by kernel_rfl) ⟨(f33_sack_Board_Came_v2_ok n 6 1 r707_0.2.1 r707_0.2.2.1 r707_0.2.2.2 r710_0 cr710_0), trivial⟩ ?_
  rcases iteS h with ⟨b711_1, h⟩ | ⟨b711_1, h⟩
  · rcases iteS h with ⟨b711_4, h⟩ | ⟨b711_4, h⟩
    · rcases iteS h with ⟨b711_9, h⟩ | ⟨b711_9, h⟩
      · obtain ⟨g711_0, h⟩ := ifS h
        rcases iteS h with ⟨b711_16, h⟩ | ⟨b711_16, h⟩
        · rcases iteS h with ⟨b711_20, h⟩ | ⟨b711_20, h⟩
          · rcases iteS h with ⟨b711_23, h⟩ | ⟨b711_23, h⟩
            · obtain ⟨r711_1, cr711_1, h⟩ := bindS h
              rcases iteS h with ⟨b711_28, h⟩ | ⟨b711_28, h⟩
              · have h := Option.some.inj h
                subst h
                exact At.fin hm ht ⟨[(1, .b true), (4, .b true), (9, .b true), (16, .b true), (20, .b true), (23, .b true), (25, .call [0] [] (f34_sack_Board_Wait_out r711_1)), (28, .b true)], [], [], [0], []⟩ [r481_0.1 = true, r626_0.1 = true, ((((r704_0.1.length : Nat) : Int) : Int) == 1) = true, (0 : Int) ≤ 0 ∧ 0 < (((r704_0.1).length : Nat) : Int), (((((r704_0.1.getD 0 (0, 0)).1) : Int) == 7) && ((((r704_0.1.getD 0 (0, 0)).2) : Int) == 9)) = true, ((r707_0.1 : Int) == 6) = true, r710_0.1 = true, FnOK Go.Proofs.Try.prog 34 (f34_sack_Board_Wait_in r710_0.2.1 r710_0.2.2.1 r710_0.2.2.2) (f34_sack_Board_Wait_out r711_1), ((r711_1.1 : Int) == 9) = true] (by kernel_rfl) ⟨b711_1, b711_4, b711_9, g711_0, b711_16, b711_20, b711_23, (f34_sack_Board_Wait_ok r710_0.2.1 r710_0.2.2.1 r710_0.2.2.2 r711_1 cr711_1), b711_28, trivial⟩
              · have h := Option.some.inj h
                subst h
                exact At.fin hm ht ⟨[(1, .b true), (4, .b true), (9, .b true), (16, .b true), (20, .b true), (23, .b true), (25, .call [0] [] (f34_sack_Board_Wait_out r711_1)), (28, .b false)], [], [], [0], []⟩ [r481_0.1 = true, r626_0.1 = true, ((((r704_0.1.length : Nat) : Int) : Int) == 1) = true, (0 : Int) ≤ 0 ∧ 0 < (((r704_0.1).length : Nat) : Int), (((((r704_0.1.getD 0 (0, 0)).1) : Int) == 7) && ((((r704_0.1.getD 0 (0, 0)).2) : Int) == 9)) = true, ((r707_0.1 : Int) == 6) = true, r710_0.1 = true, FnOK Go.Proofs.Try.prog 34 (f34_sack_Board_Wait_in r710_0.2.1 r710_0.2.2.1 r710_0.2.2.2) (f34_sack_Board_Wait_out r711_1), ((r711_1.1 : Int) == 9) = false] (by kernel_rfl) ⟨b711_1, b711_4, b711_9, g711_0, b711_16, b711_20, b711_23, (f34_sack_Board_Wait_ok r710_0.2.1 r710_0.2.2.1 r710_0.2.2.2 r711_1 cr711_1), b711_28, trivial⟩
            · have h := Option.some.inj h
              subst h
              exact At.fin hm ht ⟨[(1, .b true), (4, .b true), (9, .b true), (16, .b true), (20, .b true), (23, .b false)], [], [], [0], []⟩ [r481_0.1 = true, r626_0.1 = true, ((((r704_0.1.length : Nat) : Int) : Int) == 1) = true, (0 : Int) ≤ 0 ∧ 0 < (((r704_0.1).length : Nat) : Int), (((((r704_0.1.getD 0 (0, 0)).1) : Int) == 7) && ((((r704_0.1.getD 0 (0, 0)).2) : Int) == 9)) = true, ((r707_0.1 : Int) == 6) = true, r710_0.1 = false] (by kernel_rfl) ⟨b711_1, b711_4, b711_9, g711_0, b711_16, b711_20, b711_23, trivial⟩
          · have h := Option.some.inj h
            subst h
            exact At.fin hm ht ⟨[(1, .b true), (4, .b true), (9, .b true), (16, .b true), (20, .b false)], [], [], [0], []⟩ [r481_0.1 = true, r626_0.1 = true, ((((r704_0.1.length : Nat) : Int) : Int) == 1) = true, (0 : Int) ≤ 0 ∧ 0 < (((r704_0.1).length : Nat) : Int), (((((r704_0.1.getD 0 (0, 0)).1) : Int) == 7) && ((((r704_0.1.getD 0 (0, 0)).2) : Int) == 9)) = true, ((r707_0.1 : Int) == 6) = false] (by kernel_rfl) ⟨b711_1, b711_4, b711_9, g711_0, b711_16, b711_20, trivial⟩
        · have h := Option.some.inj h
          subst h
          exact At.fin hm ht ⟨[(1, .b true), (4, .b true), (9, .b true), (16, .b false)], [], [], [0], []⟩ [r481_0.1 = true, r626_0.1 = true, ((((r704_0.1.length : Nat) : Int) : Int) == 1) = true, (0 : Int) ≤ 0 ∧ 0 < (((r704_0.1).length : Nat) : Int), (((((r704_0.1.getD 0 (0, 0)).1) : Int) == 7) && ((((r704_0.1.getD 0 (0, 0)).2) : Int) == 9)) = false] (by kernel_rfl) ⟨b711_1, b711_4, b711_9, g711_0, b711_16, trivial⟩
      · have h := Option.some.inj h
        subst h
        exact At.fin hm ht ⟨[(1, .b true), (4, .b true), (9, .b false)], [], [], [0], []⟩ [r481_0.1 = true, r626_0.1 = true, ((((r704_0.1.length : Nat) : Int) : Int) == 1) = false] (by kernel_rfl) ⟨b711_1, b711_4, b711_9, trivial⟩
    · have h := Option.some.inj h
      subst h
      exact At.fin hm ht ⟨[(1, .b true), (4, .b false)], [], [], [0], []⟩ [r481_0.1 = true, r626_0.1 = false] (by kernel_rfl) ⟨b711_1, b711_4, trivial⟩
  · have h := Option.some.inj h
    subst h
    exact At.fin hm ht ⟨[(1, .b false)], [], [], [0], []⟩ [r481_0.1 = false] (by kernel_rfl) ⟨b711_1, trivial⟩
/-! brougham/broughamlaw31.SackSays -/
def f9_broughamlaw31_SackSays_in (wait : Int) (l : List (Int × Int)) (o__0 : Int) (o__1 : List Int) : Inn := ⟨[.c (.d (.int .u32 wait)), .c (.d (.sl (.pair (.int .u32) (.int .u32)) l)), .agg [.d (.int .u8 o__0), .d (.sl (.int .u8) o__1)]], [], [], 0⟩
def f9_broughamlaw31_SackSays_out (r : Bool) : Out := ⟨.one (.c (.d (.bool r))), [], [], 0⟩
def f9_broughamlaw31_SackSays (n : Nat) (wait : Int) (l : List (Int × Int)) (o__0 : Int) (o__1 : List Int) : Option (Bool) :=
  if (decide ((((l.length : Nat) : Int) : Int) > 60)) = true then
    some true
  else
    if (decide ((((o__1.length : Nat) : Int) : Int) > 300)) = true then
      some true
    else
      (f44_sack_Option n wait l).bind fun r5_0 =>
      (f36_broughamlaw31_plain n l).bind fun r87_0 =>
      (f40_broughamref31_Option n wait r87_0).bind fun r87_1 =>
      if r87_1.2 = true then
        (f45_sack_Parse n wait o__0 o__1).bind fun r201_0 =>
        (f46_broughamref31_Parse n wait o__0 o__1).bind fun r338_0 =>
        (f47_sack_Right n wait l).bind fun r461_0 =>
        (f36_broughamlaw31_plain n l).bind fun r461_1 =>
        (f48_broughamref31_Right n wait r461_1).bind fun r461_2 =>
        if (r461_0 == r461_2) = true then
          if (r5_0.1 == r87_1.2) = true then
            (f49_broughamref07_SameOption r5_0.2.1 r5_0.2.2 9 r87_1.1).bind fun r461_3 =>
            if r461_3 = true then
              if (r201_0.2 == r338_0.2) = true then
                (f36_broughamlaw31_plain n r201_0.1).bind fun r461_4 =>
                (f35_broughamlaw31_same n r461_4 r338_0.1).bind fun r461_5 =>
                if r461_5 = true then
                  (f41_broughamlaw31_alive n).bind fun r461_6 =>
                  some r461_6
                else
                  some false
              else
                some false
            else
              some false
          else
            some false
        else
          some false
      else
        (f45_sack_Parse n wait o__0 o__1).bind fun r712_0 =>
        (f46_broughamref31_Parse n wait o__0 o__1).bind fun r713_0 =>
        (f47_sack_Right n wait l).bind fun r714_0 =>
        (f36_broughamlaw31_plain n l).bind fun r714_1 =>
        (f48_broughamref31_Right n wait r714_1).bind fun r714_2 =>
        if (r714_0 == r714_2) = true then
          if (r5_0.1 == r87_1.2) = true then
            (f49_broughamref07_SameOption r5_0.2.1 r5_0.2.2 0 []).bind fun r714_3 =>
            if r714_3 = true then
              if (r712_0.2 == r713_0.2) = true then
                (f36_broughamlaw31_plain n r712_0.1).bind fun r714_4 =>
                (f35_broughamlaw31_same n r714_4 r713_0.1).bind fun r714_5 =>
                if r714_5 = true then
                  (f41_broughamlaw31_alive n).bind fun r714_6 =>
                  some r714_6
                else
                  some false
              else
                some false
            else
              some false
          else
            some false
        else
          some false
theorem f9_broughamlaw31_SackSays_ok (n : Nat) (wait : Int) (l : List (Int × Int)) (o__0 : Int) (o__1 : List Int) (r : Bool) (h : f9_broughamlaw31_SackSays n wait l o__0 o__1 = some r) : FnOK Go.Proofs.Try.prog 9 (f9_broughamlaw31_SackSays_in wait l o__0 o__1) (f9_broughamlaw31_SackSays_out r) := by
  unfold f9_broughamlaw31_SackSays at h
  refine At.fn (r := 0) Go.Proofs.Try.func9 rfl (by kernel_rfl) rfl rfl (by kernel_rfl) ?_
  show At Go.Proofs.Try.prog Go.Proofs.Try.f9 0 0 ⟨[(0, .one (.c (.d (.int .u32 wait)))), (1, .one (.c (.d (.sl (.pair (.int .u32) (.int .u32)) l)))), (2, .one (.agg [.d (.int .u8 o__0), .d (.sl (.int .u8) o__1)]))], [], [], 0⟩ _
  refine At.step hm ht ⟨[], [], [], [0, 1, 5], [0]⟩ 1 ⟨[(0, .one (.c (.d (.int .u32 wait)))), (1, .one (.c (.d (.sl (.pair (.int .u32) (.int .u32)) l)))), (5, .one (.c (.ptr 0 0)))], [], [(0, [.d (.int .u8 o__0), .d (.sl (.int .u8) o__1)])], 1⟩ [] (by kernel_rfl) trivial ?_
  rcases iteS h with ⟨b2_3, h⟩ | ⟨b2_3, h⟩
  · refine At.step hm ht ⟨[(3, .b true)], [true], [], [], []⟩ 2 ⟨[], [], [], 0⟩ [(decide ((((l.length : Nat) : Int) : Int) > 60)) = true, true = true] (by kernel_rfl) ⟨b2_3, rfl, trivial⟩ ?_
    have h := Option.some.inj h
    subst h
    exact At.fin hm ht ⟨[], [], [], [6], []⟩ [] (by kernel_rfl) trivial
  · rcases iteS h with ⟨b2_e0, h⟩ | ⟨b2_e0, h⟩
    · refine At.step hm ht ⟨[(3, .b false)], [true], [], [], []⟩ 2 ⟨[], [], [], 0⟩ [(decide ((((l.length : Nat) : Int) : Int) > 60)) = false, (decide ((((o__1.length : Nat) : Int) : Int) > 300)) = true] (by kernel_rfl) ⟨b2_3, b2_e0, trivial⟩ ?_
      have h := Option.some.inj h
      subst h
      exact At.fin hm ht ⟨[], [], [], [6], []⟩ [] (by kernel_rfl) trivial
    · refine At.step hm ht ⟨[(3, .b false)], [false], [], [0, 1, 5], [0]⟩ 3 ⟨[(0, .one (.c (.d (.int .u32 wait)))), (1, .one (.c (.d (.sl (.pair (.int .u32) (.int .u32)) l)))), (5, .one (.c (.ptr 0 0)))], [], [(0, [.d (.int .u8 o__0), .d (.sl (.int .u8) o__1)])], 1⟩ [(decide ((((l.length : Nat) : Int) : Int) > 60)) = false, (decide ((((o__1.length : Nat) : Int) : Int) > 300)) = false] (by kernel_rfl) ⟨b2_3, b2_e0, trivial⟩ ?_
      obtain ⟨r5_0, cr5_0, h⟩ := bindS h
      refine At.step hm ht ⟨[(2, .call [] [] (f44_sack_Option_out r5_0))], [], [], [0, 1, 5, 7, 8], [0, 8, 4]⟩ 4 ⟨[(0, .one (.c (.d (.int .u32 wait)))), (1, .one (.c (.d (.sl (.pair (.int .u32) (.int .u32)) l)))), (5, .one (.c (.ptr 0 0))), (7, .one (.c (.ptr 1 0))), (8, .one (.c (.d (.bool r5_0.1))))], [(2, some ⟨5, 0⟩)], [(0, [.d (.int .u8 o__0), .d (.sl (.int .u8) o__1)]), (1, [.d (.int .u8 r5_0.2.1), .own 2 (.int .u8) r5_0.2.2])], 3⟩ [FnOK Go.Proofs.Try.prog 44 (f44_sack_Option_in wait l) (f44_sack_Option_out r5_0), 0 + 2 ≤ 2] (by kernel_rfl) ⟨(f44_sack_Option_ok n wait l r5_0 cr5_0), (by decide), trivial⟩ ?_
      obtain ⟨r87_0, cr87_0, h⟩ := bindS h
      obtain ⟨r87_1, cr87_1, h⟩ := bindS h
      refine At.step hm ht ⟨[(2, .call [] [] (f36_broughamlaw31_plain_out r87_0)), (3, .call [] [] (f40_broughamref31_Option_out r87_1))], [], [], [0, 1, 5, 7, 8, 9, 10], [0, 1, 6, 2]⟩ 5 ⟨[(0, .one (.c (.d (.int .u32 wait)))), (1, .one (.c (.d (.sl (.pair (.int .u32) (.int .u32)) l)))), (5, .one (.c (.ptr 0 0))), (7, .one (.c (.ptr 1 0))), (8, .one (.c (.d (.bool r5_0.1)))), (9, .one (.c (.own 2 (.int .u8) r87_1.1))), (10, .one (.c (.d (.bool r87_1.2))))], [(2, some ⟨5, 0⟩), (3, some ⟨5, 0⟩)], [(0, [.d (.int .u8 o__0), .d (.sl (.int .u8) o__1)]), (1, [.d (.int .u8 r5_0.2.1), .own 3 (.int .u8) r5_0.2.2])], 4⟩ [FnOK Go.Proofs.Try.prog 36 (f36_broughamlaw31_plain_in l) (f36_broughamlaw31_plain_out r87_0), FnOK Go.Proofs.Try.prog 40 (f40_broughamref31_Option_in wait r87_0) (f40_broughamref31_Option_out r87_1)] (by kernel_rfl) ⟨(f36_broughamlaw31_plain_ok n l r87_0 cr87_0), (f40_broughamref31_Option_ok n wait r87_0 r87_1 cr87_1), trivial⟩ ?_
      refine At.step hm ht ⟨[], [], [], [0, 1, 5, 7, 8, 9, 10, 11], [0, 1, 2, 5, 3]⟩ 6 ⟨[(0, .one (.c (.d (.int .u32 wait)))), (1, .one (.c (.d (.sl (.pair (.int .u32) (.int .u32)) l)))), (5, .one (.c (.ptr 0 0))), (7, .one (.c (.ptr 1 0))), (8, .one (.c (.d (.bool r5_0.1)))), (9, .one (.c (.own 2 (.int .u8) r87_1.1))), (10, .one (.c (.d (.bool r87_1.2)))), (11, .one (.c (.ptr 3 0)))], [(2, some ⟨5, 0⟩), (4, some ⟨5, 0⟩)], [(0, [.d (.int .u8 o__0), .d (.sl (.int .u8) o__1)]), (1, [.d (.int .u8 r5_0.2.1), .own 4 (.int .u8) r5_0.2.2]), (3, [.d (.int .u8 0), .d (.sl .unit [])])], 5⟩ [0 + 2 ≤ 2] (by kernel_rfl) ⟨(by decide), trivial⟩ ?_
      rcases iteS h with ⟨b199_e0, h⟩ | ⟨b199_e0, h⟩
      · refine At.step hm ht ⟨[], [true], [], [0, 1, 5, 7, 8, 9, 10, 11], [0, 1, 2, 3, 4]⟩ 7 ⟨[(0, .one (.c (.d (.int .u32 wait)))), (1, .one (.c (.d (.sl (.pair (.int .u32) (.int .u32)) l)))), (5, .one (.c (.ptr 0 0))), (7, .one (.c (.ptr 1 0))), (8, .one (.c (.d (.bool r5_0.1)))), (9, .one (.c (.own 2 (.int .u8) r87_1.1))), (10, .one (.c (.d (.bool r87_1.2)))), (11, .one (.c (.ptr 3 0)))], [(2, some ⟨5, 0⟩), (4, some ⟨5, 0⟩)], [(0, [.d (.int .u8 o__0), .d (.sl (.int .u8) o__1)]), (1, [.d (.int .u8 r5_0.2.1), .own 4 (.int .u8) r5_0.2.2]), (3, [.d (.int .u8 0), .d (.sl .unit [])])], 5⟩ [r87_1.2 = true] (by kernel_rfl) ⟨b199_e0, trivial⟩ ?_
        refine At.step hm ht ⟨[], [], [], [0, 1, 5, 7, 8, 10, 11], [0, 1, 3, 4, 2]⟩ 8 ⟨[(0, .one (.c (.d (.int .u32 wait)))), (1, .one (.c (.d (.sl (.pair (.int .u32) (.int .u32)) l)))), (5, .one (.c (.ptr 0 0))), (7, .one (.c (.ptr 1 0))), (8, .one (.c (.d (.bool r5_0.1)))), (10, .one (.c (.d (.bool r87_1.2)))), (11, .one (.c (.ptr 2 0)))], [(3, some ⟨5, 0⟩), (4, some ⟨5, 0⟩)], [(0, [.d (.int .u8 o__0), .d (.sl (.int .u8) o__1)]), (1, [.d (.int .u8 r5_0.2.1), .own 3 (.int .u8) r5_0.2.2]), (2, [.d (.int .u8 9), .own 4 (.int .u8) r87_1.1])], 5⟩ [0 + 2 ≤ 2] (by kernel_rfl) ⟨(by decide), trivial⟩ ?_
        obtain ⟨r201_0, cr201_0, h⟩ := bindS h
        refine At.step hm ht ⟨[(2, .call [] [] (f45_sack_Parse_out r201_0))], [], [], [0, 1, 5, 7, 8, 10, 11, 12, 13], [0, 1, 2, 7, 3, 4]⟩ 9 ⟨[(0, .one (.c (.d (.int .u32 wait)))), (1, .one (.c (.d (.sl (.pair (.int .u32) (.int .u32)) l)))), (5, .one (.c (.ptr 0 0))), (7, .one (.c (.ptr 1 0))), (8, .one (.c (.d (.bool r5_0.1)))), (10, .one (.c (.d (.bool r87_1.2)))), (11, .one (.c (.ptr 2 0))), (12, .one (.c (.own 3 (.pair (.int .u32) (.int .u32)) r201_0.1))), (13, .one (.c (.d (.bool r201_0.2))))], [(3, some ⟨160, 0⟩), (4, some ⟨5, 0⟩), (5, some ⟨5, 0⟩)], [(0, [.d (.int .u8 o__0), .d (.sl (.int .u8) o__1)]), (1, [.d (.int .u8 r5_0.2.1), .own 4 (.int .u8) r5_0.2.2]), (2, [.d (.int .u8 9), .own 5 (.int .u8) r87_1.1])], 6⟩ [FnOK Go.Proofs.Try.prog 45 (f45_sack_Parse_in wait o__0 o__1) (f45_sack_Parse_out r201_0)] (by kernel_rfl) ⟨(f45_sack_Parse_ok n wait o__0 o__1 r201_0 cr201_0), trivial⟩ ?_
        obtain ⟨r338_0, cr338_0, h⟩ := bindS h
        refine At.step hm ht ⟨[(2, .call [] [] (f46_broughamref31_Parse_out r338_0))], [], [], [0, 1, 7, 8, 10, 11, 12, 13, 14, 15], [1, 2, 3, 8, 4, 5]⟩ 10 ⟨[(0, .one (.c (.d (.int .u32 wait)))), (1, .one (.c (.d (.sl (.pair (.int .u32) (.int .u32)) l)))), (7, .one (.c (.ptr 0 0))), (8, .one (.c (.d (.bool r5_0.1)))), (10, .one (.c (.d (.bool r87_1.2)))), (11, .one (.c (.ptr 1 0))), (12, .one (.c (.own 2 (.pair (.int .u32) (.int .u32)) r201_0.1))), (13, .one (.c (.d (.bool r201_0.2)))), (14, .one (.c (.own 3 (.pair (.int .u32) (.int .u32)) r338_0.1))), (15, .one (.c (.d (.bool r338_0.2))))], [(2, some ⟨160, 0⟩), (3, some ⟨161, 0⟩), (4, some ⟨5, 0⟩), (5, some ⟨5, 0⟩)], [(0, [.d (.int .u8 r5_0.2.1), .own 4 (.int .u8) r5_0.2.2]), (1, [.d (.int .u8 9), .own 5 (.int .u8) r87_1.1])], 6⟩ [FnOK Go.Proofs.Try.prog 46 (f46_broughamref31_Parse_in wait o__0 o__1) (f46_broughamref31_Parse_out r338_0)] (by kernel_rfl) ⟨(f46_broughamref31_Parse_ok n wait o__0 o__1 r338_0 cr338_0), trivial⟩ ?_
        obtain ⟨r461_0, cr461_0, h⟩ := bindS h
        obtain ⟨r461_1, cr461_1, h⟩ := bindS h
        obtain ⟨r461_2, cr461_2, h⟩ := bindS h
        rcases iteS h with ⟨b461_8, h⟩ | ⟨b461_8, h⟩
        · rcases iteS h with ⟨b461_13, h⟩ | ⟨b461_13, h⟩
          · obtain ⟨r461_3, cr461_3, h⟩ := bindS h
            rcases iteS h with ⟨b461_18, h⟩ | ⟨b461_18, h⟩
            · rcases iteS h with ⟨b461_23, h⟩ | ⟨b461_23, h⟩
              · obtain ⟨r461_4, cr461_4, h⟩ := bindS h
                obtain ⟨r461_5, cr461_5, h⟩ := bindS h
                rcases iteS h with ⟨b461_29, h⟩ | ⟨b461_29, h⟩
                · obtain ⟨r461_6, cr461_6, h⟩ := bindS h
                  have h := Option.some.inj h
                  subst h
                  exact At.fin hm ht ⟨[(2, .call [] [] (f47_sack_Right_out r461_0)), (5, .call [] [] (f36_broughamlaw31_plain_out r461_1)), (6, .call [] [] (f48_broughamref31_Right_out r461_2)), (8, .b true), (13, .b true), (16, .call [] [] (f49_broughamref07_SameOption_out r461_3)), (18, .b true), (23, .b true), (25, .call [] [] (f36_broughamlaw31_plain_out r461_4)), (27, .call [] [] (f35_broughamlaw31_same_out r461_5)), (29, .b true), (30, .call [] [] (f41_broughamlaw31_alive_out r461_6))], [], [], [6], []⟩ [FnOK Go.Proofs.Try.prog 47 (f47_sack_Right_in wait l) (f47_sack_Right_out r461_0), FnOK Go.Proofs.Try.prog 36 (f36_broughamlaw31_plain_in l) (f36_broughamlaw31_plain_out r461_1), FnOK Go.Proofs.Try.prog 48 (f48_broughamref31_Right_in wait r461_1) (f48_broughamref31_Right_out r461_2), (r461_0 == r461_2) = true, (r5_0.1 == r87_1.2) = true, FnOK Go.Proofs.Try.prog 49 (f49_broughamref07_SameOption_in r5_0.2.1 r5_0.2.2 9 r87_1.1) (f49_broughamref07_SameOption_out r461_3), r461_3 = true, (r201_0.2 == r338_0.2) = true, FnOK Go.Proofs.Try.prog 36 (f36_broughamlaw31_plain_in r201_0.1) (f36_broughamlaw31_plain_out r461_4), FnOK Go.Proofs.Try.prog 35 (f35_broughamlaw31_same_in r461_4 r338_0.1) (f35_broughamlaw31_same_out r461_5), r461_5 = true, FnOK Go.Proofs.Try.prog 41 (f41_broughamlaw31_alive_in) (f41_broughamlaw31_alive_out r461_6)] (by kernel_rfl) ⟨(f47_sack_Right_ok n wait l r461_0 cr461_0), (f36_broughamlaw31_plain_ok n l r461_1 cr461_1), (f48_broughamref31_Right_ok n wait r461_1 r461_2 cr461_2), b461_8, b461_13, (f49_broughamref07_SameOption_ok r5_0.2.1 r5_0.2.2 9 r87_1.1 r461_3 cr461_3), b461_18, b461_23, (f36_broughamlaw31_plain_ok n r201_0.1 r461_4 cr461_4), (f35_broughamlaw31_same_ok n r461_4 r338_0.1 r461_5 cr461_5), b461_29, (f41_broughamlaw31_alive_ok n r461_6 cr461_6), trivial⟩
                · have h := Option.some.inj h
                  subst h
                  exact At.fin hm ht ⟨[(2, .call [] [] (f47_sack_Right_out r461_0)), (5, .call [] [] (f36_broughamlaw31_plain_out r461_1)), (6, .call [] [] (f48_broughamref31_Right_out r461_2)), (8, .b true), (13, .b true), (16, .call [] [] (f49_broughamref07_SameOption_out r461_3)), (18, .b true), (23, .b true), (25, .call [] [] (f36_broughamlaw31_plain_out r461_4)), (27, .call [] [] (f35_broughamlaw31_same_out r461_5)), (29, .b false)], [], [], [6], []⟩ [FnOK Go.Proofs.Try.prog 47 (f47_sack_Right_in wait l) (f47_sack_Right_out r461_0), FnOK Go.Proofs.Try.prog 36 (f36_broughamlaw31_plain_in l) (f36_broughamlaw31_plain_out r461_1), FnOK Go.Proofs.Try.prog 48 (f48_broughamref31_Right_in wait r461_1) (f48_broughamref31_Right_out r461_2), (r461_0 == r461_2) = true, (r5_0.1 == r87_1.2) = true, FnOK Go.Proofs.Try.prog 49 (f49_broughamref07_SameOption_in r5_0.2.1 r5_0.2.2 9 r87_1.1) (f49_broughamref07_SameOption_out r461_3), r461_3 = true, (r201_0.2 == r338_0.2) = true, FnOK Go.Proofs.Try.prog 36 (f36_broughamlaw31_plain_in r201_0.1) (f36_broughamlaw31_plain_out r461_4), FnOK Go.Proofs.Try.prog 35 (f35_broughamlaw31_same_in r461_4 r338_0.1) (f35_broughamlaw31_same_out r461_5), r461_5 = false] (by kernel_rfl) ⟨(f47_sack_Right_ok n wait l r461_0 cr461_0), (f36_broughamlaw31_plain_ok n l r461_1 cr461_1), (f48_broughamref31_Right_ok n wait r461_1 r461_2 cr461_2), b461_8, b461_13, (f49_broughamref07_SameOption_ok r5_0.2.1 r5_0.2.2 9 r87_1.1 r461_3 cr461_3), b461_18, b461_23, (f36_broughamlaw31_plain_ok n r201_0.1 r461_4 cr461_4), (f35_broughamlaw31_same_ok n r461_4 r338_0.1 r461_5 cr461_5), b461_29, trivial⟩
              · have h := Option.some.inj h
                subst h
                exact At.fin hm ht ⟨[(2, .call [] [] (f47_sack_Right_out r461_0)), (5, .call [] [] (f36_broughamlaw31_plain_out r461_1)), (6, .call [] [] (f48_broughamref31_Right_out r461_2)), (8, .b true), (13, .b true), (16, .call [] [] (f49_broughamref07_SameOption_out r461_3)), (18, .b true), (23, .b false)], [], [], [6], []⟩ [FnOK Go.Proofs.Try.prog 47 (f47_sack_Right_in wait l) (f47_sack_Right_out r461_0), FnOK Go.Proofs.Try.prog 36 (f36_broughamlaw31_plain_in l) (f36_broughamlaw31_plain_out r461_1), FnOK Go.Proofs.Try.prog 48 (f48_broughamref31_Right_in wait r461_1) (f48_broughamref31_Right_out r461_2), (r461_0 == r461_2) = true, (r5_0.1 == r87_1.2) = true, FnOK Go.Proofs.Try.prog 49 (f49_broughamref07_SameOption_in r5_0.2.1 r5_0.2.2 9 r87_1.1) (f49_broughamref07_SameOption_out r461_3), r461_3 = true, (r201_0.2 == r338_0.2) = false] (by kernel_rfl) ⟨(f47_sack_Right_ok n wait l r461_0 cr461_0), (f36_broughamlaw31_plain_ok n l r461_1 cr461_1), (f48_broughamref31_Right_ok n wait r461_1 r461_2 cr461_2), b461_8, b461_13, (f49_broughamref07_SameOption_ok r5_0.2.1 r5_0.2.2 9 r87_1.1 r461_3 cr461_3), b461_18, b461_23, trivial⟩
            · have h := Option.some.inj h
              subst h
              exact At.fin hm ht ⟨[(2, .call [] [] (f47_sack_Right_out r461_0)), (5, .call [] [] (f36_broughamlaw31_plain_out r461_1)), (6, .call [] [] (f48_broughamref31_Right_out r461_2)), (8, .b true), (13, .b true), (16, .call [] [] (f49_broughamref07_SameOption_out r461_3)), (18, .b false)], [], [], [6], []⟩ [FnOK Go.Proofs.Try.prog 47 (f47_sack_Right_in wait l) (f47_sack_Right_out r461_0), FnOK Go.Proofs.Try.prog 36 (f36_broughamlaw31_plain_in l) (f36_broughamlaw31_plain_out r461_1), FnOK Go.Proofs.Try.prog 48 (f48_broughamref31_Right_in wait r461_1) (f48_broughamref31_Right_out r461_2), (r461_0 == r461_2) = true, (r5_0.1 == r87_1.2) = true, FnOK Go.Proofs.Try.prog 49 (f49_broughamref07_SameOption_in r5_0.2.1 r5_0.2.2 9 r87_1.1) (f49_broughamref07_SameOption_out r461_3), r461_3 = false] (by kernel_rfl) ⟨(f47_sack_Right_ok n wait l r461_0 cr461_0), (f36_broughamlaw31_plain_ok n l r461_1 cr461_1), (f48_broughamref31_Right_ok n wait r461_1 r461_2 cr461_2), b461_8, b461_13, (f49_broughamref07_SameOption_ok r5_0.2.1 r5_0.2.2 9 r87_1.1 r461_3 cr461_3), b461_18, trivial⟩
          · have h := Option.some.inj h
            subst h
            exact At.fin hm ht ⟨[(2, .call [] [] (f47_sack_Right_out r461_0)), (5, .call [] [] (f36_broughamlaw31_plain_out r461_1)), (6, .call [] [] (f48_broughamref31_Right_out r461_2)), (8, .b true), (13, .b false)], [], [], [6], []⟩ [FnOK Go.Proofs.Try.prog 47 (f47_sack_Right_in wait l) (f47_sack_Right_out r461_0), FnOK Go.Proofs.Try.prog 36 (f36_broughamlaw31_plain_in l) (f36_broughamlaw31_plain_out r461_1), FnOK Go.Proofs.Try.prog 48 (f48_broughamref31_Right_in wait r461_1) (f48_broughamref31_Right_out r461_2), (r461_0 == r461_2) = true, (r5_0.1 == r87_1.2) = false] (by kernel_rfl) ⟨(f47_sack_Right_ok n wait l r461_0 cr461_0), (f36_broughamlaw31_plain_ok n l r461_1 cr461_1), (f48_broughamref31_Right_ok n wait r461_1 r461_2 cr461_2), b461_8, b461_13, trivial⟩
        · have h := Option.some.inj h
          subst h
          exact At.fin hm ht ⟨[(2, .call [] [] (f47_sack_Right_out r461_0)), (5, .call [] [] (f36_broughamlaw31_plain_out r461_1)), (6, .call [] [] (f48_broughamref31_Right_out r461_2)), (8, .b false)], [], [], [6], []⟩ [FnOK Go.Proofs.Try.prog 47 (f47_sack_Right_in wait l) (f47_sack_Right_out r461_0), FnOK Go.Proofs.Try.prog 36 (f36_broughamlaw31_plain_in l) (f36_broughamlaw31_plain_out r461_1), FnOK Go.Proofs.Try.prog 48 (f48_broughamref31_Right_in wait r461_1) (f48_broughamref31_Right_out r461_2), (r461_0 == r461_2) = false] (by kernel_rfl) ⟨(f47_sack_Right_ok n wait l r461_0 cr461_0), (f36_broughamlaw31_plain_ok n l r461_1 cr461_1), (f48_broughamref31_Right_ok n wait r461_1 r461_2 cr461_2), b461_8, trivial⟩
      · refine At.step hm ht ⟨[], [false], [], [0, 1, 5, 7, 8, 10, 11], [0, 1, 3, 4]⟩ 8 ⟨[(0, .one (.c (.d (.int .u32 wait)))), (1, .one (.c (.d (.sl (.pair (.int .u32) (.int .u32)) l)))), (5, .one (.c (.ptr 0 0))), (7, .one (.c (.ptr 1 0))), (8, .one (.c (.d (.bool r5_0.1)))), (10, .one (.c (.d (.bool r87_1.2)))), (11, .one (.c (.ptr 2 0)))], [(3, some ⟨5, 0⟩)], [(0, [.d (.int .u8 o__0), .d (.sl (.int .u8) o__1)]), (1, [.d (.int .u8 r5_0.2.1), .own 3 (.int .u8) r5_0.2.2]), (2, [.d (.int .u8 0), .d (.sl .unit [])])], 4⟩ [r87_1.2 = false] (by kernel_rfl) ⟨b199_e0, trivial⟩ ?_
        obtain ⟨r712_0, cr712_0, h⟩ := bindS h
        refine At.step hm ht ⟨[(2, .call [] [] (f45_sack_Parse_out r712_0))], [], [], [0, 1, 5, 7, 8, 10, 11, 12, 13], [0, 1, 2, 6, 3]⟩ 9 ⟨[(0, .one (.c (.d (.int .u32 wait)))), (1, .one (.c (.d (.sl (.pair (.int .u32) (.int .u32)) l)))), (5, .one (.c (.ptr 0 0))), (7, .one (.c (.ptr 1 0))), (8, .one (.c (.d (.bool r5_0.1)))), (10, .one (.c (.d (.bool r87_1.2)))), (11, .one (.c (.ptr 2 0))), (12, .one (.c (.own 3 (.pair (.int .u32) (.int .u32)) r712_0.1))), (13, .one (.c (.d (.bool r712_0.2))))], [(3, some ⟨160, 0⟩), (4, some ⟨5, 0⟩)], [(0, [.d (.int .u8 o__0), .d (.sl (.int .u8) o__1)]), (1, [.d (.int .u8 r5_0.2.1), .own 4 (.int .u8) r5_0.2.2]), (2, [.d (.int .u8 0), .d (.sl .unit [])])], 5⟩ [FnOK Go.Proofs.Try.prog 45 (f45_sack_Parse_in wait o__0 o__1) (f45_sack_Parse_out r712_0)] (by kernel_rfl) ⟨(f45_sack_Parse_ok n wait o__0 o__1 r712_0 cr712_0), trivial⟩ ?_
        obtain ⟨r713_0, cr713_0, h⟩ := bindS h
        refine At.step hm ht ⟨[(2, .call [] [] (f46_broughamref31_Parse_out r713_0))], [], [], [0, 1, 7, 8, 10, 11, 12, 13, 14, 15], [1, 2, 3, 7, 4]⟩ 10 ⟨[(0, .one (.c (.d (.int .u32 wait)))), (1, .one (.c (.d (.sl (.pair (.int .u32) (.int .u32)) l)))), (7, .one (.c (.ptr 0 0))), (8, .one (.c (.d (.bool r5_0.1)))), (10, .one (.c (.d (.bool r87_1.2)))), (11, .one (.c (.ptr 1 0))), (12, .one (.c (.own 2 (.pair (.int .u32) (.int .u32)) r712_0.1))), (13, .one (.c (.d (.bool r712_0.2)))), (14, .one (.c (.own 3 (.pair (.int .u32) (.int .u32)) r713_0.1))), (15, .one (.c (.d (.bool r713_0.2))))], [(2, some ⟨160, 0⟩), (3, some ⟨161, 0⟩), (4, some ⟨5, 0⟩)], [(0, [.d (.int .u8 r5_0.2.1), .own 4 (.int .u8) r5_0.2.2]), (1, [.d (.int .u8 0), .d (.sl .unit [])])], 5⟩ [FnOK Go.Proofs.Try.prog 46 (f46_broughamref31_Parse_in wait o__0 o__1) (f46_broughamref31_Parse_out r713_0)] (by kernel_rfl) ⟨(f46_broughamref31_Parse_ok n wait o__0 o__1 r713_0 cr713_0), trivial⟩ ?_
        obtain ⟨r714_0, cr714_0, h⟩ := bindS h
        obtain ⟨r714_1, cr714_1, h⟩ := bindS h
        obtain ⟨r714_2, cr714_2, h⟩ := bindS h
        rcases iteS h with ⟨b714_8, h⟩ | ⟨b714_8, h⟩
        · rcases iteS h with ⟨b714_13, h⟩ | ⟨b714_13, h⟩
          · obtain ⟨r714_3, cr714_3, h⟩ := bindS h
            rcases iteS h with ⟨b714_18, h⟩ | ⟨b714_18, h⟩
            · rcases iteS h with ⟨b714_23, h⟩ | ⟨b714_23, h⟩
              · obtain ⟨r714_4, cr714_4, h⟩ := bindS h
                obtain ⟨r714_5, cr714_5, h⟩ := bindS h
                rcases iteS h with ⟨b714_29, h⟩ | ⟨b714_29, h⟩
                · obtain ⟨r714_6, cr714_6, h⟩ := bindS h
                  have h := Option.some.inj h
                  subst h
                  exact At.fin hm ht ⟨[(2, .call [] [] (f47_sack_Right_out r714_0)), (5, .call [] [] (f36_broughamlaw31_plain_out r714_1)), (6, .call [] [] (f48_broughamref31_Right_out r714_2)), (8, .b true), (13, .b true), (16, .call [] [(1, 1, (.int .u8))] (f49_broughamref07_SameOption_out r714_3)), (18, .b true), (23, .b true), (25, .call [] [] (f36_broughamlaw31_plain_out r714_4)), (27, .call [] [] (f35_broughamlaw31_same_out r714_5)), (29, .b true), (30, .call [] [] (f41_broughamlaw31_alive_out r714_6))], [], [], [6], []⟩ [FnOK Go.Proofs.Try.prog 47 (f47_sack_Right_in wait l) (f47_sack_Right_out r714_0), FnOK Go.Proofs.Try.prog 36 (f36_broughamlaw31_plain_in l) (f36_broughamlaw31_plain_out r714_1), FnOK Go.Proofs.Try.prog 48 (f48_broughamref31_Right_in wait r714_1) (f48_broughamref31_Right_out r714_2), (r714_0 == r714_2) = true, (r5_0.1 == r87_1.2) = true, FnOK Go.Proofs.Try.prog 49 (f49_broughamref07_SameOption_in r5_0.2.1 r5_0.2.2 0 []) (f49_broughamref07_SameOption_out r714_3), r714_3 = true, (r712_0.2 == r713_0.2) = true, FnOK Go.Proofs.Try.prog 36 (f36_broughamlaw31_plain_in r712_0.1) (f36_broughamlaw31_plain_out r714_4), FnOK Go.Proofs.Try.prog 35 (f35_broughamlaw31_same_in r714_4 r713_0.1) (f35_broughamlaw31_same_out r714_5), r714_5 = true, FnOK Go.Proofs.Try.prog 41 (f41_broughamlaw31_alive_in) (f41_broughamlaw31_alive_out r714_6)] (by kernel_rfl) ⟨(f47_sack_Right_ok n wait l r714_0 cr714_0), (f36_broughamlaw31_plain_ok n l r714_1 cr714_1), (f48_broughamref31_Right_ok n wait r714_1 r714_2 cr714_2), b714_8, b714_13, (f49_broughamref07_SameOption_ok r5_0.2.1 r5_0.2.2 0 [] r714_3 cr714_3), b714_18, b714_23, (f36_broughamlaw31_plain_ok n r712_0.1 r714_4 cr714_4), (f35_broughamlaw31_same_ok n r714_4 r713_0.1 r714_5 cr714_5), b714_29, (f41_broughamlaw31_alive_ok n r714_6 cr714_6), trivial⟩
                · have h := Option.some.inj h
                  subst h
                  exact At.fin hm ht ⟨[(2, .call [] [] (f47_sack_Right_out r714_0)), (5, .call [] [] (f36_broughamlaw31_plain_out r714_1)), (6, .call [] [] (f48_broughamref31_Right_out r714_2)), (8, .b true), (13, .b true), (16, .call [] [(1, 1, (.int .u8))] (f49_broughamref07_SameOption_out r714_3)), (18, .b true), (23, .b true), (25, .call [] [] (f36_broughamlaw31_plain_out r714_4)), (27, .call [] [] (f35_broughamlaw31_same_out r714_5)), (29, .b false)], [], [], [6], []⟩ [FnOK Go.Proofs.Try.prog 47 (f47_sack_Right_in wait l) (f47_sack_Right_out r714_0), FnOK Go.Proofs.Try.prog 36 (f36_broughamlaw31_plain_in l) (f36_broughamlaw31_plain_out r714_1), FnOK Go.Proofs.Try.prog 48 (f48_broughamref31_Right_in wait r714_1) (f48_broughamref31_Right_out r714_2), (r714_0 == r714_2) = true, (r5_0.1 == r87_1.2) = true, FnOK Go.Proofs.Try.prog 49 (f49_broughamref07_SameOption_in r5_0.2.1 r5_0.2.2 0 []) (f49_broughamref07_SameOption_out r714_3), r714_3 = true, (r712_0.2 == r713_0.2) = true, FnOK Go.Proofs.Try.prog 36 (f36_broughamlaw31_plain_in r712_0.1) (f36_broughamlaw31_plain_out r714_4), FnOK Go.Proofs.Try.prog 35 (f35_broughamlaw31_same_in r714_4 r713_0.1) (f35_broughamlaw31_same_out r714_5), r714_5 = false] (by kernel_rfl) ⟨(f47_sack_Right_ok n wait l r714_0 cr714_0), (f36_broughamlaw31_plain_ok n l r714_1 cr714_1), (f48_broughamref31_Right_ok n wait r714_1 r714_2 cr714_2), b714_8, b714_13, (f49_broughamref07_SameOption_ok r5_0.2.1 r5_0.2.2 0 [] r714_3 cr714_3), b714_18, b714_23, (f36_broughamlaw31_plain_ok n r712_0.1 r714_4 cr714_4), (f35_broughamlaw31_same_ok n r714_4 r713_0.1 r714_5 cr714_5), b714_29, trivial⟩
              · have h := Option.some.inj h
                subst h
                exact At.fin hm ht ⟨[(2, .call [] [] (f47_sack_Right_out r714_0)), (5, .call [] [] (f36_broughamlaw31_plain_out r714_1)), (6, .call [] [] (f48_broughamref31_Right_out r714_2)), (8, .b true), (13, .b true), (16, .call [] [(1, 1, (.int .u8))] (f49_broughamref07_SameOption_out r714_3)), (18, .b true), (23, .b false)], [], [], [6], []⟩ [FnOK Go.Proofs.Try.prog 47 (f47_sack_Right_in wait l) (f47_sack_Right_out r714_0), FnOK Go.Proofs.Try.prog 36 (f36_broughamlaw31_plain_in l) (f36_broughamlaw31_plain_out r714_1), FnOK Go.Proofs.Try.prog 48 (f48_broughamref31_Right_in wait r714_1) (f48_broughamref31_Right_out r714_2), (r714_0 == r714_2) = true, (r5_0.1 == r87_1.2) = true, FnOK Go.Proofs.Try.prog 49 (f49_broughamref07_SameOption_in r5_0.2.1 r5_0.2.2 0 []) (f49_broughamref07_SameOption_out r714_3), r714_3 = true, (r712_0.2 == r713_0.2) = false] (by kernel_rfl) ⟨(f47_sack_Right_ok n wait l r714_0 cr714_0), (f36_broughamlaw31_plain_ok n l r714_1 cr714_1), (f48_broughamref31_Right_ok n wait r714_1 r714_2 cr714_2), b714_8, b714_13, (f49_broughamref07_SameOption_ok r5_0.2.1 r5_0.2.2 0 [] r714_3 cr714_3), b714_18, b714_23, trivial⟩
            · have h := Option.some.inj h
              subst h
              exact At.fin hm ht ⟨[(2, .call [] [] (f47_sack_Right_out r714_0)), (5, .call [] [] (f36_broughamlaw31_plain_out r714_1)), (6, .call [] [] (f48_broughamref31_Right_out r714_2)), (8, .b true), (13, .b true), (16, .call [] [(1, 1, (.int .u8))] (f49_broughamref07_SameOption_out r714_3)), (18, .b false)], [], [], [6], []⟩ [FnOK Go.Proofs.Try.prog 47 (f47_sack_Right_in wait l) (f47_sack_Right_out r714_0), FnOK Go.Proofs.Try.prog 36 (f36_broughamlaw31_plain_in l) (f36_broughamlaw31_plain_out r714_1), FnOK Go.Proofs.Try.prog 48 (f48_broughamref31_Right_in wait r714_1) (f48_broughamref31_Right_out r714_2), (r714_0 == r714_2) = true, (r5_0.1 == r87_1.2) = true, FnOK Go.Proofs.Try.prog 49 (f49_broughamref07_SameOption_in r5_0.2.1 r5_0.2.2 0 []) (f49_broughamref07_SameOption_out r714_3), r714_3 = false] (by kernel_rfl) ⟨(f47_sack_Right_ok n wait l r714_0 cr714_0), (f36_broughamlaw31_plain_ok n l r714_1 cr714_1), (f48_broughamref31_Right_ok n wait r714_1 r714_2 cr714_2), b714_8, b714_13, (f49_broughamref07_SameOption_ok r5_0.2.1 r5_0.2.2 0 [] r714_3 cr714_3), b714_18, trivial⟩
          · have h := Option.some.inj h
            subst h
            exact At.fin hm ht ⟨[(2, .call [] [] (f47_sack_Right_out r714_0)), (5, .call [] [] (f36_broughamlaw31_plain_out r714_1)), (6, .call [] [] (f48_broughamref31_Right_out r714_2)), (8, .b true), (13, .b false)], [], [], [6], []⟩ [FnOK Go.Proofs.Try.prog 47 (f47_sack_Right_in wait l) (f47_sack_Right_out r714_0), FnOK Go.Proofs.Try.prog 36 (f36_broughamlaw31_plain_in l) (f36_broughamlaw31_plain_out r714_1), FnOK Go.Proofs.Try.prog 48 (f48_broughamref31_Right_in wait r714_1) (f48_broughamref31_Right_out r714_2), (r714_0 == r714_2) = true, (r5_0.1 == r87_1.2) = false] (by kernel_rfl) ⟨(f47_sack_Right_ok n wait l r714_0 cr714_0), (f36_broughamlaw31_plain_ok n l r714_1 cr714_1), (f48_broughamref31_Right_ok n wait r714_1 r714_2 cr714_2), b714_8, b714_13, trivial⟩
        · have h := Option.some.inj h
          subst h
          exact At.fin hm ht ⟨[(2, .call [] [] (f47_sack_Right_out r714_0)), (5, .call [] [] (f36_broughamlaw31_plain_out r714_1)), (6, .call [] [] (f48_broughamref31_Right_out r714_2)), (8, .b false)], [], [], [6], []⟩ [FnOK Go.Proofs.Try.prog 47 (f47_sack_Right_in wait l) (f47_sack_Right_out r714_0), FnOK Go.Proofs.Try.prog 36 (f36_broughamlaw31_plain_in l) (f36_broughamlaw31_plain_out r714_1), FnOK Go.Proofs.Try.prog 48 (f48_broughamref31_Right_in wait r714_1) (f48_broughamref31_Right_out r714_2), (r714_0 == r714_2) = false] (by kernel_rfl) ⟨(f47_sack_Right_ok n wait l r714_0 cr714_0), (f36_broughamlaw31_plain_ok n l r714_1 cr714_1), (f48_broughamref31_Right_ok n wait r714_1 r714_2 cr714_2), b714_8, trivial⟩
/-! brougham/broughamlaw31.SackBack -/
def f10_broughamlaw31_SackBack_in (wait : Int) (l : List (Int × Int)) (o__0 : Int) (o__1 : List Int) : Inn := ⟨[.c (.d (.int .u32 wait)), .c (.d (.sl (.pair (.int .u32) (.int .u32)) l)), .agg [.d (.int .u8 o__0), .d (.sl (.int .u8) o__1)]], [], [], 0⟩
def f10_broughamlaw31_SackBack_out (r : Bool) : Out := ⟨.one (.c (.d (.bool r))), [], [], 0⟩
def f10_broughamlaw31_SackBack (n : Nat) (wait : Int) (l : List (Int × Int)) (o__0 : Int) (o__1 : List Int) : Option (Bool) :=
  if (decide ((((l.length : Nat) : Int) : Int) > 60)) = true then
    some true
  else
    if (decide ((((o__1.length : Nat) : Int) : Int) > 300)) = true then
      some true
    else
      (f44_sack_Option n wait l).bind fun r719_0 =>
      (f45_sack_Parse n wait r719_0.2.1 r719_0.2.2).bind fun r720_0 =>
      if r719_0.1 = true then
        if (!r720_0.2) = true then
          some false
        else
          (f36_broughamlaw31_plain n l).bind fun r721_0 =>
          (f36_broughamlaw31_plain n r720_0.1).bind fun r721_1 =>
          (f35_broughamlaw31_same n r721_0 r721_1).bind fun r721_2 =>
          if (!r721_2) = true then
            some false
          else
            (f45_sack_Parse n wait o__0 o__1).bind fun r724_0 =>
            (f44_sack_Option n wait r724_0.1).bind fun r725_0 =>
            if (!r724_0.2) = true then
              (f41_broughamlaw31_alive n).bind fun r726_0 =>
              some r726_0
            else
              if r725_0.1 = true then
                (f49_broughamref07_SameOption r725_0.2.1 r725_0.2.2 o__0 o__1).bind fun r726_0 =>
                if r726_0 = true then
                  (f41_broughamlaw31_alive n).bind fun r726_1 =>
                  some r726_1
                else
                  some false
              else
                some false
      else
        (f45_sack_Parse n wait o__0 o__1).bind fun r727_0 =>
        (f44_sack_Option n wait r727_0.1).bind fun r728_0 =>
        if (!r727_0.2) = true then
          (f41_broughamlaw31_alive n).bind fun r729_0 =>
          some r729_0
        else
          if r728_0.1 = true then
            (f49_broughamref07_SameOption r728_0.2.1 r728_0.2.2 o__0 o__1).bind fun r729_0 =>
            if r729_0 = true then
              (f41_broughamlaw31_alive n).bind fun r729_1 =>
              some r729_1
            else
              some false
          else
            some false
theorem f10_broughamlaw31_SackBack_ok (n : Nat) (wait : Int) (l : List (Int × Int)) (o__0 : Int) (o__1 : List Int) (r : Bool) (h : f10_broughamlaw31_SackBack n wait l o__0 o__1 = some r) : FnOK Go.Proofs.Try.prog 10 (f10_broughamlaw31_SackBack_in wait l o__0 o__1) (f10_broughamlaw31_SackBack_out r) := by
  unfold f10_broughamlaw31_SackBack at h
  refine At.fn (r := 0) Go.Proofs.Try.func10 rfl (by kernel_rfl) rfl rfl (by kernel_rfl) ?_
  show At Go.Proofs.Try.prog Go.Proofs.Try.f10 0 0 ⟨[(0, .one (.c (.d (.int .u32 wait)))), (1, .one (.c (.d (.sl (.pair (.int .u32) (.int .u32)) l)))), (2, .one (.agg [.d (.int .u8 o__0), .d (.sl (.int .u8) o__1)]))], [], [], 0⟩ _
  refine At.step hm ht ⟨[], [], [], [0, 1, 5], [0]⟩ 1 ⟨[(0, .one (.c (.d (.int .u32 wait)))), (1, .one (.c (.d (.sl (.pair (.int .u32) (.int .u32)) l)))), (5, .one (.c (.ptr 0 0)))], [], [(0, [.d (.int .u8 o__0), .d (.sl (.int .u8) o__1)])], 1⟩ [] (by kernel_rfl) trivial ?_
  rcases iteS h with ⟨b716_3, h⟩ | ⟨b716_3, h⟩
  · refine At.step hm ht ⟨[(3, .b true)], [true], [], [], []⟩ 2 ⟨[], [], [], 0⟩ [(decide ((((l.length : Nat) : Int) : Int) > 60)) = true, true = true] (by kernel_rfl) ⟨b716_3, rfl, trivial⟩ ?_
    have h := Option.some.inj h
    subst h
    exact At.fin hm ht ⟨[], [], [], [6], []⟩ [] (by kernel_rfl) trivial
  · rcases iteS h with ⟨b716_e0, h⟩ | ⟨b716_e0, h⟩
    · refine At.step hm ht ⟨[(3, .b false)], [true], [], [], []⟩ 2 ⟨[], [], [], 0⟩ [(decide ((((l.length : Nat) : Int) : Int) > 60)) = false, (decide ((((o__1.length : Nat) : Int) : Int) > 300)) = true] (by kernel_rfl) ⟨b716_3, b716_e0, trivial⟩ ?_
      have h := Option.some.inj h
      subst h
      exact At.fin hm ht ⟨[], [], [], [6], []⟩ [] (by kernel_rfl) trivial
    · refine At.step hm ht ⟨[(3, .b false)], [false], [], [0, 1, 5], [0]⟩ 3 ⟨[(0, .one (.c (.d (.int .u32 wait)))), (1, .one (.c (.d (.sl (.pair (.int .u32) (.int .u32)) l)))), (5, .one (.c (.ptr 0 0)))], [], [(0, [.d (.int .u8 o__0), .d (.sl (.int .u8) o__1)])], 1⟩ [(decide ((((l.length : Nat) : Int) : Int) > 60)) = false, (decide ((((o__1.length : Nat) : Int) : Int) > 300)) = false] (by kernel_rfl) ⟨b716_3, b716_e0, trivial⟩ ?_
      obtain ⟨r719_0, cr719_0, h⟩ := bindS h
      refine At.step hm ht ⟨[(2, .call [] [] (f44_sack_Option_out r719_0))], [], [], [0, 1, 5, 7, 8], [0, 8, 4]⟩ 4 ⟨[(0, .one (.c (.d (.int .u32 wait)))), (1, .one (.c (.d (.sl (.pair (.int .u32) (.int .u32)) l)))), (5, .one (.c (.ptr 0 0))), (7, .one (.c (.ptr 1 0))), (8, .one (.c (.d (.bool r719_0.1))))], [(2, some ⟨5, 0⟩)], [(0, [.d (.int .u8 o__0), .d (.sl (.int .u8) o__1)]), (1, [.d (.int .u8 r719_0.2.1), .own 2 (.int .u8) r719_0.2.2])], 3⟩ [FnOK Go.Proofs.Try.prog 44 (f44_sack_Option_in wait l) (f44_sack_Option_out r719_0), 0 + 2 ≤ 2] (by kernel_rfl) ⟨(f44_sack_Option_ok n wait l r719_0 cr719_0), (by decide), trivial⟩ ?_
      obtain ⟨r720_0, cr720_0, h⟩ := bindS h
      refine At.step hm ht ⟨[(2, .call [] [] (f45_sack_Parse_out r720_0))], [], [], [0, 1, 5, 8, 9, 10], [0, 5]⟩ 5 ⟨[(0, .one (.c (.d (.int .u32 wait)))), (1, .one (.c (.d (.sl (.pair (.int .u32) (.int .u32)) l)))), (5, .one (.c (.ptr 0 0))), (8, .one (.c (.d (.bool r719_0.1)))), (9, .one (.c (.own 1 (.pair (.int .u32) (.int .u32)) r720_0.1))), (10, .one (.c (.d (.bool r720_0.2))))], [(1, some ⟨160, 0⟩)], [(0, [.d (.int .u8 o__0), .d (.sl (.int .u8) o__1)])], 2⟩ [FnOK Go.Proofs.Try.prog 45 (f45_sack_Parse_in wait r719_0.2.1 r719_0.2.2) (f45_sack_Parse_out r720_0)] (by kernel_rfl) ⟨(f45_sack_Parse_ok n wait r719_0.2.1 r719_0.2.2 r720_0 cr720_0), trivial⟩ ?_
      rcases iteS h with ⟨b721_1, h⟩ | ⟨b721_1, h⟩
      · rcases iteS h with ⟨b721_4, h⟩ | ⟨b721_4, h⟩
        · refine At.step hm ht ⟨[(1, .b true), (4, .b true)], [true], [], [], []⟩ 6 ⟨[], [], [], 0⟩ [r719_0.1 = true, (!r720_0.2) = true, true = true] (by kernel_rfl) ⟨b721_1, b721_4, rfl, trivial⟩ ?_
          have h := Option.some.inj h
          subst h
          exact At.fin hm ht ⟨[], [], [], [6], []⟩ [] (by kernel_rfl) trivial
        · obtain ⟨r721_0, cr721_0, h⟩ := bindS h
          obtain ⟨r721_1, cr721_1, h⟩ := bindS h
          obtain ⟨r721_2, cr721_2, h⟩ := bindS h
          rcases iteS h with ⟨b721_e0, h⟩ | ⟨b721_e0, h⟩
          · refine At.step hm ht ⟨[(1, .b true), (4, .b false), (6, .call [] [] (f36_broughamlaw31_plain_out r721_0)), (8, .call [] [] (f36_broughamlaw31_plain_out r721_1)), (9, .call [] [] (f35_broughamlaw31_same_out r721_2))], [true], [], [], []⟩ 6 ⟨[], [], [], 0⟩ [r719_0.1 = true, (!r720_0.2) = false, FnOK Go.Proofs.Try.prog 36 (f36_broughamlaw31_plain_in l) (f36_broughamlaw31_plain_out r721_0), FnOK Go.Proofs.Try.prog 36 (f36_broughamlaw31_plain_in r720_0.1) (f36_broughamlaw31_plain_out r721_1), FnOK Go.Proofs.Try.prog 35 (f35_broughamlaw31_same_in r721_0 r721_1) (f35_broughamlaw31_same_out r721_2), (!r721_2) = true] (by kernel_rfl) ⟨b721_1, b721_4, (f36_broughamlaw31_plain_ok n l r721_0 cr721_0), (f36_broughamlaw31_plain_ok n r720_0.1 r721_1 cr721_1), (f35_broughamlaw31_same_ok n r721_0 r721_1 r721_2 cr721_2), b721_e0, trivial⟩ ?_
            have h := Option.some.inj h
            subst h
            exact At.fin hm ht ⟨[], [], [], [6], []⟩ [] (by kernel_rfl) trivial
          · refine At.step hm ht ⟨[(1, .b true), (4, .b false), (6, .call [] [] (f36_broughamlaw31_plain_out r721_0)), (8, .call [] [] (f36_broughamlaw31_plain_out r721_1)), (9, .call [] [] (f35_broughamlaw31_same_out r721_2))], [false], [], [0, 5], [0]⟩ 7 ⟨[(0, .one (.c (.d (.int .u32 wait)))), (5, .one (.c (.ptr 0 0)))], [], [(0, [.d (.int .u8 o__0), .d (.sl (.int .u8) o__1)])], 1⟩ [r719_0.1 = true, (!r720_0.2) = false, FnOK Go.Proofs.Try.prog 36 (f36_broughamlaw31_plain_in l) (f36_broughamlaw31_plain_out r721_0), FnOK Go.Proofs.Try.prog 36 (f36_broughamlaw31_plain_in r720_0.1) (f36_broughamlaw31_plain_out r721_1), FnOK Go.Proofs.Try.prog 35 (f35_broughamlaw31_same_in r721_0 r721_1) (f35_broughamlaw31_same_out r721_2), (!r721_2) = false] (by kernel_rfl) ⟨b721_1, b721_4, (f36_broughamlaw31_plain_ok n l r721_0 cr721_0), (f36_broughamlaw31_plain_ok n r720_0.1 r721_1 cr721_1), (f35_broughamlaw31_same_ok n r721_0 r721_1 r721_2 cr721_2), b721_e0, trivial⟩ ?_
            obtain ⟨r724_0, cr724_0, h⟩ := bindS h
            refine At.step hm ht ⟨[(2, .call [] [] (f45_sack_Parse_out r724_0))], [], [], [0, 5, 11, 12], [0, 3]⟩ 8 ⟨[(0, .one (.c (.d (.int .u32 wait)))), (5, .one (.c (.ptr 0 0))), (11, .one (.c (.own 1 (.pair (.int .u32) (.int .u32)) r724_0.1))), (12, .one (.c (.d (.bool r724_0.2))))], [(1, some ⟨160, 0⟩)], [(0, [.d (.int .u8 o__0), .d (.sl (.int .u8) o__1)])], 2⟩ [FnOK Go.Proofs.Try.prog 45 (f45_sack_Parse_in wait o__0 o__1) (f45_sack_Parse_out r724_0)] (by kernel_rfl) ⟨(f45_sack_Parse_ok n wait o__0 o__1 r724_0 cr724_0), trivial⟩ ?_
            obtain ⟨r725_0, cr725_0, h⟩ := bindS h
            refine At.step hm ht ⟨[(2, .call [] [] (f44_sack_Option_out r725_0))], [], [], [5, 12, 13, 14], [0, 9, 5]⟩ 9 ⟨[(5, .one (.c (.ptr 0 0))), (12, .one (.c (.d (.bool r724_0.2)))), (13, .one (.c (.ptr 1 0))), (14, .one (.c (.d (.bool r725_0.1))))], [(2, some ⟨5, 0⟩)], [(0, [.d (.int .u8 o__0), .d (.sl (.int .u8) o__1)]), (1, [.d (.int .u8 r725_0.2.1), .own 2 (.int .u8) r725_0.2.2])], 3⟩ [FnOK Go.Proofs.Try.prog 44 (f44_sack_Option_in wait r724_0.1) (f44_sack_Option_out r725_0), 0 + 2 ≤ 2] (by kernel_rfl) ⟨(f44_sack_Option_ok n wait r724_0.1 r725_0 cr725_0), (by decide), trivial⟩ ?_
            rcases iteS h with ⟨b726_2, h⟩ | ⟨b726_2, h⟩
            · obtain ⟨r726_0, cr726_0, h⟩ := bindS h
              have h := Option.some.inj h
              subst h
              exact At.fin hm ht ⟨[(2, .b true), (11, .call [] [] (f41_broughamlaw31_alive_out r726_0))], [], [], [6], []⟩ [(!r724_0.2) = true, FnOK Go.Proofs.Try.prog 41 (f41_broughamlaw31_alive_in) (f41_broughamlaw31_alive_out r726_0)] (by kernel_rfl) ⟨b726_2, (f41_broughamlaw31_alive_ok n r726_0 cr726_0), trivial⟩
            · rcases iteS h with ⟨b726_4, h⟩ | ⟨b726_4, h⟩
              · obtain ⟨r726_0, cr726_0, h⟩ := bindS h
                rcases iteS h with ⟨b726_10, h⟩ | ⟨b726_10, h⟩
                · obtain ⟨r726_1, cr726_1, h⟩ := bindS h
                  have h := Option.some.inj h
                  subst h
                  exact At.fin hm ht ⟨[(2, .b false), (4, .b true), (7, .call [] [] (f49_broughamref07_SameOption_out r726_0)), (10, .b true), (11, .call [] [] (f41_broughamlaw31_alive_out r726_1))], [], [], [6], []⟩ [(!r724_0.2) = false, r725_0.1 = true, FnOK Go.Proofs.Try.prog 49 (f49_broughamref07_SameOption_in r725_0.2.1 r725_0.2.2 o__0 o__1) (f49_broughamref07_SameOption_out r726_0), r726_0 = true, FnOK Go.Proofs.Try.prog 41 (f41_broughamlaw31_alive_in) (f41_broughamlaw31_alive_out r726_1)] (by kernel_rfl) ⟨b726_2, b726_4, (f49_broughamref07_SameOption_ok r725_0.2.1 r725_0.2.2 o__0 o__1 r726_0 cr726_0), b726_10, (f41_broughamlaw31_alive_ok n r726_1 cr726_1), trivial⟩
                · have h := Option.some.inj h
                  subst h
                  exact At.fin hm ht ⟨[(2, .b false), (4, .b true), (7, .call [] [] (f49_broughamref07_SameOption_out r726_0)), (10, .b false)], [], [], [6], []⟩ [(!r724_0.2) = false, r725_0.1 = true, FnOK Go.Proofs.Try.prog 49 (f49_broughamref07_SameOption_in r725_0.2.1 r725_0.2.2 o__0 o__1) (f49_broughamref07_SameOption_out r726_0), r726_0 = false] (by kernel_rfl) ⟨b726_2, b726_4, (f49_broughamref07_SameOption_ok r725_0.2.1 r725_0.2.2 o__0 o__1 r726_0 cr726_0), b726_10, trivial⟩
              · have h := Option.some.inj h
                subst h
                exact At.fin hm ht ⟨[(2, .b false), (4, .b false)], [], [], [6], []⟩ [(!r724_0.2) = false, r725_0.1 = false] (by kernel_rfl) ⟨b726_2, b726_4, trivial⟩
      · refine At.step hm ht ⟨[(1, .b false)], [false], [], [0, 5], [0]⟩ 7 ⟨[(0, .one (.c (.d (.int .u32 wait)))), (5, .one (.c (.ptr 0 0)))], [], [(0, [.d (.int .u8 o__0), .d (.sl (.int .u8) o__1)])], 1⟩ [r719_0.1 = false, false = false] (by kernel_rfl) ⟨b721_1, rfl, trivial⟩ ?_
        obtain ⟨r727_0, cr727_0, h⟩ := bindS h
        refine At.step hm ht ⟨[(2, .call [] [] (f45_sack_Parse_out r727_0))], [], [], [0, 5, 11, 12], [0, 3]⟩ 8 ⟨[(0, .one (.c (.d (.int .u32 wait)))), (5, .one (.c (.ptr 0 0))), (11, .one (.c (.own 1 (.pair (.int .u32) (.int .u32)) r727_0.1))), (12, .one (.c (.d (.bool r727_0.2))))], [(1, some ⟨160, 0⟩)], [(0, [.d (.int .u8 o__0), .d (.sl (.int .u8) o__1)])], 2⟩ [FnOK Go.Proofs.Try.prog 45 (f45_sack_Parse_in wait o__0 o__1) (f45_sack_Parse_out r727_0)] (by kernel_rfl) ⟨(f45_sack_Parse_ok n wait o__0 o__1 r727_0 cr727_0), trivial⟩ ?_
        obtain ⟨r728_0, cr728_0, h⟩ := bindS h
        refine At.step hm ht ⟨[(2, .call [] [] (f44_sack_Option_out r728_0))], [], [], [5, 12, 13, 14], [0, 9, 5]⟩ 9 ⟨[(5, .one (.c (.ptr 0 0))), (12, .one (.c (.d (.bool r727_0.2)))), (13, .one (.c (.ptr 1 0))), (14, .one (.c (.d (.bool r728_0.1))))], [(2, some ⟨5, 0⟩)], [(0, [.d (.int .u8 o__0), .d (.sl (.int .u8) o__1)]), (1, [.d (.int .u8 r728_0.2.1), .own 2 (.int .u8) r728_0.2.2])], 3⟩ [FnOK Go.Proofs.Try.prog 44 (f44_sack_Option_in wait r727_0.1) (f44_sack_Option_out r728_0), 0 + 2 ≤ 2] (by kernel_rfl) ⟨(f44_sack_Option_ok n wait r727_0.1 r728_0 cr728_0), (by decide), trivial⟩ ?_
        rcases iteS h with ⟨b729_2, h⟩ | ⟨b729_2, h⟩
        · obtain ⟨r729_0, cr729_0, h⟩ := bindS h
          have h := Option.some.inj h
          subst h
          exact At.fin hm ht ⟨[(2, .b true), (11, .call [] [] (f41_broughamlaw31_alive_out r729_0))], [], [], [6], []⟩ [(!r727_0.2) = true, FnOK Go.Proofs.Try.prog 41 (f41_broughamlaw31_alive_in) (f41_broughamlaw31_alive_out r729_0)] (by kernel_rfl) ⟨b729_2, (f41_broughamlaw31_alive_ok n r729_0 cr729_0), trivial⟩
        · rcases iteS h with ⟨b729_4, h⟩ | ⟨b729_4, h⟩
          · obtain ⟨r729_0, cr729_0, h⟩ := bindS h
            rcases iteS h with ⟨b729_10, h⟩ | ⟨b729_10, h⟩
            · obtain ⟨r729_1, cr729_1, h⟩ := bindS h
              have h := Option.some.inj h
              subst h
              exact At.fin hm ht ⟨[(2, .b false), (4, .b true), (7, .call [] [] (f49_broughamref07_SameOption_out r729_0)), (10, .b true), (11, .call [] [] (f41_broughamlaw31_alive_out r729_1))], [], [], [6], []⟩ [(!r727_0.2) = false, r728_0.1 = true, FnOK Go.Proofs.Try.prog 49 (f49_broughamref07_SameOption_in r728_0.2.1 r728_0.2.2 o__0 o__1) (f49_broughamref07_SameOption_out r729_0), r729_0 = true, FnOK Go.Proofs.Try.prog 41 (f41_broughamlaw31_alive_in) (f41_broughamlaw31_alive_out r729_1)] (by kernel_rfl) ⟨b729_2, b729_4, (f49_broughamref07_SameOption_ok r728_0.2.1 r728_0.2.2 o__0 o__1 r729_0 cr729_0), b729_10, (f41_broughamlaw31_alive_ok n r729_1 cr729_1), trivial⟩
            · have h := Option.some.inj h
              subst h
              exact At.fin hm ht ⟨[(2, .b false), (4, .b true), (7, .call [] [] (f49_broughamref07_SameOption_out r729_0)), (10, .b false)], [], [], [6], []⟩ [(!r727_0.2) = false, r728_0.1 = true, FnOK Go.Proofs.Try.prog 49 (f49_broughamref07_SameOption_in r728_0.2.1 r728_0.2.2 o__0 o__1) (f49_broughamref07_SameOption_out r729_0), r729_0 = false] (by kernel_rfl) ⟨b729_2, b729_4, (f49_broughamref07_SameOption_ok r728_0.2.1 r728_0.2.2 o__0 o__1 r729_0 cr729_0), b729_10, trivial⟩
          · have h := Option.some.inj h
            subst h
            exact At.fin hm ht ⟨[(2, .b false), (4, .b false)], [], [], [6], []⟩ [(!r727_0.2) = false, r728_0.1 = false] (by kernel_rfl) ⟨b729_2, b729_4, trivial⟩
end Go.Proofs.YtjoibacjpapncaaF31
