/- What the functions compute, and that they do: printed by a program of this session (zgen.py), proved by Zed. -/
import Derived.Test.YtjoibacjpapncaaProg
import Derived.Test.YtjoibacjpapncaaZedYa
namespace Go.Proofs.YtjoibacjpapncaaF31b
open Go Zed
set_option maxRecDepth 100000
set_option linter.unusedVariables false
def tab : Tab := [(3, ⟨.int .i64, 1, 8, [.int .i64 0], some (.int .i64), none⟩), (4, ⟨.bool, 1, 1, [.bool false], some .bool, none⟩), (5, ⟨.int .u8, 1, 1, [.int .u8 0], some (.int .u8), none⟩), (9, ⟨.str, 1, 16, [.str (⟨#[]⟩ : ByteArray)], some .str, none⟩), (21, ⟨.int .i32, 1, 4, [.int .i32 0], some (.int .i32), none⟩), (22, ⟨.int .u64, 1, 8, [.int .u64 0], some (.int .u64), none⟩), (26, ⟨.int .u32, 1, 4, [.int .u32 0], some (.int .u32), none⟩), (38, ⟨.slice 5, 1, 24, [.sl .unit []], some (.slice (.int .u8)), none⟩), (54, ⟨.slice 63, 1, 24, [.sl .unit []], some (.slice (.pair (.int .u32) (.int .i64))), none⟩), (55, ⟨.ptr 151, 1, 8, [.nilP], none, none⟩), (57, ⟨.slice 156, 1, 24, [.sl .unit []], some (.slice (.pair (.int .u64) (.int .u64))), none⟩), (59, ⟨.struct [(0, 26), (1, 3), (2, 57)], 3, 40, [.int .u32 0, .int .i64 0, .sl .unit []], some (.pair (.int .u32) (.pair (.int .i64) (.slice (.pair (.int .u64) (.int .u64))))), some [(0, 26), (1, 3), (2, 57)]⟩), (63, ⟨.struct [(0, 26), (1, 3)], 2, 16, [.int .u32 0, .int .i64 0], some (.pair (.int .u32) (.int .i64)), some [(0, 26), (1, 3)]⟩), (67, ⟨.slice 161, 1, 24, [.sl .unit []], some (.slice (.pair (.int .u32) (.int .u32))), none⟩), (69, ⟨.slice 160, 1, 24, [.sl .unit []], some (.slice (.pair (.int .u32) (.int .u32))), none⟩), (73, ⟨.struct [(0, 5), (1, 38)], 2, 32, [.int .u8 0, .sl .unit []], some (.pair (.int .u8) (.slice (.int .u8))), some [(0, 5), (1, 38)]⟩), (139, ⟨.struct [(0, 3), (1, 22)], 2, 16, [.int .i64 0, .int .u64 0], some (.pair (.int .i64) (.int .u64)), some [(0, 3), (1, 22)]⟩), (151, ⟨.struct [(0, 26), (1, 3), (2, 69)], 3, 40, [.int .u32 0, .int .i64 0, .sl .unit []], some (.pair (.int .u32) (.pair (.int .i64) (.slice (.pair (.int .u32) (.int .u32))))), some [(0, 26), (1, 3), (2, 69)]⟩), (156, ⟨.struct [(0, 22), (1, 22)], 2, 16, [.int .u64 0, .int .u64 0], some (.pair (.int .u64) (.int .u64)), some [(0, 22), (1, 22)]⟩), (160, ⟨.struct [(0, 26), (1, 26)], 2, 8, [.int .u32 0, .int .u32 0], some (.pair (.int .u32) (.int .u32)), some [(0, 26), (1, 26)]⟩), (161, ⟨.struct [(0, 26), (1, 26)], 2, 8, [.int .u32 0, .int .u32 0], some (.pair (.int .u32) (.int .u32)), some [(0, 26), (1, 26)]⟩), (221, ⟨.slice 139, 1, 24, [.sl .unit []], some (.slice (.pair (.int .i64) (.int .u64))), none⟩)]
theorem ht : TabOk Go.Proofs.Try.prog tab := tabOk_of (ts := [3, 4, 5, 9, 21, 22, 26, 38, 54, 55, 57, 59, 63, 67, 69, 73, 139, 151, 156, 160, 161, 221]) (by kernel_rfl)
theorem hm : Go.Proofs.Try.prog.follows .mixedOrders = true := by kernel_rfl
/-! brougham/sack.New -/
def f31_sack_New_in (wait : Int) (most : Int) : Inn := ⟨[.c (.d (.int .u32 wait)), .c (.d (.int .i64 most))], [], [], 0⟩
def f31_sack_New_out (r : Int × Int) : Out := ⟨.one (.c (.ptr 0 0)), [], [(0, [.d (.int .u32 r.1), .d (.int .i64 r.2), .d (.sl .unit [])])], 1⟩
def f31_sack_New (wait : Int) (most : Int) : Option (Int × Int) :=
  some (wait, (if 64 < (if most < 1 then 1 else most) then 64 else (if most < 1 then 1 else most)))
theorem f31_sack_New_ok (wait : Int) (most : Int) (r : Int × Int) (h : f31_sack_New wait most = some r) : FnOK Go.Proofs.Try.prog 31 (f31_sack_New_in wait most) (f31_sack_New_out r) := by
  unfold f31_sack_New at h
  refine At.fn (r := 0) Go.Proofs.Try.func31 rfl (by kernel_rfl) rfl rfl (by kernel_rfl) ?_
  show At Go.Proofs.Try.prog Go.Proofs.Try.f31 0 0 ⟨[(0, .one (.c (.d (.int .u32 wait)))), (1, .one (.c (.d (.int .i64 most))))], [], [], 0⟩ _
  refine At.step hm ht ⟨[], [], [], [0, 1], []⟩ 1 ⟨[(0, .one (.c (.d (.int .u32 wait)))), (1, .one (.c (.d (.int .i64 most))))], [], [], 0⟩ [] (by kernel_rfl) trivial ?_
  have h := Option.some.inj h
  subst h
  exact At.fin hm ht ⟨[], [], [], [4], [5]⟩ [] (by kernel_rfl) trivial
/-! brougham/broughamref04.Diff -/
def f86_broughamref04_Diff_in (a : Int) (b : Int) : Inn := ⟨[.c (.d (.int .u32 a)), .c (.d (.int .u32 b))], [], [], 0⟩
def f86_broughamref04_Diff_out (r : Int) : Out := ⟨.one (.c (.d (.int .i64 r))), [], [], 0⟩
def f86_broughamref04_Diff (a : Int) (b : Int) : Option (Int) :=
  if (decide (((IntKind.wrap .i64 ((IntKind.wrap .i64 a) - (IntKind.wrap .i64 b))) : Int) < (-2147483648))) = true then
    if (decide (((IntKind.wrap .i64 ((IntKind.wrap .i64 ((IntKind.wrap .i64 a) - (IntKind.wrap .i64 b))) + 4294967296)) : Int) ≥ 2147483648)) = true then
      some (IntKind.wrap .i64 ((IntKind.wrap .i64 ((IntKind.wrap .i64 ((IntKind.wrap .i64 a) - (IntKind.wrap .i64 b))) + 4294967296)) - 4294967296))
    else
      some (IntKind.wrap .i64 ((IntKind.wrap .i64 ((IntKind.wrap .i64 a) - (IntKind.wrap .i64 b))) + 4294967296))
  else
    if (decide (((IntKind.wrap .i64 ((IntKind.wrap .i64 a) - (IntKind.wrap .i64 b))) : Int) ≥ 2147483648)) = true then
      some (IntKind.wrap .i64 ((IntKind.wrap .i64 ((IntKind.wrap .i64 a) - (IntKind.wrap .i64 b))) - 4294967296))
    else
      some (IntKind.wrap .i64 ((IntKind.wrap .i64 a) - (IntKind.wrap .i64 b)))
theorem f86_broughamref04_Diff_ok (a : Int) (b : Int) (r : Int) (h : f86_broughamref04_Diff a b = some r) : FnOK Go.Proofs.Try.prog 86 (f86_broughamref04_Diff_in a b) (f86_broughamref04_Diff_out r) := by
  unfold f86_broughamref04_Diff at h
  refine At.fn (r := 0) Go.Proofs.Try.func86 rfl (by kernel_rfl) rfl rfl (by kernel_rfl) ?_
  show At Go.Proofs.Try.prog Go.Proofs.Try.f86 0 0 ⟨[(0, .one (.c (.d (.int .u32 a)))), (1, .one (.c (.d (.int .u32 b))))], [], [], 0⟩ _
  refine At.step hm ht ⟨[], [], [], [0, 1], []⟩ 1 ⟨[(0, .one (.c (.d (.int .u32 a)))), (1, .one (.c (.d (.int .u32 b))))], [], [], 0⟩ [] (by kernel_rfl) trivial ?_
  refine At.step hm ht ⟨[], [], [], [5], []⟩ 2 ⟨[(5, .one (.c (.d (.int .i64 (IntKind.wrap .i64 ((IntKind.wrap .i64 a) - (IntKind.wrap .i64 b)))))))], [], [], 0⟩ [] (by kernel_rfl) trivial ?_
  rcases iteS h with ⟨b25_e0, h⟩ | ⟨b25_e0, h⟩
  · refine At.step hm ht ⟨[], [true], [], [5], []⟩ 3 ⟨[(5, .one (.c (.d (.int .i64 (IntKind.wrap .i64 ((IntKind.wrap .i64 a) - (IntKind.wrap .i64 b)))))))], [], [], 0⟩ [(decide (((IntKind.wrap .i64 ((IntKind.wrap .i64 a) - (IntKind.wrap .i64 b))) : Int) < (-2147483648))) = true] (by kernel_rfl) ⟨b25_e0, trivial⟩ ?_
    refine At.step hm ht ⟨[], [], [], [5], []⟩ 4 ⟨[(5, .one (.c (.d (.int .i64 (IntKind.wrap .i64 ((IntKind.wrap .i64 ((IntKind.wrap .i64 a) - (IntKind.wrap .i64 b))) + 4294967296))))))], [], [], 0⟩ [] (by kernel_rfl) trivial ?_
    rcases iteS h with ⟨b27_e0, h⟩ | ⟨b27_e0, h⟩
    · refine At.step hm ht ⟨[], [true], [], [5], []⟩ 5 ⟨[(5, .one (.c (.d (.int .i64 (IntKind.wrap .i64 ((IntKind.wrap .i64 ((IntKind.wrap .i64 a) - (IntKind.wrap .i64 b))) + 4294967296))))))], [], [], 0⟩ [(decide (((IntKind.wrap .i64 ((IntKind.wrap .i64 ((IntKind.wrap .i64 a) - (IntKind.wrap .i64 b))) + 4294967296)) : Int) ≥ 2147483648)) = true] (by kernel_rfl) ⟨b27_e0, trivial⟩ ?_
      refine At.step hm ht ⟨[], [], [], [5], []⟩ 6 ⟨[(5, .one (.c (.d (.int .i64 (IntKind.wrap .i64 ((IntKind.wrap .i64 ((IntKind.wrap .i64 ((IntKind.wrap .i64 a) - (IntKind.wrap .i64 b))) + 4294967296)) - 4294967296))))))], [], [], 0⟩ [] (by kernel_rfl) trivial ?_
      have h := Option.some.inj h
      subst h
      exact At.fin hm ht ⟨[], [], [], [4], []⟩ [] (by kernel_rfl) trivial
    · refine At.step hm ht ⟨[], [false], [], [5], []⟩ 6 ⟨[(5, .one (.c (.d (.int .i64 (IntKind.wrap .i64 ((IntKind.wrap .i64 ((IntKind.wrap .i64 a) - (IntKind.wrap .i64 b))) + 4294967296))))))], [], [], 0⟩ [(decide (((IntKind.wrap .i64 ((IntKind.wrap .i64 ((IntKind.wrap .i64 a) - (IntKind.wrap .i64 b))) + 4294967296)) : Int) ≥ 2147483648)) = false] (by kernel_rfl) ⟨b27_e0, trivial⟩ ?_
      have h := Option.some.inj h
      subst h
      exact At.fin hm ht ⟨[], [], [], [4], []⟩ [] (by kernel_rfl) trivial
  · refine At.step hm ht ⟨[], [false], [], [5], []⟩ 4 ⟨[(5, .one (.c (.d (.int .i64 (IntKind.wrap .i64 ((IntKind.wrap .i64 a) - (IntKind.wrap .i64 b)))))))], [], [], 0⟩ [(decide (((IntKind.wrap .i64 ((IntKind.wrap .i64 a) - (IntKind.wrap .i64 b))) : Int) < (-2147483648))) = false] (by kernel_rfl) ⟨b25_e0, trivial⟩ ?_
    rcases iteS h with ⟨b31_e0, h⟩ | ⟨b31_e0, h⟩
    · refine At.step hm ht ⟨[], [true], [], [5], []⟩ 5 ⟨[(5, .one (.c (.d (.int .i64 (IntKind.wrap .i64 ((IntKind.wrap .i64 a) - (IntKind.wrap .i64 b)))))))], [], [], 0⟩ [(decide (((IntKind.wrap .i64 ((IntKind.wrap .i64 a) - (IntKind.wrap .i64 b))) : Int) ≥ 2147483648)) = true] (by kernel_rfl) ⟨b31_e0, trivial⟩ ?_
      refine At.step hm ht ⟨[], [], [], [5], []⟩ 6 ⟨[(5, .one (.c (.d (.int .i64 (IntKind.wrap .i64 ((IntKind.wrap .i64 ((IntKind.wrap .i64 a) - (IntKind.wrap .i64 b))) - 4294967296))))))], [], [], 0⟩ [] (by kernel_rfl) trivial ?_
      have h := Option.some.inj h
      subst h
      exact At.fin hm ht ⟨[], [], [], [4], []⟩ [] (by kernel_rfl) trivial
    · refine At.step hm ht ⟨[], [false], [], [5], []⟩ 6 ⟨[(5, .one (.c (.d (.int .i64 (IntKind.wrap .i64 ((IntKind.wrap .i64 a) - (IntKind.wrap .i64 b)))))))], [], [], 0⟩ [(decide (((IntKind.wrap .i64 ((IntKind.wrap .i64 a) - (IntKind.wrap .i64 b))) : Int) ≥ 2147483648)) = false] (by kernel_rfl) ⟨b31_e0, trivial⟩ ?_
      have h := Option.some.inj h
      subst h
      exact At.fin hm ht ⟨[], [], [], [4], []⟩ [] (by kernel_rfl) trivial
/-! brougham/broughamref04.ahead -/
def f126_broughamref04_ahead_in (from_ : Int) (to_ : Int) : Inn := ⟨[.c (.d (.int .u32 from_)), .c (.d (.int .u32 to_))], [], [], 0⟩
def f126_broughamref04_ahead_out (r : Int) : Out := ⟨.one (.c (.d (.int .i64 r))), [], [], 0⟩
def f126_broughamref04_ahead (from_ : Int) (to_ : Int) : Option (Int) :=
  if (decide (((IntKind.wrap .i64 ((IntKind.wrap .i64 to_) - (IntKind.wrap .i64 from_))) : Int) < 0)) = true then
    some (IntKind.wrap .i64 ((IntKind.wrap .i64 ((IntKind.wrap .i64 to_) - (IntKind.wrap .i64 from_))) + 4294967296))
  else
    some (IntKind.wrap .i64 ((IntKind.wrap .i64 to_) - (IntKind.wrap .i64 from_)))
theorem f126_broughamref04_ahead_ok (from_ : Int) (to_ : Int) (r : Int) (h : f126_broughamref04_ahead from_ to_ = some r) : FnOK Go.Proofs.Try.prog 126 (f126_broughamref04_ahead_in from_ to_) (f126_broughamref04_ahead_out r) := by
  unfold f126_broughamref04_ahead at h
  refine At.fn (r := 0) Go.Proofs.Try.func126 rfl (by kernel_rfl) rfl rfl (by kernel_rfl) ?_
  show At Go.Proofs.Try.prog Go.Proofs.Try.f126 0 0 ⟨[(0, .one (.c (.d (.int .u32 from_)))), (1, .one (.c (.d (.int .u32 to_))))], [], [], 0⟩ _
  refine At.step hm ht ⟨[], [], [], [0, 1], []⟩ 1 ⟨[(0, .one (.c (.d (.int .u32 from_)))), (1, .one (.c (.d (.int .u32 to_))))], [], [], 0⟩ [] (by kernel_rfl) trivial ?_
  refine At.step hm ht ⟨[], [], [], [5], []⟩ 2 ⟨[(5, .one (.c (.d (.int .i64 (IntKind.wrap .i64 ((IntKind.wrap .i64 to_) - (IntKind.wrap .i64 from_)))))))], [], [], 0⟩ [] (by kernel_rfl) trivial ?_
  rcases iteS h with ⟨b42_e0, h⟩ | ⟨b42_e0, h⟩
  · refine At.step hm ht ⟨[], [true], [], [5], []⟩ 3 ⟨[(5, .one (.c (.d (.int .i64 (IntKind.wrap .i64 ((IntKind.wrap .i64 to_) - (IntKind.wrap .i64 from_)))))))], [], [], 0⟩ [(decide (((IntKind.wrap .i64 ((IntKind.wrap .i64 to_) - (IntKind.wrap .i64 from_))) : Int) < 0)) = true] (by kernel_rfl) ⟨b42_e0, trivial⟩ ?_
    refine At.step hm ht ⟨[], [], [], [5], []⟩ 4 ⟨[(5, .one (.c (.d (.int .i64 (IntKind.wrap .i64 ((IntKind.wrap .i64 ((IntKind.wrap .i64 to_) - (IntKind.wrap .i64 from_))) + 4294967296))))))], [], [], 0⟩ [] (by kernel_rfl) trivial ?_
    have h := Option.some.inj h
    subst h
    exact At.fin hm ht ⟨[], [], [], [4], []⟩ [] (by kernel_rfl) trivial
  · refine At.step hm ht ⟨[], [false], [], [5], []⟩ 4 ⟨[(5, .one (.c (.d (.int .i64 (IntKind.wrap .i64 ((IntKind.wrap .i64 to_) - (IntKind.wrap .i64 from_)))))))], [], [], 0⟩ [(decide (((IntKind.wrap .i64 ((IntKind.wrap .i64 to_) - (IntKind.wrap .i64 from_))) : Int) < 0)) = false] (by kernel_rfl) ⟨b42_e0, trivial⟩ ?_
    have h := Option.some.inj h
    subst h
    exact At.fin hm ht ⟨[], [], [], [4], []⟩ [] (by kernel_rfl) trivial
/-! brougham/broughamref04.Within -/
def f87_broughamref04_Within_in (x : Int) (from_ : Int) (size : Int) : Inn := ⟨[.c (.d (.int .u32 x)), .c (.d (.int .u32 from_)), .c (.d (.int .u32 size))], [], [], 0⟩
def f87_broughamref04_Within_out (r : Bool) : Out := ⟨.one (.c (.d (.bool r))), [], [], 0⟩
def f87_broughamref04_Within (x : Int) (from_ : Int) (size : Int) : Option (Bool) :=
  (f126_broughamref04_ahead from_ x).bind fun r39_0 =>
  some (decide ((r39_0 : Int) < (IntKind.wrap .i64 size)))
theorem f87_broughamref04_Within_ok (x : Int) (from_ : Int) (size : Int) (r : Bool) (h : f87_broughamref04_Within x from_ size = some r) : FnOK Go.Proofs.Try.prog 87 (f87_broughamref04_Within_in x from_ size) (f87_broughamref04_Within_out r) := by
  unfold f87_broughamref04_Within at h
  refine At.fn (r := 0) Go.Proofs.Try.func87 rfl (by kernel_rfl) rfl rfl (by kernel_rfl) ?_
  show At Go.Proofs.Try.prog Go.Proofs.Try.f87 0 0 ⟨[(0, .one (.c (.d (.int .u32 x)))), (1, .one (.c (.d (.int .u32 from_)))), (2, .one (.c (.d (.int .u32 size))))], [], [], 0⟩ _
  refine At.step hm ht ⟨[], [], [], [0, 1, 2], []⟩ 1 ⟨[(0, .one (.c (.d (.int .u32 x)))), (1, .one (.c (.d (.int .u32 from_)))), (2, .one (.c (.d (.int .u32 size))))], [], [], 0⟩ [] (by kernel_rfl) trivial ?_
  obtain ⟨r39_0, cr39_0, h⟩ := bindS h
  have h := Option.some.inj h
  subst h
  exact At.fin hm ht ⟨[(2, .call [] [] (f126_broughamref04_ahead_out r39_0))], [], [], [6], []⟩ [FnOK Go.Proofs.Try.prog 126 (f126_broughamref04_ahead_in from_ x) (f126_broughamref04_ahead_out r39_0)] (by kernel_rfl) ⟨(f126_broughamref04_ahead_ok from_ x r39_0 cr39_0), trivial⟩
/-! brougham/broughamref06.Join -/
def f88_broughamref06_Join_in (l : List (Int × Int)) (x_0 : Int) (x_1 : Int) : Inn := ⟨[.c (.d (.sl (.pair (.int .u64) (.int .u64)) l)), .agg [.d (.int .u64 x_0), .d (.int .u64 x_1)]], [], [], 0⟩
def f88_broughamref06_Join_out (r : List (Int × Int)) : Out := ⟨.one (.c (.d (.sl (.pair (.int .u64) (.int .u64)) r))), [], [], 0⟩
def f88_broughamref06_Join_L3 : Nat → (List (Int × Int)) → Int → Int → Int → (List (Int × Int)) → Option (Int × Int × List (Int × Int))
  | 0, _, _, _, _, _ => none
  | n + 1, l, i, x_0, x_1, b1_0 =>
    if (decide ((i : Int) < ((l.length : Nat) : Int))) = true then
      if (0 : Int) ≤ i ∧ i < (((l).length : Nat) : Int) then
      if (decide ((((l.getD i.toNat (0, 0)).2) : Int) < x_0)) = true then
        if (0 : Int) ≤ i ∧ i < (((l).length : Nat) : Int) then
        if b1_0.length + [(l.getD i.toNat (0, 0))].length ≤ maxLen ∧ (b1_0.length + [(l.getD i.toNat (0, 0))].length) * 16 ≤ 140737488355328 then
        f88_broughamref06_Join_L3 n l (IntKind.wrap .i64 (i + 1)) x_0 x_1 (b1_0 ++ [(l.getD i.toNat (0, 0))])
        else none
        else none
      else
        if (0 : Int) ≤ i ∧ i < (((l).length : Nat) : Int) then
        if (decide ((((l.getD i.toNat (0, 0)).1) : Int) > x_1)) = true then
          if (0 : Int) ≤ i ∧ i < (((l).length : Nat) : Int) then
          if b1_0.length + [(l.getD i.toNat (0, 0))].length ≤ maxLen ∧ (b1_0.length + [(l.getD i.toNat (0, 0))].length) * 16 ≤ 140737488355328 then
          f88_broughamref06_Join_L3 n l (IntKind.wrap .i64 (i + 1)) x_0 x_1 (b1_0 ++ [(l.getD i.toNat (0, 0))])
          else none
          else none
        else
          if (0 : Int) ≤ i ∧ i < (((l).length : Nat) : Int) then
          if (decide ((((l.getD i.toNat (0, 0)).1) : Int) < x_0)) = true then
            if (0 : Int) ≤ i ∧ i < (((l).length : Nat) : Int) then
            if (0 : Int) ≤ i ∧ i < (((l).length : Nat) : Int) then
            if (decide ((((l.getD i.toNat (0, 0)).2) : Int) > x_1)) = true then
              if (0 : Int) ≤ i ∧ i < (((l).length : Nat) : Int) then
              f88_broughamref06_Join_L3 n l (IntKind.wrap .i64 (i + 1)) ((l.getD i.toNat (0, 0)).1) ((l.getD i.toNat (0, 0)).2) b1_0
              else none
            else
              f88_broughamref06_Join_L3 n l (IntKind.wrap .i64 (i + 1)) ((l.getD i.toNat (0, 0)).1) x_1 b1_0
            else none
            else none
          else
            if (0 : Int) ≤ i ∧ i < (((l).length : Nat) : Int) then
            if (decide ((((l.getD i.toNat (0, 0)).2) : Int) > x_1)) = true then
              if (0 : Int) ≤ i ∧ i < (((l).length : Nat) : Int) then
              f88_broughamref06_Join_L3 n l (IntKind.wrap .i64 (i + 1)) x_0 ((l.getD i.toNat (0, 0)).2) b1_0
              else none
            else
              f88_broughamref06_Join_L3 n l (IntKind.wrap .i64 (i + 1)) x_0 x_1 b1_0
            else none
          else none
        else none
      else none
    else
      some ((x_0, x_1, b1_0))
def f88_broughamref06_Join_L3_k (e : Int × Int × List (Int × Int)) (o : Out) : Prop := At Go.Proofs.Try.prog Go.Proofs.Try.f88 0 11 ⟨[(3, .one (.c (.ptr 0 0))), (5, .one (.c (.row 1 (.pair (.int .u64) (.int .u64)))))], [(1, some ⟨156, 2⟩)], [(0, [.d (.int .u64 e.1), .d (.int .u64 e.2.1)]), (1, [.run (.pair (.int .u64) (.int .u64)) e.2.2])], 2⟩ o
theorem f88_broughamref06_Join_L3_ok (n : Nat) : ∀ (l : List (Int × Int)) (i : Int) (x_0 : Int) (x_1 : Int) (b1_0 : List (Int × Int)) (w : Int × Int × List (Int × Int)) (h : f88_broughamref06_Join_L3 n l i x_0 x_1 b1_0 = some w) (o : Out) (hk : f88_broughamref06_Join_L3_k w o), At Go.Proofs.Try.prog Go.Proofs.Try.f88 0 3 ⟨[(0, .one (.c (.d (.sl (.pair (.int .u64) (.int .u64)) l)))), (3, .one (.c (.ptr 0 0))), (5, .one (.c (.row 1 (.pair (.int .u64) (.int .u64))))), (6, .one (.c (.d (.int .i64 i))))], [(1, some ⟨156, 2⟩)], [(0, [.d (.int .u64 x_0), .d (.int .u64 x_1)]), (1, [.run (.pair (.int .u64) (.int .u64)) b1_0])], 2⟩ o := by
  induction n with
  | zero => intro l i x_0 x_1 b1_0 w h; rw [f88_broughamref06_Join_L3] at h; cases h
  | succ n ih =>
    intro l i x_0 x_1 b1_0 w h o hk
    rw [f88_broughamref06_Join_L3] at h
    rcases iteS h with ⟨b62_e0, h⟩ | ⟨b62_e0, h⟩
    · refine At.step hm ht ⟨[], [true], [], [0, 3, 5, 6], [0, 1]⟩ 5 ⟨[(0, .one (.c (.d (.sl (.pair (.int .u64) (.int .u64)) l)))), (3, .one (.c (.ptr 0 0))), (5, .one (.c (.row 1 (.pair (.int .u64) (.int .u64))))), (6, .one (.c (.d (.int .i64 i))))], [(1, some ⟨156, 2⟩)], [(0, [.d (.int .u64 x_0), .d (.int .u64 x_1)]), (1, [.run (.pair (.int .u64) (.int .u64)) b1_0])], 2⟩ [(decide ((i : Int) < ((l.length : Nat) : Int))) = true] (by kernel_rfl) ⟨b62_e0, trivial⟩ ?_
      obtain ⟨g63_0, h⟩ := ifS h
      rcases iteS h with ⟨b63_8, h⟩ | ⟨b63_8, h⟩
      · refine At.step hm ht ⟨[(8, .b true)], [true], [], [0, 3, 5, 6], [0, 1]⟩ 6 ⟨[(0, .one (.c (.d (.sl (.pair (.int .u64) (.int .u64)) l)))), (3, .one (.c (.ptr 0 0))), (5, .one (.c (.row 1 (.pair (.int .u64) (.int .u64))))), (6, .one (.c (.d (.int .i64 i))))], [(1, some ⟨156, 2⟩)], [(0, [.d (.int .u64 x_0), .d (.int .u64 x_1)]), (1, [.run (.pair (.int .u64) (.int .u64)) b1_0])], 2⟩ [(0 : Int) ≤ i ∧ i < (((l).length : Nat) : Int), (decide ((((l.getD i.toNat (0, 0)).2) : Int) < x_0)) = true, true = true] (by kernel_rfl) ⟨g63_0, b63_8, rfl, trivial⟩ ?_
        obtain ⟨g64_0, h⟩ := ifS h
        obtain ⟨g64_1, h⟩ := ifS h
        refine At.step hm ht ⟨[], [], [], [0, 3, 5, 6], [0, 8]⟩ 4 ⟨[(0, .one (.c (.d (.sl (.pair (.int .u64) (.int .u64)) l)))), (3, .one (.c (.ptr 0 0))), (5, .one (.c (.row 1 (.pair (.int .u64) (.int .u64))))), (6, .one (.c (.d (.int .i64 i))))], [(1, some ⟨156, 2⟩)], [(0, [.d (.int .u64 x_0), .d (.int .u64 x_1)]), (1, [.run (.pair (.int .u64) (.int .u64)) (b1_0 ++ [(l.getD i.toNat (0, 0))])])], 2⟩ [(0 : Int) ≤ i ∧ i < (((l).length : Nat) : Int), b1_0.length + [(l.getD i.toNat (0, 0))].length ≤ maxLen ∧ (b1_0.length + [(l.getD i.toNat (0, 0))].length) * 16 ≤ 140737488355328] (by kernel_rfl) ⟨g64_0, g64_1, trivial⟩ ?_
        refine At.step hm ht ⟨[], [], [], [0, 3, 5, 6], [0, 1]⟩ 3 ⟨[(0, .one (.c (.d (.sl (.pair (.int .u64) (.int .u64)) l)))), (3, .one (.c (.ptr 0 0))), (5, .one (.c (.row 1 (.pair (.int .u64) (.int .u64))))), (6, .one (.c (.d (.int .i64 (IntKind.wrap .i64 (i + 1))))))], [(1, some ⟨156, 2⟩)], [(0, [.d (.int .u64 x_0), .d (.int .u64 x_1)]), (1, [.run (.pair (.int .u64) (.int .u64)) (b1_0 ++ [(l.getD i.toNat (0, 0))])])], 2⟩ [] (by kernel_rfl) trivial ?_
        exact ih l (IntKind.wrap .i64 (i + 1)) x_0 x_1 (b1_0 ++ [(l.getD i.toNat (0, 0))]) w h o hk
      · obtain ⟨g63_1, h⟩ := ifS h
        rcases iteS h with ⟨b63_e0, h⟩ | ⟨b63_e0, h⟩
        · refine At.step hm ht ⟨[(8, .b false)], [true], [], [0, 3, 5, 6], [0, 1]⟩ 6 ⟨[(0, .one (.c (.d (.sl (.pair (.int .u64) (.int .u64)) l)))), (3, .one (.c (.ptr 0 0))), (5, .one (.c (.row 1 (.pair (.int .u64) (.int .u64))))), (6, .one (.c (.d (.int .i64 i))))], [(1, some ⟨156, 2⟩)], [(0, [.d (.int .u64 x_0), .d (.int .u64 x_1)]), (1, [.run (.pair (.int .u64) (.int .u64)) b1_0])], 2⟩ [(0 : Int) ≤ i ∧ i < (((l).length : Nat) : Int), (decide ((((l.getD i.toNat (0, 0)).2) : Int) < x_0)) = false, (0 : Int) ≤ i ∧ i < (((l).length : Nat) : Int), (decide ((((l.getD i.toNat (0, 0)).1) : Int) > x_1)) = true] (by kernel_rfl) ⟨g63_0, b63_8, g63_1, b63_e0, trivial⟩ ?_
          obtain ⟨g66_0, h⟩ := ifS h
          obtain ⟨g66_1, h⟩ := ifS h
          refine At.step hm ht ⟨[], [], [], [0, 3, 5, 6], [0, 8]⟩ 4 ⟨[(0, .one (.c (.d (.sl (.pair (.int .u64) (.int .u64)) l)))), (3, .one (.c (.ptr 0 0))), (5, .one (.c (.row 1 (.pair (.int .u64) (.int .u64))))), (6, .one (.c (.d (.int .i64 i))))], [(1, some ⟨156, 2⟩)], [(0, [.d (.int .u64 x_0), .d (.int .u64 x_1)]), (1, [.run (.pair (.int .u64) (.int .u64)) (b1_0 ++ [(l.getD i.toNat (0, 0))])])], 2⟩ [(0 : Int) ≤ i ∧ i < (((l).length : Nat) : Int), b1_0.length + [(l.getD i.toNat (0, 0))].length ≤ maxLen ∧ (b1_0.length + [(l.getD i.toNat (0, 0))].length) * 16 ≤ 140737488355328] (by kernel_rfl) ⟨g66_0, g66_1, trivial⟩ ?_
          refine At.step hm ht ⟨[], [], [], [0, 3, 5, 6], [0, 1]⟩ 3 ⟨[(0, .one (.c (.d (.sl (.pair (.int .u64) (.int .u64)) l)))), (3, .one (.c (.ptr 0 0))), (5, .one (.c (.row 1 (.pair (.int .u64) (.int .u64))))), (6, .one (.c (.d (.int .i64 (IntKind.wrap .i64 (i + 1))))))], [(1, some ⟨156, 2⟩)], [(0, [.d (.int .u64 x_0), .d (.int .u64 x_1)]), (1, [.run (.pair (.int .u64) (.int .u64)) (b1_0 ++ [(l.getD i.toNat (0, 0))])])], 2⟩ [] (by kernel_rfl) trivial ?_
          exact ih l (IntKind.wrap .i64 (i + 1)) x_0 x_1 (b1_0 ++ [(l.getD i.toNat (0, 0))]) w h o hk
        · refine At.step hm ht ⟨[(8, .b false)], [false], [], [0, 3, 5, 6], [0, 1]⟩ 7 ⟨[(0, .one (.c (.d (.sl (.pair (.int .u64) (.int .u64)) l)))), (3, .one (.c (.ptr 0 0))), (5, .one (.c (.row 1 (.pair (.int .u64) (.int .u64))))), (6, .one (.c (.d (.int .i64 i))))], [(1, some ⟨156, 2⟩)], [(0, [.d (.int .u64 x_0), .d (.int .u64 x_1)]), (1, [.run (.pair (.int .u64) (.int .u64)) b1_0])], 2⟩ [(0 : Int) ≤ i ∧ i < (((l).length : Nat) : Int), (decide ((((l.getD i.toNat (0, 0)).2) : Int) < x_0)) = false, (0 : Int) ≤ i ∧ i < (((l).length : Nat) : Int), (decide ((((l.getD i.toNat (0, 0)).1) : Int) > x_1)) = false] (by kernel_rfl) ⟨g63_0, b63_8, g63_1, b63_e0, trivial⟩ ?_
          obtain ⟨g68_0, h⟩ := ifS h
          rcases iteS h with ⟨b68_e0, h⟩ | ⟨b68_e0, h⟩
          · refine At.step hm ht ⟨[], [true], [], [0, 3, 5, 6], [0, 1]⟩ 8 ⟨[(0, .one (.c (.d (.sl (.pair (.int .u64) (.int .u64)) l)))), (3, .one (.c (.ptr 0 0))), (5, .one (.c (.row 1 (.pair (.int .u64) (.int .u64))))), (6, .one (.c (.d (.int .i64 i))))], [(1, some ⟨156, 2⟩)], [(0, [.d (.int .u64 x_0), .d (.int .u64 x_1)]), (1, [.run (.pair (.int .u64) (.int .u64)) b1_0])], 2⟩ [(0 : Int) ≤ i ∧ i < (((l).length : Nat) : Int), (decide ((((l.getD i.toNat (0, 0)).1) : Int) < x_0)) = true] (by kernel_rfl) ⟨g68_0, b68_e0, trivial⟩ ?_
            obtain ⟨g69_0, h⟩ := ifS h
            refine At.step hm ht ⟨[], [], [], [0, 3, 5, 6], [0, 1]⟩ 9 ⟨[(0, .one (.c (.d (.sl (.pair (.int .u64) (.int .u64)) l)))), (3, .one (.c (.ptr 0 0))), (5, .one (.c (.row 1 (.pair (.int .u64) (.int .u64))))), (6, .one (.c (.d (.int .i64 i))))], [(1, some ⟨156, 2⟩)], [(0, [.d (.int .u64 ((l.getD i.toNat (0, 0)).1)), .d (.int .u64 x_1)]), (1, [.run (.pair (.int .u64) (.int .u64)) b1_0])], 2⟩ [(0 : Int) ≤ i ∧ i < (((l).length : Nat) : Int), 0 + 1 ≤ 2] (by kernel_rfl) ⟨g69_0, (by decide), trivial⟩ ?_
            obtain ⟨g70_0, h⟩ := ifS h
            rcases iteS h with ⟨b70_e0, h⟩ | ⟨b70_e0, h⟩
            · refine At.step hm ht ⟨[], [true], [], [0, 3, 5, 6], [0, 1]⟩ 10 ⟨[(0, .one (.c (.d (.sl (.pair (.int .u64) (.int .u64)) l)))), (3, .one (.c (.ptr 0 0))), (5, .one (.c (.row 1 (.pair (.int .u64) (.int .u64))))), (6, .one (.c (.d (.int .i64 i))))], [(1, some ⟨156, 2⟩)], [(0, [.d (.int .u64 ((l.getD i.toNat (0, 0)).1)), .d (.int .u64 x_1)]), (1, [.run (.pair (.int .u64) (.int .u64)) b1_0])], 2⟩ [(0 : Int) ≤ i ∧ i < (((l).length : Nat) : Int), (decide ((((l.getD i.toNat (0, 0)).2) : Int) > x_1)) = true] (by kernel_rfl) ⟨g70_0, b70_e0, trivial⟩ ?_
              obtain ⟨g71_0, h⟩ := ifS h
              refine At.step hm ht ⟨[], [], [], [0, 3, 5, 6], [0, 1]⟩ 4 ⟨[(0, .one (.c (.d (.sl (.pair (.int .u64) (.int .u64)) l)))), (3, .one (.c (.ptr 0 0))), (5, .one (.c (.row 1 (.pair (.int .u64) (.int .u64))))), (6, .one (.c (.d (.int .i64 i))))], [(1, some ⟨156, 2⟩)], [(0, [.d (.int .u64 ((l.getD i.toNat (0, 0)).1)), .d (.int .u64 ((l.getD i.toNat (0, 0)).2))]), (1, [.run (.pair (.int .u64) (.int .u64)) b1_0])], 2⟩ [(0 : Int) ≤ i ∧ i < (((l).length : Nat) : Int), 1 + 1 ≤ 2] (by kernel_rfl) ⟨g71_0, (by decide), trivial⟩ ?_
              refine At.step hm ht ⟨[], [], [], [0, 3, 5, 6], [0, 1]⟩ 3 ⟨[(0, .one (.c (.d (.sl (.pair (.int .u64) (.int .u64)) l)))), (3, .one (.c (.ptr 0 0))), (5, .one (.c (.row 1 (.pair (.int .u64) (.int .u64))))), (6, .one (.c (.d (.int .i64 (IntKind.wrap .i64 (i + 1))))))], [(1, some ⟨156, 2⟩)], [(0, [.d (.int .u64 ((l.getD i.toNat (0, 0)).1)), .d (.int .u64 ((l.getD i.toNat (0, 0)).2))]), (1, [.run (.pair (.int .u64) (.int .u64)) b1_0])], 2⟩ [] (by kernel_rfl) trivial ?_
              exact ih l (IntKind.wrap .i64 (i + 1)) ((l.getD i.toNat (0, 0)).1) ((l.getD i.toNat (0, 0)).2) b1_0 w h o hk
            · refine At.step hm ht ⟨[], [false], [], [0, 3, 5, 6], [0, 1]⟩ 4 ⟨[(0, .one (.c (.d (.sl (.pair (.int .u64) (.int .u64)) l)))), (3, .one (.c (.ptr 0 0))), (5, .one (.c (.row 1 (.pair (.int .u64) (.int .u64))))), (6, .one (.c (.d (.int .i64 i))))], [(1, some ⟨156, 2⟩)], [(0, [.d (.int .u64 ((l.getD i.toNat (0, 0)).1)), .d (.int .u64 x_1)]), (1, [.run (.pair (.int .u64) (.int .u64)) b1_0])], 2⟩ [(0 : Int) ≤ i ∧ i < (((l).length : Nat) : Int), (decide ((((l.getD i.toNat (0, 0)).2) : Int) > x_1)) = false] (by kernel_rfl) ⟨g70_0, b70_e0, trivial⟩ ?_
              refine At.step hm ht ⟨[], [], [], [0, 3, 5, 6], [0, 1]⟩ 3 ⟨[(0, .one (.c (.d (.sl (.pair (.int .u64) (.int .u64)) l)))), (3, .one (.c (.ptr 0 0))), (5, .one (.c (.row 1 (.pair (.int .u64) (.int .u64))))), (6, .one (.c (.d (.int .i64 (IntKind.wrap .i64 (i + 1))))))], [(1, some ⟨156, 2⟩)], [(0, [.d (.int .u64 ((l.getD i.toNat (0, 0)).1)), .d (.int .u64 x_1)]), (1, [.run (.pair (.int .u64) (.int .u64)) b1_0])], 2⟩ [] (by kernel_rfl) trivial ?_
              exact ih l (IntKind.wrap .i64 (i + 1)) ((l.getD i.toNat (0, 0)).1) x_1 b1_0 w h o hk
          · refine At.step hm ht ⟨[], [false], [], [0, 3, 5, 6], [0, 1]⟩ 9 ⟨[(0, .one (.c (.d (.sl (.pair (.int .u64) (.int .u64)) l)))), (3, .one (.c (.ptr 0 0))), (5, .one (.c (.row 1 (.pair (.int .u64) (.int .u64))))), (6, .one (.c (.d (.int .i64 i))))], [(1, some ⟨156, 2⟩)], [(0, [.d (.int .u64 x_0), .d (.int .u64 x_1)]), (1, [.run (.pair (.int .u64) (.int .u64)) b1_0])], 2⟩ [(0 : Int) ≤ i ∧ i < (((l).length : Nat) : Int), (decide ((((l.getD i.toNat (0, 0)).1) : Int) < x_0)) = false] (by kernel_rfl) ⟨g68_0, b68_e0, trivial⟩ ?_
            obtain ⟨g74_0, h⟩ := ifS h
            rcases iteS h with ⟨b74_e0, h⟩ | ⟨b74_e0, h⟩
            · refine At.step hm ht ⟨[], [true], [], [0, 3, 5, 6], [0, 1]⟩ 10 ⟨[(0, .one (.c (.d (.sl (.pair (.int .u64) (.int .u64)) l)))), (3, .one (.c (.ptr 0 0))), (5, .one (.c (.row 1 (.pair (.int .u64) (.int .u64))))), (6, .one (.c (.d (.int .i64 i))))], [(1, some ⟨156, 2⟩)], [(0, [.d (.int .u64 x_0), .d (.int .u64 x_1)]), (1, [.run (.pair (.int .u64) (.int .u64)) b1_0])], 2⟩ [(0 : Int) ≤ i ∧ i < (((l).length : Nat) : Int), (decide ((((l.getD i.toNat (0, 0)).2) : Int) > x_1)) = true] (by kernel_rfl) ⟨g74_0, b74_e0, trivial⟩ ?_
              obtain ⟨g75_0, h⟩ := ifS h
              refine At.step hm ht ⟨[], [], [], [0, 3, 5, 6], [0, 1]⟩ 4 ⟨[(0, .one (.c (.d (.sl (.pair (.int .u64) (.int .u64)) l)))), (3, .one (.c (.ptr 0 0))), (5, .one (.c (.row 1 (.pair (.int .u64) (.int .u64))))), (6, .one (.c (.d (.int .i64 i))))], [(1, some ⟨156, 2⟩)], [(0, [.d (.int .u64 x_0), .d (.int .u64 ((l.getD i.toNat (0, 0)).2))]), (1, [.run (.pair (.int .u64) (.int .u64)) b1_0])], 2⟩ [(0 : Int) ≤ i ∧ i < (((l).length : Nat) : Int), 1 + 1 ≤ 2] (by kernel_rfl) ⟨g75_0, (by decide), trivial⟩ ?_
              refine At.step hm ht ⟨[], [], [], [0, 3, 5, 6], [0, 1]⟩ 3 ⟨[(0, .one (.c (.d (.sl (.pair (.int .u64) (.int .u64)) l)))), (3, .one (.c (.ptr 0 0))), (5, .one (.c (.row 1 (.pair (.int .u64) (.int .u64))))), (6, .one (.c (.d (.int .i64 (IntKind.wrap .i64 (i + 1))))))], [(1, some ⟨156, 2⟩)], [(0, [.d (.int .u64 x_0), .d (.int .u64 ((l.getD i.toNat (0, 0)).2))]), (1, [.run (.pair (.int .u64) (.int .u64)) b1_0])], 2⟩ [] (by kernel_rfl) trivial ?_
              exact ih l (IntKind.wrap .i64 (i + 1)) x_0 ((l.getD i.toNat (0, 0)).2) b1_0 w h o hk
            · refine At.step hm ht ⟨[], [false], [], [0, 3, 5, 6], [0, 1]⟩ 4 ⟨[(0, .one (.c (.d (.sl (.pair (.int .u64) (.int .u64)) l)))), (3, .one (.c (.ptr 0 0))), (5, .one (.c (.row 1 (.pair (.int .u64) (.int .u64))))), (6, .one (.c (.d (.int .i64 i))))], [(1, some ⟨156, 2⟩)], [(0, [.d (.int .u64 x_0), .d (.int .u64 x_1)]), (1, [.run (.pair (.int .u64) (.int .u64)) b1_0])], 2⟩ [(0 : Int) ≤ i ∧ i < (((l).length : Nat) : Int), (decide ((((l.getD i.toNat (0, 0)).2) : Int) > x_1)) = false] (by kernel_rfl) ⟨g74_0, b74_e0, trivial⟩ ?_
              refine At.step hm ht ⟨[], [], [], [0, 3, 5, 6], [0, 1]⟩ 3 ⟨[(0, .one (.c (.d (.sl (.pair (.int .u64) (.int .u64)) l)))), (3, .one (.c (.ptr 0 0))), (5, .one (.c (.row 1 (.pair (.int .u64) (.int .u64))))), (6, .one (.c (.d (.int .i64 (IntKind.wrap .i64 (i + 1))))))], [(1, some ⟨156, 2⟩)], [(0, [.d (.int .u64 x_0), .d (.int .u64 x_1)]), (1, [.run (.pair (.int .u64) (.int .u64)) b1_0])], 2⟩ [] (by kernel_rfl) trivial ?_
              exact ih l (IntKind.wrap .i64 (i + 1)) x_0 x_1 b1_0 w h o hk
    · refine At.step hm ht ⟨[], [false], [], [3, 5], [0, 1]⟩ 11 ⟨[(3, .one (.c (.ptr 0 0))), (5, .one (.c (.row 1 (.pair (.int .u64) (.int .u64)))))], [(1, some ⟨156, 2⟩)], [(0, [.d (.int .u64 x_0), .d (.int .u64 x_1)]), (1, [.run (.pair (.int .u64) (.int .u64)) b1_0])], 2⟩ [(decide ((i : Int) < ((l.length : Nat) : Int))) = false] (by kernel_rfl) ⟨b62_e0, trivial⟩ ?_
      have h := Option.some.inj h
      subst h
      exact hk
def f88_broughamref06_Join_L13 : Nat → Int → (List (Int × Int)) → Option (List (Int × Int))
  | 0, _, _ => none
  | n + 1, i, b0_0 =>
    if (decide ((i : Int) > 0)) = true then
      if (0 : Int) ≤ i ∧ i < (((b0_0).length : Nat) : Int) then
      if (0 : Int) ≤ (IntKind.wrap .i64 (i - 1)) ∧ (IntKind.wrap .i64 (i - 1)) < (((b0_0).length : Nat) : Int) then
      if (decide ((((b0_0.getD i.toNat (0, 0)).1) : Int) < ((b0_0.getD ((IntKind.wrap .i64 (i - 1)).toNat) (0, 0)).1))) = true then
        if (0 : Int) ≤ (IntKind.wrap .i64 (i - 1)) ∧ (IntKind.wrap .i64 (i - 1)) < (((b0_0).length : Nat) : Int) then
        if (0 : Int) ≤ i ∧ i < (((b0_0).length : Nat) : Int) then
        if (0 : Int) ≤ i ∧ i < (((b0_0).length : Nat) : Int) then
        if (0 : Int) ≤ (IntKind.wrap .i64 (i - 1)) ∧ (IntKind.wrap .i64 (i - 1)) < ((((b0_0.set i.toNat (b0_0.getD ((IntKind.wrap .i64 (i - 1)).toNat) (0, 0)))).length : Nat) : Int) then
        f88_broughamref06_Join_L13 n (IntKind.wrap .i64 (i - 1)) ((b0_0.set i.toNat (b0_0.getD ((IntKind.wrap .i64 (i - 1)).toNat) (0, 0))).set ((IntKind.wrap .i64 (i - 1)).toNat) (b0_0.getD i.toNat (0, 0)))
        else none
        else none
        else none
        else none
      else
        some (b0_0)
      else none
      else none
    else
      some (b0_0)
def f88_broughamref06_Join_L13_k (e : List (Int × Int)) (o : Out) : Prop := At Go.Proofs.Try.prog Go.Proofs.Try.f88 0 16 ⟨[(5, .one (.c (.row 0 (.pair (.int .u64) (.int .u64)))))], [(0, some ⟨156, 2⟩)], [(0, [.run (.pair (.int .u64) (.int .u64)) e])], 1⟩ o
theorem f88_broughamref06_Join_L13_ok (n : Nat) : ∀ (i : Int) (b0_0 : List (Int × Int)) (w : List (Int × Int)) (h : f88_broughamref06_Join_L13 n i b0_0 = some w) (o : Out) (hk : f88_broughamref06_Join_L13_k w o), At Go.Proofs.Try.prog Go.Proofs.Try.f88 0 13 ⟨[(5, .one (.c (.row 0 (.pair (.int .u64) (.int .u64))))), (7, .one (.c (.d (.int .i64 i))))], [(0, some ⟨156, 2⟩)], [(0, [.run (.pair (.int .u64) (.int .u64)) b0_0])], 1⟩ o := by
  induction n with
  | zero => intro i b0_0 w h; rw [f88_broughamref06_Join_L13] at h; cases h
  | succ n ih =>
    intro i b0_0 w h o hk
    rw [f88_broughamref06_Join_L13] at h
    rcases iteS h with ⟨b82_2, h⟩ | ⟨b82_2, h⟩
    · obtain ⟨g82_0, h⟩ := ifS h
      obtain ⟨g82_1, h⟩ := ifS h
      rcases iteS h with ⟨b82_e0, h⟩ | ⟨b82_e0, h⟩
      · refine At.step hm ht ⟨[(2, .b true)], [true], [], [5, 7], [0]⟩ 15 ⟨[(5, .one (.c (.row 0 (.pair (.int .u64) (.int .u64))))), (7, .one (.c (.d (.int .i64 i))))], [(0, some ⟨156, 2⟩)], [(0, [.run (.pair (.int .u64) (.int .u64)) b0_0])], 1⟩ [(decide ((i : Int) > 0)) = true, (0 : Int) ≤ i ∧ i < (((b0_0).length : Nat) : Int), (0 : Int) ≤ (IntKind.wrap .i64 (i - 1)) ∧ (IntKind.wrap .i64 (i - 1)) < (((b0_0).length : Nat) : Int), (decide ((((b0_0.getD i.toNat (0, 0)).1) : Int) < ((b0_0.getD ((IntKind.wrap .i64 (i - 1)).toNat) (0, 0)).1))) = true] (by kernel_rfl) ⟨b82_2, g82_0, g82_1, b82_e0, trivial⟩ ?_
        obtain ⟨g83_0, h⟩ := ifS h
        obtain ⟨g83_1, h⟩ := ifS h
        obtain ⟨g83_2, h⟩ := ifS h
        obtain ⟨g83_3, h⟩ := ifS h
        refine At.step hm ht ⟨[], [], [], [5, 7], [0]⟩ 14 ⟨[(5, .one (.c (.row 0 (.pair (.int .u64) (.int .u64))))), (7, .one (.c (.d (.int .i64 i))))], [(0, some ⟨156, 2⟩)], [(0, [.run (.pair (.int .u64) (.int .u64)) ((b0_0.set i.toNat (b0_0.getD ((IntKind.wrap .i64 (i - 1)).toNat) (0, 0))).set ((IntKind.wrap .i64 (i - 1)).toNat) (b0_0.getD i.toNat (0, 0)))])], 1⟩ [(0 : Int) ≤ (IntKind.wrap .i64 (i - 1)) ∧ (IntKind.wrap .i64 (i - 1)) < (((b0_0).length : Nat) : Int), (0 : Int) ≤ i ∧ i < (((b0_0).length : Nat) : Int), (0 : Int) ≤ i ∧ i < (((b0_0).length : Nat) : Int), (0 : Int) ≤ (IntKind.wrap .i64 (i - 1)) ∧ (IntKind.wrap .i64 (i - 1)) < ((((b0_0.set i.toNat (b0_0.getD ((IntKind.wrap .i64 (i - 1)).toNat) (0, 0)))).length : Nat) : Int)] (by kernel_rfl) ⟨g83_0, g83_1, g83_2, g83_3, trivial⟩ ?_
        refine At.step hm ht ⟨[], [], [], [5, 7], [0]⟩ 13 ⟨[(5, .one (.c (.row 0 (.pair (.int .u64) (.int .u64))))), (7, .one (.c (.d (.int .i64 (IntKind.wrap .i64 (i - 1))))))], [(0, some ⟨156, 2⟩)], [(0, [.run (.pair (.int .u64) (.int .u64)) ((b0_0.set i.toNat (b0_0.getD ((IntKind.wrap .i64 (i - 1)).toNat) (0, 0))).set ((IntKind.wrap .i64 (i - 1)).toNat) (b0_0.getD i.toNat (0, 0)))])], 1⟩ [] (by kernel_rfl) trivial ?_
        exact ih (IntKind.wrap .i64 (i - 1)) ((b0_0.set i.toNat (b0_0.getD ((IntKind.wrap .i64 (i - 1)).toNat) (0, 0))).set ((IntKind.wrap .i64 (i - 1)).toNat) (b0_0.getD i.toNat (0, 0))) w h o hk
      · refine At.step hm ht ⟨[(2, .b true)], [false], [], [5], [0]⟩ 16 ⟨[(5, .one (.c (.row 0 (.pair (.int .u64) (.int .u64)))))], [(0, some ⟨156, 2⟩)], [(0, [.run (.pair (.int .u64) (.int .u64)) b0_0])], 1⟩ [(decide ((i : Int) > 0)) = true, (0 : Int) ≤ i ∧ i < (((b0_0).length : Nat) : Int), (0 : Int) ≤ (IntKind.wrap .i64 (i - 1)) ∧ (IntKind.wrap .i64 (i - 1)) < (((b0_0).length : Nat) : Int), (decide ((((b0_0.getD i.toNat (0, 0)).1) : Int) < ((b0_0.getD ((IntKind.wrap .i64 (i - 1)).toNat) (0, 0)).1))) = false] (by kernel_rfl) ⟨b82_2, g82_0, g82_1, b82_e0, trivial⟩ ?_
        have h := Option.some.inj h
        subst h
        exact hk
    · refine At.step hm ht ⟨[(2, .b false)], [false], [], [5], [0]⟩ 16 ⟨[(5, .one (.c (.row 0 (.pair (.int .u64) (.int .u64)))))], [(0, some ⟨156, 2⟩)], [(0, [.run (.pair (.int .u64) (.int .u64)) b0_0])], 1⟩ [(decide ((i : Int) > 0)) = false, false = false] (by kernel_rfl) ⟨b82_2, rfl, trivial⟩ ?_
      have h := Option.some.inj h
      subst h
      exact hk
def f88_broughamref06_Join (n : Nat) (l : List (Int × Int)) (x_0 : Int) (x_1 : Int) : Option (List (Int × Int)) :=
  (f88_broughamref06_Join_L3 n l 0 x_0 x_1 []).bind fun w78 =>
  if w78.2.2.length + [(w78.1, w78.2.1)].length ≤ maxLen ∧ (w78.2.2.length + [(w78.1, w78.2.1)].length) * 16 ≤ 140737488355328 then
  (f88_broughamref06_Join_L13 n (IntKind.wrap .i64 ((((w78.2.2 ++ [(w78.1, w78.2.1)]).length : Nat) : Int) - 1)) (w78.2.2 ++ [(w78.1, w78.2.1)])).bind fun w85 =>
  some w85
  else none
theorem f88_broughamref06_Join_ok (n : Nat) (l : List (Int × Int)) (x_0 : Int) (x_1 : Int) (r : List (Int × Int)) (h : f88_broughamref06_Join n l x_0 x_1 = some r) : FnOK Go.Proofs.Try.prog 88 (f88_broughamref06_Join_in l x_0 x_1) (f88_broughamref06_Join_out r) := by
  unfold f88_broughamref06_Join at h
  refine At.fn (r := 0) Go.Proofs.Try.func88 rfl (by kernel_rfl) rfl rfl (by kernel_rfl) ?_
  show At Go.Proofs.Try.prog Go.Proofs.Try.f88 0 0 ⟨[(0, .one (.c (.d (.sl (.pair (.int .u64) (.int .u64)) l)))), (1, .one (.agg [.d (.int .u64 x_0), .d (.int .u64 x_1)]))], [], [], 0⟩ _
  refine At.step hm ht ⟨[], [], [], [0, 3], [0]⟩ 1 ⟨[(0, .one (.c (.d (.sl (.pair (.int .u64) (.int .u64)) l)))), (3, .one (.c (.ptr 0 0)))], [], [(0, [.d (.int .u64 x_0), .d (.int .u64 x_1)])], 1⟩ [] (by kernel_rfl) trivial ?_
  refine At.step hm ht ⟨[], [], [], [0, 3, 5], [0]⟩ 2 ⟨[(0, .one (.c (.d (.sl (.pair (.int .u64) (.int .u64)) l)))), (3, .one (.c (.ptr 0 0))), (5, .one (.c (.d (.sl .unit []))))], [], [(0, [.d (.int .u64 x_0), .d (.int .u64 x_1)])], 1⟩ [] (by kernel_rfl) trivial ?_
  refine At.step hm ht ⟨[], [], [.nilrow 5 0 (.pair (.int .u64) (.int .u64)) 156], [0, 3, 5, 6], [0, 2]⟩ 3 ⟨[(0, .one (.c (.d (.sl (.pair (.int .u64) (.int .u64)) l)))), (3, .one (.c (.ptr 0 0))), (5, .one (.c (.row 1 (.pair (.int .u64) (.int .u64))))), (6, .one (.c (.d (.int .i64 0))))], [(1, some ⟨156, 2⟩)], [(0, [.d (.int .u64 x_0), .d (.int .u64 x_1)]), (1, [.run (.pair (.int .u64) (.int .u64)) []])], 2⟩ [] (by kernel_rfl) trivial ?_
  obtain ⟨w78, cw78, h⟩ := bindS h
  refine f88_broughamref06_Join_L3_ok n l 0 x_0 x_1 [] w78 cw78 _ ?_
  show At Go.Proofs.Try.prog Go.Proofs.Try.f88 0 11 ⟨[(3, .one (.c (.ptr 0 0))), (5, .one (.c (.row 1 (.pair (.int .u64) (.int .u64)))))], [(1, some ⟨156, 2⟩)], [(0, [.d (.int .u64 w78.1), .d (.int .u64 w78.2.1)]), (1, [.run (.pair (.int .u64) (.int .u64)) w78.2.2])], 2⟩ _
  obtain ⟨g80_0, h⟩ := ifS h
  refine At.step hm ht ⟨[], [], [], [5], [5]⟩ 12 ⟨[(5, .one (.c (.row 0 (.pair (.int .u64) (.int .u64)))))], [(0, some ⟨156, 2⟩)], [(0, [.run (.pair (.int .u64) (.int .u64)) (w78.2.2 ++ [(w78.1, w78.2.1)])])], 1⟩ [w78.2.2.length + [(w78.1, w78.2.1)].length ≤ maxLen ∧ (w78.2.2.length + [(w78.1, w78.2.1)].length) * 16 ≤ 140737488355328] (by kernel_rfl) ⟨g80_0, trivial⟩ ?_
  refine At.step hm ht ⟨[], [], [], [5, 7], [0]⟩ 13 ⟨[(5, .one (.c (.row 0 (.pair (.int .u64) (.int .u64))))), (7, .one (.c (.d (.int .i64 (IntKind.wrap .i64 ((((w78.2.2 ++ [(w78.1, w78.2.1)]).length : Nat) : Int) - 1))))))], [(0, some ⟨156, 2⟩)], [(0, [.run (.pair (.int .u64) (.int .u64)) (w78.2.2 ++ [(w78.1, w78.2.1)])])], 1⟩ [] (by kernel_rfl) trivial ?_
  obtain ⟨w85, cw85, h⟩ := bindS h
  refine f88_broughamref06_Join_L13_ok n (IntKind.wrap .i64 ((((w78.2.2 ++ [(w78.1, w78.2.1)]).length : Nat) : Int) - 1)) (w78.2.2 ++ [(w78.1, w78.2.1)]) w85 cw85 _ ?_
  show At Go.Proofs.Try.prog Go.Proofs.Try.f88 0 16 ⟨[(5, .one (.c (.row 0 (.pair (.int .u64) (.int .u64)))))], [(0, some ⟨156, 2⟩)], [(0, [.run (.pair (.int .u64) (.int .u64)) w85])], 1⟩ _
  have h := Option.some.inj h
  subst h
  exact At.fin hm ht ⟨[], [], [.pub 0 false], [4], []⟩ [] (by kernel_rfl) trivial
/-! brougham/broughamref31.Came -/
def f32_broughamref31_Came_in (x_0 : Int) (x_1 : Int) (x_2 : List (Int × Int)) (from_ : Int) (many : Int) : Inn := ⟨[.agg [.d (.int .u32 x_0), .d (.int .i64 x_1), .d (.sl (.pair (.int .u64) (.int .u64)) x_2)], .c (.d (.int .u32 from_)), .c (.d (.int .i64 many))], [], [], 0⟩
def f32_broughamref31_Came_out (r : Bool × Int × Int × List (Int × Int)) : Out := ⟨.tup [.agg [.d (.int .u32 r.2.1), .d (.int .i64 r.2.2.1), .d (.sl (.pair (.int .u64) (.int .u64)) r.2.2.2)], .c (.d (.bool r.1))], [], [(0, [.d (.int .u32 r.2.1), .d (.int .i64 r.2.2.1), .d (.sl (.pair (.int .u64) (.int .u64)) r.2.2.2)])], 1⟩
def f32_broughamref31_Came_L20 : Nat → (List (Int × Int)) → Int → (List (Int × Int)) → Int → Int → Int → (List (Int × Int)) → Int → Int → Option (Int × (List (Int × Int)) × Int × Int × (List (Int × Int)) × Int × Int)
  | 0, _, _, _, _, _, _, _, _, _ => none
  | n + 1, l, wait, out, i, x_0, x_1, x_2, t6_0, t6_1 =>
    if (decide ((i : Int) < ((l.length : Nat) : Int))) = true then
      if (0 : Int) ≤ i ∧ i < (((l).length : Nat) : Int) then
      if (0 : Int) ≤ i ∧ i < (((l).length : Nat) : Int) then
      if out.length + [((IntKind.wrap .u64 (((l.getD i.toNat (0, 0)).1) - wait)), (IntKind.wrap .u64 (((l.getD i.toNat (0, 0)).2) - wait)))].length ≤ maxLen ∧ (out.length + [((IntKind.wrap .u64 (((l.getD i.toNat (0, 0)).1) - wait)), (IntKind.wrap .u64 (((l.getD i.toNat (0, 0)).2) - wait)))].length) * 16 ≤ 140737488355328 then
      f32_broughamref31_Came_L20 n l wait (out ++ [((IntKind.wrap .u64 (((l.getD i.toNat (0, 0)).1) - wait)), (IntKind.wrap .u64 (((l.getD i.toNat (0, 0)).2) - wait)))]) (IntKind.wrap .i64 (i + 1)) x_0 x_1 x_2 t6_0 t6_1
      else none
      else none
      else none
    else
      some ((wait, out, x_0, x_1, x_2, t6_0, t6_1))
def f32_broughamref31_Came_L20_k (e : Int × (List (Int × Int)) × Int × Int × (List (Int × Int)) × Int × Int) (o : Out) : Prop := At Go.Proofs.Try.prog Go.Proofs.Try.f32 0 23 ⟨[(3, .one (.c (.ptr 0 0))), (6, .one (.c (.ptr 1 0))), (11, .one (.c (.d (.int .u64 e.1)))), (12, .one (.c (.own 2 (.pair (.int .u64) (.int .u64)) e.2.1)))], [(2, some ⟨156, 0⟩)], [(0, [.d (.int .u32 e.2.2.1), .d (.int .i64 e.2.2.2.1), .d (.sl (.pair (.int .u64) (.int .u64)) e.2.2.2.2.1)]), (1, [.d (.int .u32 e.2.2.2.2.2.1), .d (.int .i64 e.2.2.2.2.2.2), .d (.sl .unit [])])], 3⟩ o
theorem f32_broughamref31_Came_L20_ok (n : Nat) : ∀ (l : List (Int × Int)) (wait : Int) (out : List (Int × Int)) (i : Int) (x_0 : Int) (x_1 : Int) (x_2 : List (Int × Int)) (t6_0 : Int) (t6_1 : Int) (w : Int × (List (Int × Int)) × Int × Int × (List (Int × Int)) × Int × Int) (h : f32_broughamref31_Came_L20 n l wait out i x_0 x_1 x_2 t6_0 t6_1 = some w) (o : Out) (hk : f32_broughamref31_Came_L20_k w o), At Go.Proofs.Try.prog Go.Proofs.Try.f32 0 20 ⟨[(3, .one (.c (.ptr 0 0))), (6, .one (.c (.ptr 1 0))), (10, .one (.c (.d (.sl (.pair (.int .u64) (.int .u64)) l)))), (11, .one (.c (.d (.int .u64 wait)))), (12, .one (.c (.own 2 (.pair (.int .u64) (.int .u64)) out))), (13, .one (.c (.d (.int .i64 i))))], [(2, some ⟨156, 0⟩)], [(0, [.d (.int .u32 x_0), .d (.int .i64 x_1), .d (.sl (.pair (.int .u64) (.int .u64)) x_2)]), (1, [.d (.int .u32 t6_0), .d (.int .i64 t6_1), .d (.sl .unit [])])], 3⟩ o := by
  induction n with
  | zero => intro l wait out i x_0 x_1 x_2 t6_0 t6_1 w h; rw [f32_broughamref31_Came_L20] at h; cases h
  | succ n ih =>
    intro l wait out i x_0 x_1 x_2 t6_0 t6_1 w h o hk
    rw [f32_broughamref31_Came_L20] at h
    rcases iteS h with ⟨b121_e0, h⟩ | ⟨b121_e0, h⟩
    · refine At.step hm ht ⟨[], [true], [], [3, 6, 10, 11, 12, 13], [0, 1, 2]⟩ 22 ⟨[(3, .one (.c (.ptr 0 0))), (6, .one (.c (.ptr 1 0))), (10, .one (.c (.d (.sl (.pair (.int .u64) (.int .u64)) l)))), (11, .one (.c (.d (.int .u64 wait)))), (12, .one (.c (.own 2 (.pair (.int .u64) (.int .u64)) out))), (13, .one (.c (.d (.int .i64 i))))], [(2, some ⟨156, 0⟩)], [(0, [.d (.int .u32 x_0), .d (.int .i64 x_1), .d (.sl (.pair (.int .u64) (.int .u64)) x_2)]), (1, [.d (.int .u32 t6_0), .d (.int .i64 t6_1), .d (.sl .unit [])])], 3⟩ [(decide ((i : Int) < ((l.length : Nat) : Int))) = true] (by kernel_rfl) ⟨b121_e0, trivial⟩ ?_
      obtain ⟨g122_0, h⟩ := ifS h
      obtain ⟨g122_1, h⟩ := ifS h
      obtain ⟨g122_2, h⟩ := ifS h
      refine At.step hm ht ⟨[], [], [], [3, 6, 10, 11, 12, 13], [0, 1, 20]⟩ 21 ⟨[(3, .one (.c (.ptr 0 0))), (6, .one (.c (.ptr 1 0))), (10, .one (.c (.d (.sl (.pair (.int .u64) (.int .u64)) l)))), (11, .one (.c (.d (.int .u64 wait)))), (12, .one (.c (.own 2 (.pair (.int .u64) (.int .u64)) (out ++ [((IntKind.wrap .u64 (((l.getD i.toNat (0, 0)).1) - wait)), (IntKind.wrap .u64 (((l.getD i.toNat (0, 0)).2) - wait)))])))), (13, .one (.c (.d (.int .i64 i))))], [(2, some ⟨156, 0⟩)], [(0, [.d (.int .u32 x_0), .d (.int .i64 x_1), .d (.sl (.pair (.int .u64) (.int .u64)) x_2)]), (1, [.d (.int .u32 t6_0), .d (.int .i64 t6_1), .d (.sl .unit [])])], 3⟩ [(0 : Int) ≤ i ∧ i < (((l).length : Nat) : Int), (0 : Int) ≤ i ∧ i < (((l).length : Nat) : Int), out.length + [((IntKind.wrap .u64 (((l.getD i.toNat (0, 0)).1) - wait)), (IntKind.wrap .u64 (((l.getD i.toNat (0, 0)).2) - wait)))].length ≤ maxLen ∧ (out.length + [((IntKind.wrap .u64 (((l.getD i.toNat (0, 0)).1) - wait)), (IntKind.wrap .u64 (((l.getD i.toNat (0, 0)).2) - wait)))].length) * 16 ≤ 140737488355328] (by kernel_rfl) ⟨g122_0, g122_1, g122_2, trivial⟩ ?_
      refine At.step hm ht ⟨[], [], [], [3, 6, 10, 11, 12, 13], [0, 1, 2]⟩ 20 ⟨[(3, .one (.c (.ptr 0 0))), (6, .one (.c (.ptr 1 0))), (10, .one (.c (.d (.sl (.pair (.int .u64) (.int .u64)) l)))), (11, .one (.c (.d (.int .u64 wait)))), (12, .one (.c (.own 2 (.pair (.int .u64) (.int .u64)) (out ++ [((IntKind.wrap .u64 (((l.getD i.toNat (0, 0)).1) - wait)), (IntKind.wrap .u64 (((l.getD i.toNat (0, 0)).2) - wait)))])))), (13, .one (.c (.d (.int .i64 (IntKind.wrap .i64 (i + 1))))))], [(2, some ⟨156, 0⟩)], [(0, [.d (.int .u32 x_0), .d (.int .i64 x_1), .d (.sl (.pair (.int .u64) (.int .u64)) x_2)]), (1, [.d (.int .u32 t6_0), .d (.int .i64 t6_1), .d (.sl .unit [])])], 3⟩ [] (by kernel_rfl) trivial ?_
      exact ih l wait (out ++ [((IntKind.wrap .u64 (((l.getD i.toNat (0, 0)).1) - wait)), (IntKind.wrap .u64 (((l.getD i.toNat (0, 0)).2) - wait)))]) (IntKind.wrap .i64 (i + 1)) x_0 x_1 x_2 t6_0 t6_1 w h o hk
    · refine At.step hm ht ⟨[], [false], [], [3, 6, 11, 12], [0, 1, 2]⟩ 23 ⟨[(3, .one (.c (.ptr 0 0))), (6, .one (.c (.ptr 1 0))), (11, .one (.c (.d (.int .u64 wait)))), (12, .one (.c (.own 2 (.pair (.int .u64) (.int .u64)) out)))], [(2, some ⟨156, 0⟩)], [(0, [.d (.int .u32 x_0), .d (.int .i64 x_1), .d (.sl (.pair (.int .u64) (.int .u64)) x_2)]), (1, [.d (.int .u32 t6_0), .d (.int .i64 t6_1), .d (.sl .unit [])])], 3⟩ [(decide ((i : Int) < ((l.length : Nat) : Int))) = false] (by kernel_rfl) ⟨b121_e0, trivial⟩ ?_
      have h := Option.some.inj h
      subst h
      exact hk
def f32_broughamref31_Came (n : Nat) (x_0 : Int) (x_1 : Int) (x_2 : List (Int × Int)) (from_ : Int) (many : Int) : Option (Bool × Int × Int × List (Int × Int)) :=
  if (decide ((many : Int) < 1)) = true then
    some (((many : Int) == 0), x_0, x_1, x_2)
  else
    if (decide ((many : Int) > 1024)) = true then
      some (((many : Int) == 0), x_0, x_1, x_2)
    else
      (f86_broughamref04_Diff from_ x_0).bind fun r103_0 =>
      (f86_broughamref04_Diff (IntKind.wrap .u32 (from_ + (IntKind.wrap .u32 many))) x_0).bind fun r104_0 =>
      if (decide ((r104_0 : Int) ≤ 0)) = true then
        (f87_broughamref04_Within from_ x_0 1048576).bind fun r106_0 =>
        if r106_0 = true then
          some (true, x_0, x_1, x_2)
        else
          (f87_broughamref04_Within x_0 from_ 1048576).bind fun r106_1 =>
          some (r106_1, x_0, x_1, x_2)
      else
        if (decide ((r103_0 : Int) < 0)) = true then
          if (decide ((0 : Int) > 1048576)) = true then
            some (false, x_0, x_1, x_2)
          else
            if (decide ((r104_0 : Int) > 1048576)) = true then
              some (false, x_0, x_1, x_2)
            else
              (f88_broughamref06_Join n x_2 (IntKind.wrap .u64 0) (IntKind.wrap .u64 r104_0)).bind fun r112_0 =>
              if (0 : Int) ≤ 0 ∧ 0 < (((r112_0).length : Nat) : Int) then
              if ((((r112_0.getD 0 (0, 0)).1) : Int) == 0) = true then
                if (0 : Int) ≤ 0 ∧ 0 < (((r112_0).length : Nat) : Int) then
                if cutOk r112_0.length (some 1) none none then
                if (decide ((((((r112_0.take r112_0.length).drop 1).length : Nat) : Int) : Int) > x_1)) = true then
                  some (false, x_0, x_1, x_2)
                else
                  (f32_broughamref31_Came_L20 n ((r112_0.take r112_0.length).drop 1) ((r112_0.getD 0 (0, 0)).2) [] 0 x_0 x_1 x_2 0 0).bind fun w124 =>
                  some (true, (IntKind.wrap .u32 (w124.2.2.1 + (IntKind.wrap .u32 w124.1))), w124.2.2.2.1, w124.2.1)
                else none
                else none
              else
                if (decide ((((r112_0.length : Nat) : Int) : Int) > x_1)) = true then
                  some (false, x_0, x_1, x_2)
                else
                  (f32_broughamref31_Came_L20 n r112_0 0 [] 0 x_0 x_1 x_2 0 0).bind fun w131 =>
                  some (true, (IntKind.wrap .u32 (w131.2.2.1 + (IntKind.wrap .u32 w131.1))), w131.2.2.2.1, w131.2.1)
              else none
        else
          if (decide ((r103_0 : Int) > 1048576)) = true then
            some (false, x_0, x_1, x_2)
          else
            if (decide ((r104_0 : Int) > 1048576)) = true then
              some (false, x_0, x_1, x_2)
            else
              (f88_broughamref06_Join n x_2 (IntKind.wrap .u64 r103_0) (IntKind.wrap .u64 r104_0)).bind fun r137_0 =>
              if (0 : Int) ≤ 0 ∧ 0 < (((r137_0).length : Nat) : Int) then
              if ((((r137_0.getD 0 (0, 0)).1) : Int) == 0) = true then
                if (0 : Int) ≤ 0 ∧ 0 < (((r137_0).length : Nat) : Int) then
                if cutOk r137_0.length (some 1) none none then
                if (decide ((((((r137_0.take r137_0.length).drop 1).length : Nat) : Int) : Int) > x_1)) = true then
                  some (false, x_0, x_1, x_2)
                else
                  (f32_broughamref31_Came_L20 n ((r137_0.take r137_0.length).drop 1) ((r137_0.getD 0 (0, 0)).2) [] 0 x_0 x_1 x_2 0 0).bind fun w146 =>
                  some (true, (IntKind.wrap .u32 (w146.2.2.1 + (IntKind.wrap .u32 w146.1))), w146.2.2.2.1, w146.2.1)
                else none
                else none
              else
                if (decide ((((r137_0.length : Nat) : Int) : Int) > x_1)) = true then
                  some (false, x_0, x_1, x_2)
                else
                  (f32_broughamref31_Came_L20 n r137_0 0 [] 0 x_0 x_1 x_2 0 0).bind fun w153 =>
                  some (true, (IntKind.wrap .u32 (w153.2.2.1 + (IntKind.wrap .u32 w153.1))), w153.2.2.2.1, w153.2.1)
              else none
theorem f32_broughamref31_Came_ok (n : Nat) (x_0 : Int) (x_1 : Int) (x_2 : List (Int × Int)) (from_ : Int) (many : Int) (r : Bool × Int × Int × List (Int × Int)) (h : f32_broughamref31_Came n x_0 x_1 x_2 from_ many = some r) : FnOK Go.Proofs.Try.prog 32 (f32_broughamref31_Came_in x_0 x_1 x_2 from_ many) (f32_broughamref31_Came_out r) := by
  unfold f32_broughamref31_Came at h
  refine At.fn (r := 0) Go.Proofs.Try.func32 rfl (by kernel_rfl) rfl rfl (by kernel_rfl) ?_
  show At Go.Proofs.Try.prog Go.Proofs.Try.f32 0 0 ⟨[(0, .one (.agg [.d (.int .u32 x_0), .d (.int .i64 x_1), .d (.sl (.pair (.int .u64) (.int .u64)) x_2)])), (1, .one (.c (.d (.int .u32 from_)))), (2, .one (.c (.d (.int .i64 many))))], [], [], 0⟩ _
  refine At.step hm ht ⟨[], [], [], [1, 2, 3, 6], [0, 1]⟩ 1 ⟨[(1, .one (.c (.d (.int .u32 from_)))), (2, .one (.c (.d (.int .i64 many)))), (3, .one (.c (.ptr 0 0))), (6, .one (.c (.ptr 1 0)))], [], [(0, [.d (.int .u32 x_0), .d (.int .i64 x_1), .d (.sl (.pair (.int .u64) (.int .u64)) x_2)]), (1, [.d (.int .u32 0), .d (.int .i64 0), .d (.sl .unit [])])], 2⟩ [] (by kernel_rfl) trivial ?_
  rcases iteS h with ⟨b100_2, h⟩ | ⟨b100_2, h⟩
  · refine At.step hm ht ⟨[(2, .b true)], [true], [], [2, 3, 6], [0, 1]⟩ 2 ⟨[(2, .one (.c (.d (.int .i64 many)))), (3, .one (.c (.ptr 0 0))), (6, .one (.c (.ptr 1 0)))], [], [(0, [.d (.int .u32 x_0), .d (.int .i64 x_1), .d (.sl (.pair (.int .u64) (.int .u64)) x_2)]), (1, [.d (.int .u32 0), .d (.int .i64 0), .d (.sl .unit [])])], 2⟩ [(decide ((many : Int) < 1)) = true, true = true] (by kernel_rfl) ⟨b100_2, rfl, trivial⟩ ?_
    have h := Option.some.inj h
    subst h
    exact At.fin hm ht ⟨[], [], [], [6, 7], [1]⟩ [0 + 3 ≤ 3] (by kernel_rfl) ⟨(by decide), trivial⟩
  · rcases iteS h with ⟨b100_e0, h⟩ | ⟨b100_e0, h⟩
    · refine At.step hm ht ⟨[(2, .b false)], [true], [], [2, 3, 6], [0, 1]⟩ 2 ⟨[(2, .one (.c (.d (.int .i64 many)))), (3, .one (.c (.ptr 0 0))), (6, .one (.c (.ptr 1 0)))], [], [(0, [.d (.int .u32 x_0), .d (.int .i64 x_1), .d (.sl (.pair (.int .u64) (.int .u64)) x_2)]), (1, [.d (.int .u32 0), .d (.int .i64 0), .d (.sl .unit [])])], 2⟩ [(decide ((many : Int) < 1)) = false, (decide ((many : Int) > 1024)) = true] (by kernel_rfl) ⟨b100_2, b100_e0, trivial⟩ ?_
      have h := Option.some.inj h
      subst h
      exact At.fin hm ht ⟨[], [], [], [6, 7], [1]⟩ [0 + 3 ≤ 3] (by kernel_rfl) ⟨(by decide), trivial⟩
    · refine At.step hm ht ⟨[(2, .b false)], [false], [], [1, 2, 3, 6], [0, 1]⟩ 3 ⟨[(1, .one (.c (.d (.int .u32 from_)))), (2, .one (.c (.d (.int .i64 many)))), (3, .one (.c (.ptr 0 0))), (6, .one (.c (.ptr 1 0)))], [], [(0, [.d (.int .u32 x_0), .d (.int .i64 x_1), .d (.sl (.pair (.int .u64) (.int .u64)) x_2)]), (1, [.d (.int .u32 0), .d (.int .i64 0), .d (.sl .unit [])])], 2⟩ [(decide ((many : Int) < 1)) = false, (decide ((many : Int) > 1024)) = false] (by kernel_rfl) ⟨b100_2, b100_e0, trivial⟩ ?_
      obtain ⟨r103_0, cr103_0, h⟩ := bindS h
      refine At.step hm ht ⟨[(3, .call [] [] (f86_broughamref04_Diff_out r103_0))], [], [], [1, 2, 3, 6, 8], [0, 1]⟩ 4 ⟨[(1, .one (.c (.d (.int .u32 from_)))), (2, .one (.c (.d (.int .i64 many)))), (3, .one (.c (.ptr 0 0))), (6, .one (.c (.ptr 1 0))), (8, .one (.c (.d (.int .i64 r103_0))))], [], [(0, [.d (.int .u32 x_0), .d (.int .i64 x_1), .d (.sl (.pair (.int .u64) (.int .u64)) x_2)]), (1, [.d (.int .u32 0), .d (.int .i64 0), .d (.sl .unit [])])], 2⟩ [FnOK Go.Proofs.Try.prog 86 (f86_broughamref04_Diff_in from_ x_0) (f86_broughamref04_Diff_out r103_0)] (by kernel_rfl) ⟨(f86_broughamref04_Diff_ok from_ x_0 r103_0 cr103_0), trivial⟩ ?_
      obtain ⟨r104_0, cr104_0, h⟩ := bindS h
      refine At.step hm ht ⟨[(6, .call [] [] (f86_broughamref04_Diff_out r104_0))], [], [], [1, 3, 6, 8, 9], [0, 1]⟩ 5 ⟨[(1, .one (.c (.d (.int .u32 from_)))), (3, .one (.c (.ptr 0 0))), (6, .one (.c (.ptr 1 0))), (8, .one (.c (.d (.int .i64 r103_0)))), (9, .one (.c (.d (.int .i64 r104_0))))], [], [(0, [.d (.int .u32 x_0), .d (.int .i64 x_1), .d (.sl (.pair (.int .u64) (.int .u64)) x_2)]), (1, [.d (.int .u32 0), .d (.int .i64 0), .d (.sl .unit [])])], 2⟩ [FnOK Go.Proofs.Try.prog 86 (f86_broughamref04_Diff_in (IntKind.wrap .u32 (from_ + (IntKind.wrap .u32 many))) x_0) (f86_broughamref04_Diff_out r104_0)] (by kernel_rfl) ⟨(f86_broughamref04_Diff_ok (IntKind.wrap .u32 (from_ + (IntKind.wrap .u32 many))) x_0 r104_0 cr104_0), trivial⟩ ?_
      rcases iteS h with ⟨b105_e0, h⟩ | ⟨b105_e0, h⟩
      · refine At.step hm ht ⟨[], [true], [], [1, 3, 6], [0, 1]⟩ 6 ⟨[(1, .one (.c (.d (.int .u32 from_)))), (3, .one (.c (.ptr 0 0))), (6, .one (.c (.ptr 1 0)))], [], [(0, [.d (.int .u32 x_0), .d (.int .i64 x_1), .d (.sl (.pair (.int .u64) (.int .u64)) x_2)]), (1, [.d (.int .u32 0), .d (.int .i64 0), .d (.sl .unit [])])], 2⟩ [(decide ((r104_0 : Int) ≤ 0)) = true] (by kernel_rfl) ⟨b105_e0, trivial⟩ ?_
        obtain ⟨r106_0, cr106_0, h⟩ := bindS h
        rcases iteS h with ⟨b106_5, h⟩ | ⟨b106_5, h⟩
        · have h := Option.some.inj h
          subst h
          exact At.fin hm ht ⟨[(4, .call [] [] (f87_broughamref04_Within_out r106_0)), (5, .b true)], [], [], [6, 7], [1]⟩ [FnOK Go.Proofs.Try.prog 87 (f87_broughamref04_Within_in from_ x_0 1048576) (f87_broughamref04_Within_out r106_0), r106_0 = true, 0 + 3 ≤ 3] (by kernel_rfl) ⟨(f87_broughamref04_Within_ok from_ x_0 1048576 r106_0 cr106_0), b106_5, (by decide), trivial⟩
        · obtain ⟨r106_1, cr106_1, h⟩ := bindS h
          have h := Option.some.inj h
          subst h
          exact At.fin hm ht ⟨[(4, .call [] [] (f87_broughamref04_Within_out r106_0)), (5, .b false), (9, .call [] [] (f87_broughamref04_Within_out r106_1))], [], [], [6, 7], [1]⟩ [FnOK Go.Proofs.Try.prog 87 (f87_broughamref04_Within_in from_ x_0 1048576) (f87_broughamref04_Within_out r106_0), r106_0 = false, FnOK Go.Proofs.Try.prog 87 (f87_broughamref04_Within_in x_0 from_ 1048576) (f87_broughamref04_Within_out r106_1), 0 + 3 ≤ 3] (by kernel_rfl) ⟨(f87_broughamref04_Within_ok from_ x_0 1048576 r106_0 cr106_0), b106_5, (f87_broughamref04_Within_ok x_0 from_ 1048576 r106_1 cr106_1), (by decide), trivial⟩
      · refine At.step hm ht ⟨[], [false], [], [3, 6, 8, 9], [0, 1]⟩ 7 ⟨[(3, .one (.c (.ptr 0 0))), (6, .one (.c (.ptr 1 0))), (8, .one (.c (.d (.int .i64 r103_0)))), (9, .one (.c (.d (.int .i64 r104_0))))], [], [(0, [.d (.int .u32 x_0), .d (.int .i64 x_1), .d (.sl (.pair (.int .u64) (.int .u64)) x_2)]), (1, [.d (.int .u32 0), .d (.int .i64 0), .d (.sl .unit [])])], 2⟩ [(decide ((r104_0 : Int) ≤ 0)) = false] (by kernel_rfl) ⟨b105_e0, trivial⟩ ?_
        rcases iteS h with ⟨b107_e0, h⟩ | ⟨b107_e0, h⟩
        · refine At.step hm ht ⟨[], [true], [], [3, 6, 9], [0, 1]⟩ 8 ⟨[(3, .one (.c (.ptr 0 0))), (6, .one (.c (.ptr 1 0))), (9, .one (.c (.d (.int .i64 r104_0))))], [], [(0, [.d (.int .u32 x_0), .d (.int .i64 x_1), .d (.sl (.pair (.int .u64) (.int .u64)) x_2)]), (1, [.d (.int .u32 0), .d (.int .i64 0), .d (.sl .unit [])])], 2⟩ [(decide ((r103_0 : Int) < 0)) = true] (by kernel_rfl) ⟨b107_e0, trivial⟩ ?_
          refine At.step hm ht ⟨[], [], [], [3, 6, 8, 9], [0, 1]⟩ 9 ⟨[(3, .one (.c (.ptr 0 0))), (6, .one (.c (.ptr 1 0))), (8, .one (.c (.d (.int .i64 0)))), (9, .one (.c (.d (.int .i64 r104_0))))], [], [(0, [.d (.int .u32 x_0), .d (.int .i64 x_1), .d (.sl (.pair (.int .u64) (.int .u64)) x_2)]), (1, [.d (.int .u32 0), .d (.int .i64 0), .d (.sl .unit [])])], 2⟩ [] (by kernel_rfl) trivial ?_
          rcases iteS h with ⟨b109_2, h⟩ | ⟨b109_2, h⟩
          · refine At.step hm ht ⟨[(2, .b true)], [true], [], [3, 6], [0, 1]⟩ 10 ⟨[(3, .one (.c (.ptr 0 0))), (6, .one (.c (.ptr 1 0)))], [], [(0, [.d (.int .u32 x_0), .d (.int .i64 x_1), .d (.sl (.pair (.int .u64) (.int .u64)) x_2)]), (1, [.d (.int .u32 0), .d (.int .i64 0), .d (.sl .unit [])])], 2⟩ [(decide ((0 : Int) > 1048576)) = true, true = true] (by kernel_rfl) ⟨b109_2, rfl, trivial⟩ ?_
            have h := Option.some.inj h
            subst h
            exact At.fin hm ht ⟨[], [], [], [6, 7], [1]⟩ [0 + 3 ≤ 3] (by kernel_rfl) ⟨(by decide), trivial⟩
          · rcases iteS h with ⟨b109_e0, h⟩ | ⟨b109_e0, h⟩
            · refine At.step hm ht ⟨[(2, .b false)], [true], [], [3, 6], [0, 1]⟩ 10 ⟨[(3, .one (.c (.ptr 0 0))), (6, .one (.c (.ptr 1 0)))], [], [(0, [.d (.int .u32 x_0), .d (.int .i64 x_1), .d (.sl (.pair (.int .u64) (.int .u64)) x_2)]), (1, [.d (.int .u32 0), .d (.int .i64 0), .d (.sl .unit [])])], 2⟩ [(decide ((0 : Int) > 1048576)) = false, (decide ((r104_0 : Int) > 1048576)) = true] (by kernel_rfl) ⟨b109_2, b109_e0, trivial⟩ ?_
              have h := Option.some.inj h
              subst h
              exact At.fin hm ht ⟨[], [], [], [6, 7], [1]⟩ [0 + 3 ≤ 3] (by kernel_rfl) ⟨(by decide), trivial⟩
            · refine At.step hm ht ⟨[(2, .b false)], [false], [], [3, 6, 8, 9], [0, 1]⟩ 11 ⟨[(3, .one (.c (.ptr 0 0))), (6, .one (.c (.ptr 1 0))), (8, .one (.c (.d (.int .i64 0)))), (9, .one (.c (.d (.int .i64 r104_0))))], [], [(0, [.d (.int .u32 x_0), .d (.int .i64 x_1), .d (.sl (.pair (.int .u64) (.int .u64)) x_2)]), (1, [.d (.int .u32 0), .d (.int .i64 0), .d (.sl .unit [])])], 2⟩ [(decide ((0 : Int) > 1048576)) = false, (decide ((r104_0 : Int) > 1048576)) = false] (by kernel_rfl) ⟨b109_2, b109_e0, trivial⟩ ?_
              obtain ⟨r112_0, cr112_0, h⟩ := bindS h
              refine At.step hm ht ⟨[(7, .call [] [] (f88_broughamref06_Join_out r112_0))], [], [], [3, 6, 10], [0, 1]⟩ 12 ⟨[(3, .one (.c (.ptr 0 0))), (6, .one (.c (.ptr 1 0))), (10, .one (.c (.d (.sl (.pair (.int .u64) (.int .u64)) r112_0))))], [], [(0, [.d (.int .u32 x_0), .d (.int .i64 x_1), .d (.sl (.pair (.int .u64) (.int .u64)) x_2)]), (1, [.d (.int .u32 0), .d (.int .i64 0), .d (.sl .unit [])])], 2⟩ [FnOK Go.Proofs.Try.prog 88 (f88_broughamref06_Join_in x_2 (IntKind.wrap .u64 0) (IntKind.wrap .u64 r104_0)) (f88_broughamref06_Join_out r112_0)] (by kernel_rfl) ⟨(f88_broughamref06_Join_ok n x_2 (IntKind.wrap .u64 0) (IntKind.wrap .u64 r104_0) r112_0 cr112_0), trivial⟩ ?_
              refine At.step hm ht ⟨[], [], [], [3, 6, 10, 11], [0, 1]⟩ 13 ⟨[(3, .one (.c (.ptr 0 0))), (6, .one (.c (.ptr 1 0))), (10, .one (.c (.d (.sl (.pair (.int .u64) (.int .u64)) r112_0)))), (11, .one (.c (.d (.int .u64 0))))], [], [(0, [.d (.int .u32 x_0), .d (.int .i64 x_1), .d (.sl (.pair (.int .u64) (.int .u64)) x_2)]), (1, [.d (.int .u32 0), .d (.int .i64 0), .d (.sl .unit [])])], 2⟩ [] (by kernel_rfl) trivial ?_
              obtain ⟨g114_0, h⟩ := ifS h
              rcases iteS h with ⟨b114_e0, h⟩ | ⟨b114_e0, h⟩
              · refine At.step hm ht ⟨[], [true], [], [3, 6, 10], [0, 1]⟩ 14 ⟨[(3, .one (.c (.ptr 0 0))), (6, .one (.c (.ptr 1 0))), (10, .one (.c (.d (.sl (.pair (.int .u64) (.int .u64)) r112_0))))], [], [(0, [.d (.int .u32 x_0), .d (.int .i64 x_1), .d (.sl (.pair (.int .u64) (.int .u64)) x_2)]), (1, [.d (.int .u32 0), .d (.int .i64 0), .d (.sl .unit [])])], 2⟩ [(0 : Int) ≤ 0 ∧ 0 < (((r112_0).length : Nat) : Int), ((((r112_0.getD 0 (0, 0)).1) : Int) == 0) = true] (by kernel_rfl) ⟨g114_0, b114_e0, trivial⟩ ?_
                obtain ⟨g115_0, h⟩ := ifS h
                refine At.step hm ht ⟨[], [], [], [3, 6, 10, 11], [0, 1]⟩ 15 ⟨[(3, .one (.c (.ptr 0 0))), (6, .one (.c (.ptr 1 0))), (10, .one (.c (.d (.sl (.pair (.int .u64) (.int .u64)) r112_0)))), (11, .one (.c (.d (.int .u64 ((r112_0.getD 0 (0, 0)).2)))))], [], [(0, [.d (.int .u32 x_0), .d (.int .i64 x_1), .d (.sl (.pair (.int .u64) (.int .u64)) x_2)]), (1, [.d (.int .u32 0), .d (.int .i64 0), .d (.sl .unit [])])], 2⟩ [(0 : Int) ≤ 0 ∧ 0 < (((r112_0).length : Nat) : Int)] (by kernel_rfl) ⟨g115_0, trivial⟩ ?_
                obtain ⟨g116_0, h⟩ := ifS h
                refine At.step hm ht ⟨[], [], [], [3, 6, 10, 11], [0, 1]⟩ 16 ⟨[(3, .one (.c (.ptr 0 0))), (6, .one (.c (.ptr 1 0))), (10, .one (.c (.d (.sl (.pair (.int .u64) (.int .u64)) ((r112_0.take r112_0.length).drop 1))))), (11, .one (.c (.d (.int .u64 ((r112_0.getD 0 (0, 0)).2)))))], [], [(0, [.d (.int .u32 x_0), .d (.int .i64 x_1), .d (.sl (.pair (.int .u64) (.int .u64)) x_2)]), (1, [.d (.int .u32 0), .d (.int .i64 0), .d (.sl .unit [])])], 2⟩ [cutOk r112_0.length (some 1) none none] (by kernel_rfl) ⟨g116_0, trivial⟩ ?_
                rcases iteS h with ⟨b117_e0, h⟩ | ⟨b117_e0, h⟩
                · refine At.step hm ht ⟨[], [true], [], [3, 6], [0, 1]⟩ 17 ⟨[(3, .one (.c (.ptr 0 0))), (6, .one (.c (.ptr 1 0)))], [], [(0, [.d (.int .u32 x_0), .d (.int .i64 x_1), .d (.sl (.pair (.int .u64) (.int .u64)) x_2)]), (1, [.d (.int .u32 0), .d (.int .i64 0), .d (.sl .unit [])])], 2⟩ [(decide ((((((r112_0.take r112_0.length).drop 1).length : Nat) : Int) : Int) > x_1)) = true] (by kernel_rfl) ⟨b117_e0, trivial⟩ ?_
                  have h := Option.some.inj h
                  subst h
                  exact At.fin hm ht ⟨[], [], [], [6, 7], [1]⟩ [0 + 3 ≤ 3] (by kernel_rfl) ⟨(by decide), trivial⟩
                · refine At.step hm ht ⟨[], [false], [], [3, 6, 10, 11], [0, 1]⟩ 18 ⟨[(3, .one (.c (.ptr 0 0))), (6, .one (.c (.ptr 1 0))), (10, .one (.c (.d (.sl (.pair (.int .u64) (.int .u64)) ((r112_0.take r112_0.length).drop 1))))), (11, .one (.c (.d (.int .u64 ((r112_0.getD 0 (0, 0)).2)))))], [], [(0, [.d (.int .u32 x_0), .d (.int .i64 x_1), .d (.sl (.pair (.int .u64) (.int .u64)) x_2)]), (1, [.d (.int .u32 0), .d (.int .i64 0), .d (.sl .unit [])])], 2⟩ [(decide ((((((r112_0.take r112_0.length).drop 1).length : Nat) : Int) : Int) > x_1)) = false] (by kernel_rfl) ⟨b117_e0, trivial⟩ ?_
                  refine At.step hm ht ⟨[], [], [], [3, 6, 10, 11, 12], [0, 1]⟩ 19 ⟨[(3, .one (.c (.ptr 0 0))), (6, .one (.c (.ptr 1 0))), (10, .one (.c (.d (.sl (.pair (.int .u64) (.int .u64)) ((r112_0.take r112_0.length).drop 1))))), (11, .one (.c (.d (.int .u64 ((r112_0.getD 0 (0, 0)).2))))), (12, .one (.c (.d (.sl .unit []))))], [], [(0, [.d (.int .u32 x_0), .d (.int .i64 x_1), .d (.sl (.pair (.int .u64) (.int .u64)) x_2)]), (1, [.d (.int .u32 0), .d (.int .i64 0), .d (.sl .unit [])])], 2⟩ [] (by kernel_rfl) trivial ?_
                  refine At.step hm ht ⟨[], [], [.nil false 12 0 (.pair (.int .u64) (.int .u64)) (some 156)], [3, 6, 10, 11, 12, 13], [0, 1, 3]⟩ 20 ⟨[(3, .one (.c (.ptr 0 0))), (6, .one (.c (.ptr 1 0))), (10, .one (.c (.d (.sl (.pair (.int .u64) (.int .u64)) ((r112_0.take r112_0.length).drop 1))))), (11, .one (.c (.d (.int .u64 ((r112_0.getD 0 (0, 0)).2))))), (12, .one (.c (.own 2 (.pair (.int .u64) (.int .u64)) []))), (13, .one (.c (.d (.int .i64 0))))], [(2, some ⟨156, 0⟩)], [(0, [.d (.int .u32 x_0), .d (.int .i64 x_1), .d (.sl (.pair (.int .u64) (.int .u64)) x_2)]), (1, [.d (.int .u32 0), .d (.int .i64 0), .d (.sl .unit [])])], 3⟩ [] (by kernel_rfl) trivial ?_
                  obtain ⟨w124, cw124, h⟩ := bindS h
                  refine f32_broughamref31_Came_L20_ok n ((r112_0.take r112_0.length).drop 1) ((r112_0.getD 0 (0, 0)).2) [] 0 x_0 x_1 x_2 0 0 w124 cw124 _ ?_
                  show At Go.Proofs.Try.prog Go.Proofs.Try.f32 0 23 ⟨[(3, .one (.c (.ptr 0 0))), (6, .one (.c (.ptr 1 0))), (11, .one (.c (.d (.int .u64 w124.1)))), (12, .one (.c (.own 2 (.pair (.int .u64) (.int .u64)) w124.2.1)))], [(2, some ⟨156, 0⟩)], [(0, [.d (.int .u32 w124.2.2.1), .d (.int .i64 w124.2.2.2.1), .d (.sl (.pair (.int .u64) (.int .u64)) w124.2.2.2.2.1)]), (1, [.d (.int .u32 w124.2.2.2.2.2.1), .d (.int .i64 w124.2.2.2.2.2.2), .d (.sl .unit [])])], 3⟩ _
                  have h := Option.some.inj h
                  subst h
                  exact At.fin hm ht ⟨[], [], [], [6, 7], [1]⟩ [0 + 3 ≤ 3] (by kernel_rfl) ⟨(by decide), trivial⟩
              · refine At.step hm ht ⟨[], [false], [], [3, 6, 10, 11], [0, 1]⟩ 16 ⟨[(3, .one (.c (.ptr 0 0))), (6, .one (.c (.ptr 1 0))), (10, .one (.c (.d (.sl (.pair (.int .u64) (.int .u64)) r112_0)))), (11, .one (.c (.d (.int .u64 0))))], [], [(0, [.d (.int .u32 x_0), .d (.int .i64 x_1), .d (.sl (.pair (.int .u64) (.int .u64)) x_2)]), (1, [.d (.int .u32 0), .d (.int .i64 0), .d (.sl .unit [])])], 2⟩ [(0 : Int) ≤ 0 ∧ 0 < (((r112_0).length : Nat) : Int), ((((r112_0.getD 0 (0, 0)).1) : Int) == 0) = false] (by kernel_rfl) ⟨g114_0, b114_e0, trivial⟩ ?_
                rcases iteS h with ⟨b127_e0, h⟩ | ⟨b127_e0, h⟩
                · refine At.step hm ht ⟨[], [true], [], [3, 6], [0, 1]⟩ 17 ⟨[(3, .one (.c (.ptr 0 0))), (6, .one (.c (.ptr 1 0)))], [], [(0, [.d (.int .u32 x_0), .d (.int .i64 x_1), .d (.sl (.pair (.int .u64) (.int .u64)) x_2)]), (1, [.d (.int .u32 0), .d (.int .i64 0), .d (.sl .unit [])])], 2⟩ [(decide ((((r112_0.length : Nat) : Int) : Int) > x_1)) = true] (by kernel_rfl) ⟨b127_e0, trivial⟩ ?_
                  have h := Option.some.inj h
                  subst h
                  exact At.fin hm ht ⟨[], [], [], [6, 7], [1]⟩ [0 + 3 ≤ 3] (by kernel_rfl) ⟨(by decide), trivial⟩
                · refine At.step hm ht ⟨[], [false], [], [3, 6, 10, 11], [0, 1]⟩ 18 ⟨[(3, .one (.c (.ptr 0 0))), (6, .one (.c (.ptr 1 0))), (10, .one (.c (.d (.sl (.pair (.int .u64) (.int .u64)) r112_0)))), (11, .one (.c (.d (.int .u64 0))))], [], [(0, [.d (.int .u32 x_0), .d (.int .i64 x_1), .d (.sl (.pair (.int .u64) (.int .u64)) x_2)]), (1, [.d (.int .u32 0), .d (.int .i64 0), .d (.sl .unit [])])], 2⟩ [(decide ((((r112_0.length : Nat) : Int) : Int) > x_1)) = false] (by kernel_rfl) ⟨b127_e0, trivial⟩ ?_
                  refine At.step hm ht ⟨[], [], [], [3, 6, 10, 11, 12], [0, 1]⟩ 19 ⟨[(3, .one (.c (.ptr 0 0))), (6, .one (.c (.ptr 1 0))), (10, .one (.c (.d (.sl (.pair (.int .u64) (.int .u64)) r112_0)))), (11, .one (.c (.d (.int .u64 0)))), (12, .one (.c (.d (.sl .unit []))))], [], [(0, [.d (.int .u32 x_0), .d (.int .i64 x_1), .d (.sl (.pair (.int .u64) (.int .u64)) x_2)]), (1, [.d (.int .u32 0), .d (.int .i64 0), .d (.sl .unit [])])], 2⟩ [] (by kernel_rfl) trivial ?_
                  refine At.step hm ht ⟨[], [], [.nil false 12 0 (.pair (.int .u64) (.int .u64)) (some 156)], [3, 6, 10, 11, 12, 13], [0, 1, 3]⟩ 20 ⟨[(3, .one (.c (.ptr 0 0))), (6, .one (.c (.ptr 1 0))), (10, .one (.c (.d (.sl (.pair (.int .u64) (.int .u64)) r112_0)))), (11, .one (.c (.d (.int .u64 0)))), (12, .one (.c (.own 2 (.pair (.int .u64) (.int .u64)) []))), (13, .one (.c (.d (.int .i64 0))))], [(2, some ⟨156, 0⟩)], [(0, [.d (.int .u32 x_0), .d (.int .i64 x_1), .d (.sl (.pair (.int .u64) (.int .u64)) x_2)]), (1, [.d (.int .u32 0), .d (.int .i64 0), .d (.sl .unit [])])], 3⟩ [] (by kernel_rfl) trivial ?_
                  obtain ⟨w131, cw131, h⟩ := bindS h
                  refine f32_broughamref31_Came_L20_ok n r112_0 0 [] 0 x_0 x_1 x_2 0 0 w131 cw131 _ ?_
                  show At Go.Proofs.Try.prog Go.Proofs.Try.f32 0 23 ⟨[(3, .one (.c (.ptr 0 0))), (6, .one (.c (.ptr 1 0))), (11, .one (.c (.d (.int .u64 w131.1)))), (12, .one (.c (.own 2 (.pair (.int .u64) (.int .u64)) w131.2.1)))], [(2, some ⟨156, 0⟩)], [(0, [.d (.int .u32 w131.2.2.1), .d (.int .i64 w131.2.2.2.1), .d (.sl (.pair (.int .u64) (.int .u64)) w131.2.2.2.2.1)]), (1, [.d (.int .u32 w131.2.2.2.2.2.1), .d (.int .i64 w131.2.2.2.2.2.2), .d (.sl .unit [])])], 3⟩ _
                  have h := Option.some.inj h
                  subst h
                  exact At.fin hm ht ⟨[], [], [], [6, 7], [1]⟩ [0 + 3 ≤ 3] (by kernel_rfl) ⟨(by decide), trivial⟩
        · refine At.step hm ht ⟨[], [false], [], [3, 6, 8, 9], [0, 1]⟩ 9 ⟨[(3, .one (.c (.ptr 0 0))), (6, .one (.c (.ptr 1 0))), (8, .one (.c (.d (.int .i64 r103_0)))), (9, .one (.c (.d (.int .i64 r104_0))))], [], [(0, [.d (.int .u32 x_0), .d (.int .i64 x_1), .d (.sl (.pair (.int .u64) (.int .u64)) x_2)]), (1, [.d (.int .u32 0), .d (.int .i64 0), .d (.sl .unit [])])], 2⟩ [(decide ((r103_0 : Int) < 0)) = false] (by kernel_rfl) ⟨b107_e0, trivial⟩ ?_
          rcases iteS h with ⟨b134_2, h⟩ | ⟨b134_2, h⟩
          · refine At.step hm ht ⟨[(2, .b true)], [true], [], [3, 6], [0, 1]⟩ 10 ⟨[(3, .one (.c (.ptr 0 0))), (6, .one (.c (.ptr 1 0)))], [], [(0, [.d (.int .u32 x_0), .d (.int .i64 x_1), .d (.sl (.pair (.int .u64) (.int .u64)) x_2)]), (1, [.d (.int .u32 0), .d (.int .i64 0), .d (.sl .unit [])])], 2⟩ [(decide ((r103_0 : Int) > 1048576)) = true, true = true] (by kernel_rfl) ⟨b134_2, rfl, trivial⟩ ?_
            have h := Option.some.inj h
            subst h
            exact At.fin hm ht ⟨[], [], [], [6, 7], [1]⟩ [0 + 3 ≤ 3] (by kernel_rfl) ⟨(by decide), trivial⟩
          · rcases iteS h with ⟨b134_e0, h⟩ | ⟨b134_e0, h⟩
            · refine At.step hm ht ⟨[(2, .b false)], [true], [], [3, 6], [0, 1]⟩ 10 ⟨[(3, .one (.c (.ptr 0 0))), (6, .one (.c (.ptr 1 0)))], [], [(0, [.d (.int .u32 x_0), .d (.int .i64 x_1), .d (.sl (.pair (.int .u64) (.int .u64)) x_2)]), (1, [.d (.int .u32 0), .d (.int .i64 0), .d (.sl .unit [])])], 2⟩ [(decide ((r103_0 : Int) > 1048576)) = false, (decide ((r104_0 : Int) > 1048576)) = true] (by kernel_rfl) ⟨b134_2, b134_e0, trivial⟩ ?_
              have h := Option.some.inj h
              subst h
              exact At.fin hm ht ⟨[], [], [], [6, 7], [1]⟩ [0 + 3 ≤ 3] (by kernel_rfl) ⟨(by decide), trivial⟩
            · refine At.step hm ht ⟨[(2, .b false)], [false], [], [3, 6, 8, 9], [0, 1]⟩ 11 ⟨[(3, .one (.c (.ptr 0 0))), (6, .one (.c (.ptr 1 0))), (8, .one (.c (.d (.int .i64 r103_0)))), (9, .one (.c (.d (.int .i64 r104_0))))], [], [(0, [.d (.int .u32 x_0), .d (.int .i64 x_1), .d (.sl (.pair (.int .u64) (.int .u64)) x_2)]), (1, [.d (.int .u32 0), .d (.int .i64 0), .d (.sl .unit [])])], 2⟩ [(decide ((r103_0 : Int) > 1048576)) = false, (decide ((r104_0 : Int) > 1048576)) = false] (by kernel_rfl) ⟨b134_2, b134_e0, trivial⟩ ?_
              obtain ⟨r137_0, cr137_0, h⟩ := bindS h
              refine At.step hm ht ⟨[(7, .call [] [] (f88_broughamref06_Join_out r137_0))], [], [], [3, 6, 10], [0, 1]⟩ 12 ⟨[(3, .one (.c (.ptr 0 0))), (6, .one (.c (.ptr 1 0))), (10, .one (.c (.d (.sl (.pair (.int .u64) (.int .u64)) r137_0))))], [], [(0, [.d (.int .u32 x_0), .d (.int .i64 x_1), .d (.sl (.pair (.int .u64) (.int .u64)) x_2)]), (1, [.d (.int .u32 0), .d (.int .i64 0), .d (.sl .unit [])])], 2⟩ [FnOK Go.Proofs.Try.prog 88 (f88_broughamref06_Join_in x_2 (IntKind.wrap .u64 r103_0) (IntKind.wrap .u64 r104_0)) (f88_broughamref06_Join_out r137_0)] (by kernel_rfl) ⟨(f88_broughamref06_Join_ok n x_2 (IntKind.wrap .u64 r103_0) (IntKind.wrap .u64 r104_0) r137_0 cr137_0), trivial⟩ ?_
              refine At.step hm ht ⟨[], [], [], [3, 6, 10, 11], [0, 1]⟩ 13 ⟨[(3, .one (.c (.ptr 0 0))), (6, .one (.c (.ptr 1 0))), (10, .one (.c (.d (.sl (.pair (.int .u64) (.int .u64)) r137_0)))), (11, .one (.c (.d (.int .u64 0))))], [], [(0, [.d (.int .u32 x_0), .d (.int .i64 x_1), .d (.sl (.pair (.int .u64) (.int .u64)) x_2)]), (1, [.d (.int .u32 0), .d (.int .i64 0), .d (.sl .unit [])])], 2⟩ [] (by kernel_rfl) trivial ?_
              obtain ⟨g139_0, h⟩ := ifS h
              rcases iteS h with ⟨b139_e0, h⟩ | ⟨b139_e0, h⟩
              · refine At.step hm ht ⟨[], [true], [], [3, 6, 10], [0, 1]⟩ 14 ⟨[(3, .one (.c (.ptr 0 0))), (6, .one (.c (.ptr 1 0))), (10, .one (.c (.d (.sl (.pair (.int .u64) (.int .u64)) r137_0))))], [], [(0, [.d (.int .u32 x_0), .d (.int .i64 x_1), .d (.sl (.pair (.int .u64) (.int .u64)) x_2)]), (1, [.d (.int .u32 0), .d (.int .i64 0), .d (.sl .unit [])])], 2⟩ [(0 : Int) ≤ 0 ∧ 0 < (((r137_0).length : Nat) : Int), ((((r137_0.getD 0 (0, 0)).1) : Int) == 0) = true] (by kernel_rfl) ⟨g139_0, b139_e0, trivial⟩ ?_
                obtain ⟨g140_0, h⟩ := ifS h
                refine At.step hm ht ⟨[], [], [], [3, 6, 10, 11], [0, 1]⟩ 15 ⟨[(3, .one (.c (.ptr 0 0))), (6, .one (.c (.ptr 1 0))), (10, .one (.c (.d (.sl (.pair (.int .u64) (.int .u64)) r137_0)))), (11, .one (.c (.d (.int .u64 ((r137_0.getD 0 (0, 0)).2)))))], [], [(0, [.d (.int .u32 x_0), .d (.int .i64 x_1), .d (.sl (.pair (.int .u64) (.int .u64)) x_2)]), (1, [.d (.int .u32 0), .d (.int .i64 0), .d (.sl .unit [])])], 2⟩ [(0 : Int) ≤ 0 ∧ 0 < (((r137_0).length : Nat) : Int)] (by kernel_rfl) ⟨g140_0, trivial⟩ ?_
                obtain ⟨g141_0, h⟩ := ifS h
                refine At.step hm ht ⟨[], [], [], [3, 6, 10, 11], [0, 1]⟩ 16 ⟨[(3, .one (.c (.ptr 0 0))), (6, .one (.c (.ptr 1 0))), (10, .one (.c (.d (.sl (.pair (.int .u64) (.int .u64)) ((r137_0.take r137_0.length).drop 1))))), (11, .one (.c (.d (.int .u64 ((r137_0.getD 0 (0, 0)).2)))))], [], [(0, [.d (.int .u32 x_0), .d (.int .i64 x_1), .d (.sl (.pair (.int .u64) (.int .u64)) x_2)]), (1, [.d (.int .u32 0), .d (.int .i64 0), .d (.sl .unit [])])], 2⟩ [cutOk r137_0.length (some 1) none none] (by kernel_rfl) ⟨g141_0, trivial⟩ ?_
                rcases iteS h with ⟨b142_e0, h⟩ | ⟨b142_e0, h⟩
                · refine At.step hm ht ⟨[], [true], [], [3, 6], [0, 1]⟩ 17 ⟨[(3, .one (.c (.ptr 0 0))), (6, .one (.c (.ptr 1 0)))], [], [(0, [.d (.int .u32 x_0), .d (.int .i64 x_1), .d (.sl (.pair (.int .u64) (.int .u64)) x_2)]), (1, [.d (.int .u32 0), .d (.int .i64 0), .d (.sl .unit [])])], 2⟩ [(decide ((((((r137_0.take r137_0.length).drop 1).length : Nat) : Int) : Int) > x_1)) = true] (by kernel_rfl) ⟨b142_e0, trivial⟩ ?_
                  have h := Option.some.inj h
                  subst h
                  exact At.fin hm ht ⟨[], [], [], [6, 7], [1]⟩ [0 + 3 ≤ 3] (by kernel_rfl) ⟨(by decide), trivial⟩
                · refine At.step hm ht ⟨[], [false], [], [3, 6, 10, 11], [0, 1]⟩ 18 ⟨[(3, .one (.c (.ptr 0 0))), (6, .one (.c (.ptr 1 0))), (10, .one (.c (.d (.sl (.pair (.int .u64) (.int .u64)) ((r137_0.take r137_0.length).drop 1))))), (11, .one (.c (.d (.int .u64 ((r137_0.getD 0 (0, 0)).2)))))], [], [(0, [.d (.int .u32 x_0), .d (.int .i64 x_1), .d (.sl (.pair (.int .u64) (.int .u64)) x_2)]), (1, [.d (.int .u32 0), .d (.int .i64 0), .d (.sl .unit [])])], 2⟩ [(decide ((((((r137_0.take r137_0.length).drop 1).length : Nat) : Int) : Int) > x_1)) = false] (by kernel_rfl) ⟨b142_e0, trivial⟩ ?_
                  refine At.step hm ht ⟨[], [], [], [3, 6, 10, 11, 12], [0, 1]⟩ 19 ⟨[(3, .one (.c (.ptr 0 0))), (6, .one (.c (.ptr 1 0))), (10, .one (.c (.d (.sl (.pair (.int .u64) (.int .u64)) ((r137_0.take r137_0.length).drop 1))))), (11, .one (.c (.d (.int .u64 ((r137_0.getD 0 (0, 0)).2))))), (12, .one (.c (.d (.sl .unit []))))], [], [(0, [.d (.int .u32 x_0), .d (.int .i64 x_1), .d (.sl (.pair (.int .u64) (.int .u64)) x_2)]), (1, [.d (.int .u32 0), .d (.int .i64 0), .d (.sl .unit [])])], 2⟩ [] (by kernel_rfl) trivial ?_
                  refine At.step hm ht ⟨[], [], [.nil false 12 0 (.pair (.int .u64) (.int .u64)) (some 156)], [3, 6, 10, 11, 12, 13], [0, 1, 3]⟩ 20 ⟨[(3, .one (.c (.ptr 0 0))), (6, .one (.c (.ptr 1 0))), (10, .one (.c (.d (.sl (.pair (.int .u64) (.int .u64)) ((r137_0.take r137_0.length).drop 1))))), (11, .one (.c (.d (.int .u64 ((r137_0.getD 0 (0, 0)).2))))), (12, .one (.c (.own 2 (.pair (.int .u64) (.int .u64)) []))), (13, .one (.c (.d (.int .i64 0))))], [(2, some ⟨156, 0⟩)], [(0, [.d (.int .u32 x_0), .d (.int .i64 x_1), .d (.sl (.pair (.int .u64) (.int .u64)) x_2)]), (1, [.d (.int .u32 0), .d (.int .i64 0), .d (.sl .unit [])])], 3⟩ [] (by kernel_rfl) trivial ?_
                  obtain ⟨w146, cw146, h⟩ := bindS h
                  refine f32_broughamref31_Came_L20_ok n ((r137_0.take r137_0.length).drop 1) ((r137_0.getD 0 (0, 0)).2) [] 0 x_0 x_1 x_2 0 0 w146 cw146 _ ?_
                  show At Go.Proofs.Try.prog Go.Proofs.Try.f32 0 23 ⟨[(3, .one (.c (.ptr 0 0))), (6, .one (.c (.ptr 1 0))), (11, .one (.c (.d (.int .u64 w146.1)))), (12, .one (.c (.own 2 (.pair (.int .u64) (.int .u64)) w146.2.1)))], [(2, some ⟨156, 0⟩)], [(0, [.d (.int .u32 w146.2.2.1), .d (.int .i64 w146.2.2.2.1), .d (.sl (.pair (.int .u64) (.int .u64)) w146.2.2.2.2.1)]), (1, [.d (.int .u32 w146.2.2.2.2.2.1), .d (.int .i64 w146.2.2.2.2.2.2), .d (.sl .unit [])])], 3⟩ _
                  have h := Option.some.inj h
                  subst h
                  exact At.fin hm ht ⟨[], [], [], [6, 7], [1]⟩ [0 + 3 ≤ 3] (by kernel_rfl) ⟨(by decide), trivial⟩
              · refine At.step hm ht ⟨[], [false], [], [3, 6, 10, 11], [0, 1]⟩ 16 ⟨[(3, .one (.c (.ptr 0 0))), (6, .one (.c (.ptr 1 0))), (10, .one (.c (.d (.sl (.pair (.int .u64) (.int .u64)) r137_0)))), (11, .one (.c (.d (.int .u64 0))))], [], [(0, [.d (.int .u32 x_0), .d (.int .i64 x_1), .d (.sl (.pair (.int .u64) (.int .u64)) x_2)]), (1, [.d (.int .u32 0), .d (.int .i64 0), .d (.sl .unit [])])], 2⟩ [(0 : Int) ≤ 0 ∧ 0 < (((r137_0).length : Nat) : Int), ((((r137_0.getD 0 (0, 0)).1) : Int) == 0) = false] (by kernel_rfl) ⟨g139_0, b139_e0, trivial⟩ ?_
                rcases iteS h with ⟨b149_e0, h⟩ | ⟨b149_e0, h⟩
                · refine At.step hm ht ⟨[], [true], [], [3, 6], [0, 1]⟩ 17 ⟨[(3, .one (.c (.ptr 0 0))), (6, .one (.c (.ptr 1 0)))], [], [(0, [.d (.int .u32 x_0), .d (.int .i64 x_1), .d (.sl (.pair (.int .u64) (.int .u64)) x_2)]), (1, [.d (.int .u32 0), .d (.int .i64 0), .d (.sl .unit [])])], 2⟩ [(decide ((((r137_0.length : Nat) : Int) : Int) > x_1)) = true] (by kernel_rfl) ⟨b149_e0, trivial⟩ ?_
                  have h := Option.some.inj h
                  subst h
                  exact At.fin hm ht ⟨[], [], [], [6, 7], [1]⟩ [0 + 3 ≤ 3] (by kernel_rfl) ⟨(by decide), trivial⟩
                · refine At.step hm ht ⟨[], [false], [], [3, 6, 10, 11], [0, 1]⟩ 18 ⟨[(3, .one (.c (.ptr 0 0))), (6, .one (.c (.ptr 1 0))), (10, .one (.c (.d (.sl (.pair (.int .u64) (.int .u64)) r137_0)))), (11, .one (.c (.d (.int .u64 0))))], [], [(0, [.d (.int .u32 x_0), .d (.int .i64 x_1), .d (.sl (.pair (.int .u64) (.int .u64)) x_2)]), (1, [.d (.int .u32 0), .d (.int .i64 0), .d (.sl .unit [])])], 2⟩ [(decide ((((r137_0.length : Nat) : Int) : Int) > x_1)) = false] (by kernel_rfl) ⟨b149_e0, trivial⟩ ?_
                  refine At.step hm ht ⟨[], [], [], [3, 6, 10, 11, 12], [0, 1]⟩ 19 ⟨[(3, .one (.c (.ptr 0 0))), (6, .one (.c (.ptr 1 0))), (10, .one (.c (.d (.sl (.pair (.int .u64) (.int .u64)) r137_0)))), (11, .one (.c (.d (.int .u64 0)))), (12, .one (.c (.d (.sl .unit []))))], [], [(0, [.d (.int .u32 x_0), .d (.int .i64 x_1), .d (.sl (.pair (.int .u64) (.int .u64)) x_2)]), (1, [.d (.int .u32 0), .d (.int .i64 0), .d (.sl .unit [])])], 2⟩ [] (by kernel_rfl) trivial ?_
                  refine At.step hm ht ⟨[], [], [.nil false 12 0 (.pair (.int .u64) (.int .u64)) (some 156)], [3, 6, 10, 11, 12, 13], [0, 1, 3]⟩ 20 ⟨[(3, .one (.c (.ptr 0 0))), (6, .one (.c (.ptr 1 0))), (10, .one (.c (.d (.sl (.pair (.int .u64) (.int .u64)) r137_0)))), (11, .one (.c (.d (.int .u64 0)))), (12, .one (.c (.own 2 (.pair (.int .u64) (.int .u64)) []))), (13, .one (.c (.d (.int .i64 0))))], [(2, some ⟨156, 0⟩)], [(0, [.d (.int .u32 x_0), .d (.int .i64 x_1), .d (.sl (.pair (.int .u64) (.int .u64)) x_2)]), (1, [.d (.int .u32 0), .d (.int .i64 0), .d (.sl .unit [])])], 3⟩ [] (by kernel_rfl) trivial ?_
                  obtain ⟨w153, cw153, h⟩ := bindS h
                  refine f32_broughamref31_Came_L20_ok n r137_0 0 [] 0 x_0 x_1 x_2 0 0 w153 cw153 _ ?_
                  show At Go.Proofs.Try.prog Go.Proofs.Try.f32 0 23 ⟨[(3, .one (.c (.ptr 0 0))), (6, .one (.c (.ptr 1 0))), (11, .one (.c (.d (.int .u64 w153.1)))), (12, .one (.c (.own 2 (.pair (.int .u64) (.int .u64)) w153.2.1)))], [(2, some ⟨156, 0⟩)], [(0, [.d (.int .u32 w153.2.2.1), .d (.int .i64 w153.2.2.2.1), .d (.sl (.pair (.int .u64) (.int .u64)) w153.2.2.2.2.1)]), (1, [.d (.int .u32 w153.2.2.2.2.2.1), .d (.int .i64 w153.2.2.2.2.2.2), .d (.sl .unit [])])], 3⟩ _
                  have h := Option.some.inj h
                  subst h
                  exact At.fin hm ht ⟨[], [], [], [6, 7], [1]⟩ [0 + 3 ≤ 3] (by kernel_rfl) ⟨(by decide), trivial⟩
/-! brougham/serial.Diff -/
def f89_serial_Diff_in (a : Int) (b : Int) : Inn := ⟨[.c (.d (.int .u32 a)), .c (.d (.int .u32 b))], [], [], 0⟩
def f89_serial_Diff_out (r : Int) : Out := ⟨.one (.c (.d (.int .i64 r))), [], [], 0⟩
def f89_serial_Diff (a : Int) (b : Int) : Option (Int) :=
  some (IntKind.wrap .i64 (IntKind.wrap .i32 (IntKind.wrap .u32 (a - b))))
theorem f89_serial_Diff_ok (a : Int) (b : Int) (r : Int) (h : f89_serial_Diff a b = some r) : FnOK Go.Proofs.Try.prog 89 (f89_serial_Diff_in a b) (f89_serial_Diff_out r) := by
  unfold f89_serial_Diff at h
  refine At.fn (r := 0) Go.Proofs.Try.func89 rfl (by kernel_rfl) rfl rfl (by kernel_rfl) ?_
  show At Go.Proofs.Try.prog Go.Proofs.Try.f89 0 0 ⟨[(0, .one (.c (.d (.int .u32 a)))), (1, .one (.c (.d (.int .u32 b))))], [], [], 0⟩ _
  refine At.step hm ht ⟨[], [], [], [0, 1], []⟩ 1 ⟨[(0, .one (.c (.d (.int .u32 a)))), (1, .one (.c (.d (.int .u32 b))))], [], [], 0⟩ [] (by kernel_rfl) trivial ?_
  have h := Option.some.inj h
  subst h
  exact At.fin hm ht ⟨[], [], [], [4], []⟩ [] (by kernel_rfl) trivial
/-! brougham/serial.Within -/
def f127_serial_Within_in (x : Int) (from_ : Int) (size : Int) : Inn := ⟨[.c (.d (.int .u32 x)), .c (.d (.int .u32 from_)), .c (.d (.int .u32 size))], [], [], 0⟩
def f127_serial_Within_out (r : Bool) : Out := ⟨.one (.c (.d (.bool r))), [], [], 0⟩
def f127_serial_Within (x : Int) (from_ : Int) (size : Int) : Option (Bool) :=
  some (decide (((IntKind.wrap .u32 (x - from_)) : Int) < size))
theorem f127_serial_Within_ok (x : Int) (from_ : Int) (size : Int) (r : Bool) (h : f127_serial_Within x from_ size = some r) : FnOK Go.Proofs.Try.prog 127 (f127_serial_Within_in x from_ size) (f127_serial_Within_out r) := by
  unfold f127_serial_Within at h
  refine At.fn (r := 0) Go.Proofs.Try.func127 rfl (by kernel_rfl) rfl rfl (by kernel_rfl) ?_
  show At Go.Proofs.Try.prog Go.Proofs.Try.f127 0 0 ⟨[(0, .one (.c (.d (.int .u32 x)))), (1, .one (.c (.d (.int .u32 from_)))), (2, .one (.c (.d (.int .u32 size))))], [], [], 0⟩ _
  refine At.step hm ht ⟨[], [], [], [0, 1, 2], []⟩ 1 ⟨[(0, .one (.c (.d (.int .u32 x)))), (1, .one (.c (.d (.int .u32 from_)))), (2, .one (.c (.d (.int .u32 size))))], [], [], 0⟩ [] (by kernel_rfl) trivial ?_
  have h := Option.some.inj h
  subst h
  exact At.fin hm ht ⟨[], [], [], [6], []⟩ [] (by kernel_rfl) trivial
/-! brougham/serial.Near -/
def f90_serial_Near_in (x : Int) (to_ : Int) (size : Int) : Inn := ⟨[.c (.d (.int .u32 x)), .c (.d (.int .u32 to_)), .c (.d (.int .u32 size))], [], [], 0⟩
def f90_serial_Near_out (r : Bool) : Out := ⟨.one (.c (.d (.bool r))), [], [], 0⟩
def f90_serial_Near (x : Int) (to_ : Int) (size : Int) : Option (Bool) :=
  (f127_serial_Within x to_ size).bind fun r167_0 =>
  if r167_0 = true then
    some true
  else
    (f127_serial_Within to_ x size).bind fun r167_1 =>
    some r167_1
theorem f90_serial_Near_ok (x : Int) (to_ : Int) (size : Int) (r : Bool) (h : f90_serial_Near x to_ size = some r) : FnOK Go.Proofs.Try.prog 90 (f90_serial_Near_in x to_ size) (f90_serial_Near_out r) := by
  unfold f90_serial_Near at h
  refine At.fn (r := 0) Go.Proofs.Try.func90 rfl (by kernel_rfl) rfl rfl (by kernel_rfl) ?_
  show At Go.Proofs.Try.prog Go.Proofs.Try.f90 0 0 ⟨[(0, .one (.c (.d (.int .u32 x)))), (1, .one (.c (.d (.int .u32 to_)))), (2, .one (.c (.d (.int .u32 size))))], [], [], 0⟩ _
  refine At.step hm ht ⟨[], [], [], [0, 1, 2], []⟩ 1 ⟨[(0, .one (.c (.d (.int .u32 x)))), (1, .one (.c (.d (.int .u32 to_)))), (2, .one (.c (.d (.int .u32 size))))], [], [], 0⟩ [] (by kernel_rfl) trivial ?_
  obtain ⟨r167_0, cr167_0, h⟩ := bindS h
  rcases iteS h with ⟨b167_4, h⟩ | ⟨b167_4, h⟩
  · have h := Option.some.inj h
    subst h
    exact At.fin hm ht ⟨[(3, .call [] [] (f127_serial_Within_out r167_0)), (4, .b true)], [], [], [6], []⟩ [FnOK Go.Proofs.Try.prog 127 (f127_serial_Within_in x to_ size) (f127_serial_Within_out r167_0), r167_0 = true] (by kernel_rfl) ⟨(f127_serial_Within_ok x to_ size r167_0 cr167_0), b167_4, trivial⟩
  · obtain ⟨r167_1, cr167_1, h⟩ := bindS h
    have h := Option.some.inj h
    subst h
    exact At.fin hm ht ⟨[(3, .call [] [] (f127_serial_Within_out r167_0)), (4, .b false), (8, .call [] [] (f127_serial_Within_out r167_1))], [], [], [6], []⟩ [FnOK Go.Proofs.Try.prog 127 (f127_serial_Within_in x to_ size) (f127_serial_Within_out r167_0), r167_0 = false, FnOK Go.Proofs.Try.prog 127 (f127_serial_Within_in to_ x size) (f127_serial_Within_out r167_1)] (by kernel_rfl) ⟨(f127_serial_Within_ok x to_ size r167_0 cr167_0), b167_4, (f127_serial_Within_ok to_ x size r167_1 cr167_1), trivial⟩
/-! brougham/serial.Less -/
def f91_serial_Less_in (a : Int) (b : Int) : Inn := ⟨[.c (.d (.int .u32 a)), .c (.d (.int .u32 b))], [], [], 0⟩
def f91_serial_Less_out (r : Bool) : Out := ⟨.one (.c (.d (.bool r))), [], [], 0⟩
def f91_serial_Less (a : Int) (b : Int) : Option (Bool) :=
  some (decide (((IntKind.wrap .i32 (IntKind.wrap .u32 (a - b))) : Int) < 0))
theorem f91_serial_Less_ok (a : Int) (b : Int) (r : Bool) (h : f91_serial_Less a b = some r) : FnOK Go.Proofs.Try.prog 91 (f91_serial_Less_in a b) (f91_serial_Less_out r) := by
  unfold f91_serial_Less at h
  refine At.fn (r := 0) Go.Proofs.Try.func91 rfl (by kernel_rfl) rfl rfl (by kernel_rfl) ?_
  show At Go.Proofs.Try.prog Go.Proofs.Try.f91 0 0 ⟨[(0, .one (.c (.d (.int .u32 a)))), (1, .one (.c (.d (.int .u32 b))))], [], [], 0⟩ _
  refine At.step hm ht ⟨[], [], [], [0, 1], []⟩ 1 ⟨[(0, .one (.c (.d (.int .u32 a)))), (1, .one (.c (.d (.int .u32 b))))], [], [], 0⟩ [] (by kernel_rfl) trivial ?_
  have h := Option.some.inj h
  subst h
  exact At.fin hm ht ⟨[], [], [], [4], []⟩ [] (by kernel_rfl) trivial
/-! (*brougham/sack.Board).near -/
def f92_sack_Board_near_in (n_ : Int) (x_0 : Int) (x_1 : Int) : Inn := ⟨[.c (.ptr 0 0), .c (.d (.int .u32 n_))], [], [(0, [.d (.int .u32 x_0), .d (.int .i64 x_1), .d (.sl .unit [])])], 1⟩
def f92_sack_Board_near_out (r : Bool × Int × Int) : Out := ⟨.one (.c (.d (.bool r.1))), [], [(0, [.d (.int .u32 r.2.1), .d (.int .i64 r.2.2), .d (.sl .unit [])])], 1⟩
def f92_sack_Board_near (n_ : Int) (x_0 : Int) (x_1 : Int) : Option (Bool × Int × Int) :=
  (f127_serial_Within n_ x_0 1048577).bind fun r176_0 =>
  some (r176_0, x_0, x_1)
theorem f92_sack_Board_near_ok (n_ : Int) (x_0 : Int) (x_1 : Int) (r : Bool × Int × Int) (h : f92_sack_Board_near n_ x_0 x_1 = some r) : FnOK Go.Proofs.Try.prog 92 (f92_sack_Board_near_in n_ x_0 x_1) (f92_sack_Board_near_out r) := by
  unfold f92_sack_Board_near at h
  refine At.fn (r := 0) Go.Proofs.Try.func92 rfl (by kernel_rfl) rfl rfl (by kernel_rfl) ?_
  show At Go.Proofs.Try.prog Go.Proofs.Try.f92 1 0 ⟨[(0, .one (.c (.ptr 0 0))), (1, .one (.c (.d (.int .u32 n_))))], [], [(0, [.d (.int .u32 x_0), .d (.int .i64 x_1), .d (.sl .unit [])])], 1⟩ _
  refine At.step hm ht ⟨[], [], [], [0, 1], [0]⟩ 1 ⟨[(0, .one (.c (.ptr 0 0))), (1, .one (.c (.d (.int .u32 n_))))], [], [(0, [.d (.int .u32 x_0), .d (.int .i64 x_1), .d (.sl .unit [])])], 1⟩ [] (by kernel_rfl) trivial ?_
  obtain ⟨r176_0, cr176_0, h⟩ := bindS h
  have h := Option.some.inj h
  subst h
  exact At.fin hm ht ⟨[(5, .call [] [] (f127_serial_Within_out r176_0))], [], [], [4], [0]⟩ [FnOK Go.Proofs.Try.prog 127 (f127_serial_Within_in n_ x_0 1048577) (f127_serial_Within_out r176_0)] (by kernel_rfl) ⟨(f127_serial_Within_ok n_ x_0 1048577 r176_0 cr176_0), trivial⟩
/-! brougham/serial.Max -/
def f128_serial_Max_in (a : Int) (b : Int) : Inn := ⟨[.c (.d (.int .u32 a)), .c (.d (.int .u32 b))], [], [], 0⟩
def f128_serial_Max_out (r : Int) : Out := ⟨.one (.c (.d (.int .u32 r))), [], [], 0⟩
def f128_serial_Max (a : Int) (b : Int) : Option (Int) :=
  (f91_serial_Less a b).bind fun r214_0 =>
  if r214_0 = true then
    some b
  else
    some a
theorem f128_serial_Max_ok (a : Int) (b : Int) (r : Int) (h : f128_serial_Max a b = some r) : FnOK Go.Proofs.Try.prog 128 (f128_serial_Max_in a b) (f128_serial_Max_out r) := by
  unfold f128_serial_Max at h
  refine At.fn (r := 0) Go.Proofs.Try.func128 rfl (by kernel_rfl) rfl rfl (by kernel_rfl) ?_
  show At Go.Proofs.Try.prog Go.Proofs.Try.f128 0 0 ⟨[(0, .one (.c (.d (.int .u32 a)))), (1, .one (.c (.d (.int .u32 b))))], [], [], 0⟩ _
  refine At.step hm ht ⟨[], [], [], [0, 1], []⟩ 1 ⟨[(0, .one (.c (.d (.int .u32 a)))), (1, .one (.c (.d (.int .u32 b))))], [], [], 0⟩ [] (by kernel_rfl) trivial ?_
  obtain ⟨r214_0, cr214_0, h⟩ := bindS h
  rcases iteS h with ⟨b214_e0, h⟩ | ⟨b214_e0, h⟩
  · refine At.step hm ht ⟨[(2, .call [] [] (f91_serial_Less_out r214_0))], [true], [], [1], []⟩ 2 ⟨[(1, .one (.c (.d (.int .u32 b))))], [], [], 0⟩ [FnOK Go.Proofs.Try.prog 91 (f91_serial_Less_in a b) (f91_serial_Less_out r214_0), r214_0 = true] (by kernel_rfl) ⟨(f91_serial_Less_ok a b r214_0 cr214_0), b214_e0, trivial⟩ ?_
    have h := Option.some.inj h
    subst h
    exact At.fin hm ht ⟨[], [], [], [4], []⟩ [] (by kernel_rfl) trivial
  · refine At.step hm ht ⟨[(2, .call [] [] (f91_serial_Less_out r214_0))], [false], [], [0], []⟩ 3 ⟨[(0, .one (.c (.d (.int .u32 a))))], [], [], 0⟩ [FnOK Go.Proofs.Try.prog 91 (f91_serial_Less_in a b) (f91_serial_Less_out r214_0), r214_0 = false] (by kernel_rfl) ⟨(f91_serial_Less_ok a b r214_0 cr214_0), b214_e0, trivial⟩ ?_
    have h := Option.some.inj h
    subst h
    exact At.fin hm ht ⟨[], [], [], [4], []⟩ [] (by kernel_rfl) trivial
/-! slices.Clone[[]brougham/sack.Block,brougham/sack.Block] -/
def f94_sack_Block_in (s : List (Int × Int)) : Inn := ⟨[.c (.d (.sl (.pair (.int .u32) (.int .u32)) s))], [], [], 0⟩
def f94_sack_Block_out (r : List (Int × Int)) : Out := ⟨.one (.c (.d (.sl (.pair (.int .u32) (.int .u32)) r))), [], [], 0⟩
def f94_sack_Block (s : List (Int × Int)) : Option (List (Int × Int)) :=
  if ([] : List (Int × Int)).length + s.length ≤ maxLen ∧ (([] : List (Int × Int)).length + s.length) * 8 ≤ 140737488355328 then
  some ([] ++ s)
  else none
theorem f94_sack_Block_ok (s : List (Int × Int)) (r : List (Int × Int)) (h : f94_sack_Block s = some r) : FnOK Go.Proofs.Try.prog 94 (f94_sack_Block_in s) (f94_sack_Block_out r) := by
  unfold f94_sack_Block at h
  refine At.fn (r := 0) Go.Proofs.Try.func94 rfl (by kernel_rfl) rfl rfl (by kernel_rfl) ?_
  show At Go.Proofs.Try.prog Go.Proofs.Try.f94 0 0 ⟨[(0, .one (.c (.d (.sl (.pair (.int .u32) (.int .u32)) s))))], [], [], 0⟩ _
  refine At.step hm ht ⟨[], [], [], [0], []⟩ 1 ⟨[(0, .one (.c (.d (.sl (.pair (.int .u32) (.int .u32)) s))))], [], [], 0⟩ [] (by kernel_rfl) trivial ?_
  refine At.nilS 0 (.pair (.int .u32) (.int .u32)) s rfl (fun e0 => ?_) ?_
  · subst e0
    have h : ((
      some []) : Option (List (Int × Int))) = some r := by first | exact h | (obtain ⟨_, h⟩ := ifS h; exact h)
    refine At.step hm ht ⟨[], [true], [], [], []⟩ 2 ⟨[], [], [], 0⟩ [true = true] (by kernel_rfl) ⟨rfl, trivial⟩ ?_
    have h := Option.some.inj h
    subst h
    exact At.fin hm ht ⟨[], [], [.nil false 2 0 (.pair (.int .u32) (.int .u32)) none], [2], []⟩ [] (by kernel_rfl) trivial
  · refine At.step hm ht ⟨[], [false], [], [0], []⟩ 3 ⟨[(0, .one (.c (.nn (.pair (.int .u32) (.int .u32)) s)))], [], [], 0⟩ [false = false] (by kernel_rfl) ⟨rfl, trivial⟩ ?_
    obtain ⟨g233_0, h⟩ := ifS h
    have h := Option.some.inj h
    subst h
    exact At.fin hm ht ⟨[], [], [], [2], []⟩ [([] : List (Int × Int)).length + s.length ≤ maxLen ∧ (([] : List (Int × Int)).length + s.length) * 8 ≤ 140737488355328] (by kernel_rfl) ⟨g233_0, trivial⟩
/-! (*brougham/sack.Board).put -/
def f93_sack_Board_put_in (b_0 : Int) (b_1 : Int) (x_0 : Int) (x_1 : Int) : Inn := ⟨[.c (.ptr 0 0), .agg [.d (.int .u32 b_0), .d (.int .u32 b_1)]], [], [(0, [.d (.int .u32 x_0), .d (.int .i64 x_1), .d (.sl .unit [])])], 1⟩
def f93_sack_Board_put_out (r : Bool × Int × Int × List (Int × Int)) : Out := ⟨.one (.c (.d (.bool r.1))), [], [(0, [.d (.int .u32 r.2.1), .d (.int .i64 r.2.2.1), .d (.sl (.pair (.int .u32) (.int .u32)) r.2.2.2)])], 1⟩
def f93_sack_Board_put_L4 : Nat → (List (Int × Int)) → Bool → (List (Int × Int)) → Int → Int → Int → Int → Int → Int → Option ((List (Int × Int)) × Bool × Int × Int × Int × Int)
  | 0, _, _, _, _, _, _, _, _, _ => none
  | n + 1, out, done, t12, t13, t14, x_0, x_1, b_0, b_1 =>
    if (decide ((t14 : Int) < t13)) = true then
      if (0 : Int) ≤ t14 ∧ t14 < (((t12).length : Nat) : Int) then
      (f91_serial_Less ((t12.getD t14.toNat (0, 0)).2) b_0).bind fun r243_0 =>
      if r243_0 = true then
        if out.length + [(t12.getD t14.toNat (0, 0))].length ≤ maxLen ∧ (out.length + [(t12.getD t14.toNat (0, 0))].length) * 8 ≤ 140737488355328 then
        f93_sack_Board_put_L4 n (out ++ [(t12.getD t14.toNat (0, 0))]) done t12 t13 (IntKind.wrap .i64 (t14 + 1)) x_0 x_1 b_0 b_1
        else none
      else
        (f91_serial_Less b_1 ((t12.getD t14.toNat (0, 0)).1)).bind fun r246_0 =>
        if r246_0 = true then
          if (!done) = true then
            if out.length + [(b_0, b_1)].length ≤ maxLen ∧ (out.length + [(b_0, b_1)].length) * 8 ≤ 140737488355328 then
            if (out ++ [(b_0, b_1)]).length + [(t12.getD t14.toNat (0, 0))].length ≤ maxLen ∧ ((out ++ [(b_0, b_1)]).length + [(t12.getD t14.toNat (0, 0))].length) * 8 ≤ 140737488355328 then
            f93_sack_Board_put_L4 n ((out ++ [(b_0, b_1)]) ++ [(t12.getD t14.toNat (0, 0))]) true t12 t13 (IntKind.wrap .i64 (t14 + 1)) x_0 x_1 b_0 b_1
            else none
            else none
          else
            if out.length + [(t12.getD t14.toNat (0, 0))].length ≤ maxLen ∧ (out.length + [(t12.getD t14.toNat (0, 0))].length) * 8 ≤ 140737488355328 then
            f93_sack_Board_put_L4 n (out ++ [(t12.getD t14.toNat (0, 0))]) done t12 t13 (IntKind.wrap .i64 (t14 + 1)) x_0 x_1 b_0 b_1
            else none
        else
          (f91_serial_Less ((t12.getD t14.toNat (0, 0)).1) b_0).bind fun r254_0 =>
          if r254_0 = true then
            (f128_serial_Max b_1 ((t12.getD t14.toNat (0, 0)).2)).bind fun r256_0 =>
            f93_sack_Board_put_L4 n out done t12 t13 (IntKind.wrap .i64 (t14 + 1)) x_0 x_1 ((t12.getD t14.toNat (0, 0)).1) r256_0
          else
            (f128_serial_Max b_1 ((t12.getD t14.toNat (0, 0)).2)).bind fun r258_0 =>
            f93_sack_Board_put_L4 n out done t12 t13 (IntKind.wrap .i64 (t14 + 1)) x_0 x_1 b_0 r258_0
      else none
    else
      some ((out, done, x_0, x_1, b_0, b_1))
def f93_sack_Board_put_L4_k (e : (List (Int × Int)) × Bool × Int × Int × Int × Int) (o : Out) : Prop := At Go.Proofs.Try.prog Go.Proofs.Try.f93 1 17 ⟨[(0, .one (.c (.ptr 0 0))), (3, .one (.c (.ptr 1 0))), (5, .one (.c (.own 2 (.pair (.int .u32) (.int .u32)) e.1))), (6, .one (.c (.d (.bool e.2.1))))], [(2, some ⟨160, 0⟩)], [(0, [.d (.int .u32 e.2.2.1), .d (.int .i64 e.2.2.2.1), .d (.sl .unit [])]), (1, [.d (.int .u32 e.2.2.2.2.1), .d (.int .u32 e.2.2.2.2.2)])], 3⟩ o
theorem f93_sack_Board_put_L4_ok (n : Nat) : ∀ (out : List (Int × Int)) (done : Bool) (t12 : List (Int × Int)) (t13 : Int) (t14 : Int) (x_0 : Int) (x_1 : Int) (b_0 : Int) (b_1 : Int) (w : (List (Int × Int)) × Bool × Int × Int × Int × Int) (h : f93_sack_Board_put_L4 n out done t12 t13 t14 x_0 x_1 b_0 b_1 = some w) (o : Out) (hk : f93_sack_Board_put_L4_k w o), At Go.Proofs.Try.prog Go.Proofs.Try.f93 1 4 ⟨[(0, .one (.c (.ptr 0 0))), (3, .one (.c (.ptr 1 0))), (5, .one (.c (.own 2 (.pair (.int .u32) (.int .u32)) out))), (6, .one (.c (.d (.bool done)))), (12, .one (.c (.d (.sl (.pair (.int .u32) (.int .u32)) t12)))), (13, .one (.c (.d (.int .i64 t13)))), (14, .one (.c (.d (.int .i64 t14))))], [(2, some ⟨160, 0⟩)], [(0, [.d (.int .u32 x_0), .d (.int .i64 x_1), .d (.sl .unit [])]), (1, [.d (.int .u32 b_0), .d (.int .u32 b_1)])], 3⟩ o := by
  induction n with
  | zero => intro out done t12 t13 t14 x_0 x_1 b_0 b_1 w h; rw [f93_sack_Board_put_L4] at h; cases h
  | succ n ih =>
    intro out done t12 t13 t14 x_0 x_1 b_0 b_1 w h o hk
    rw [f93_sack_Board_put_L4] at h
    rcases iteS h with ⟨b241_e0, h⟩ | ⟨b241_e0, h⟩
    · refine At.step hm ht ⟨[], [true], [], [0, 3, 5, 6, 12, 13, 14], [0, 1, 2]⟩ 5 ⟨[(0, .one (.c (.ptr 0 0))), (3, .one (.c (.ptr 1 0))), (5, .one (.c (.own 2 (.pair (.int .u32) (.int .u32)) out))), (6, .one (.c (.d (.bool done)))), (12, .one (.c (.d (.sl (.pair (.int .u32) (.int .u32)) t12)))), (13, .one (.c (.d (.int .i64 t13)))), (14, .one (.c (.d (.int .i64 t14))))], [(2, some ⟨160, 0⟩)], [(0, [.d (.int .u32 x_0), .d (.int .i64 x_1), .d (.sl .unit [])]), (1, [.d (.int .u32 b_0), .d (.int .u32 b_1)])], 3⟩ [(decide ((t14 : Int) < t13)) = true] (by kernel_rfl) ⟨b241_e0, trivial⟩ ?_
      obtain ⟨g242_0, h⟩ := ifS h
      refine At.step hm ht ⟨[], [], [], [0, 3, 5, 6, 8, 12, 13, 14], [0, 1, 2, 5]⟩ 9 ⟨[(0, .one (.c (.ptr 0 0))), (3, .one (.c (.ptr 1 0))), (5, .one (.c (.own 2 (.pair (.int .u32) (.int .u32)) out))), (6, .one (.c (.d (.bool done)))), (8, .one (.c (.ptr 3 0))), (12, .one (.c (.d (.sl (.pair (.int .u32) (.int .u32)) t12)))), (13, .one (.c (.d (.int .i64 t13)))), (14, .one (.c (.d (.int .i64 t14))))], [(2, some ⟨160, 0⟩)], [(0, [.d (.int .u32 x_0), .d (.int .i64 x_1), .d (.sl .unit [])]), (1, [.d (.int .u32 b_0), .d (.int .u32 b_1)]), (3, [.d (.int .u32 ((t12.getD t14.toNat (0, 0)).1)), .d (.int .u32 ((t12.getD t14.toNat (0, 0)).2))])], 4⟩ [(0 : Int) ≤ t14 ∧ t14 < (((t12).length : Nat) : Int), 0 + 2 ≤ 2] (by kernel_rfl) ⟨g242_0, (by decide), trivial⟩ ?_
      obtain ⟨r243_0, cr243_0, h⟩ := bindS h
      rcases iteS h with ⟨b243_e0, h⟩ | ⟨b243_e0, h⟩
      · refine At.step hm ht ⟨[(4, .call [] [] (f91_serial_Less_out r243_0))], [true], [], [0, 3, 5, 6, 8, 12, 13, 14], [0, 1, 2, 3]⟩ 10 ⟨[(0, .one (.c (.ptr 0 0))), (3, .one (.c (.ptr 1 0))), (5, .one (.c (.own 2 (.pair (.int .u32) (.int .u32)) out))), (6, .one (.c (.d (.bool done)))), (8, .one (.c (.ptr 3 0))), (12, .one (.c (.d (.sl (.pair (.int .u32) (.int .u32)) t12)))), (13, .one (.c (.d (.int .i64 t13)))), (14, .one (.c (.d (.int .i64 t14))))], [(2, some ⟨160, 0⟩)], [(0, [.d (.int .u32 x_0), .d (.int .i64 x_1), .d (.sl .unit [])]), (1, [.d (.int .u32 b_0), .d (.int .u32 b_1)]), (3, [.d (.int .u32 ((t12.getD t14.toNat (0, 0)).1)), .d (.int .u32 ((t12.getD t14.toNat (0, 0)).2))])], 4⟩ [FnOK Go.Proofs.Try.prog 91 (f91_serial_Less_in ((t12.getD t14.toNat (0, 0)).2) b_0) (f91_serial_Less_out r243_0), r243_0 = true] (by kernel_rfl) ⟨(f91_serial_Less_ok ((t12.getD t14.toNat (0, 0)).2) b_0 r243_0 cr243_0), b243_e0, trivial⟩ ?_
        obtain ⟨g244_0, h⟩ := ifS h
        refine At.step hm ht ⟨[], [], [], [0, 3, 5, 6, 12, 13, 14], [0, 1, 7]⟩ 16 ⟨[(0, .one (.c (.ptr 0 0))), (3, .one (.c (.ptr 1 0))), (5, .one (.c (.own 2 (.pair (.int .u32) (.int .u32)) (out ++ [(t12.getD t14.toNat (0, 0))])))), (6, .one (.c (.d (.bool done)))), (12, .one (.c (.d (.sl (.pair (.int .u32) (.int .u32)) t12)))), (13, .one (.c (.d (.int .i64 t13)))), (14, .one (.c (.d (.int .i64 t14))))], [(2, some ⟨160, 0⟩)], [(0, [.d (.int .u32 x_0), .d (.int .i64 x_1), .d (.sl .unit [])]), (1, [.d (.int .u32 b_0), .d (.int .u32 b_1)])], 3⟩ [out.length + [(t12.getD t14.toNat (0, 0))].length ≤ maxLen ∧ (out.length + [(t12.getD t14.toNat (0, 0))].length) * 8 ≤ 140737488355328] (by kernel_rfl) ⟨g244_0, trivial⟩ ?_
        refine At.step hm ht ⟨[], [], [], [0, 3, 5, 6, 12, 13, 14], [0, 1, 2]⟩ 4 ⟨[(0, .one (.c (.ptr 0 0))), (3, .one (.c (.ptr 1 0))), (5, .one (.c (.own 2 (.pair (.int .u32) (.int .u32)) (out ++ [(t12.getD t14.toNat (0, 0))])))), (6, .one (.c (.d (.bool done)))), (12, .one (.c (.d (.sl (.pair (.int .u32) (.int .u32)) t12)))), (13, .one (.c (.d (.int .i64 t13)))), (14, .one (.c (.d (.int .i64 (IntKind.wrap .i64 (t14 + 1))))))], [(2, some ⟨160, 0⟩)], [(0, [.d (.int .u32 x_0), .d (.int .i64 x_1), .d (.sl .unit [])]), (1, [.d (.int .u32 b_0), .d (.int .u32 b_1)])], 3⟩ [] (by kernel_rfl) trivial ?_
        exact ih (out ++ [(t12.getD t14.toNat (0, 0))]) done t12 t13 (IntKind.wrap .i64 (t14 + 1)) x_0 x_1 b_0 b_1 w h o hk
      · refine At.step hm ht ⟨[(4, .call [] [] (f91_serial_Less_out r243_0))], [false], [], [0, 3, 5, 6, 8, 12, 13, 14], [0, 1, 2, 3]⟩ 11 ⟨[(0, .one (.c (.ptr 0 0))), (3, .one (.c (.ptr 1 0))), (5, .one (.c (.own 2 (.pair (.int .u32) (.int .u32)) out))), (6, .one (.c (.d (.bool done)))), (8, .one (.c (.ptr 3 0))), (12, .one (.c (.d (.sl (.pair (.int .u32) (.int .u32)) t12)))), (13, .one (.c (.d (.int .i64 t13)))), (14, .one (.c (.d (.int .i64 t14))))], [(2, some ⟨160, 0⟩)], [(0, [.d (.int .u32 x_0), .d (.int .i64 x_1), .d (.sl .unit [])]), (1, [.d (.int .u32 b_0), .d (.int .u32 b_1)]), (3, [.d (.int .u32 ((t12.getD t14.toNat (0, 0)).1)), .d (.int .u32 ((t12.getD t14.toNat (0, 0)).2))])], 4⟩ [FnOK Go.Proofs.Try.prog 91 (f91_serial_Less_in ((t12.getD t14.toNat (0, 0)).2) b_0) (f91_serial_Less_out r243_0), r243_0 = false] (by kernel_rfl) ⟨(f91_serial_Less_ok ((t12.getD t14.toNat (0, 0)).2) b_0 r243_0 cr243_0), b243_e0, trivial⟩ ?_
        obtain ⟨r246_0, cr246_0, h⟩ := bindS h
        rcases iteS h with ⟨b246_e0, h⟩ | ⟨b246_e0, h⟩
        · refine At.step hm ht ⟨[(4, .call [] [] (f91_serial_Less_out r246_0))], [true], [], [0, 3, 5, 6, 8, 12, 13, 14], [0, 1, 2, 3]⟩ 12 ⟨[(0, .one (.c (.ptr 0 0))), (3, .one (.c (.ptr 1 0))), (5, .one (.c (.own 2 (.pair (.int .u32) (.int .u32)) out))), (6, .one (.c (.d (.bool done)))), (8, .one (.c (.ptr 3 0))), (12, .one (.c (.d (.sl (.pair (.int .u32) (.int .u32)) t12)))), (13, .one (.c (.d (.int .i64 t13)))), (14, .one (.c (.d (.int .i64 t14))))], [(2, some ⟨160, 0⟩)], [(0, [.d (.int .u32 x_0), .d (.int .i64 x_1), .d (.sl .unit [])]), (1, [.d (.int .u32 b_0), .d (.int .u32 b_1)]), (3, [.d (.int .u32 ((t12.getD t14.toNat (0, 0)).1)), .d (.int .u32 ((t12.getD t14.toNat (0, 0)).2))])], 4⟩ [FnOK Go.Proofs.Try.prog 91 (f91_serial_Less_in b_1 ((t12.getD t14.toNat (0, 0)).1)) (f91_serial_Less_out r246_0), r246_0 = true] (by kernel_rfl) ⟨(f91_serial_Less_ok b_1 ((t12.getD t14.toNat (0, 0)).1) r246_0 cr246_0), b246_e0, trivial⟩ ?_
          rcases iteS h with ⟨b247_e0, h⟩ | ⟨b247_e0, h⟩
          · refine At.step hm ht ⟨[], [true], [], [0, 3, 5, 8, 12, 13, 14], [0, 1, 2, 3]⟩ 13 ⟨[(0, .one (.c (.ptr 0 0))), (3, .one (.c (.ptr 1 0))), (5, .one (.c (.own 2 (.pair (.int .u32) (.int .u32)) out))), (8, .one (.c (.ptr 3 0))), (12, .one (.c (.d (.sl (.pair (.int .u32) (.int .u32)) t12)))), (13, .one (.c (.d (.int .i64 t13)))), (14, .one (.c (.d (.int .i64 t14))))], [(2, some ⟨160, 0⟩)], [(0, [.d (.int .u32 x_0), .d (.int .i64 x_1), .d (.sl .unit [])]), (1, [.d (.int .u32 b_0), .d (.int .u32 b_1)]), (3, [.d (.int .u32 ((t12.getD t14.toNat (0, 0)).1)), .d (.int .u32 ((t12.getD t14.toNat (0, 0)).2))])], 4⟩ [(!done) = true] (by kernel_rfl) ⟨b247_e0, trivial⟩ ?_
            obtain ⟨g248_0, h⟩ := ifS h
            refine At.step hm ht ⟨[], [], [], [0, 3, 5, 8, 12, 13, 14], [0, 1, 7, 3]⟩ 14 ⟨[(0, .one (.c (.ptr 0 0))), (3, .one (.c (.ptr 1 0))), (5, .one (.c (.own 2 (.pair (.int .u32) (.int .u32)) (out ++ [(b_0, b_1)])))), (8, .one (.c (.ptr 3 0))), (12, .one (.c (.d (.sl (.pair (.int .u32) (.int .u32)) t12)))), (13, .one (.c (.d (.int .i64 t13)))), (14, .one (.c (.d (.int .i64 t14))))], [(2, some ⟨160, 0⟩)], [(0, [.d (.int .u32 x_0), .d (.int .i64 x_1), .d (.sl .unit [])]), (1, [.d (.int .u32 b_0), .d (.int .u32 b_1)]), (3, [.d (.int .u32 ((t12.getD t14.toNat (0, 0)).1)), .d (.int .u32 ((t12.getD t14.toNat (0, 0)).2))])], 4⟩ [out.length + [(b_0, b_1)].length ≤ maxLen ∧ (out.length + [(b_0, b_1)].length) * 8 ≤ 140737488355328] (by kernel_rfl) ⟨g248_0, trivial⟩ ?_
            refine At.step hm ht ⟨[], [], [], [0, 3, 5, 6, 8, 12, 13, 14], [0, 1, 2, 3]⟩ 15 ⟨[(0, .one (.c (.ptr 0 0))), (3, .one (.c (.ptr 1 0))), (5, .one (.c (.own 2 (.pair (.int .u32) (.int .u32)) (out ++ [(b_0, b_1)])))), (6, .one (.c (.d (.bool true)))), (8, .one (.c (.ptr 3 0))), (12, .one (.c (.d (.sl (.pair (.int .u32) (.int .u32)) t12)))), (13, .one (.c (.d (.int .i64 t13)))), (14, .one (.c (.d (.int .i64 t14))))], [(2, some ⟨160, 0⟩)], [(0, [.d (.int .u32 x_0), .d (.int .i64 x_1), .d (.sl .unit [])]), (1, [.d (.int .u32 b_0), .d (.int .u32 b_1)]), (3, [.d (.int .u32 ((t12.getD t14.toNat (0, 0)).1)), .d (.int .u32 ((t12.getD t14.toNat (0, 0)).2))])], 4⟩ [] (by kernel_rfl) trivial ?_
            obtain ⟨g250_0, h⟩ := ifS h
            refine At.step hm ht ⟨[], [], [], [0, 3, 5, 6, 12, 13, 14], [0, 1, 7]⟩ 16 ⟨[(0, .one (.c (.ptr 0 0))), (3, .one (.c (.ptr 1 0))), (5, .one (.c (.own 2 (.pair (.int .u32) (.int .u32)) ((out ++ [(b_0, b_1)]) ++ [(t12.getD t14.toNat (0, 0))])))), (6, .one (.c (.d (.bool true)))), (12, .one (.c (.d (.sl (.pair (.int .u32) (.int .u32)) t12)))), (13, .one (.c (.d (.int .i64 t13)))), (14, .one (.c (.d (.int .i64 t14))))], [(2, some ⟨160, 0⟩)], [(0, [.d (.int .u32 x_0), .d (.int .i64 x_1), .d (.sl .unit [])]), (1, [.d (.int .u32 b_0), .d (.int .u32 b_1)])], 3⟩ [(out ++ [(b_0, b_1)]).length + [(t12.getD t14.toNat (0, 0))].length ≤ maxLen ∧ ((out ++ [(b_0, b_1)]).length + [(t12.getD t14.toNat (0, 0))].length) * 8 ≤ 140737488355328] (by kernel_rfl) ⟨g250_0, trivial⟩ ?_
            refine At.step hm ht ⟨[], [], [], [0, 3, 5, 6, 12, 13, 14], [0, 1, 2]⟩ 4 ⟨[(0, .one (.c (.ptr 0 0))), (3, .one (.c (.ptr 1 0))), (5, .one (.c (.own 2 (.pair (.int .u32) (.int .u32)) ((out ++ [(b_0, b_1)]) ++ [(t12.getD t14.toNat (0, 0))])))), (6, .one (.c (.d (.bool true)))), (12, .one (.c (.d (.sl (.pair (.int .u32) (.int .u32)) t12)))), (13, .one (.c (.d (.int .i64 t13)))), (14, .one (.c (.d (.int .i64 (IntKind.wrap .i64 (t14 + 1))))))], [(2, some ⟨160, 0⟩)], [(0, [.d (.int .u32 x_0), .d (.int .i64 x_1), .d (.sl .unit [])]), (1, [.d (.int .u32 b_0), .d (.int .u32 b_1)])], 3⟩ [] (by kernel_rfl) trivial ?_
            exact ih ((out ++ [(b_0, b_1)]) ++ [(t12.getD t14.toNat (0, 0))]) true t12 t13 (IntKind.wrap .i64 (t14 + 1)) x_0 x_1 b_0 b_1 w h o hk
          · refine At.step hm ht ⟨[], [false], [], [0, 3, 5, 6, 8, 12, 13, 14], [0, 1, 2, 3]⟩ 15 ⟨[(0, .one (.c (.ptr 0 0))), (3, .one (.c (.ptr 1 0))), (5, .one (.c (.own 2 (.pair (.int .u32) (.int .u32)) out))), (6, .one (.c (.d (.bool done)))), (8, .one (.c (.ptr 3 0))), (12, .one (.c (.d (.sl (.pair (.int .u32) (.int .u32)) t12)))), (13, .one (.c (.d (.int .i64 t13)))), (14, .one (.c (.d (.int .i64 t14))))], [(2, some ⟨160, 0⟩)], [(0, [.d (.int .u32 x_0), .d (.int .i64 x_1), .d (.sl .unit [])]), (1, [.d (.int .u32 b_0), .d (.int .u32 b_1)]), (3, [.d (.int .u32 ((t12.getD t14.toNat (0, 0)).1)), .d (.int .u32 ((t12.getD t14.toNat (0, 0)).2))])], 4⟩ [(!done) = false] (by kernel_rfl) ⟨b247_e0, trivial⟩ ?_
            obtain ⟨g252_0, h⟩ := ifS h
            refine At.step hm ht ⟨[], [], [], [0, 3, 5, 6, 12, 13, 14], [0, 1, 7]⟩ 16 ⟨[(0, .one (.c (.ptr 0 0))), (3, .one (.c (.ptr 1 0))), (5, .one (.c (.own 2 (.pair (.int .u32) (.int .u32)) (out ++ [(t12.getD t14.toNat (0, 0))])))), (6, .one (.c (.d (.bool done)))), (12, .one (.c (.d (.sl (.pair (.int .u32) (.int .u32)) t12)))), (13, .one (.c (.d (.int .i64 t13)))), (14, .one (.c (.d (.int .i64 t14))))], [(2, some ⟨160, 0⟩)], [(0, [.d (.int .u32 x_0), .d (.int .i64 x_1), .d (.sl .unit [])]), (1, [.d (.int .u32 b_0), .d (.int .u32 b_1)])], 3⟩ [out.length + [(t12.getD t14.toNat (0, 0))].length ≤ maxLen ∧ (out.length + [(t12.getD t14.toNat (0, 0))].length) * 8 ≤ 140737488355328] (by kernel_rfl) ⟨g252_0, trivial⟩ ?_
            refine At.step hm ht ⟨[], [], [], [0, 3, 5, 6, 12, 13, 14], [0, 1, 2]⟩ 4 ⟨[(0, .one (.c (.ptr 0 0))), (3, .one (.c (.ptr 1 0))), (5, .one (.c (.own 2 (.pair (.int .u32) (.int .u32)) (out ++ [(t12.getD t14.toNat (0, 0))])))), (6, .one (.c (.d (.bool done)))), (12, .one (.c (.d (.sl (.pair (.int .u32) (.int .u32)) t12)))), (13, .one (.c (.d (.int .i64 t13)))), (14, .one (.c (.d (.int .i64 (IntKind.wrap .i64 (t14 + 1))))))], [(2, some ⟨160, 0⟩)], [(0, [.d (.int .u32 x_0), .d (.int .i64 x_1), .d (.sl .unit [])]), (1, [.d (.int .u32 b_0), .d (.int .u32 b_1)])], 3⟩ [] (by kernel_rfl) trivial ?_
            exact ih (out ++ [(t12.getD t14.toNat (0, 0))]) done t12 t13 (IntKind.wrap .i64 (t14 + 1)) x_0 x_1 b_0 b_1 w h o hk
        · refine At.step hm ht ⟨[(4, .call [] [] (f91_serial_Less_out r246_0))], [false], [], [0, 3, 5, 6, 8, 12, 13, 14], [0, 1, 2, 3]⟩ 6 ⟨[(0, .one (.c (.ptr 0 0))), (3, .one (.c (.ptr 1 0))), (5, .one (.c (.own 2 (.pair (.int .u32) (.int .u32)) out))), (6, .one (.c (.d (.bool done)))), (8, .one (.c (.ptr 3 0))), (12, .one (.c (.d (.sl (.pair (.int .u32) (.int .u32)) t12)))), (13, .one (.c (.d (.int .i64 t13)))), (14, .one (.c (.d (.int .i64 t14))))], [(2, some ⟨160, 0⟩)], [(0, [.d (.int .u32 x_0), .d (.int .i64 x_1), .d (.sl .unit [])]), (1, [.d (.int .u32 b_0), .d (.int .u32 b_1)]), (3, [.d (.int .u32 ((t12.getD t14.toNat (0, 0)).1)), .d (.int .u32 ((t12.getD t14.toNat (0, 0)).2))])], 4⟩ [FnOK Go.Proofs.Try.prog 91 (f91_serial_Less_in b_1 ((t12.getD t14.toNat (0, 0)).1)) (f91_serial_Less_out r246_0), r246_0 = false] (by kernel_rfl) ⟨(f91_serial_Less_ok b_1 ((t12.getD t14.toNat (0, 0)).1) r246_0 cr246_0), b246_e0, trivial⟩ ?_
          obtain ⟨r254_0, cr254_0, h⟩ := bindS h
          rcases iteS h with ⟨b254_e0, h⟩ | ⟨b254_e0, h⟩
          · refine At.step hm ht ⟨[(4, .call [] [] (f91_serial_Less_out r254_0))], [true], [], [0, 3, 5, 6, 8, 12, 13, 14], [0, 1, 2, 3]⟩ 7 ⟨[(0, .one (.c (.ptr 0 0))), (3, .one (.c (.ptr 1 0))), (5, .one (.c (.own 2 (.pair (.int .u32) (.int .u32)) out))), (6, .one (.c (.d (.bool done)))), (8, .one (.c (.ptr 3 0))), (12, .one (.c (.d (.sl (.pair (.int .u32) (.int .u32)) t12)))), (13, .one (.c (.d (.int .i64 t13)))), (14, .one (.c (.d (.int .i64 t14))))], [(2, some ⟨160, 0⟩)], [(0, [.d (.int .u32 x_0), .d (.int .i64 x_1), .d (.sl .unit [])]), (1, [.d (.int .u32 b_0), .d (.int .u32 b_1)]), (3, [.d (.int .u32 ((t12.getD t14.toNat (0, 0)).1)), .d (.int .u32 ((t12.getD t14.toNat (0, 0)).2))])], 4⟩ [FnOK Go.Proofs.Try.prog 91 (f91_serial_Less_in ((t12.getD t14.toNat (0, 0)).1) b_0) (f91_serial_Less_out r254_0), r254_0 = true] (by kernel_rfl) ⟨(f91_serial_Less_ok ((t12.getD t14.toNat (0, 0)).1) b_0 r254_0 cr254_0), b254_e0, trivial⟩ ?_
            refine At.step hm ht ⟨[], [], [], [0, 3, 5, 6, 8, 12, 13, 14], [0, 1, 2, 3]⟩ 8 ⟨[(0, .one (.c (.ptr 0 0))), (3, .one (.c (.ptr 1 0))), (5, .one (.c (.own 2 (.pair (.int .u32) (.int .u32)) out))), (6, .one (.c (.d (.bool done)))), (8, .one (.c (.ptr 3 0))), (12, .one (.c (.d (.sl (.pair (.int .u32) (.int .u32)) t12)))), (13, .one (.c (.d (.int .i64 t13)))), (14, .one (.c (.d (.int .i64 t14))))], [(2, some ⟨160, 0⟩)], [(0, [.d (.int .u32 x_0), .d (.int .i64 x_1), .d (.sl .unit [])]), (1, [.d (.int .u32 ((t12.getD t14.toNat (0, 0)).1)), .d (.int .u32 b_1)]), (3, [.d (.int .u32 ((t12.getD t14.toNat (0, 0)).1)), .d (.int .u32 ((t12.getD t14.toNat (0, 0)).2))])], 4⟩ [0 + 1 ≤ 2] (by kernel_rfl) ⟨(by decide), trivial⟩ ?_
            obtain ⟨r256_0, cr256_0, h⟩ := bindS h
            refine At.step hm ht ⟨[(4, .call [] [] (f128_serial_Max_out r256_0))], [], [], [0, 3, 5, 6, 12, 13, 14], [0, 1, 2]⟩ 16 ⟨[(0, .one (.c (.ptr 0 0))), (3, .one (.c (.ptr 1 0))), (5, .one (.c (.own 2 (.pair (.int .u32) (.int .u32)) out))), (6, .one (.c (.d (.bool done)))), (12, .one (.c (.d (.sl (.pair (.int .u32) (.int .u32)) t12)))), (13, .one (.c (.d (.int .i64 t13)))), (14, .one (.c (.d (.int .i64 t14))))], [(2, some ⟨160, 0⟩)], [(0, [.d (.int .u32 x_0), .d (.int .i64 x_1), .d (.sl .unit [])]), (1, [.d (.int .u32 ((t12.getD t14.toNat (0, 0)).1)), .d (.int .u32 r256_0)])], 3⟩ [FnOK Go.Proofs.Try.prog 128 (f128_serial_Max_in b_1 ((t12.getD t14.toNat (0, 0)).2)) (f128_serial_Max_out r256_0), 1 + 1 ≤ 2] (by kernel_rfl) ⟨(f128_serial_Max_ok b_1 ((t12.getD t14.toNat (0, 0)).2) r256_0 cr256_0), (by decide), trivial⟩ ?_
            refine At.step hm ht ⟨[], [], [], [0, 3, 5, 6, 12, 13, 14], [0, 1, 2]⟩ 4 ⟨[(0, .one (.c (.ptr 0 0))), (3, .one (.c (.ptr 1 0))), (5, .one (.c (.own 2 (.pair (.int .u32) (.int .u32)) out))), (6, .one (.c (.d (.bool done)))), (12, .one (.c (.d (.sl (.pair (.int .u32) (.int .u32)) t12)))), (13, .one (.c (.d (.int .i64 t13)))), (14, .one (.c (.d (.int .i64 (IntKind.wrap .i64 (t14 + 1))))))], [(2, some ⟨160, 0⟩)], [(0, [.d (.int .u32 x_0), .d (.int .i64 x_1), .d (.sl .unit [])]), (1, [.d (.int .u32 ((t12.getD t14.toNat (0, 0)).1)), .d (.int .u32 r256_0)])], 3⟩ [] (by kernel_rfl) trivial ?_
            exact ih out done t12 t13 (IntKind.wrap .i64 (t14 + 1)) x_0 x_1 ((t12.getD t14.toNat (0, 0)).1) r256_0 w h o hk
          · refine At.step hm ht ⟨[(4, .call [] [] (f91_serial_Less_out r254_0))], [false], [], [0, 3, 5, 6, 8, 12, 13, 14], [0, 1, 2, 3]⟩ 8 ⟨[(0, .one (.c (.ptr 0 0))), (3, .one (.c (.ptr 1 0))), (5, .one (.c (.own 2 (.pair (.int .u32) (.int .u32)) out))), (6, .one (.c (.d (.bool done)))), (8, .one (.c (.ptr 3 0))), (12, .one (.c (.d (.sl (.pair (.int .u32) (.int .u32)) t12)))), (13, .one (.c (.d (.int .i64 t13)))), (14, .one (.c (.d (.int .i64 t14))))], [(2, some ⟨160, 0⟩)], [(0, [.d (.int .u32 x_0), .d (.int .i64 x_1), .d (.sl .unit [])]), (1, [.d (.int .u32 b_0), .d (.int .u32 b_1)]), (3, [.d (.int .u32 ((t12.getD t14.toNat (0, 0)).1)), .d (.int .u32 ((t12.getD t14.toNat (0, 0)).2))])], 4⟩ [FnOK Go.Proofs.Try.prog 91 (f91_serial_Less_in ((t12.getD t14.toNat (0, 0)).1) b_0) (f91_serial_Less_out r254_0), r254_0 = false] (by kernel_rfl) ⟨(f91_serial_Less_ok ((t12.getD t14.toNat (0, 0)).1) b_0 r254_0 cr254_0), b254_e0, trivial⟩ ?_
            obtain ⟨r258_0, cr258_0, h⟩ := bindS h
            refine At.step hm ht ⟨[(4, .call [] [] (f128_serial_Max_out r258_0))], [], [], [0, 3, 5, 6, 12, 13, 14], [0, 1, 2]⟩ 16 ⟨[(0, .one (.c (.ptr 0 0))), (3, .one (.c (.ptr 1 0))), (5, .one (.c (.own 2 (.pair (.int .u32) (.int .u32)) out))), (6, .one (.c (.d (.bool done)))), (12, .one (.c (.d (.sl (.pair (.int .u32) (.int .u32)) t12)))), (13, .one (.c (.d (.int .i64 t13)))), (14, .one (.c (.d (.int .i64 t14))))], [(2, some ⟨160, 0⟩)], [(0, [.d (.int .u32 x_0), .d (.int .i64 x_1), .d (.sl .unit [])]), (1, [.d (.int .u32 b_0), .d (.int .u32 r258_0)])], 3⟩ [FnOK Go.Proofs.Try.prog 128 (f128_serial_Max_in b_1 ((t12.getD t14.toNat (0, 0)).2)) (f128_serial_Max_out r258_0), 1 + 1 ≤ 2] (by kernel_rfl) ⟨(f128_serial_Max_ok b_1 ((t12.getD t14.toNat (0, 0)).2) r258_0 cr258_0), (by decide), trivial⟩ ?_
            refine At.step hm ht ⟨[], [], [], [0, 3, 5, 6, 12, 13, 14], [0, 1, 2]⟩ 4 ⟨[(0, .one (.c (.ptr 0 0))), (3, .one (.c (.ptr 1 0))), (5, .one (.c (.own 2 (.pair (.int .u32) (.int .u32)) out))), (6, .one (.c (.d (.bool done)))), (12, .one (.c (.d (.sl (.pair (.int .u32) (.int .u32)) t12)))), (13, .one (.c (.d (.int .i64 t13)))), (14, .one (.c (.d (.int .i64 (IntKind.wrap .i64 (t14 + 1))))))], [(2, some ⟨160, 0⟩)], [(0, [.d (.int .u32 x_0), .d (.int .i64 x_1), .d (.sl .unit [])]), (1, [.d (.int .u32 b_0), .d (.int .u32 r258_0)])], 3⟩ [] (by kernel_rfl) trivial ?_
            exact ih out done t12 t13 (IntKind.wrap .i64 (t14 + 1)) x_0 x_1 b_0 r258_0 w h o hk
    · refine At.step hm ht ⟨[], [false], [], [0, 3, 5, 6], [0, 1, 2]⟩ 17 ⟨[(0, .one (.c (.ptr 0 0))), (3, .one (.c (.ptr 1 0))), (5, .one (.c (.own 2 (.pair (.int .u32) (.int .u32)) out))), (6, .one (.c (.d (.bool done))))], [(2, some ⟨160, 0⟩)], [(0, [.d (.int .u32 x_0), .d (.int .i64 x_1), .d (.sl .unit [])]), (1, [.d (.int .u32 b_0), .d (.int .u32 b_1)])], 3⟩ [(decide ((t14 : Int) < t13)) = false] (by kernel_rfl) ⟨b241_e0, trivial⟩ ?_
      have h := Option.some.inj h
      subst h
      exact hk
def f93_sack_Board_put (n : Nat) (b_0 : Int) (b_1 : Int) (x_0 : Int) (x_1 : Int) : Option (Bool × Int × Int × List (Int × Int)) :=
  (f93_sack_Board_put_L4 n [] false [] ((([] : List Unit).length : Nat) : Int) 0 x_0 x_1 b_0 b_1).bind fun w260 =>
  if (!w260.2.1) = true then
    if w260.1.length + [w260.2.2.2.2].length ≤ maxLen ∧ (w260.1.length + [w260.2.2.2.2].length) * 8 ≤ 140737488355328 then
    if (0 : Int) ≤ 0 ∧ 0 < ((((w260.1 ++ [w260.2.2.2.2])).length : Nat) : Int) then
    if (((((w260.1 ++ [w260.2.2.2.2]).getD 0 (0, 0)).1) : Int) == w260.2.2.1) = true then
      if (0 : Int) ≤ 0 ∧ 0 < ((((w260.1 ++ [w260.2.2.2.2])).length : Nat) : Int) then
      if cutOk (w260.1 ++ [w260.2.2.2.2]).length (some 1) none none then
      if (decide (((((((w260.1 ++ [w260.2.2.2.2]).take (w260.1 ++ [w260.2.2.2.2]).length).drop 1).length : Nat) : Int) : Int) > w260.2.2.2.1)) = true then
        some (false, ((w260.1 ++ [w260.2.2.2.2]).getD 0 (0, 0)).2, w260.2.2.2.1, [])
      else
        (f94_sack_Block (((w260.1 ++ [w260.2.2.2.2]).take (w260.1 ++ [w260.2.2.2.2]).length).drop 1)).bind fun r269_0 =>
        some (true, ((w260.1 ++ [w260.2.2.2.2]).getD 0 (0, 0)).2, w260.2.2.2.1, r269_0)
      else none
      else none
    else
      if (decide (((((w260.1 ++ [w260.2.2.2.2]).length : Nat) : Int) : Int) > w260.2.2.2.1)) = true then
        some (false, w260.2.2.1, w260.2.2.2.1, [])
      else
        (f94_sack_Block (w260.1 ++ [w260.2.2.2.2])).bind fun r273_0 =>
        some (true, w260.2.2.1, w260.2.2.2.1, r273_0)
    else none
    else none
  else
    if (0 : Int) ≤ 0 ∧ 0 < (((w260.1).length : Nat) : Int) then
    if ((((w260.1.getD 0 (0, 0)).1) : Int) == w260.2.2.1) = true then
      if (0 : Int) ≤ 0 ∧ 0 < (((w260.1).length : Nat) : Int) then
      if cutOk w260.1.length (some 1) none none then
      if (decide ((((((w260.1.take w260.1.length).drop 1).length : Nat) : Int) : Int) > w260.2.2.2.1)) = true then
        some (false, (w260.1.getD 0 (0, 0)).2, w260.2.2.2.1, [])
      else
        (f94_sack_Block ((w260.1.take w260.1.length).drop 1)).bind fun r280_0 =>
        some (true, (w260.1.getD 0 (0, 0)).2, w260.2.2.2.1, r280_0)
      else none
      else none
    else
      if (decide ((((w260.1.length : Nat) : Int) : Int) > w260.2.2.2.1)) = true then
        some (false, w260.2.2.1, w260.2.2.2.1, [])
      else
        (f94_sack_Block w260.1).bind fun r284_0 =>
        some (true, w260.2.2.1, w260.2.2.2.1, r284_0)
    else none
theorem f93_sack_Board_put_ok (n : Nat) (b_0 : Int) (b_1 : Int) (x_0 : Int) (x_1 : Int) (r : Bool × Int × Int × List (Int × Int)) (h : f93_sack_Board_put n b_0 b_1 x_0 x_1 = some r) : FnOK Go.Proofs.Try.prog 93 (f93_sack_Board_put_in b_0 b_1 x_0 x_1) (f93_sack_Board_put_out r) := by
  unfold f93_sack_Board_put at h
  refine At.fn (r := 0) Go.Proofs.Try.func93 rfl (by kernel_rfl) rfl rfl (by kernel_rfl) ?_
  show At Go.Proofs.Try.prog Go.Proofs.Try.f93 1 0 ⟨[(0, .one (.c (.ptr 0 0))), (1, .one (.agg [.d (.int .u32 b_0), .d (.int .u32 b_1)]))], [], [(0, [.d (.int .u32 x_0), .d (.int .i64 x_1), .d (.sl .unit [])])], 1⟩ _
  refine At.step hm ht ⟨[], [], [], [0, 3], [0, 1]⟩ 1 ⟨[(0, .one (.c (.ptr 0 0))), (3, .one (.c (.ptr 1 0)))], [], [(0, [.d (.int .u32 x_0), .d (.int .i64 x_1), .d (.sl .unit [])]), (1, [.d (.int .u32 b_0), .d (.int .u32 b_1)])], 2⟩ [] (by kernel_rfl) trivial ?_
  refine At.step hm ht ⟨[], [], [], [0, 3, 5], [0, 1]⟩ 2 ⟨[(0, .one (.c (.ptr 0 0))), (3, .one (.c (.ptr 1 0))), (5, .one (.c (.d (.sl .unit []))))], [], [(0, [.d (.int .u32 x_0), .d (.int .i64 x_1), .d (.sl .unit [])]), (1, [.d (.int .u32 b_0), .d (.int .u32 b_1)])], 2⟩ [] (by kernel_rfl) trivial ?_
  refine At.step hm ht ⟨[], [], [], [0, 3, 5, 6], [0, 1]⟩ 3 ⟨[(0, .one (.c (.ptr 0 0))), (3, .one (.c (.ptr 1 0))), (5, .one (.c (.d (.sl .unit [])))), (6, .one (.c (.d (.bool false))))], [], [(0, [.d (.int .u32 x_0), .d (.int .i64 x_1), .d (.sl .unit [])]), (1, [.d (.int .u32 b_0), .d (.int .u32 b_1)])], 2⟩ [] (by kernel_rfl) trivial ?_
  refine At.step hm ht ⟨[], [], [.nil false 5 0 (.pair (.int .u32) (.int .u32)) (some 160), .nil false 12 0 (.pair (.int .u32) (.int .u32)) none], [0, 3, 5, 6, 12, 13, 14], [0, 1, 8]⟩ 4 ⟨[(0, .one (.c (.ptr 0 0))), (3, .one (.c (.ptr 1 0))), (5, .one (.c (.own 2 (.pair (.int .u32) (.int .u32)) []))), (6, .one (.c (.d (.bool false)))), (12, .one (.c (.d (.sl (.pair (.int .u32) (.int .u32)) [])))), (13, .one (.c (.d (.int .i64 ((([] : List Unit).length : Nat) : Int))))), (14, .one (.c (.d (.int .i64 0))))], [(2, some ⟨160, 0⟩)], [(0, [.d (.int .u32 x_0), .d (.int .i64 x_1), .d (.sl .unit [])]), (1, [.d (.int .u32 b_0), .d (.int .u32 b_1)])], 3⟩ [] (by kernel_rfl) trivial ?_
  obtain ⟨w260, cw260, h⟩ := bindS h
  refine f93_sack_Board_put_L4_ok n [] false [] ((([] : List Unit).length : Nat) : Int) 0 x_0 x_1 b_0 b_1 w260 cw260 _ ?_
  show At Go.Proofs.Try.prog Go.Proofs.Try.f93 1 17 ⟨[(0, .one (.c (.ptr 0 0))), (3, .one (.c (.ptr 1 0))), (5, .one (.c (.own 2 (.pair (.int .u32) (.int .u32)) w260.1))), (6, .one (.c (.d (.bool w260.2.1))))], [(2, some ⟨160, 0⟩)], [(0, [.d (.int .u32 w260.2.2.1), .d (.int .i64 w260.2.2.2.1), .d (.sl .unit [])]), (1, [.d (.int .u32 w260.2.2.2.2.1), .d (.int .u32 w260.2.2.2.2.2)])], 3⟩ _
  rcases iteS h with ⟨b262_e0, h⟩ | ⟨b262_e0, h⟩
  · refine At.step hm ht ⟨[], [true], [], [0, 3, 5], [0, 1, 2]⟩ 18 ⟨[(0, .one (.c (.ptr 0 0))), (3, .one (.c (.ptr 1 0))), (5, .one (.c (.own 2 (.pair (.int .u32) (.int .u32)) w260.1)))], [(2, some ⟨160, 0⟩)], [(0, [.d (.int .u32 w260.2.2.1), .d (.int .i64 w260.2.2.2.1), .d (.sl .unit [])]), (1, [.d (.int .u32 w260.2.2.2.2.1), .d (.int .u32 w260.2.2.2.2.2)])], 3⟩ [(!w260.2.1) = true] (by kernel_rfl) ⟨b262_e0, trivial⟩ ?_
    obtain ⟨g263_0, h⟩ := ifS h
    refine At.step hm ht ⟨[], [], [], [0, 5], [0, 6]⟩ 19 ⟨[(0, .one (.c (.ptr 0 0))), (5, .one (.c (.own 1 (.pair (.int .u32) (.int .u32)) (w260.1 ++ [w260.2.2.2.2]))))], [(1, some ⟨160, 0⟩)], [(0, [.d (.int .u32 w260.2.2.1), .d (.int .i64 w260.2.2.2.1), .d (.sl .unit [])])], 2⟩ [w260.1.length + [w260.2.2.2.2].length ≤ maxLen ∧ (w260.1.length + [w260.2.2.2.2].length) * 8 ≤ 140737488355328] (by kernel_rfl) ⟨g263_0, trivial⟩ ?_
    obtain ⟨g264_0, h⟩ := ifS h
    rcases iteS h with ⟨b264_e0, h⟩ | ⟨b264_e0, h⟩
    · refine At.step hm ht ⟨[], [true], [], [0, 5], [0, 1]⟩ 20 ⟨[(0, .one (.c (.ptr 0 0))), (5, .one (.c (.own 1 (.pair (.int .u32) (.int .u32)) (w260.1 ++ [w260.2.2.2.2]))))], [(1, some ⟨160, 0⟩)], [(0, [.d (.int .u32 w260.2.2.1), .d (.int .i64 w260.2.2.2.1), .d (.sl .unit [])])], 2⟩ [(0 : Int) ≤ 0 ∧ 0 < ((((w260.1 ++ [w260.2.2.2.2])).length : Nat) : Int), (((((w260.1 ++ [w260.2.2.2.2]).getD 0 (0, 0)).1) : Int) == w260.2.2.1) = true] (by kernel_rfl) ⟨g264_0, b264_e0, trivial⟩ ?_
      obtain ⟨g265_0, h⟩ := ifS h
      refine At.step hm ht ⟨[], [], [], [0, 5], [0, 1]⟩ 21 ⟨[(0, .one (.c (.ptr 0 0))), (5, .one (.c (.own 1 (.pair (.int .u32) (.int .u32)) (w260.1 ++ [w260.2.2.2.2]))))], [(1, some ⟨160, 0⟩)], [(0, [.d (.int .u32 (((w260.1 ++ [w260.2.2.2.2]).getD 0 (0, 0)).2)), .d (.int .i64 w260.2.2.2.1), .d (.sl .unit [])])], 2⟩ [(0 : Int) ≤ 0 ∧ 0 < ((((w260.1 ++ [w260.2.2.2.2])).length : Nat) : Int), 0 + 1 ≤ 3] (by kernel_rfl) ⟨g265_0, (by decide), trivial⟩ ?_
      obtain ⟨g266_0, h⟩ := ifS h
      refine At.step hm ht ⟨[], [], [], [0, 5], [0]⟩ 22 ⟨[(0, .one (.c (.ptr 0 0))), (5, .one (.c (.d (.sl (.pair (.int .u32) (.int .u32)) (((w260.1 ++ [w260.2.2.2.2]).take (w260.1 ++ [w260.2.2.2.2]).length).drop 1)))))], [], [(0, [.d (.int .u32 (((w260.1 ++ [w260.2.2.2.2]).getD 0 (0, 0)).2)), .d (.int .i64 w260.2.2.2.1), .d (.sl .unit [])])], 1⟩ [cutOk (w260.1 ++ [w260.2.2.2.2]).length (some 1) none none] (by kernel_rfl) ⟨g266_0, trivial⟩ ?_
      rcases iteS h with ⟨b267_e0, h⟩ | ⟨b267_e0, h⟩
      · refine At.step hm ht ⟨[], [true], [], [], [0]⟩ 23 ⟨[], [], [(0, [.d (.int .u32 (((w260.1 ++ [w260.2.2.2.2]).getD 0 (0, 0)).2)), .d (.int .i64 w260.2.2.2.1), .d (.sl .unit [])])], 1⟩ [(decide (((((((w260.1 ++ [w260.2.2.2.2]).take (w260.1 ++ [w260.2.2.2.2]).length).drop 1).length : Nat) : Int) : Int) > w260.2.2.2.1)) = true] (by kernel_rfl) ⟨b267_e0, trivial⟩ ?_
        have h := Option.some.inj h
        subst h
        exact At.fin hm ht ⟨[], [], [.nil true 0 2 (.pair (.int .u32) (.int .u32)) none], [4], [0]⟩ [] (by kernel_rfl) trivial
      · refine At.step hm ht ⟨[], [false], [], [0, 5], [0]⟩ 24 ⟨[(0, .one (.c (.ptr 0 0))), (5, .one (.c (.d (.sl (.pair (.int .u32) (.int .u32)) (((w260.1 ++ [w260.2.2.2.2]).take (w260.1 ++ [w260.2.2.2.2]).length).drop 1)))))], [], [(0, [.d (.int .u32 (((w260.1 ++ [w260.2.2.2.2]).getD 0 (0, 0)).2)), .d (.int .i64 w260.2.2.2.1), .d (.sl .unit [])])], 1⟩ [(decide (((((((w260.1 ++ [w260.2.2.2.2]).take (w260.1 ++ [w260.2.2.2.2]).length).drop 1).length : Nat) : Int) : Int) > w260.2.2.2.1)) = false] (by kernel_rfl) ⟨b267_e0, trivial⟩ ?_
        obtain ⟨r269_0, cr269_0, h⟩ := bindS h
        refine At.step hm ht ⟨[(2, .call [] [] (f94_sack_Block_out r269_0))], [], [], [], [0]⟩ 25 ⟨[], [], [(0, [.d (.int .u32 (((w260.1 ++ [w260.2.2.2.2]).getD 0 (0, 0)).2)), .d (.int .i64 w260.2.2.2.1), .d (.sl (.pair (.int .u32) (.int .u32)) r269_0)])], 1⟩ [FnOK Go.Proofs.Try.prog 94 (f94_sack_Block_in (((w260.1 ++ [w260.2.2.2.2]).take (w260.1 ++ [w260.2.2.2.2]).length).drop 1)) (f94_sack_Block_out r269_0), 2 + 1 ≤ 3] (by kernel_rfl) ⟨(f94_sack_Block_ok (((w260.1 ++ [w260.2.2.2.2]).take (w260.1 ++ [w260.2.2.2.2]).length).drop 1) r269_0 cr269_0), (by decide), trivial⟩ ?_
        have h := Option.some.inj h
        subst h
        exact At.fin hm ht ⟨[], [], [], [4], [0]⟩ [] (by kernel_rfl) trivial
    · refine At.step hm ht ⟨[], [false], [], [0, 5], [0, 1]⟩ 22 ⟨[(0, .one (.c (.ptr 0 0))), (5, .one (.c (.own 1 (.pair (.int .u32) (.int .u32)) (w260.1 ++ [w260.2.2.2.2]))))], [(1, some ⟨160, 0⟩)], [(0, [.d (.int .u32 w260.2.2.1), .d (.int .i64 w260.2.2.2.1), .d (.sl .unit [])])], 2⟩ [(0 : Int) ≤ 0 ∧ 0 < ((((w260.1 ++ [w260.2.2.2.2])).length : Nat) : Int), (((((w260.1 ++ [w260.2.2.2.2]).getD 0 (0, 0)).1) : Int) == w260.2.2.1) = false] (by kernel_rfl) ⟨g264_0, b264_e0, trivial⟩ ?_
      rcases iteS h with ⟨b271_e0, h⟩ | ⟨b271_e0, h⟩
      · refine At.step hm ht ⟨[], [true], [], [], [0]⟩ 23 ⟨[], [], [(0, [.d (.int .u32 w260.2.2.1), .d (.int .i64 w260.2.2.2.1), .d (.sl .unit [])])], 1⟩ [(decide (((((w260.1 ++ [w260.2.2.2.2]).length : Nat) : Int) : Int) > w260.2.2.2.1)) = true] (by kernel_rfl) ⟨b271_e0, trivial⟩ ?_
        have h := Option.some.inj h
        subst h
        exact At.fin hm ht ⟨[], [], [.nil true 0 2 (.pair (.int .u32) (.int .u32)) none], [4], [0]⟩ [] (by kernel_rfl) trivial
      · refine At.step hm ht ⟨[], [false], [], [0, 5], [0, 1]⟩ 24 ⟨[(0, .one (.c (.ptr 0 0))), (5, .one (.c (.own 1 (.pair (.int .u32) (.int .u32)) (w260.1 ++ [w260.2.2.2.2]))))], [(1, some ⟨160, 0⟩)], [(0, [.d (.int .u32 w260.2.2.1), .d (.int .i64 w260.2.2.2.1), .d (.sl .unit [])])], 2⟩ [(decide (((((w260.1 ++ [w260.2.2.2.2]).length : Nat) : Int) : Int) > w260.2.2.2.1)) = false] (by kernel_rfl) ⟨b271_e0, trivial⟩ ?_
        obtain ⟨r273_0, cr273_0, h⟩ := bindS h
        refine At.step hm ht ⟨[(2, .call [] [] (f94_sack_Block_out r273_0))], [], [], [], [0]⟩ 25 ⟨[], [], [(0, [.d (.int .u32 w260.2.2.1), .d (.int .i64 w260.2.2.2.1), .d (.sl (.pair (.int .u32) (.int .u32)) r273_0)])], 1⟩ [FnOK Go.Proofs.Try.prog 94 (f94_sack_Block_in (w260.1 ++ [w260.2.2.2.2])) (f94_sack_Block_out r273_0), 2 + 1 ≤ 3] (by kernel_rfl) ⟨(f94_sack_Block_ok (w260.1 ++ [w260.2.2.2.2]) r273_0 cr273_0), (by decide), trivial⟩ ?_
        have h := Option.some.inj h
        subst h
        exact At.fin hm ht ⟨[], [], [], [4], [0]⟩ [] (by kernel_rfl) trivial
  · refine At.step hm ht ⟨[], [false], [], [0, 5], [0, 2]⟩ 19 ⟨[(0, .one (.c (.ptr 0 0))), (5, .one (.c (.own 1 (.pair (.int .u32) (.int .u32)) w260.1)))], [(1, some ⟨160, 0⟩)], [(0, [.d (.int .u32 w260.2.2.1), .d (.int .i64 w260.2.2.2.1), .d (.sl .unit [])])], 2⟩ [(!w260.2.1) = false] (by kernel_rfl) ⟨b262_e0, trivial⟩ ?_
    obtain ⟨g275_0, h⟩ := ifS h
    rcases iteS h with ⟨b275_e0, h⟩ | ⟨b275_e0, h⟩
    · refine At.step hm ht ⟨[], [true], [], [0, 5], [0, 1]⟩ 20 ⟨[(0, .one (.c (.ptr 0 0))), (5, .one (.c (.own 1 (.pair (.int .u32) (.int .u32)) w260.1)))], [(1, some ⟨160, 0⟩)], [(0, [.d (.int .u32 w260.2.2.1), .d (.int .i64 w260.2.2.2.1), .d (.sl .unit [])])], 2⟩ [(0 : Int) ≤ 0 ∧ 0 < (((w260.1).length : Nat) : Int), ((((w260.1.getD 0 (0, 0)).1) : Int) == w260.2.2.1) = true] (by kernel_rfl) ⟨g275_0, b275_e0, trivial⟩ ?_
      obtain ⟨g276_0, h⟩ := ifS h
      refine At.step hm ht ⟨[], [], [], [0, 5], [0, 1]⟩ 21 ⟨[(0, .one (.c (.ptr 0 0))), (5, .one (.c (.own 1 (.pair (.int .u32) (.int .u32)) w260.1)))], [(1, some ⟨160, 0⟩)], [(0, [.d (.int .u32 ((w260.1.getD 0 (0, 0)).2)), .d (.int .i64 w260.2.2.2.1), .d (.sl .unit [])])], 2⟩ [(0 : Int) ≤ 0 ∧ 0 < (((w260.1).length : Nat) : Int), 0 + 1 ≤ 3] (by kernel_rfl) ⟨g276_0, (by decide), trivial⟩ ?_
      obtain ⟨g277_0, h⟩ := ifS h
      refine At.step hm ht ⟨[], [], [], [0, 5], [0]⟩ 22 ⟨[(0, .one (.c (.ptr 0 0))), (5, .one (.c (.d (.sl (.pair (.int .u32) (.int .u32)) ((w260.1.take w260.1.length).drop 1)))))], [], [(0, [.d (.int .u32 ((w260.1.getD 0 (0, 0)).2)), .d (.int .i64 w260.2.2.2.1), .d (.sl .unit [])])], 1⟩ [cutOk w260.1.length (some 1) none none] (by kernel_rfl) ⟨g277_0, trivial⟩ ?_
      rcases iteS h with ⟨b278_e0, h⟩ | ⟨b278_e0, h⟩
      · refine At.step hm ht ⟨[], [true], [], [], [0]⟩ 23 ⟨[], [], [(0, [.d (.int .u32 ((w260.1.getD 0 (0, 0)).2)), .d (.int .i64 w260.2.2.2.1), .d (.sl .unit [])])], 1⟩ [(decide ((((((w260.1.take w260.1.length).drop 1).length : Nat) : Int) : Int) > w260.2.2.2.1)) = true] (by kernel_rfl) ⟨b278_e0, trivial⟩ ?_
        have h := Option.some.inj h
        subst h
        exact At.fin hm ht ⟨[], [], [.nil true 0 2 (.pair (.int .u32) (.int .u32)) none], [4], [0]⟩ [] (by kernel_rfl) trivial
      · refine At.step hm ht ⟨[], [false], [], [0, 5], [0]⟩ 24 ⟨[(0, .one (.c (.ptr 0 0))), (5, .one (.c (.d (.sl (.pair (.int .u32) (.int .u32)) ((w260.1.take w260.1.length).drop 1)))))], [], [(0, [.d (.int .u32 ((w260.1.getD 0 (0, 0)).2)), .d (.int .i64 w260.2.2.2.1), .d (.sl .unit [])])], 1⟩ [(decide ((((((w260.1.take w260.1.length).drop 1).length : Nat) : Int) : Int) > w260.2.2.2.1)) = false] (by kernel_rfl) ⟨b278_e0, trivial⟩ ?_
        obtain ⟨r280_0, cr280_0, h⟩ := bindS h
        refine At.step hm ht ⟨[(2, .call [] [] (f94_sack_Block_out r280_0))], [], [], [], [0]⟩ 25 ⟨[], [], [(0, [.d (.int .u32 ((w260.1.getD 0 (0, 0)).2)), .d (.int .i64 w260.2.2.2.1), .d (.sl (.pair (.int .u32) (.int .u32)) r280_0)])], 1⟩ [FnOK Go.Proofs.Try.prog 94 (f94_sack_Block_in ((w260.1.take w260.1.length).drop 1)) (f94_sack_Block_out r280_0), 2 + 1 ≤ 3] (by kernel_rfl) ⟨(f94_sack_Block_ok ((w260.1.take w260.1.length).drop 1) r280_0 cr280_0), (by decide), trivial⟩ ?_
        have h := Option.some.inj h
        subst h
        exact At.fin hm ht ⟨[], [], [], [4], [0]⟩ [] (by kernel_rfl) trivial
    · refine At.step hm ht ⟨[], [false], [], [0, 5], [0, 1]⟩ 22 ⟨[(0, .one (.c (.ptr 0 0))), (5, .one (.c (.own 1 (.pair (.int .u32) (.int .u32)) w260.1)))], [(1, some ⟨160, 0⟩)], [(0, [.d (.int .u32 w260.2.2.1), .d (.int .i64 w260.2.2.2.1), .d (.sl .unit [])])], 2⟩ [(0 : Int) ≤ 0 ∧ 0 < (((w260.1).length : Nat) : Int), ((((w260.1.getD 0 (0, 0)).1) : Int) == w260.2.2.1) = false] (by kernel_rfl) ⟨g275_0, b275_e0, trivial⟩ ?_
      rcases iteS h with ⟨b282_e0, h⟩ | ⟨b282_e0, h⟩
      · refine At.step hm ht ⟨[], [true], [], [], [0]⟩ 23 ⟨[], [], [(0, [.d (.int .u32 w260.2.2.1), .d (.int .i64 w260.2.2.2.1), .d (.sl .unit [])])], 1⟩ [(decide ((((w260.1.length : Nat) : Int) : Int) > w260.2.2.2.1)) = true] (by kernel_rfl) ⟨b282_e0, trivial⟩ ?_
        have h := Option.some.inj h
        subst h
        exact At.fin hm ht ⟨[], [], [.nil true 0 2 (.pair (.int .u32) (.int .u32)) none], [4], [0]⟩ [] (by kernel_rfl) trivial
      · refine At.step hm ht ⟨[], [false], [], [0, 5], [0, 1]⟩ 24 ⟨[(0, .one (.c (.ptr 0 0))), (5, .one (.c (.own 1 (.pair (.int .u32) (.int .u32)) w260.1)))], [(1, some ⟨160, 0⟩)], [(0, [.d (.int .u32 w260.2.2.1), .d (.int .i64 w260.2.2.2.1), .d (.sl .unit [])])], 2⟩ [(decide ((((w260.1.length : Nat) : Int) : Int) > w260.2.2.2.1)) = false] (by kernel_rfl) ⟨b282_e0, trivial⟩ ?_
        obtain ⟨r284_0, cr284_0, h⟩ := bindS h
        refine At.step hm ht ⟨[(2, .call [] [] (f94_sack_Block_out r284_0))], [], [], [], [0]⟩ 25 ⟨[], [], [(0, [.d (.int .u32 w260.2.2.1), .d (.int .i64 w260.2.2.2.1), .d (.sl (.pair (.int .u32) (.int .u32)) r284_0)])], 1⟩ [FnOK Go.Proofs.Try.prog 94 (f94_sack_Block_in w260.1) (f94_sack_Block_out r284_0), 2 + 1 ≤ 3] (by kernel_rfl) ⟨(f94_sack_Block_ok w260.1 r284_0 cr284_0), (by decide), trivial⟩ ?_
        have h := Option.some.inj h
        subst h
        exact At.fin hm ht ⟨[], [], [], [4], [0]⟩ [] (by kernel_rfl) trivial
/-! (*brougham/sack.Board).Came -/
def f33_sack_Board_Came_in (from_ : Int) (many : Int) (x_0 : Int) (x_1 : Int) : Inn := ⟨[.c (.ptr 0 0), .c (.d (.int .u32 from_)), .c (.d (.int .i64 many))], [], [(0, [.d (.int .u32 x_0), .d (.int .i64 x_1), .d (.sl .unit [])])], 1⟩
def f33_sack_Board_Came_out (r : Bool × Int × Int × List (Int × Int)) : Out := ⟨.one (.c (.d (.bool r.1))), [], [(0, [.d (.int .u32 r.2.1), .d (.int .i64 r.2.2.1), .d (.sl (.pair (.int .u32) (.int .u32)) r.2.2.2)])], 1⟩
def f33_sack_Board_Came (n : Nat) (from_ : Int) (many : Int) (x_0 : Int) (x_1 : Int) : Option (Bool × Int × Int × List (Int × Int)) :=
  if (decide ((many : Int) < 1)) = true then
    some (((many : Int) == 0), x_0, x_1, [])
  else
    if (decide ((many : Int) > 1024)) = true then
      some (((many : Int) == 0), x_0, x_1, [])
    else
      (f89_serial_Diff (IntKind.wrap .u32 (from_ + (IntKind.wrap .u32 many))) x_0).bind fun r291_0 =>
      if (decide ((r291_0 : Int) ≤ 0)) = true then
        (f90_serial_Near from_ x_0 1048576).bind fun r292_0 =>
        some (r292_0, x_0, x_1, [])
      else
        (f91_serial_Less from_ x_0).bind fun r293_0 =>
        if r293_0 = true then
          (f92_sack_Board_near x_0 x_0 x_1).bind fun r295_0 =>
          if (!r295_0.1) = true then
            some (false, r295_0.2.1, r295_0.2.2, [])
          else
            (f92_sack_Board_near (IntKind.wrap .u32 (from_ + (IntKind.wrap .u32 many))) r295_0.2.1 r295_0.2.2).bind fun r295_1 =>
            if (!r295_1.1) = true then
              some (false, r295_1.2.1, r295_1.2.2, [])
            else
              (f93_sack_Board_put n x_0 (IntKind.wrap .u32 (from_ + (IntKind.wrap .u32 many))) r295_1.2.1 r295_1.2.2).bind fun r298_0 =>
              some (r298_0.1, r298_0.2.1, r298_0.2.2.1, r298_0.2.2.2)
        else
          (f92_sack_Board_near from_ x_0 x_1).bind fun r299_0 =>
          if (!r299_0.1) = true then
            some (false, r299_0.2.1, r299_0.2.2, [])
          else
            (f92_sack_Board_near (IntKind.wrap .u32 (from_ + (IntKind.wrap .u32 many))) r299_0.2.1 r299_0.2.2).bind fun r299_1 =>
            if (!r299_1.1) = true then
              some (false, r299_1.2.1, r299_1.2.2, [])
            else
              (f93_sack_Board_put n from_ (IntKind.wrap .u32 (from_ + (IntKind.wrap .u32 many))) r299_1.2.1 r299_1.2.2).bind fun r302_0 =>
              some (r302_0.1, r302_0.2.1, r302_0.2.2.1, r302_0.2.2.2)
theorem f33_sack_Board_Came_ok (n : Nat) (from_ : Int) (many : Int) (x_0 : Int) (x_1 : Int) (r : Bool × Int × Int × List (Int × Int)) (h : f33_sack_Board_Came n from_ many x_0 x_1 = some r) : FnOK Go.Proofs.Try.prog 33 (f33_sack_Board_Came_in from_ many x_0 x_1) (f33_sack_Board_Came_out r) := by
  unfold f33_sack_Board_Came at h
  refine At.fn (r := 0) Go.Proofs.Try.func33 rfl (by kernel_rfl) rfl rfl (by kernel_rfl) ?_
  show At Go.Proofs.Try.prog Go.Proofs.Try.f33 1 0 ⟨[(0, .one (.c (.ptr 0 0))), (1, .one (.c (.d (.int .u32 from_)))), (2, .one (.c (.d (.int .i64 many))))], [], [(0, [.d (.int .u32 x_0), .d (.int .i64 x_1), .d (.sl .unit [])])], 1⟩ _
  refine At.step hm ht ⟨[], [], [], [0, 1, 2], [0]⟩ 1 ⟨[(0, .one (.c (.ptr 0 0))), (1, .one (.c (.d (.int .u32 from_)))), (2, .one (.c (.d (.int .i64 many))))], [], [(0, [.d (.int .u32 x_0), .d (.int .i64 x_1), .d (.sl .unit [])])], 1⟩ [] (by kernel_rfl) trivial ?_
  rcases iteS h with ⟨b287_2, h⟩ | ⟨b287_2, h⟩
  · refine At.step hm ht ⟨[(2, .b true)], [true], [], [2], [0]⟩ 2 ⟨[(2, .one (.c (.d (.int .i64 many))))], [], [(0, [.d (.int .u32 x_0), .d (.int .i64 x_1), .d (.sl .unit [])])], 1⟩ [(decide ((many : Int) < 1)) = true, true = true] (by kernel_rfl) ⟨b287_2, rfl, trivial⟩ ?_
    have h := Option.some.inj h
    subst h
    exact At.fin hm ht ⟨[], [], [.nil true 0 2 (.pair (.int .u32) (.int .u32)) none], [6], [0]⟩ [] (by kernel_rfl) trivial
  · rcases iteS h with ⟨b287_e0, h⟩ | ⟨b287_e0, h⟩
    · refine At.step hm ht ⟨[(2, .b false)], [true], [], [2], [0]⟩ 2 ⟨[(2, .one (.c (.d (.int .i64 many))))], [], [(0, [.d (.int .u32 x_0), .d (.int .i64 x_1), .d (.sl .unit [])])], 1⟩ [(decide ((many : Int) < 1)) = false, (decide ((many : Int) > 1024)) = true] (by kernel_rfl) ⟨b287_2, b287_e0, trivial⟩ ?_
      have h := Option.some.inj h
      subst h
      exact At.fin hm ht ⟨[], [], [.nil true 0 2 (.pair (.int .u32) (.int .u32)) none], [6], [0]⟩ [] (by kernel_rfl) trivial
    · refine At.step hm ht ⟨[(2, .b false)], [false], [], [0, 1, 2], [0]⟩ 3 ⟨[(0, .one (.c (.ptr 0 0))), (1, .one (.c (.d (.int .u32 from_)))), (2, .one (.c (.d (.int .i64 many))))], [], [(0, [.d (.int .u32 x_0), .d (.int .i64 x_1), .d (.sl .unit [])])], 1⟩ [(decide ((many : Int) < 1)) = false, (decide ((many : Int) > 1024)) = false] (by kernel_rfl) ⟨b287_2, b287_e0, trivial⟩ ?_
      refine At.step hm ht ⟨[], [], [], [0, 1, 7], [0]⟩ 4 ⟨[(0, .one (.c (.ptr 0 0))), (1, .one (.c (.d (.int .u32 from_)))), (7, .one (.c (.d (.int .u32 (IntKind.wrap .u32 (from_ + (IntKind.wrap .u32 many)))))))], [], [(0, [.d (.int .u32 x_0), .d (.int .i64 x_1), .d (.sl .unit [])])], 1⟩ [] (by kernel_rfl) trivial ?_
      obtain ⟨r291_0, cr291_0, h⟩ := bindS h
      rcases iteS h with ⟨b291_e0, h⟩ | ⟨b291_e0, h⟩
      · refine At.step hm ht ⟨[(5, .call [] [] (f89_serial_Diff_out r291_0))], [true], [], [0, 1], [0]⟩ 5 ⟨[(0, .one (.c (.ptr 0 0))), (1, .one (.c (.d (.int .u32 from_))))], [], [(0, [.d (.int .u32 x_0), .d (.int .i64 x_1), .d (.sl .unit [])])], 1⟩ [FnOK Go.Proofs.Try.prog 89 (f89_serial_Diff_in (IntKind.wrap .u32 (from_ + (IntKind.wrap .u32 many))) x_0) (f89_serial_Diff_out r291_0), (decide ((r291_0 : Int) ≤ 0)) = true] (by kernel_rfl) ⟨(f89_serial_Diff_ok (IntKind.wrap .u32 (from_ + (IntKind.wrap .u32 many))) x_0 r291_0 cr291_0), b291_e0, trivial⟩ ?_
        obtain ⟨r292_0, cr292_0, h⟩ := bindS h
        have h := Option.some.inj h
        subst h
        exact At.fin hm ht ⟨[(5, .call [] [] (f90_serial_Near_out r292_0))], [], [.nil true 0 2 (.pair (.int .u32) (.int .u32)) none], [6], [0]⟩ [FnOK Go.Proofs.Try.prog 90 (f90_serial_Near_in from_ x_0 1048576) (f90_serial_Near_out r292_0)] (by kernel_rfl) ⟨(f90_serial_Near_ok from_ x_0 1048576 r292_0 cr292_0), trivial⟩
      · refine At.step hm ht ⟨[(5, .call [] [] (f89_serial_Diff_out r291_0))], [false], [], [0, 1, 7], [0]⟩ 6 ⟨[(0, .one (.c (.ptr 0 0))), (1, .one (.c (.d (.int .u32 from_)))), (7, .one (.c (.d (.int .u32 (IntKind.wrap .u32 (from_ + (IntKind.wrap .u32 many)))))))], [], [(0, [.d (.int .u32 x_0), .d (.int .i64 x_1), .d (.sl .unit [])])], 1⟩ [FnOK Go.Proofs.Try.prog 89 (f89_serial_Diff_in (IntKind.wrap .u32 (from_ + (IntKind.wrap .u32 many))) x_0) (f89_serial_Diff_out r291_0), (decide ((r291_0 : Int) ≤ 0)) = false] (by kernel_rfl) ⟨(f89_serial_Diff_ok (IntKind.wrap .u32 (from_ + (IntKind.wrap .u32 many))) x_0 r291_0 cr291_0), b291_e0, trivial⟩ ?_
        obtain ⟨r293_0, cr293_0, h⟩ := bindS h
        rcases iteS h with ⟨b293_e0, h⟩ | ⟨b293_e0, h⟩
        · refine At.step hm ht ⟨[(5, .call [] [] (f91_serial_Less_out r293_0))], [true], [], [0, 7], [0]⟩ 7 ⟨[(0, .one (.c (.ptr 0 0))), (7, .one (.c (.d (.int .u32 (IntKind.wrap .u32 (from_ + (IntKind.wrap .u32 many)))))))], [], [(0, [.d (.int .u32 x_0), .d (.int .i64 x_1), .d (.sl .unit [])])], 1⟩ [FnOK Go.Proofs.Try.prog 91 (f91_serial_Less_in from_ x_0) (f91_serial_Less_out r293_0), r293_0 = true] (by kernel_rfl) ⟨(f91_serial_Less_ok from_ x_0 r293_0 cr293_0), b293_e0, trivial⟩ ?_
          refine At.step hm ht ⟨[], [], [], [0, 1, 7], [0]⟩ 8 ⟨[(0, .one (.c (.ptr 0 0))), (1, .one (.c (.d (.int .u32 x_0)))), (7, .one (.c (.d (.int .u32 (IntKind.wrap .u32 (from_ + (IntKind.wrap .u32 many)))))))], [], [(0, [.d (.int .u32 x_0), .d (.int .i64 x_1), .d (.sl .unit [])])], 1⟩ [] (by kernel_rfl) trivial ?_
          obtain ⟨r295_0, cr295_0, h⟩ := bindS h
          rcases iteS h with ⟨b295_4, h⟩ | ⟨b295_4, h⟩
          · refine At.step hm ht ⟨[(2, .call [0] [] (f92_sack_Board_near_out r295_0)), (4, .b true)], [true], [], [], [0]⟩ 9 ⟨[], [], [(0, [.d (.int .u32 r295_0.2.1), .d (.int .i64 r295_0.2.2), .d (.sl .unit [])])], 1⟩ [FnOK Go.Proofs.Try.prog 92 (f92_sack_Board_near_in x_0 x_0 x_1) (f92_sack_Board_near_out r295_0), (!r295_0.1) = true, true = true] (by kernel_rfl) ⟨(f92_sack_Board_near_ok x_0 x_0 x_1 r295_0 cr295_0), b295_4, rfl, trivial⟩ ?_
            have h := Option.some.inj h
            subst h
            exact At.fin hm ht ⟨[], [], [.nil true 0 2 (.pair (.int .u32) (.int .u32)) none], [6], [0]⟩ [] (by kernel_rfl) trivial
          · obtain ⟨r295_1, cr295_1, h⟩ := bindS h
            rcases iteS h with ⟨b295_e0, h⟩ | ⟨b295_e0, h⟩
            · refine At.step hm ht ⟨[(2, .call [0] [] (f92_sack_Board_near_out r295_0)), (4, .b false), (7, .call [0] [] (f92_sack_Board_near_out r295_1))], [true], [], [], [0]⟩ 9 ⟨[], [], [(0, [.d (.int .u32 r295_1.2.1), .d (.int .i64 r295_1.2.2), .d (.sl .unit [])])], 1⟩ [FnOK Go.Proofs.Try.prog 92 (f92_sack_Board_near_in x_0 x_0 x_1) (f92_sack_Board_near_out r295_0), (!r295_0.1) = false, FnOK Go.Proofs.Try.prog 92 (f92_sack_Board_near_in (IntKind.wrap .u32 (from_ + (IntKind.wrap .u32 many))) r295_0.2.1 r295_0.2.2) (f92_sack_Board_near_out r295_1), (!r295_1.1) = true] (by kernel_rfl) ⟨(f92_sack_Board_near_ok x_0 x_0 x_1 r295_0 cr295_0), b295_4, (f92_sack_Board_near_ok (IntKind.wrap .u32 (from_ + (IntKind.wrap .u32 many))) r295_0.2.1 r295_0.2.2 r295_1 cr295_1), b295_e0, trivial⟩ ?_
              have h := Option.some.inj h
              subst h
              exact At.fin hm ht ⟨[], [], [.nil true 0 2 (.pair (.int .u32) (.int .u32)) none], [6], [0]⟩ [] (by kernel_rfl) trivial
            · refine At.step hm ht ⟨[(2, .call [0] [] (f92_sack_Board_near_out r295_0)), (4, .b false), (7, .call [0] [] (f92_sack_Board_near_out r295_1))], [false], [], [0, 1, 7], [0]⟩ 10 ⟨[(0, .one (.c (.ptr 0 0))), (1, .one (.c (.d (.int .u32 x_0)))), (7, .one (.c (.d (.int .u32 (IntKind.wrap .u32 (from_ + (IntKind.wrap .u32 many)))))))], [], [(0, [.d (.int .u32 r295_1.2.1), .d (.int .i64 r295_1.2.2), .d (.sl .unit [])])], 1⟩ [FnOK Go.Proofs.Try.prog 92 (f92_sack_Board_near_in x_0 x_0 x_1) (f92_sack_Board_near_out r295_0), (!r295_0.1) = false, FnOK Go.Proofs.Try.prog 92 (f92_sack_Board_near_in (IntKind.wrap .u32 (from_ + (IntKind.wrap .u32 many))) r295_0.2.1 r295_0.2.2) (f92_sack_Board_near_out r295_1), (!r295_1.1) = false] (by kernel_rfl) ⟨(f92_sack_Board_near_ok x_0 x_0 x_1 r295_0 cr295_0), b295_4, (f92_sack_Board_near_ok (IntKind.wrap .u32 (from_ + (IntKind.wrap .u32 many))) r295_0.2.1 r295_0.2.2 r295_1 cr295_1), b295_e0, trivial⟩ ?_
              obtain ⟨r298_0, cr298_0, h⟩ := bindS h
              have h := Option.some.inj h
              subst h
              exact At.fin hm ht ⟨[(4, .call [0] [] (f93_sack_Board_put_out r298_0))], [], [], [6], [0]⟩ [FnOK Go.Proofs.Try.prog 93 (f93_sack_Board_put_in x_0 (IntKind.wrap .u32 (from_ + (IntKind.wrap .u32 many))) r295_1.2.1 r295_1.2.2) (f93_sack_Board_put_out r298_0)] (by kernel_rfl) ⟨(f93_sack_Board_put_ok n x_0 (IntKind.wrap .u32 (from_ + (IntKind.wrap .u32 many))) r295_1.2.1 r295_1.2.2 r298_0 cr298_0), trivial⟩
        · refine At.step hm ht ⟨[(5, .call [] [] (f91_serial_Less_out r293_0))], [false], [], [0, 1, 7], [0]⟩ 8 ⟨[(0, .one (.c (.ptr 0 0))), (1, .one (.c (.d (.int .u32 from_)))), (7, .one (.c (.d (.int .u32 (IntKind.wrap .u32 (from_ + (IntKind.wrap .u32 many)))))))], [], [(0, [.d (.int .u32 x_0), .d (.int .i64 x_1), .d (.sl .unit [])])], 1⟩ [FnOK Go.Proofs.Try.prog 91 (f91_serial_Less_in from_ x_0) (f91_serial_Less_out r293_0), r293_0 = false] (by kernel_rfl) ⟨(f91_serial_Less_ok from_ x_0 r293_0 cr293_0), b293_e0, trivial⟩ ?_
          obtain ⟨r299_0, cr299_0, h⟩ := bindS h
          rcases iteS h with ⟨b299_4, h⟩ | ⟨b299_4, h⟩
          · refine At.step hm ht ⟨[(2, .call [0] [] (f92_sack_Board_near_out r299_0)), (4, .b true)], [true], [], [], [0]⟩ 9 ⟨[], [], [(0, [.d (.int .u32 r299_0.2.1), .d (.int .i64 r299_0.2.2), .d (.sl .unit [])])], 1⟩ [FnOK Go.Proofs.Try.prog 92 (f92_sack_Board_near_in from_ x_0 x_1) (f92_sack_Board_near_out r299_0), (!r299_0.1) = true, true = true] (by kernel_rfl) ⟨(f92_sack_Board_near_ok from_ x_0 x_1 r299_0 cr299_0), b299_4, rfl, trivial⟩ ?_
            have h := Option.some.inj h
            subst h
            exact At.fin hm ht ⟨[], [], [.nil true 0 2 (.pair (.int .u32) (.int .u32)) none], [6], [0]⟩ [] (by kernel_rfl) trivial
          · obtain ⟨r299_1, cr299_1, h⟩ := bindS h
            rcases iteS h with ⟨b299_e0, h⟩ | ⟨b299_e0, h⟩
            · refine At.step hm ht ⟨[(2, .call [0] [] (f92_sack_Board_near_out r299_0)), (4, .b false), (7, .call [0] [] (f92_sack_Board_near_out r299_1))], [true], [], [], [0]⟩ 9 ⟨[], [], [(0, [.d (.int .u32 r299_1.2.1), .d (.int .i64 r299_1.2.2), .d (.sl .unit [])])], 1⟩ [FnOK Go.Proofs.Try.prog 92 (f92_sack_Board_near_in from_ x_0 x_1) (f92_sack_Board_near_out r299_0), (!r299_0.1) = false, FnOK Go.Proofs.Try.prog 92 (f92_sack_Board_near_in (IntKind.wrap .u32 (from_ + (IntKind.wrap .u32 many))) r299_0.2.1 r299_0.2.2) (f92_sack_Board_near_out r299_1), (!r299_1.1) = true] (by kernel_rfl) ⟨(f92_sack_Board_near_ok from_ x_0 x_1 r299_0 cr299_0), b299_4, (f92_sack_Board_near_ok (IntKind.wrap .u32 (from_ + (IntKind.wrap .u32 many))) r299_0.2.1 r299_0.2.2 r299_1 cr299_1), b299_e0, trivial⟩ ?_
              have h := Option.some.inj h
              subst h
              exact At.fin hm ht ⟨[], [], [.nil true 0 2 (.pair (.int .u32) (.int .u32)) none], [6], [0]⟩ [] (by kernel_rfl) trivial
            · refine At.step hm ht ⟨[(2, .call [0] [] (f92_sack_Board_near_out r299_0)), (4, .b false), (7, .call [0] [] (f92_sack_Board_near_out r299_1))], [false], [], [0, 1, 7], [0]⟩ 10 ⟨[(0, .one (.c (.ptr 0 0))), (1, .one (.c (.d (.int .u32 from_)))), (7, .one (.c (.d (.int .u32 (IntKind.wrap .u32 (from_ + (IntKind.wrap .u32 many)))))))], [], [(0, [.d (.int .u32 r299_1.2.1), .d (.int .i64 r299_1.2.2), .d (.sl .unit [])])], 1⟩ [FnOK Go.Proofs.Try.prog 92 (f92_sack_Board_near_in from_ x_0 x_1) (f92_sack_Board_near_out r299_0), (!r299_0.1) = false, FnOK Go.Proofs.Try.prog 92 (f92_sack_Board_near_in (IntKind.wrap .u32 (from_ + (IntKind.wrap .u32 many))) r299_0.2.1 r299_0.2.2) (f92_sack_Board_near_out r299_1), (!r299_1.1) = false] (by kernel_rfl) ⟨(f92_sack_Board_near_ok from_ x_0 x_1 r299_0 cr299_0), b299_4, (f92_sack_Board_near_ok (IntKind.wrap .u32 (from_ + (IntKind.wrap .u32 many))) r299_0.2.1 r299_0.2.2 r299_1 cr299_1), b299_e0, trivial⟩ ?_
              obtain ⟨r302_0, cr302_0, h⟩ := bindS h
              have h := Option.some.inj h
              subst h
              exact At.fin hm ht ⟨[(4, .call [0] [] (f93_sack_Board_put_out r302_0))], [], [], [6], [0]⟩ [FnOK Go.Proofs.Try.prog 93 (f93_sack_Board_put_in from_ (IntKind.wrap .u32 (from_ + (IntKind.wrap .u32 many))) r299_1.2.1 r299_1.2.2) (f93_sack_Board_put_out r302_0)] (by kernel_rfl) ⟨(f93_sack_Board_put_ok n from_ (IntKind.wrap .u32 (from_ + (IntKind.wrap .u32 many))) r299_1.2.1 r299_1.2.2 r302_0 cr302_0), trivial⟩
/-! (*brougham/sack.Board).Wait -/
def f34_sack_Board_Wait_in (x_0 : Int) (x_1 : Int) (x_2 : List (Int × Int)) : Inn := ⟨[.c (.ptr 0 0)], [], [(0, [.d (.int .u32 x_0), .d (.int .i64 x_1), .d (.sl (.pair (.int .u32) (.int .u32)) x_2)])], 1⟩
def f34_sack_Board_Wait_out (r : Int × Int × Int × List (Int × Int)) : Out := ⟨.one (.c (.d (.int .u32 r.1))), [], [(0, [.d (.int .u32 r.2.1), .d (.int .i64 r.2.2.1), .d (.sl (.pair (.int .u32) (.int .u32)) r.2.2.2)])], 1⟩
def f34_sack_Board_Wait (x_0 : Int) (x_1 : Int) (x_2 : List (Int × Int)) : Option (Int × Int × Int × List (Int × Int)) :=
  some (x_0, x_0, x_1, x_2)
theorem f34_sack_Board_Wait_ok (x_0 : Int) (x_1 : Int) (x_2 : List (Int × Int)) (r : Int × Int × Int × List (Int × Int)) (h : f34_sack_Board_Wait x_0 x_1 x_2 = some r) : FnOK Go.Proofs.Try.prog 34 (f34_sack_Board_Wait_in x_0 x_1 x_2) (f34_sack_Board_Wait_out r) := by
  unfold f34_sack_Board_Wait at h
  refine At.fn (r := 0) Go.Proofs.Try.func34 rfl (by kernel_rfl) rfl rfl (by kernel_rfl) ?_
  show At Go.Proofs.Try.prog Go.Proofs.Try.f34 1 0 ⟨[(0, .one (.c (.ptr 0 0)))], [], [(0, [.d (.int .u32 x_0), .d (.int .i64 x_1), .d (.sl (.pair (.int .u32) (.int .u32)) x_2)])], 1⟩ _
  refine At.step hm ht ⟨[], [], [], [0], [0]⟩ 1 ⟨[(0, .one (.c (.ptr 0 0)))], [], [(0, [.d (.int .u32 x_0), .d (.int .i64 x_1), .d (.sl (.pair (.int .u32) (.int .u32)) x_2)])], 1⟩ [] (by kernel_rfl) trivial ?_
  have h := Option.some.inj h
  subst h
  exact At.fin hm ht ⟨[], [], [], [2], [0]⟩ [] (by kernel_rfl) trivial
/-! (*brougham/sack.Board).Blocks -/
def f37_sack_Board_Blocks_in (x_0 : Int) (x_1 : Int) (x_2 : List (Int × Int)) : Inn := ⟨[.c (.ptr 0 0)], [], [(0, [.d (.int .u32 x_0), .d (.int .i64 x_1), .d (.sl (.pair (.int .u32) (.int .u32)) x_2)])], 1⟩
def f37_sack_Board_Blocks_out (r : (List (Int × Int)) × Int × Int × List (Int × Int)) : Out := ⟨.one (.c (.d (.sl (.pair (.int .u32) (.int .u32)) r.1))), [], [(0, [.d (.int .u32 r.2.1), .d (.int .i64 r.2.2.1), .d (.sl (.pair (.int .u32) (.int .u32)) r.2.2.2)])], 1⟩
def f37_sack_Board_Blocks (x_0 : Int) (x_1 : Int) (x_2 : List (Int × Int)) : Option ((List (Int × Int)) × Int × Int × List (Int × Int)) :=
  (f94_sack_Block x_2).bind fun r308_0 =>
  some (r308_0, x_0, x_1, x_2)
theorem f37_sack_Board_Blocks_ok (x_0 : Int) (x_1 : Int) (x_2 : List (Int × Int)) (r : (List (Int × Int)) × Int × Int × List (Int × Int)) (h : f37_sack_Board_Blocks x_0 x_1 x_2 = some r) : FnOK Go.Proofs.Try.prog 37 (f37_sack_Board_Blocks_in x_0 x_1 x_2) (f37_sack_Board_Blocks_out r) := by
  unfold f37_sack_Board_Blocks at h
  refine At.fn (r := 0) Go.Proofs.Try.func37 rfl (by kernel_rfl) rfl rfl (by kernel_rfl) ?_
  show At Go.Proofs.Try.prog Go.Proofs.Try.f37 1 0 ⟨[(0, .one (.c (.ptr 0 0)))], [], [(0, [.d (.int .u32 x_0), .d (.int .i64 x_1), .d (.sl (.pair (.int .u32) (.int .u32)) x_2)])], 1⟩ _
  refine At.step hm ht ⟨[], [], [], [0], [0]⟩ 1 ⟨[(0, .one (.c (.ptr 0 0)))], [], [(0, [.d (.int .u32 x_0), .d (.int .i64 x_1), .d (.sl (.pair (.int .u32) (.int .u32)) x_2)])], 1⟩ [] (by kernel_rfl) trivial ?_
  obtain ⟨r308_0, cr308_0, h⟩ := bindS h
  have h := Option.some.inj h
  subst h
  exact At.fin hm ht ⟨[(4, .call [] [] (f94_sack_Block_out r308_0))], [], [], [2], [0]⟩ [FnOK Go.Proofs.Try.prog 94 (f94_sack_Block_in x_2) (f94_sack_Block_out r308_0)] (by kernel_rfl) ⟨(f94_sack_Block_ok x_2 r308_0 cr308_0), trivial⟩
/-! brougham/broughamlaw31.plain -/
def f36_broughamlaw31_plain_in (l : List (Int × Int)) : Inn := ⟨[.c (.d (.sl (.pair (.int .u32) (.int .u32)) l))], [], [], 0⟩
def f36_broughamlaw31_plain_out (r : List (Int × Int)) : Out := ⟨.one (.c (.own 0 (.pair (.int .u32) (.int .u32)) r)), [(0, ⟨161, 0⟩)], [], 1⟩
def f36_broughamlaw31_plain_L3 : Nat → (List (Int × Int)) → (List (Int × Int)) → Int → Option (List (Int × Int))
  | 0, _, _, _ => none
  | n + 1, l, out, i =>
    if (decide ((i : Int) < ((l.length : Nat) : Int))) = true then
      if (0 : Int) ≤ i ∧ i < (((l).length : Nat) : Int) then
      if (0 : Int) ≤ i ∧ i < (((l).length : Nat) : Int) then
      if out.length + [(l.getD i.toNat (0, 0))].length ≤ maxLen ∧ (out.length + [(l.getD i.toNat (0, 0))].length) * 8 ≤ 140737488355328 then
      f36_broughamlaw31_plain_L3 n l (out ++ [(l.getD i.toNat (0, 0))]) (IntKind.wrap .i64 (i + 1))
      else none
      else none
      else none
    else
      some (out)
def f36_broughamlaw31_plain_L3_k (e : List (Int × Int)) (o : Out) : Prop := At Go.Proofs.Try.prog Go.Proofs.Try.f36 0 6 ⟨[(3, .one (.c (.own 0 (.pair (.int .u32) (.int .u32)) e)))], [(0, some ⟨161, 0⟩)], [], 1⟩ o
theorem f36_broughamlaw31_plain_L3_ok (n : Nat) : ∀ (l : List (Int × Int)) (out : List (Int × Int)) (i : Int) (w : List (Int × Int)) (h : f36_broughamlaw31_plain_L3 n l out i = some w) (o : Out) (hk : f36_broughamlaw31_plain_L3_k w o), At Go.Proofs.Try.prog Go.Proofs.Try.f36 0 3 ⟨[(0, .one (.c (.d (.sl (.pair (.int .u32) (.int .u32)) l)))), (3, .one (.c (.own 0 (.pair (.int .u32) (.int .u32)) out))), (4, .one (.c (.d (.int .i64 i))))], [(0, some ⟨161, 0⟩)], [], 1⟩ o := by
  induction n with
  | zero => intro l out i w h; rw [f36_broughamlaw31_plain_L3] at h; cases h
  | succ n ih =>
    intro l out i w h o hk
    rw [f36_broughamlaw31_plain_L3] at h
    rcases iteS h with ⟨b318_e0, h⟩ | ⟨b318_e0, h⟩
    · refine At.step hm ht ⟨[], [true], [], [0, 3, 4], [0]⟩ 5 ⟨[(0, .one (.c (.d (.sl (.pair (.int .u32) (.int .u32)) l)))), (3, .one (.c (.own 0 (.pair (.int .u32) (.int .u32)) out))), (4, .one (.c (.d (.int .i64 i))))], [(0, some ⟨161, 0⟩)], [], 1⟩ [(decide ((i : Int) < ((l.length : Nat) : Int))) = true] (by kernel_rfl) ⟨b318_e0, trivial⟩ ?_
      obtain ⟨g319_0, h⟩ := ifS h
      obtain ⟨g319_1, h⟩ := ifS h
      obtain ⟨g319_2, h⟩ := ifS h
      refine At.step hm ht ⟨[], [], [], [0, 3, 4], [14]⟩ 4 ⟨[(0, .one (.c (.d (.sl (.pair (.int .u32) (.int .u32)) l)))), (3, .one (.c (.own 0 (.pair (.int .u32) (.int .u32)) (out ++ [(l.getD i.toNat (0, 0))])))), (4, .one (.c (.d (.int .i64 i))))], [(0, some ⟨161, 0⟩)], [], 1⟩ [(0 : Int) ≤ i ∧ i < (((l).length : Nat) : Int), (0 : Int) ≤ i ∧ i < (((l).length : Nat) : Int), out.length + [(l.getD i.toNat (0, 0))].length ≤ maxLen ∧ (out.length + [(l.getD i.toNat (0, 0))].length) * 8 ≤ 140737488355328] (by kernel_rfl) ⟨g319_0, g319_1, g319_2, trivial⟩ ?_
      refine At.step hm ht ⟨[], [], [], [0, 3, 4], [0]⟩ 3 ⟨[(0, .one (.c (.d (.sl (.pair (.int .u32) (.int .u32)) l)))), (3, .one (.c (.own 0 (.pair (.int .u32) (.int .u32)) (out ++ [(l.getD i.toNat (0, 0))])))), (4, .one (.c (.d (.int .i64 (IntKind.wrap .i64 (i + 1))))))], [(0, some ⟨161, 0⟩)], [], 1⟩ [] (by kernel_rfl) trivial ?_
      exact ih l (out ++ [(l.getD i.toNat (0, 0))]) (IntKind.wrap .i64 (i + 1)) w h o hk
    · refine At.step hm ht ⟨[], [false], [], [3], [0]⟩ 6 ⟨[(3, .one (.c (.own 0 (.pair (.int .u32) (.int .u32)) out)))], [(0, some ⟨161, 0⟩)], [], 1⟩ [(decide ((i : Int) < ((l.length : Nat) : Int))) = false] (by kernel_rfl) ⟨b318_e0, trivial⟩ ?_
      have h := Option.some.inj h
      subst h
      exact hk
def f36_broughamlaw31_plain (n : Nat) (l : List (Int × Int)) : Option (List (Int × Int)) :=
  (f36_broughamlaw31_plain_L3 n l [] 0).bind fun w321 =>
  some w321
theorem f36_broughamlaw31_plain_ok (n : Nat) (l : List (Int × Int)) (r : List (Int × Int)) (h : f36_broughamlaw31_plain n l = some r) : FnOK Go.Proofs.Try.prog 36 (f36_broughamlaw31_plain_in l) (f36_broughamlaw31_plain_out r) := by
  unfold f36_broughamlaw31_plain at h
  refine At.fn (r := 0) Go.Proofs.Try.func36 rfl (by kernel_rfl) rfl rfl (by kernel_rfl) ?_
  show At Go.Proofs.Try.prog Go.Proofs.Try.f36 0 0 ⟨[(0, .one (.c (.d (.sl (.pair (.int .u32) (.int .u32)) l))))], [], [], 0⟩ _
  refine At.step hm ht ⟨[], [], [], [0], []⟩ 1 ⟨[(0, .one (.c (.d (.sl (.pair (.int .u32) (.int .u32)) l))))], [], [], 0⟩ [] (by kernel_rfl) trivial ?_
  refine At.step hm ht ⟨[], [], [], [0, 3], []⟩ 2 ⟨[(0, .one (.c (.d (.sl (.pair (.int .u32) (.int .u32)) l)))), (3, .one (.c (.d (.sl .unit []))))], [], [], 0⟩ [] (by kernel_rfl) trivial ?_
  refine At.step hm ht ⟨[], [], [.nil false 3 0 (.pair (.int .u32) (.int .u32)) (some 161)], [0, 3, 4], [1]⟩ 3 ⟨[(0, .one (.c (.d (.sl (.pair (.int .u32) (.int .u32)) l)))), (3, .one (.c (.own 0 (.pair (.int .u32) (.int .u32)) []))), (4, .one (.c (.d (.int .i64 0))))], [(0, some ⟨161, 0⟩)], [], 1⟩ [] (by kernel_rfl) trivial ?_
  obtain ⟨w321, cw321, h⟩ := bindS h
  refine f36_broughamlaw31_plain_L3_ok n l [] 0 w321 cw321 _ ?_
  show At Go.Proofs.Try.prog Go.Proofs.Try.f36 0 6 ⟨[(3, .one (.c (.own 0 (.pair (.int .u32) (.int .u32)) w321)))], [(0, some ⟨161, 0⟩)], [], 1⟩ _
  have h := Option.some.inj h
  subst h
  exact At.fin hm ht ⟨[], [], [], [2], [0]⟩ [] (by kernel_rfl) trivial
/-! brougham/broughamref31.Blocks -/
def f38_broughamref31_Blocks_in (x_0 : Int) (x_1 : Int) (x_2 : List (Int × Int)) : Inn := ⟨[.agg [.d (.int .u32 x_0), .d (.int .i64 x_1), .d (.sl (.pair (.int .u64) (.int .u64)) x_2)]], [], [], 0⟩
def f38_broughamref31_Blocks_out (r : List (Int × Int)) : Out := ⟨.one (.c (.own 0 (.pair (.int .u32) (.int .u32)) r)), [(0, ⟨161, 0⟩)], [], 1⟩
def f38_broughamref31_Blocks_L3 : Nat → (List (Int × Int)) → Int → Int → Int → (List (Int × Int)) → Option (List (Int × Int))
  | 0, _, _, _, _, _ => none
  | n + 1, out, i, x_0, x_1, x_2 =>
    if (decide ((i : Int) < ((x_2.length : Nat) : Int))) = true then
      if (0 : Int) ≤ i ∧ i < (((x_2).length : Nat) : Int) then
      if (0 : Int) ≤ i ∧ i < (((x_2).length : Nat) : Int) then
      if out.length + [((IntKind.wrap .u32 (x_0 + (IntKind.wrap .u32 ((x_2.getD i.toNat (0, 0)).1)))), (IntKind.wrap .u32 (x_0 + (IntKind.wrap .u32 ((x_2.getD i.toNat (0, 0)).2)))))].length ≤ maxLen ∧ (out.length + [((IntKind.wrap .u32 (x_0 + (IntKind.wrap .u32 ((x_2.getD i.toNat (0, 0)).1)))), (IntKind.wrap .u32 (x_0 + (IntKind.wrap .u32 ((x_2.getD i.toNat (0, 0)).2)))))].length) * 8 ≤ 140737488355328 then
      f38_broughamref31_Blocks_L3 n (out ++ [((IntKind.wrap .u32 (x_0 + (IntKind.wrap .u32 ((x_2.getD i.toNat (0, 0)).1)))), (IntKind.wrap .u32 (x_0 + (IntKind.wrap .u32 ((x_2.getD i.toNat (0, 0)).2)))))]) (IntKind.wrap .i64 (i + 1)) x_0 x_1 x_2
      else none
      else none
      else none
    else
      some (out)
def f38_broughamref31_Blocks_L3_k (e : List (Int × Int)) (o : Out) : Prop := At Go.Proofs.Try.prog Go.Proofs.Try.f38 0 6 ⟨[(3, .one (.c (.own 0 (.pair (.int .u32) (.int .u32)) e)))], [(0, some ⟨161, 0⟩)], [], 1⟩ o
theorem f38_broughamref31_Blocks_L3_ok (n : Nat) : ∀ (out : List (Int × Int)) (i : Int) (x_0 : Int) (x_1 : Int) (x_2 : List (Int × Int)) (w : List (Int × Int)) (h : f38_broughamref31_Blocks_L3 n out i x_0 x_1 x_2 = some w) (o : Out) (hk : f38_broughamref31_Blocks_L3_k w o), At Go.Proofs.Try.prog Go.Proofs.Try.f38 0 3 ⟨[(1, .one (.c (.ptr 0 0))), (3, .one (.c (.own 1 (.pair (.int .u32) (.int .u32)) out))), (4, .one (.c (.d (.int .i64 i))))], [(1, some ⟨161, 0⟩)], [(0, [.d (.int .u32 x_0), .d (.int .i64 x_1), .d (.sl (.pair (.int .u64) (.int .u64)) x_2)])], 2⟩ o := by
  induction n with
  | zero => intro out i x_0 x_1 x_2 w h; rw [f38_broughamref31_Blocks_L3] at h; cases h
  | succ n ih =>
    intro out i x_0 x_1 x_2 w h o hk
    rw [f38_broughamref31_Blocks_L3] at h
    rcases iteS h with ⟨b333_e0, h⟩ | ⟨b333_e0, h⟩
    · refine At.step hm ht ⟨[], [true], [], [1, 3, 4], [0, 1]⟩ 5 ⟨[(1, .one (.c (.ptr 0 0))), (3, .one (.c (.own 1 (.pair (.int .u32) (.int .u32)) out))), (4, .one (.c (.d (.int .i64 i))))], [(1, some ⟨161, 0⟩)], [(0, [.d (.int .u32 x_0), .d (.int .i64 x_1), .d (.sl (.pair (.int .u64) (.int .u64)) x_2)])], 2⟩ [(decide ((i : Int) < ((x_2.length : Nat) : Int))) = true] (by kernel_rfl) ⟨b333_e0, trivial⟩ ?_
      obtain ⟨g334_0, h⟩ := ifS h
      obtain ⟨g334_1, h⟩ := ifS h
      obtain ⟨g334_2, h⟩ := ifS h
      refine At.step hm ht ⟨[], [], [], [1, 3, 4], [0, 25]⟩ 4 ⟨[(1, .one (.c (.ptr 0 0))), (3, .one (.c (.own 1 (.pair (.int .u32) (.int .u32)) (out ++ [((IntKind.wrap .u32 (x_0 + (IntKind.wrap .u32 ((x_2.getD i.toNat (0, 0)).1)))), (IntKind.wrap .u32 (x_0 + (IntKind.wrap .u32 ((x_2.getD i.toNat (0, 0)).2)))))])))), (4, .one (.c (.d (.int .i64 i))))], [(1, some ⟨161, 0⟩)], [(0, [.d (.int .u32 x_0), .d (.int .i64 x_1), .d (.sl (.pair (.int .u64) (.int .u64)) x_2)])], 2⟩ [(0 : Int) ≤ i ∧ i < (((x_2).length : Nat) : Int), (0 : Int) ≤ i ∧ i < (((x_2).length : Nat) : Int), out.length + [((IntKind.wrap .u32 (x_0 + (IntKind.wrap .u32 ((x_2.getD i.toNat (0, 0)).1)))), (IntKind.wrap .u32 (x_0 + (IntKind.wrap .u32 ((x_2.getD i.toNat (0, 0)).2)))))].length ≤ maxLen ∧ (out.length + [((IntKind.wrap .u32 (x_0 + (IntKind.wrap .u32 ((x_2.getD i.toNat (0, 0)).1)))), (IntKind.wrap .u32 (x_0 + (IntKind.wrap .u32 ((x_2.getD i.toNat (0, 0)).2)))))].length) * 8 ≤ 140737488355328] (by kernel_rfl) ⟨g334_0, g334_1, g334_2, trivial⟩ ?_
      refine At.step hm ht ⟨[], [], [], [1, 3, 4], [0, 1]⟩ 3 ⟨[(1, .one (.c (.ptr 0 0))), (3, .one (.c (.own 1 (.pair (.int .u32) (.int .u32)) (out ++ [((IntKind.wrap .u32 (x_0 + (IntKind.wrap .u32 ((x_2.getD i.toNat (0, 0)).1)))), (IntKind.wrap .u32 (x_0 + (IntKind.wrap .u32 ((x_2.getD i.toNat (0, 0)).2)))))])))), (4, .one (.c (.d (.int .i64 (IntKind.wrap .i64 (i + 1))))))], [(1, some ⟨161, 0⟩)], [(0, [.d (.int .u32 x_0), .d (.int .i64 x_1), .d (.sl (.pair (.int .u64) (.int .u64)) x_2)])], 2⟩ [] (by kernel_rfl) trivial ?_
      exact ih (out ++ [((IntKind.wrap .u32 (x_0 + (IntKind.wrap .u32 ((x_2.getD i.toNat (0, 0)).1)))), (IntKind.wrap .u32 (x_0 + (IntKind.wrap .u32 ((x_2.getD i.toNat (0, 0)).2)))))]) (IntKind.wrap .i64 (i + 1)) x_0 x_1 x_2 w h o hk
    · refine At.step hm ht ⟨[], [false], [], [3], [1]⟩ 6 ⟨[(3, .one (.c (.own 0 (.pair (.int .u32) (.int .u32)) out)))], [(0, some ⟨161, 0⟩)], [], 1⟩ [(decide ((i : Int) < ((x_2.length : Nat) : Int))) = false] (by kernel_rfl) ⟨b333_e0, trivial⟩ ?_
      have h := Option.some.inj h
      subst h
      exact hk
def f38_broughamref31_Blocks (n : Nat) (x_0 : Int) (x_1 : Int) (x_2 : List (Int × Int)) : Option (List (Int × Int)) :=
  (f38_broughamref31_Blocks_L3 n [] 0 x_0 x_1 x_2).bind fun w336 =>
  some w336
theorem f38_broughamref31_Blocks_ok (n : Nat) (x_0 : Int) (x_1 : Int) (x_2 : List (Int × Int)) (r : List (Int × Int)) (h : f38_broughamref31_Blocks n x_0 x_1 x_2 = some r) : FnOK Go.Proofs.Try.prog 38 (f38_broughamref31_Blocks_in x_0 x_1 x_2) (f38_broughamref31_Blocks_out r) := by
  unfold f38_broughamref31_Blocks at h
  refine At.fn (r := 0) Go.Proofs.Try.func38 rfl (by kernel_rfl) rfl rfl (by kernel_rfl) ?_
  show At Go.Proofs.Try.prog Go.Proofs.Try.f38 0 0 ⟨[(0, .one (.agg [.d (.int .u32 x_0), .d (.int .i64 x_1), .d (.sl (.pair (.int .u64) (.int .u64)) x_2)]))], [], [], 0⟩ _
  refine At.step hm ht ⟨[], [], [], [1], [0]⟩ 1 ⟨[(1, .one (.c (.ptr 0 0)))], [], [(0, [.d (.int .u32 x_0), .d (.int .i64 x_1), .d (.sl (.pair (.int .u64) (.int .u64)) x_2)])], 1⟩ [] (by kernel_rfl) trivial ?_
  refine At.step hm ht ⟨[], [], [], [1, 3], [0]⟩ 2 ⟨[(1, .one (.c (.ptr 0 0))), (3, .one (.c (.d (.sl .unit []))))], [], [(0, [.d (.int .u32 x_0), .d (.int .i64 x_1), .d (.sl (.pair (.int .u64) (.int .u64)) x_2)])], 1⟩ [] (by kernel_rfl) trivial ?_
  refine At.step hm ht ⟨[], [], [.nil false 3 0 (.pair (.int .u32) (.int .u32)) (some 161)], [1, 3, 4], [0, 2]⟩ 3 ⟨[(1, .one (.c (.ptr 0 0))), (3, .one (.c (.own 1 (.pair (.int .u32) (.int .u32)) []))), (4, .one (.c (.d (.int .i64 0))))], [(1, some ⟨161, 0⟩)], [(0, [.d (.int .u32 x_0), .d (.int .i64 x_1), .d (.sl (.pair (.int .u64) (.int .u64)) x_2)])], 2⟩ [] (by kernel_rfl) trivial ?_
  obtain ⟨w336, cw336, h⟩ := bindS h
  refine f38_broughamref31_Blocks_L3_ok n [] 0 x_0 x_1 x_2 w336 cw336 _ ?_
  show At Go.Proofs.Try.prog Go.Proofs.Try.f38 0 6 ⟨[(3, .one (.c (.own 0 (.pair (.int .u32) (.int .u32)) w336)))], [(0, some ⟨161, 0⟩)], [], 1⟩ _
  have h := Option.some.inj h
  subst h
  exact At.fin hm ht ⟨[], [], [], [2], [0]⟩ [] (by kernel_rfl) trivial
/-! brougham/broughamlaw31.same -/
def f35_broughamlaw31_same_in (a : List (Int × Int)) (b : List (Int × Int)) : Inn := ⟨[.c (.d (.sl (.pair (.int .u32) (.int .u32)) a)), .c (.d (.sl (.pair (.int .u32) (.int .u32)) b))], [], [], 0⟩
def f35_broughamlaw31_same_out (r : Bool) : Out := ⟨.one (.c (.d (.bool r))), [], [], 0⟩
def f35_broughamlaw31_same_L4 : Nat → (List (Int × Int)) → (List (Int × Int)) → Int → Option ((Bool) ⊕ (Unit))
  | 0, _, _, _ => none
  | n + 1, a, b, i =>
    if (decide ((i : Int) < ((a.length : Nat) : Int))) = true then
      if (0 : Int) ≤ i ∧ i < (((a).length : Nat) : Int) then
      if (0 : Int) ≤ i ∧ i < (((b).length : Nat) : Int) then
      if (!(((((a.getD i.toNat (0, 0)).1) : Int) == ((b.getD i.toNat (0, 0)).1)) && ((((a.getD i.toNat (0, 0)).2) : Int) == ((b.getD i.toNat (0, 0)).2)))) = true then
        some (.inl false)
      else
        f35_broughamlaw31_same_L4 n a b (IntKind.wrap .i64 (i + 1))
      else none
      else none
    else
      some (.inr ())
def f35_broughamlaw31_same_L4_k (w : (Bool) ⊕ (Unit)) (o : Out) : Prop := match w with
  | .inl e => o = f35_broughamlaw31_same_out e
  | .inr e => At Go.Proofs.Try.prog Go.Proofs.Try.f35 0 8 ⟨[], [], [], 0⟩ o
theorem f35_broughamlaw31_same_L4_ok (n : Nat) : ∀ (a : List (Int × Int)) (b : List (Int × Int)) (i : Int) (w : (Bool) ⊕ (Unit)) (h : f35_broughamlaw31_same_L4 n a b i = some w) (o : Out) (hk : f35_broughamlaw31_same_L4_k w o), At Go.Proofs.Try.prog Go.Proofs.Try.f35 0 4 ⟨[(0, .one (.c (.d (.sl (.pair (.int .u32) (.int .u32)) a)))), (1, .one (.c (.d (.sl (.pair (.int .u32) (.int .u32)) b)))), (5, .one (.c (.d (.int .i64 i))))], [], [], 0⟩ o := by
  induction n with
  | zero => intro a b i w h; rw [f35_broughamlaw31_same_L4] at h; cases h
  | succ n ih =>
    intro a b i w h o hk
    rw [f35_broughamlaw31_same_L4] at h
    rcases iteS h with ⟨b343_e0, h⟩ | ⟨b343_e0, h⟩
    · refine At.step hm ht ⟨[], [true], [], [0, 1, 5], []⟩ 6 ⟨[(0, .one (.c (.d (.sl (.pair (.int .u32) (.int .u32)) a)))), (1, .one (.c (.d (.sl (.pair (.int .u32) (.int .u32)) b)))), (5, .one (.c (.d (.int .i64 i))))], [], [], 0⟩ [(decide ((i : Int) < ((a.length : Nat) : Int))) = true] (by kernel_rfl) ⟨b343_e0, trivial⟩ ?_
      obtain ⟨g344_0, h⟩ := ifS h
      obtain ⟨g344_1, h⟩ := ifS h
      rcases iteS h with ⟨b344_e0, h⟩ | ⟨b344_e0, h⟩
      · refine At.step hm ht ⟨[], [true], [], [], []⟩ 7 ⟨[], [], [], 0⟩ [(0 : Int) ≤ i ∧ i < (((a).length : Nat) : Int), (0 : Int) ≤ i ∧ i < (((b).length : Nat) : Int), (!(((((a.getD i.toNat (0, 0)).1) : Int) == ((b.getD i.toNat (0, 0)).1)) && ((((a.getD i.toNat (0, 0)).2) : Int) == ((b.getD i.toNat (0, 0)).2)))) = true] (by kernel_rfl) ⟨g344_0, g344_1, b344_e0, trivial⟩ ?_
        have h := Option.some.inj h
        subst h
        have hk : o = f35_broughamlaw31_same_out false := hk
        subst hk
        exact At.fin hm ht ⟨[], [], [], [4], []⟩ [] (by kernel_rfl) trivial
      · refine At.step hm ht ⟨[], [false], [], [0, 1, 5], []⟩ 5 ⟨[(0, .one (.c (.d (.sl (.pair (.int .u32) (.int .u32)) a)))), (1, .one (.c (.d (.sl (.pair (.int .u32) (.int .u32)) b)))), (5, .one (.c (.d (.int .i64 i))))], [], [], 0⟩ [(0 : Int) ≤ i ∧ i < (((a).length : Nat) : Int), (0 : Int) ≤ i ∧ i < (((b).length : Nat) : Int), (!(((((a.getD i.toNat (0, 0)).1) : Int) == ((b.getD i.toNat (0, 0)).1)) && ((((a.getD i.toNat (0, 0)).2) : Int) == ((b.getD i.toNat (0, 0)).2)))) = false] (by kernel_rfl) ⟨g344_0, g344_1, b344_e0, trivial⟩ ?_
        refine At.step hm ht ⟨[], [], [], [0, 1, 5], []⟩ 4 ⟨[(0, .one (.c (.d (.sl (.pair (.int .u32) (.int .u32)) a)))), (1, .one (.c (.d (.sl (.pair (.int .u32) (.int .u32)) b)))), (5, .one (.c (.d (.int .i64 (IntKind.wrap .i64 (i + 1))))))], [], [], 0⟩ [] (by kernel_rfl) trivial ?_
        exact ih a b (IntKind.wrap .i64 (i + 1)) w h o hk
    · refine At.step hm ht ⟨[], [false], [], [], []⟩ 8 ⟨[], [], [], 0⟩ [(decide ((i : Int) < ((a.length : Nat) : Int))) = false] (by kernel_rfl) ⟨b343_e0, trivial⟩ ?_
      have h := Option.some.inj h
      subst h
      exact hk
def f35_broughamlaw31_same (n : Nat) (a : List (Int × Int)) (b : List (Int × Int)) : Option (Bool) :=
  if ((((a.length : Nat) : Int) : Int) != ((b.length : Nat) : Int)) = true then
    some false
  else
    (f35_broughamlaw31_same_L4 n a b 0).bind fun w347 =>
    match w347 with
    | .inl e348 =>
      some e348
    | .inr e349 =>
      some true
theorem f35_broughamlaw31_same_ok (n : Nat) (a : List (Int × Int)) (b : List (Int × Int)) (r : Bool) (h : f35_broughamlaw31_same n a b = some r) : FnOK Go.Proofs.Try.prog 35 (f35_broughamlaw31_same_in a b) (f35_broughamlaw31_same_out r) := by
  unfold f35_broughamlaw31_same at h
  refine At.fn (r := 0) Go.Proofs.Try.func35 rfl (by kernel_rfl) rfl rfl (by kernel_rfl) ?_
  show At Go.Proofs.Try.prog Go.Proofs.Try.f35 0 0 ⟨[(0, .one (.c (.d (.sl (.pair (.int .u32) (.int .u32)) a)))), (1, .one (.c (.d (.sl (.pair (.int .u32) (.int .u32)) b))))], [], [], 0⟩ _
  refine At.step hm ht ⟨[], [], [], [0, 1], []⟩ 1 ⟨[(0, .one (.c (.d (.sl (.pair (.int .u32) (.int .u32)) a)))), (1, .one (.c (.d (.sl (.pair (.int .u32) (.int .u32)) b))))], [], [], 0⟩ [] (by kernel_rfl) trivial ?_
  rcases iteS h with ⟨b340_e0, h⟩ | ⟨b340_e0, h⟩
  · refine At.step hm ht ⟨[], [true], [], [], []⟩ 2 ⟨[], [], [], 0⟩ [((((a.length : Nat) : Int) : Int) != ((b.length : Nat) : Int)) = true] (by kernel_rfl) ⟨b340_e0, trivial⟩ ?_
    have h := Option.some.inj h
    subst h
    exact At.fin hm ht ⟨[], [], [], [4], []⟩ [] (by kernel_rfl) trivial
  · refine At.step hm ht ⟨[], [false], [], [0, 1], []⟩ 3 ⟨[(0, .one (.c (.d (.sl (.pair (.int .u32) (.int .u32)) a)))), (1, .one (.c (.d (.sl (.pair (.int .u32) (.int .u32)) b))))], [], [], 0⟩ [((((a.length : Nat) : Int) : Int) != ((b.length : Nat) : Int)) = false] (by kernel_rfl) ⟨b340_e0, trivial⟩ ?_
    refine At.step hm ht ⟨[], [], [], [0, 1, 5], []⟩ 4 ⟨[(0, .one (.c (.d (.sl (.pair (.int .u32) (.int .u32)) a)))), (1, .one (.c (.d (.sl (.pair (.int .u32) (.int .u32)) b)))), (5, .one (.c (.d (.int .i64 0))))], [], [], 0⟩ [] (by kernel_rfl) trivial ?_
    obtain ⟨w347, cw347, h⟩ := bindS h
    refine f35_broughamlaw31_same_L4_ok n a b 0 w347 cw347 _ ?_
    rcases w347 with e348 | e349
    · have h := Option.some.inj h
      subst h
      rfl
    · show At Go.Proofs.Try.prog Go.Proofs.Try.f35 0 8 ⟨[], [], [], 0⟩ _
      have h := Option.some.inj h
      subst h
      exact At.fin hm ht ⟨[], [], [], [4], []⟩ [] (by kernel_rfl) trivial
/-! (*brougham/sack.Board).near -/
def f92_sack_Board_near_v2_in (n_ : Int) (x_0 : Int) (x_1 : Int) (x_2 : List (Int × Int)) : Inn := ⟨[.c (.ptr 0 0), .c (.d (.int .u32 n_))], [], [(0, [.d (.int .u32 x_0), .d (.int .i64 x_1), .d (.sl (.pair (.int .u32) (.int .u32)) x_2)])], 1⟩
def f92_sack_Board_near_v2_out (r : Bool × Int × Int × List (Int × Int)) : Out := ⟨.one (.c (.d (.bool r.1))), [], [(0, [.d (.int .u32 r.2.1), .d (.int .i64 r.2.2.1), .d (.sl (.pair (.int .u32) (.int .u32)) r.2.2.2)])], 1⟩
def f92_sack_Board_near_v2 (n_ : Int) (x_0 : Int) (x_1 : Int) (x_2 : List (Int × Int)) : Option (Bool × Int × Int × List (Int × Int)) :=
  (f127_serial_Within n_ x_0 1048577).bind fun r380_0 =>
  some (r380_0, x_0, x_1, x_2)
theorem f92_sack_Board_near_v2_ok (n_ : Int) (x_0 : Int) (x_1 : Int) (x_2 : List (Int × Int)) (r : Bool × Int × Int × List (Int × Int)) (h : f92_sack_Board_near_v2 n_ x_0 x_1 x_2 = some r) : FnOK Go.Proofs.Try.prog 92 (f92_sack_Board_near_v2_in n_ x_0 x_1 x_2) (f92_sack_Board_near_v2_out r) := by
  unfold f92_sack_Board_near_v2 at h
  refine At.fn (r := 0) Go.Proofs.Try.func92 rfl (by kernel_rfl) rfl rfl (by kernel_rfl) ?_
  show At Go.Proofs.Try.prog Go.Proofs.Try.f92 1 0 ⟨[(0, .one (.c (.ptr 0 0))), (1, .one (.c (.d (.int .u32 n_))))], [], [(0, [.d (.int .u32 x_0), .d (.int .i64 x_1), .d (.sl (.pair (.int .u32) (.int .u32)) x_2)])], 1⟩ _
  refine At.step hm ht ⟨[], [], [], [0, 1], [0]⟩ 1 ⟨[(0, .one (.c (.ptr 0 0))), (1, .one (.c (.d (.int .u32 n_))))], [], [(0, [.d (.int .u32 x_0), .d (.int .i64 x_1), .d (.sl (.pair (.int .u32) (.int .u32)) x_2)])], 1⟩ [] (by kernel_rfl) trivial ?_
  obtain ⟨r380_0, cr380_0, h⟩ := bindS h
  have h := Option.some.inj h
  subst h
  exact At.fin hm ht ⟨[(5, .call [] [] (f127_serial_Within_out r380_0))], [], [], [4], [0]⟩ [FnOK Go.Proofs.Try.prog 127 (f127_serial_Within_in n_ x_0 1048577) (f127_serial_Within_out r380_0)] (by kernel_rfl) ⟨(f127_serial_Within_ok n_ x_0 1048577 r380_0 cr380_0), trivial⟩
/-! (*brougham/sack.Board).put -/
def f93_sack_Board_put_v2_in (b_0 : Int) (b_1 : Int) (x_0 : Int) (x_1 : Int) (x_2 : List (Int × Int)) : Inn := ⟨[.c (.ptr 0 0), .agg [.d (.int .u32 b_0), .d (.int .u32 b_1)]], [], [(0, [.d (.int .u32 x_0), .d (.int .i64 x_1), .d (.sl (.pair (.int .u32) (.int .u32)) x_2)])], 1⟩
def f93_sack_Board_put_v2_out (r : Bool × Int × Int × List (Int × Int)) : Out := ⟨.one (.c (.d (.bool r.1))), [], [(0, [.d (.int .u32 r.2.1), .d (.int .i64 r.2.2.1), .d (.sl (.pair (.int .u32) (.int .u32)) r.2.2.2)])], 1⟩
def f93_sack_Board_put_v2_L4 : Nat → (List (Int × Int)) → Bool → (List (Int × Int)) → Int → Int → Int → Int → (List (Int × Int)) → Int → Int → Option ((List (Int × Int)) × Bool × Int × Int × (List (Int × Int)) × Int × Int)
  | 0, _, _, _, _, _, _, _, _, _, _ => none
  | n + 1, out, done, t12, t13, t14, x_0, x_1, x_2, b_0, b_1 =>
    if (decide ((t14 : Int) < t13)) = true then
      if (0 : Int) ≤ t14 ∧ t14 < (((t12).length : Nat) : Int) then
      (f91_serial_Less ((t12.getD t14.toNat (0, 0)).2) b_0).bind fun r399_0 =>
      if r399_0 = true then
        if out.length + [(t12.getD t14.toNat (0, 0))].length ≤ maxLen ∧ (out.length + [(t12.getD t14.toNat (0, 0))].length) * 8 ≤ 140737488355328 then
        f93_sack_Board_put_v2_L4 n (out ++ [(t12.getD t14.toNat (0, 0))]) done t12 t13 (IntKind.wrap .i64 (t14 + 1)) x_0 x_1 x_2 b_0 b_1
        else none
      else
        (f91_serial_Less b_1 ((t12.getD t14.toNat (0, 0)).1)).bind fun r402_0 =>
        if r402_0 = true then
          if (!done) = true then
            if out.length + [(b_0, b_1)].length ≤ maxLen ∧ (out.length + [(b_0, b_1)].length) * 8 ≤ 140737488355328 then
            if (out ++ [(b_0, b_1)]).length + [(t12.getD t14.toNat (0, 0))].length ≤ maxLen ∧ ((out ++ [(b_0, b_1)]).length + [(t12.getD t14.toNat (0, 0))].length) * 8 ≤ 140737488355328 then
            f93_sack_Board_put_v2_L4 n ((out ++ [(b_0, b_1)]) ++ [(t12.getD t14.toNat (0, 0))]) true t12 t13 (IntKind.wrap .i64 (t14 + 1)) x_0 x_1 x_2 b_0 b_1
            else none
            else none
          else
            if out.length + [(t12.getD t14.toNat (0, 0))].length ≤ maxLen ∧ (out.length + [(t12.getD t14.toNat (0, 0))].length) * 8 ≤ 140737488355328 then
            f93_sack_Board_put_v2_L4 n (out ++ [(t12.getD t14.toNat (0, 0))]) done t12 t13 (IntKind.wrap .i64 (t14 + 1)) x_0 x_1 x_2 b_0 b_1
            else none
        else
          (f91_serial_Less ((t12.getD t14.toNat (0, 0)).1) b_0).bind fun r410_0 =>
          if r410_0 = true then
            (f128_serial_Max b_1 ((t12.getD t14.toNat (0, 0)).2)).bind fun r412_0 =>
            f93_sack_Board_put_v2_L4 n out done t12 t13 (IntKind.wrap .i64 (t14 + 1)) x_0 x_1 x_2 ((t12.getD t14.toNat (0, 0)).1) r412_0
          else
            (f128_serial_Max b_1 ((t12.getD t14.toNat (0, 0)).2)).bind fun r414_0 =>
            f93_sack_Board_put_v2_L4 n out done t12 t13 (IntKind.wrap .i64 (t14 + 1)) x_0 x_1 x_2 b_0 r414_0
      else none
    else
      some ((out, done, x_0, x_1, x_2, b_0, b_1))
def f93_sack_Board_put_v2_L4_k (e : (List (Int × Int)) × Bool × Int × Int × (List (Int × Int)) × Int × Int) (o : Out) : Prop := At Go.Proofs.Try.prog Go.Proofs.Try.f93 1 17 ⟨[(0, .one (.c (.ptr 0 0))), (3, .one (.c (.ptr 1 0))), (5, .one (.c (.own 2 (.pair (.int .u32) (.int .u32)) e.1))), (6, .one (.c (.d (.bool e.2.1))))], [(2, some ⟨160, 0⟩)], [(0, [.d (.int .u32 e.2.2.1), .d (.int .i64 e.2.2.2.1), .d (.sl (.pair (.int .u32) (.int .u32)) e.2.2.2.2.1)]), (1, [.d (.int .u32 e.2.2.2.2.2.1), .d (.int .u32 e.2.2.2.2.2.2)])], 3⟩ o
theorem f93_sack_Board_put_v2_L4_ok (n : Nat) : ∀ (out : List (Int × Int)) (done : Bool) (t12 : List (Int × Int)) (t13 : Int) (t14 : Int) (x_0 : Int) (x_1 : Int) (x_2 : List (Int × Int)) (b_0 : Int) (b_1 : Int) (w : (List (Int × Int)) × Bool × Int × Int × (List (Int × Int)) × Int × Int) (h : f93_sack_Board_put_v2_L4 n out done t12 t13 t14 x_0 x_1 x_2 b_0 b_1 = some w) (o : Out) (hk : f93_sack_Board_put_v2_L4_k w o), At Go.Proofs.Try.prog Go.Proofs.Try.f93 1 4 ⟨[(0, .one (.c (.ptr 0 0))), (3, .one (.c (.ptr 1 0))), (5, .one (.c (.own 2 (.pair (.int .u32) (.int .u32)) out))), (6, .one (.c (.d (.bool done)))), (12, .one (.c (.d (.sl (.pair (.int .u32) (.int .u32)) t12)))), (13, .one (.c (.d (.int .i64 t13)))), (14, .one (.c (.d (.int .i64 t14))))], [(2, some ⟨160, 0⟩)], [(0, [.d (.int .u32 x_0), .d (.int .i64 x_1), .d (.sl (.pair (.int .u32) (.int .u32)) x_2)]), (1, [.d (.int .u32 b_0), .d (.int .u32 b_1)])], 3⟩ o := by
  induction n with
  | zero => intro out done t12 t13 t14 x_0 x_1 x_2 b_0 b_1 w h; rw [f93_sack_Board_put_v2_L4] at h; cases h
  | succ n ih =>
    intro out done t12 t13 t14 x_0 x_1 x_2 b_0 b_1 w h o hk
    rw [f93_sack_Board_put_v2_L4] at h
    rcases iteS h with ⟨b397_e0, h⟩ | ⟨b397_e0, h⟩
    · refine At.step hm ht ⟨[], [true], [], [0, 3, 5, 6, 12, 13, 14], [0, 1, 2]⟩ 5 ⟨[(0, .one (.c (.ptr 0 0))), (3, .one (.c (.ptr 1 0))), (5, .one (.c (.own 2 (.pair (.int .u32) (.int .u32)) out))), (6, .one (.c (.d (.bool done)))), (12, .one (.c (.d (.sl (.pair (.int .u32) (.int .u32)) t12)))), (13, .one (.c (.d (.int .i64 t13)))), (14, .one (.c (.d (.int .i64 t14))))], [(2, some ⟨160, 0⟩)], [(0, [.d (.int .u32 x_0), .d (.int .i64 x_1), .d (.sl (.pair (.int .u32) (.int .u32)) x_2)]), (1, [.d (.int .u32 b_0), .d (.int .u32 b_1)])], 3⟩ [(decide ((t14 : Int) < t13)) = true] (by kernel_rfl) ⟨b397_e0, trivial⟩ ?_
      obtain ⟨g398_0, h⟩ := ifS h
      refine At.step hm ht ⟨[], [], [], [0, 3, 5, 6, 8, 12, 13, 14], [0, 1, 2, 5]⟩ 9 ⟨[(0, .one (.c (.ptr 0 0))), (3, .one (.c (.ptr 1 0))), (5, .one (.c (.own 2 (.pair (.int .u32) (.int .u32)) out))), (6, .one (.c (.d (.bool done)))), (8, .one (.c (.ptr 3 0))), (12, .one (.c (.d (.sl (.pair (.int .u32) (.int .u32)) t12)))), (13, .one (.c (.d (.int .i64 t13)))), (14, .one (.c (.d (.int .i64 t14))))], [(2, some ⟨160, 0⟩)], [(0, [.d (.int .u32 x_0), .d (.int .i64 x_1), .d (.sl (.pair (.int .u32) (.int .u32)) x_2)]), (1, [.d (.int .u32 b_0), .d (.int .u32 b_1)]), (3, [.d (.int .u32 ((t12.getD t14.toNat (0, 0)).1)), .d (.int .u32 ((t12.getD t14.toNat (0, 0)).2))])], 4⟩ [(0 : Int) ≤ t14 ∧ t14 < (((t12).length : Nat) : Int), 0 + 2 ≤ 2] (by kernel_rfl) ⟨g398_0, (by decide), trivial⟩ ?_
      obtain ⟨r399_0, cr399_0, h⟩ := bindS h
      rcases iteS h with ⟨b399_e0, h⟩ | ⟨b399_e0, h⟩
      · refine At.step hm ht ⟨[(4, .call [] [] (f91_serial_Less_out r399_0))], [true], [], [0, 3, 5, 6, 8, 12, 13, 14], [0, 1, 2, 3]⟩ 10 ⟨[(0, .one (.c (.ptr 0 0))), (3, .one (.c (.ptr 1 0))), (5, .one (.c (.own 2 (.pair (.int .u32) (.int .u32)) out))), (6, .one (.c (.d (.bool done)))), (8, .one (.c (.ptr 3 0))), (12, .one (.c (.d (.sl (.pair (.int .u32) (.int .u32)) t12)))), (13, .one (.c (.d (.int .i64 t13)))), (14, .one (.c (.d (.int .i64 t14))))], [(2, some ⟨160, 0⟩)], [(0, [.d (.int .u32 x_0), .d (.int .i64 x_1), .d (.sl (.pair (.int .u32) (.int .u32)) x_2)]), (1, [.d (.int .u32 b_0), .d (.int .u32 b_1)]), (3, [.d (.int .u32 ((t12.getD t14.toNat (0, 0)).1)), .d (.int .u32 ((t12.getD t14.toNat (0, 0)).2))])], 4⟩ [FnOK Go.Proofs.Try.prog 91 (f91_serial_Less_in ((t12.getD t14.toNat (0, 0)).2) b_0) (f91_serial_Less_out r399_0), r399_0 = true] (by kernel_rfl) ⟨(f91_serial_Less_ok ((t12.getD t14.toNat (0, 0)).2) b_0 r399_0 cr399_0), b399_e0, trivial⟩ ?_
        obtain ⟨g400_0, h⟩ := ifS h
        refine At.step hm ht ⟨[], [], [], [0, 3, 5, 6, 12, 13, 14], [0, 1, 7]⟩ 16 ⟨[(0, .one (.c (.ptr 0 0))), (3, .one (.c (.ptr 1 0))), (5, .one (.c (.own 2 (.pair (.int .u32) (.int .u32)) (out ++ [(t12.getD t14.toNat (0, 0))])))), (6, .one (.c (.d (.bool done)))), (12, .one (.c (.d (.sl (.pair (.int .u32) (.int .u32)) t12)))), (13, .one (.c (.d (.int .i64 t13)))), (14, .one (.c (.d (.int .i64 t14))))], [(2, some ⟨160, 0⟩)], [(0, [.d (.int .u32 x_0), .d (.int .i64 x_1), .d (.sl (.pair (.int .u32) (.int .u32)) x_2)]), (1, [.d (.int .u32 b_0), .d (.int .u32 b_1)])], 3⟩ [out.length + [(t12.getD t14.toNat (0, 0))].length ≤ maxLen ∧ (out.length + [(t12.getD t14.toNat (0, 0))].length) * 8 ≤ 140737488355328] (by kernel_rfl) ⟨g400_0, trivial⟩ ?_
        refine At.step hm ht ⟨[], [], [], [0, 3, 5, 6, 12, 13, 14], [0, 1, 2]⟩ 4 ⟨[(0, .one (.c (.ptr 0 0))), (3, .one (.c (.ptr 1 0))), (5, .one (.c (.own 2 (.pair (.int .u32) (.int .u32)) (out ++ [(t12.getD t14.toNat (0, 0))])))), (6, .one (.c (.d (.bool done)))), (12, .one (.c (.d (.sl (.pair (.int .u32) (.int .u32)) t12)))), (13, .one (.c (.d (.int .i64 t13)))), (14, .one (.c (.d (.int .i64 (IntKind.wrap .i64 (t14 + 1))))))], [(2, some ⟨160, 0⟩)], [(0, [.d (.int .u32 x_0), .d (.int .i64 x_1), .d (.sl (.pair (.int .u32) (.int .u32)) x_2)]), (1, [.d (.int .u32 b_0), .d (.int .u32 b_1)])], 3⟩ [] (by kernel_rfl) trivial ?_
        exact ih (out ++ [(t12.getD t14.toNat (0, 0))]) done t12 t13 (IntKind.wrap .i64 (t14 + 1)) x_0 x_1 x_2 b_0 b_1 w h o hk
      · refine At.step hm ht ⟨[(4, .call [] [] (f91_serial_Less_out r399_0))], [false], [], [0, 3, 5, 6, 8, 12, 13, 14], [0, 1, 2, 3]⟩ 11 ⟨[(0, .one (.c (.ptr 0 0))), (3, .one (.c (.ptr 1 0))), (5, .one (.c (.own 2 (.pair (.int .u32) (.int .u32)) out))), (6, .one (.c (.d (.bool done)))), (8, .one (.c (.ptr 3 0))), (12, .one (.c (.d (.sl (.pair (.int .u32) (.int .u32)) t12)))), (13, .one (.c (.d (.int .i64 t13)))), (14, .one (.c (.d (.int .i64 t14))))], [(2, some ⟨160, 0⟩)], [(0, [.d (.int .u32 x_0), .d (.int .i64 x_1), .d (.sl (.pair (.int .u32) (.int .u32)) x_2)]), (1, [.d (.int .u32 b_0), .d (.int .u32 b_1)]), (3, [.d (.int .u32 ((t12.getD t14.toNat (0, 0)).1)), .d (.int .u32 ((t12.getD t14.toNat (0, 0)).2))])], 4⟩ [FnOK Go.Proofs.Try.prog 91 (f91_serial_Less_in ((t12.getD t14.toNat (0, 0)).2) b_0) (f91_serial_Less_out r399_0), r399_0 = false] (by kernel_rfl) ⟨(f91_serial_Less_ok ((t12.getD t14.toNat (0, 0)).2) b_0 r399_0 cr399_0), b399_e0, trivial⟩ ?_
        obtain ⟨r402_0, cr402_0, h⟩ := bindS h
        rcases iteS h with ⟨b402_e0, h⟩ | ⟨b402_e0, h⟩
        · refine At.step hm ht ⟨[(4, .call [] [] (f91_serial_Less_out r402_0))], [true], [], [0, 3, 5, 6, 8, 12, 13, 14], [0, 1, 2, 3]⟩ 12 ⟨[(0, .one (.c (.ptr 0 0))), (3, .one (.c (.ptr 1 0))), (5, .one (.c (.own 2 (.pair (.int .u32) (.int .u32)) out))), (6, .one (.c (.d (.bool done)))), (8, .one (.c (.ptr 3 0))), (12, .one (.c (.d (.sl (.pair (.int .u32) (.int .u32)) t12)))), (13, .one (.c (.d (.int .i64 t13)))), (14, .one (.c (.d (.int .i64 t14))))], [(2, some ⟨160, 0⟩)], [(0, [.d (.int .u32 x_0), .d (.int .i64 x_1), .d (.sl (.pair (.int .u32) (.int .u32)) x_2)]), (1, [.d (.int .u32 b_0), .d (.int .u32 b_1)]), (3, [.d (.int .u32 ((t12.getD t14.toNat (0, 0)).1)), .d (.int .u32 ((t12.getD t14.toNat (0, 0)).2))])], 4⟩ [FnOK Go.Proofs.Try.prog 91 (f91_serial_Less_in b_1 ((t12.getD t14.toNat (0, 0)).1)) (f91_serial_Less_out r402_0), r402_0 = true] (by kernel_rfl) ⟨(f91_serial_Less_ok b_1 ((t12.getD t14.toNat (0, 0)).1) r402_0 cr402_0), b402_e0, trivial⟩ ?_
          rcases iteS h with ⟨b403_e0, h⟩ | ⟨b403_e0, h⟩
          · refine At.step hm ht ⟨[], [true], [], [0, 3, 5, 8, 12, 13, 14], [0, 1, 2, 3]⟩ 13 ⟨[(0, .one (.c (.ptr 0 0))), (3, .one (.c (.ptr 1 0))), (5, .one (.c (.own 2 (.pair (.int .u32) (.int .u32)) out))), (8, .one (.c (.ptr 3 0))), (12, .one (.c (.d (.sl (.pair (.int .u32) (.int .u32)) t12)))), (13, .one (.c (.d (.int .i64 t13)))), (14, .one (.c (.d (.int .i64 t14))))], [(2, some ⟨160, 0⟩)], [(0, [.d (.int .u32 x_0), .d (.int .i64 x_1), .d (.sl (.pair (.int .u32) (.int .u32)) x_2)]), (1, [.d (.int .u32 b_0), .d (.int .u32 b_1)]), (3, [.d (.int .u32 ((t12.getD t14.toNat (0, 0)).1)), .d (.int .u32 ((t12.getD t14.toNat (0, 0)).2))])], 4⟩ [(!done) = true] (by kernel_rfl) ⟨b403_e0, trivial⟩ ?_
            obtain ⟨g404_0, h⟩ := ifS h
            refine At.step hm ht ⟨[], [], [], [0, 3, 5, 8, 12, 13, 14], [0, 1, 7, 3]⟩ 14 ⟨[(0, .one (.c (.ptr 0 0))), (3, .one (.c (.ptr 1 0))), (5, .one (.c (.own 2 (.pair (.int .u32) (.int .u32)) (out ++ [(b_0, b_1)])))), (8, .one (.c (.ptr 3 0))), (12, .one (.c (.d (.sl (.pair (.int .u32) (.int .u32)) t12)))), (13, .one (.c (.d (.int .i64 t13)))), (14, .one (.c (.d (.int .i64 t14))))], [(2, some ⟨160, 0⟩)], [(0, [.d (.int .u32 x_0), .d (.int .i64 x_1), .d (.sl (.pair (.int .u32) (.int .u32)) x_2)]), (1, [.d (.int .u32 b_0), .d (.int .u32 b_1)]), (3, [.d (.int .u32 ((t12.getD t14.toNat (0, 0)).1)), .d (.int .u32 ((t12.getD t14.toNat (0, 0)).2))])], 4⟩ [out.length + [(b_0, b_1)].length ≤ maxLen ∧ (out.length + [(b_0, b_1)].length) * 8 ≤ 140737488355328] (by kernel_rfl) ⟨g404_0, trivial⟩ ?_
            refine At.step hm ht ⟨[], [], [], [0, 3, 5, 6, 8, 12, 13, 14], [0, 1, 2, 3]⟩ 15 ⟨[(0, .one (.c (.ptr 0 0))), (3, .one (.c (.ptr 1 0))), (5, .one (.c (.own 2 (.pair (.int .u32) (.int .u32)) (out ++ [(b_0, b_1)])))), (6, .one (.c (.d (.bool true)))), (8, .one (.c (.ptr 3 0))), (12, .one (.c (.d (.sl (.pair (.int .u32) (.int .u32)) t12)))), (13, .one (.c (.d (.int .i64 t13)))), (14, .one (.c (.d (.int .i64 t14))))], [(2, some ⟨160, 0⟩)], [(0, [.d (.int .u32 x_0), .d (.int .i64 x_1), .d (.sl (.pair (.int .u32) (.int .u32)) x_2)]), (1, [.d (.int .u32 b_0), .d (.int .u32 b_1)]), (3, [.d (.int .u32 ((t12.getD t14.toNat (0, 0)).1)), .d (.int .u32 ((t12.getD t14.toNat (0, 0)).2))])], 4⟩ [] (by kernel_rfl) trivial ?_
            obtain ⟨g406_0, h⟩ := ifS h
            refine At.step hm ht ⟨[], [], [], [0, 3, 5, 6, 12, 13, 14], [0, 1, 7]⟩ 16 ⟨[(0, .one (.c (.ptr 0 0))), (3, .one (.c (.ptr 1 0))), (5, .one (.c (.own 2 (.pair (.int .u32) (.int .u32)) ((out ++ [(b_0, b_1)]) ++ [(t12.getD t14.toNat (0, 0))])))), (6, .one (.c (.d (.bool true)))), (12, .one (.c (.d (.sl (.pair (.int .u32) (.int .u32)) t12)))), (13, .one (.c (.d (.int .i64 t13)))), (14, .one (.c (.d (.int .i64 t14))))], [(2, some ⟨160, 0⟩)], [(0, [.d (.int .u32 x_0), .d (.int .i64 x_1), .d (.sl (.pair (.int .u32) (.int .u32)) x_2)]), (1, [.d (.int .u32 b_0), .d (.int .u32 b_1)])], 3⟩ [(out ++ [(b_0, b_1)]).length + [(t12.getD t14.toNat (0, 0))].length ≤ maxLen ∧ ((out ++ [(b_0, b_1)]).length + [(t12.getD t14.toNat (0, 0))].length) * 8 ≤ 140737488355328] (by kernel_rfl) ⟨g406_0, trivial⟩ ?_
            refine At.step hm ht ⟨[], [], [], [0, 3, 5, 6, 12, 13, 14], [0, 1, 2]⟩ 4 ⟨[(0, .one (.c (.ptr 0 0))), (3, .one (.c (.ptr 1 0))), (5, .one (.c (.own 2 (.pair (.int .u32) (.int .u32)) ((out ++ [(b_0, b_1)]) ++ [(t12.getD t14.toNat (0, 0))])))), (6, .one (.c (.d (.bool true)))), (12, .one (.c (.d (.sl (.pair (.int .u32) (.int .u32)) t12)))), (13, .one (.c (.d (.int .i64 t13)))), (14, .one (.c (.d (.int .i64 (IntKind.wrap .i64 (t14 + 1))))))], [(2, some ⟨160, 0⟩)], [(0, [.d (.int .u32 x_0), .d (.int .i64 x_1), .d (.sl (.pair (.int .u32) (.int .u32)) x_2)]), (1, [.d (.int .u32 b_0), .d (.int .u32 b_1)])], 3⟩ [] (by kernel_rfl) trivial ?_
            exact ih ((out ++ [(b_0, b_1)]) ++ [(t12.getD t14.toNat (0, 0))]) true t12 t13 (IntKind.wrap .i64 (t14 + 1)) x_0 x_1 x_2 b_0 b_1 w h o hk
          · refine At.step hm ht ⟨[], [false], [], [0, 3, 5, 6, 8, 12, 13, 14], [0, 1, 2, 3]⟩ 15 ⟨[(0, .one (.c (.ptr 0 0))), (3, .one (.c (.ptr 1 0))), (5, .one (.c (.own 2 (.pair (.int .u32) (.int .u32)) out))), (6, .one (.c (.d (.bool done)))), (8, .one (.c (.ptr 3 0))), (12, .one (.c (.d (.sl (.pair (.int .u32) (.int .u32)) t12)))), (13, .one (.c (.d (.int .i64 t13)))), (14, .one (.c (.d (.int .i64 t14))))], [(2, some ⟨160, 0⟩)], [(0, [.d (.int .u32 x_0), .d (.int .i64 x_1), .d (.sl (.pair (.int .u32) (.int .u32)) x_2)]), (1, [.d (.int .u32 b_0), .d (.int .u32 b_1)]), (3, [.d (.int .u32 ((t12.getD t14.toNat (0, 0)).1)), .d (.int .u32 ((t12.getD t14.toNat (0, 0)).2))])], 4⟩ [(!done) = false] (by kernel_rfl) ⟨b403_e0, trivial⟩ ?_
            obtain ⟨g408_0, h⟩ := ifS h
            refine At.step hm ht ⟨[], [], [], [0, 3, 5, 6, 12, 13, 14], [0, 1, 7]⟩ 16 ⟨[(0, .one (.c (.ptr 0 0))), (3, .one (.c (.ptr 1 0))), (5, .one (.c (.own 2 (.pair (.int .u32) (.int .u32)) (out ++ [(t12.getD t14.toNat (0, 0))])))), (6, .one (.c (.d (.bool done)))), (12, .one (.c (.d (.sl (.pair (.int .u32) (.int .u32)) t12)))), (13, .one (.c (.d (.int .i64 t13)))), (14, .one (.c (.d (.int .i64 t14))))], [(2, some ⟨160, 0⟩)], [(0, [.d (.int .u32 x_0), .d (.int .i64 x_1), .d (.sl (.pair (.int .u32) (.int .u32)) x_2)]), (1, [.d (.int .u32 b_0), .d (.int .u32 b_1)])], 3⟩ [out.length + [(t12.getD t14.toNat (0, 0))].length ≤ maxLen ∧ (out.length + [(t12.getD t14.toNat (0, 0))].length) * 8 ≤ 140737488355328] (by kernel_rfl) ⟨g408_0, trivial⟩ ?_
            refine At.step hm ht ⟨[], [], [], [0, 3, 5, 6, 12, 13, 14], [0, 1, 2]⟩ 4 ⟨[(0, .one (.c (.ptr 0 0))), (3, .one (.c (.ptr 1 0))), (5, .one (.c (.own 2 (.pair (.int .u32) (.int .u32)) (out ++ [(t12.getD t14.toNat (0, 0))])))), (6, .one (.c (.d (.bool done)))), (12, .one (.c (.d (.sl (.pair (.int .u32) (.int .u32)) t12)))), (13, .one (.c (.d (.int .i64 t13)))), (14, .one (.c (.d (.int .i64 (IntKind.wrap .i64 (t14 + 1))))))], [(2, some ⟨160, 0⟩)], [(0, [.d (.int .u32 x_0), .d (.int .i64 x_1), .d (.sl (.pair (.int .u32) (.int .u32)) x_2)]), (1, [.d (.int .u32 b_0), .d (.int .u32 b_1)])], 3⟩ [] (by kernel_rfl) trivial ?_
            exact ih (out ++ [(t12.getD t14.toNat (0, 0))]) done t12 t13 (IntKind.wrap .i64 (t14 + 1)) x_0 x_1 x_2 b_0 b_1 w h o hk
        · refine At.step hm ht ⟨[(4, .call [] [] (f91_serial_Less_out r402_0))], [false], [], [0, 3, 5, 6, 8, 12, 13, 14], [0, 1, 2, 3]⟩ 6 ⟨[(0, .one (.c (.ptr 0 0))), (3, .one (.c (.ptr 1 0))), (5, .one (.c (.own 2 (.pair (.int .u32) (.int .u32)) out))), (6, .one (.c (.d (.bool done)))), (8, .one (.c (.ptr 3 0))), (12, .one (.c (.d (.sl (.pair (.int .u32) (.int .u32)) t12)))), (13, .one (.c (.d (.int .i64 t13)))), (14, .one (.c (.d (.int .i64 t14))))], [(2, some ⟨160, 0⟩)], [(0, [.d (.int .u32 x_0), .d (.int .i64 x_1), .d (.sl (.pair (.int .u32) (.int .u32)) x_2)]), (1, [.d (.int .u32 b_0), .d (.int .u32 b_1)]), (3, [.d (.int .u32 ((t12.getD t14.toNat (0, 0)).1)), .d (.int .u32 ((t12.getD t14.toNat (0, 0)).2))])], 4⟩ [FnOK Go.Proofs.Try.prog 91 (f91_serial_Less_in b_1 ((t12.getD t14.toNat (0, 0)).1)) (f91_serial_Less_out r402_0), r402_0 = false] (by kernel_rfl) ⟨(f91_serial_Less_ok b_1 ((t12.getD t14.toNat (0, 0)).1) r402_0 cr402_0), b402_e0, trivial⟩ ?_
          obtain ⟨r410_0, cr410_0, h⟩ := bindS h
          rcases iteS h with ⟨b410_e0, h⟩ | ⟨b410_e0, h⟩
          · refine At.step hm ht ⟨[(4, .call [] [] (f91_serial_Less_out r410_0))], [true], [], [0, 3, 5, 6, 8, 12, 13, 14], [0, 1, 2, 3]⟩ 7 ⟨[(0, .one (.c (.ptr 0 0))), (3, .one (.c (.ptr 1 0))), (5, .one (.c (.own 2 (.pair (.int .u32) (.int .u32)) out))), (6, .one (.c (.d (.bool done)))), (8, .one (.c (.ptr 3 0))), (12, .one (.c (.d (.sl (.pair (.int .u32) (.int .u32)) t12)))), (13, .one (.c (.d (.int .i64 t13)))), (14, .one (.c (.d (.int .i64 t14))))], [(2, some ⟨160, 0⟩)], [(0, [.d (.int .u32 x_0), .d (.int .i64 x_1), .d (.sl (.pair (.int .u32) (.int .u32)) x_2)]), (1, [.d (.int .u32 b_0), .d (.int .u32 b_1)]), (3, [.d (.int .u32 ((t12.getD t14.toNat (0, 0)).1)), .d (.int .u32 ((t12.getD t14.toNat (0, 0)).2))])], 4⟩ [FnOK Go.Proofs.Try.prog 91 (f91_serial_Less_in ((t12.getD t14.toNat (0, 0)).1) b_0) (f91_serial_Less_out r410_0), r410_0 = true] (by kernel_rfl) ⟨(f91_serial_Less_ok ((t12.getD t14.toNat (0, 0)).1) b_0 r410_0 cr410_0), b410_e0, trivial⟩ ?_
            refine At.step hm ht ⟨[], [], [], [0, 3, 5, 6, 8, 12, 13, 14], [0, 1, 2, 3]⟩ 8 ⟨[(0, .one (.c (.ptr 0 0))), (3, .one (.c (.ptr 1 0))), (5, .one (.c (.own 2 (.pair (.int .u32) (.int .u32)) out))), (6, .one (.c (.d (.bool done)))), (8, .one (.c (.ptr 3 0))), (12, .one (.c (.d (.sl (.pair (.int .u32) (.int .u32)) t12)))), (13, .one (.c (.d (.int .i64 t13)))), (14, .one (.c (.d (.int .i64 t14))))], [(2, some ⟨160, 0⟩)], [(0, [.d (.int .u32 x_0), .d (.int .i64 x_1), .d (.sl (.pair (.int .u32) (.int .u32)) x_2)]), (1, [.d (.int .u32 ((t12.getD t14.toNat (0, 0)).1)), .d (.int .u32 b_1)]), (3, [.d (.int .u32 ((t12.getD t14.toNat (0, 0)).1)), .d (.int .u32 ((t12.getD t14.toNat (0, 0)).2))])], 4⟩ [0 + 1 ≤ 2] (by kernel_rfl) ⟨(by decide), trivial⟩ ?_
            obtain ⟨r412_0, cr412_0, h⟩ := bindS h
            refine At.step hm ht ⟨[(4, .call [] [] (f128_serial_Max_out r412_0))], [], [], [0, 3, 5, 6, 12, 13, 14], [0, 1, 2]⟩ 16 ⟨[(0, .one (.c (.ptr 0 0))), (3, .one (.c (.ptr 1 0))), (5, .one (.c (.own 2 (.pair (.int .u32) (.int .u32)) out))), (6, .one (.c (.d (.bool done)))), (12, .one (.c (.d (.sl (.pair (.int .u32) (.int .u32)) t12)))), (13, .one (.c (.d (.int .i64 t13)))), (14, .one (.c (.d (.int .i64 t14))))], [(2, some ⟨160, 0⟩)], [(0, [.d (.int .u32 x_0), .d (.int .i64 x_1), .d (.sl (.pair (.int .u32) (.int .u32)) x_2)]), (1, [.d (.int .u32 ((t12.getD t14.toNat (0, 0)).1)), .d (.int .u32 r412_0)])], 3⟩ [FnOK Go.Proofs.Try.prog 128 (f128_serial_Max_in b_1 ((t12.getD t14.toNat (0, 0)).2)) (f128_serial_Max_out r412_0), 1 + 1 ≤ 2] (by kernel_rfl) ⟨(f128_serial_Max_ok b_1 ((t12.getD t14.toNat (0, 0)).2) r412_0 cr412_0), (by decide), trivial⟩ ?_
            refine At.step hm ht ⟨[], [], [], [0, 3, 5, 6, 12, 13, 14], [0, 1, 2]⟩ 4 ⟨[(0, .one (.c (.ptr 0 0))), (3, .one (.c (.ptr 1 0))), (5, .one (.c (.own 2 (.pair (.int .u32) (.int .u32)) out))), (6, .one (.c (.d (.bool done)))), (12, .one (.c (.d (.sl (.pair (.int .u32) (.int .u32)) t12)))), (13, .one (.c (.d (.int .i64 t13)))), (14, .one (.c (.d (.int .i64 (IntKind.wrap .i64 (t14 + 1))))))], [(2, some ⟨160, 0⟩)], [(0, [.d (.int .u32 x_0), .d (.int .i64 x_1), .d (.sl (.pair (.int .u32) (.int .u32)) x_2)]), (1, [.d (.int .u32 ((t12.getD t14.toNat (0, 0)).1)), .d (.int .u32 r412_0)])], 3⟩ [] (by kernel_rfl) trivial ?_
            exact ih out done t12 t13 (IntKind.wrap .i64 (t14 + 1)) x_0 x_1 x_2 ((t12.getD t14.toNat (0, 0)).1) r412_0 w h o hk
          · refine At.step hm ht ⟨[(4, .call [] [] (f91_serial_Less_out r410_0))], [false], [], [0, 3, 5, 6, 8, 12, 13, 14], [0, 1, 2, 3]⟩ 8 ⟨[(0, .one (.c (.ptr 0 0))), (3, .one (.c (.ptr 1 0))), (5, .one (.c (.own 2 (.pair (.int .u32) (.int .u32)) out))), (6, .one (.c (.d (.bool done)))), (8, .one (.c (.ptr 3 0))), (12, .one (.c (.d (.sl (.pair (.int .u32) (.int .u32)) t12)))), (13, .one (.c (.d (.int .i64 t13)))), (14, .one (.c (.d (.int .i64 t14))))], [(2, some ⟨160, 0⟩)], [(0, [.d (.int .u32 x_0), .d (.int .i64 x_1), .d (.sl (.pair (.int .u32) (.int .u32)) x_2)]), (1, [.d (.int .u32 b_0), .d (.int .u32 b_1)]), (3, [.d (.int .u32 ((t12.getD t14.toNat (0, 0)).1)), .d (.int .u32 ((t12.getD t14.toNat (0, 0)).2))])], 4⟩ [FnOK Go.Proofs.Try.prog 91 (f91_serial_Less_in ((t12.getD t14.toNat (0, 0)).1) b_0) (f91_serial_Less_out r410_0), r410_0 = false] (by kernel_rfl) ⟨(f91_serial_Less_ok ((t12.getD t14.toNat (0, 0)).1) b_0 r410_0 cr410_0), b410_e0, trivial⟩ ?_
            obtain ⟨r414_0, cr414_0, h⟩ := bindS h
            refine At.step hm ht ⟨[(4, .call [] [] (f128_serial_Max_out r414_0))], [], [], [0, 3, 5, 6, 12, 13, 14], [0, 1, 2]⟩ 16 ⟨[(0, .one (.c (.ptr 0 0))), (3, .one (.c (.ptr 1 0))), (5, .one (.c (.own 2 (.pair (.int .u32) (.int .u32)) out))), (6, .one (.c (.d (.bool done)))), (12, .one (.c (.d (.sl (.pair (.int .u32) (.int .u32)) t12)))), (13, .one (.c (.d (.int .i64 t13)))), (14, .one (.c (.d (.int .i64 t14))))], [(2, some ⟨160, 0⟩)], [(0, [.d (.int .u32 x_0), .d (.int .i64 x_1), .d (.sl (.pair (.int .u32) (.int .u32)) x_2)]), (1, [.d (.int .u32 b_0), .d (.int .u32 r414_0)])], 3⟩ [FnOK Go.Proofs.Try.prog 128 (f128_serial_Max_in b_1 ((t12.getD t14.toNat (0, 0)).2)) (f128_serial_Max_out r414_0), 1 + 1 ≤ 2] (by kernel_rfl) ⟨(f128_serial_Max_ok b_1 ((t12.getD t14.toNat (0, 0)).2) r414_0 cr414_0), (by decide), trivial⟩ ?_
            refine At.step hm ht ⟨[], [], [], [0, 3, 5, 6, 12, 13, 14], [0, 1, 2]⟩ 4 ⟨[(0, .one (.c (.ptr 0 0))), (3, .one (.c (.ptr 1 0))), (5, .one (.c (.own 2 (.pair (.int .u32) (.int .u32)) out))), (6, .one (.c (.d (.bool done)))), (12, .one (.c (.d (.sl (.pair (.int .u32) (.int .u32)) t12)))), (13, .one (.c (.d (.int .i64 t13)))), (14, .one (.c (.d (.int .i64 (IntKind.wrap .i64 (t14 + 1))))))], [(2, some ⟨160, 0⟩)], [(0, [.d (.int .u32 x_0), .d (.int .i64 x_1), .d (.sl (.pair (.int .u32) (.int .u32)) x_2)]), (1, [.d (.int .u32 b_0), .d (.int .u32 r414_0)])], 3⟩ [] (by kernel_rfl) trivial ?_
            exact ih out done t12 t13 (IntKind.wrap .i64 (t14 + 1)) x_0 x_1 x_2 b_0 r414_0 w h o hk
    · refine At.step hm ht ⟨[], [false], [], [0, 3, 5, 6], [0, 1, 2]⟩ 17 ⟨[(0, .one (.c (.ptr 0 0))), (3, .one (.c (.ptr 1 0))), (5, .one (.c (.own 2 (.pair (.int .u32) (.int .u32)) out))), (6, .one (.c (.d (.bool done))))], [(2, some ⟨160, 0⟩)], [(0, [.d (.int .u32 x_0), .d (.int .i64 x_1), .d (.sl (.pair (.int .u32) (.int .u32)) x_2)]), (1, [.d (.int .u32 b_0), .d (.int .u32 b_1)])], 3⟩ [(decide ((t14 : Int) < t13)) = false] (by kernel_rfl) ⟨b397_e0, trivial⟩ ?_
      have h := Option.some.inj h
      subst h
      exact hk
def f93_sack_Board_put_v2 (n : Nat) (b_0 : Int) (b_1 : Int) (x_0 : Int) (x_1 : Int) (x_2 : List (Int × Int)) : Option (Bool × Int × Int × List (Int × Int)) :=
  (f93_sack_Board_put_v2_L4 n [] false x_2 ((x_2.length : Nat) : Int) 0 x_0 x_1 x_2 b_0 b_1).bind fun w416 =>
  if (!w416.2.1) = true then
    if w416.1.length + [w416.2.2.2.2.2].length ≤ maxLen ∧ (w416.1.length + [w416.2.2.2.2.2].length) * 8 ≤ 140737488355328 then
    if (0 : Int) ≤ 0 ∧ 0 < ((((w416.1 ++ [w416.2.2.2.2.2])).length : Nat) : Int) then
    if (((((w416.1 ++ [w416.2.2.2.2.2]).getD 0 (0, 0)).1) : Int) == w416.2.2.1) = true then
      if (0 : Int) ≤ 0 ∧ 0 < ((((w416.1 ++ [w416.2.2.2.2.2])).length : Nat) : Int) then
      if cutOk (w416.1 ++ [w416.2.2.2.2.2]).length (some 1) none none then
      if (decide (((((((w416.1 ++ [w416.2.2.2.2.2]).take (w416.1 ++ [w416.2.2.2.2.2]).length).drop 1).length : Nat) : Int) : Int) > w416.2.2.2.1)) = true then
        some (false, ((w416.1 ++ [w416.2.2.2.2.2]).getD 0 (0, 0)).2, w416.2.2.2.1, w416.2.2.2.2.1)
      else
        (f94_sack_Block (((w416.1 ++ [w416.2.2.2.2.2]).take (w416.1 ++ [w416.2.2.2.2.2]).length).drop 1)).bind fun r425_0 =>
        some (true, ((w416.1 ++ [w416.2.2.2.2.2]).getD 0 (0, 0)).2, w416.2.2.2.1, r425_0)
      else none
      else none
    else
      if (decide (((((w416.1 ++ [w416.2.2.2.2.2]).length : Nat) : Int) : Int) > w416.2.2.2.1)) = true then
        some (false, w416.2.2.1, w416.2.2.2.1, w416.2.2.2.2.1)
      else
        (f94_sack_Block (w416.1 ++ [w416.2.2.2.2.2])).bind fun r429_0 =>
        some (true, w416.2.2.1, w416.2.2.2.1, r429_0)
    else none
    else none
  else
    if (0 : Int) ≤ 0 ∧ 0 < (((w416.1).length : Nat) : Int) then
    if ((((w416.1.getD 0 (0, 0)).1) : Int) == w416.2.2.1) = true then
      if (0 : Int) ≤ 0 ∧ 0 < (((w416.1).length : Nat) : Int) then
      if cutOk w416.1.length (some 1) none none then
      if (decide ((((((w416.1.take w416.1.length).drop 1).length : Nat) : Int) : Int) > w416.2.2.2.1)) = true then
        some (false, (w416.1.getD 0 (0, 0)).2, w416.2.2.2.1, w416.2.2.2.2.1)
      else
        (f94_sack_Block ((w416.1.take w416.1.length).drop 1)).bind fun r436_0 =>
        some (true, (w416.1.getD 0 (0, 0)).2, w416.2.2.2.1, r436_0)
      else none
      else none
    else
      if (decide ((((w416.1.length : Nat) : Int) : Int) > w416.2.2.2.1)) = true then
        some (false, w416.2.2.1, w416.2.2.2.1, w416.2.2.2.2.1)
      else
        (f94_sack_Block w416.1).bind fun r440_0 =>
        some (true, w416.2.2.1, w416.2.2.2.1, r440_0)
    else none
theorem f93_sack_Board_put_v2_ok (n : Nat) (b_0 : Int) (b_1 : Int) (x_0 : Int) (x_1 : Int) (x_2 : List (Int × Int)) (r : Bool × Int × Int × List (Int × Int)) (h : f93_sack_Board_put_v2 n b_0 b_1 x_0 x_1 x_2 = some r) : FnOK Go.Proofs.Try.prog 93 (f93_sack_Board_put_v2_in b_0 b_1 x_0 x_1 x_2) (f93_sack_Board_put_v2_out r) := by
  unfold f93_sack_Board_put_v2 at h
  refine At.fn (r := 0) Go.Proofs.Try.func93 rfl (by kernel_rfl) rfl rfl (by kernel_rfl) ?_
  show At Go.Proofs.Try.prog Go.Proofs.Try.f93 1 0 ⟨[(0, .one (.c (.ptr 0 0))), (1, .one (.agg [.d (.int .u32 b_0), .d (.int .u32 b_1)]))], [], [(0, [.d (.int .u32 x_0), .d (.int .i64 x_1), .d (.sl (.pair (.int .u32) (.int .u32)) x_2)])], 1⟩ _
  refine At.step hm ht ⟨[], [], [], [0, 3], [0, 1]⟩ 1 ⟨[(0, .one (.c (.ptr 0 0))), (3, .one (.c (.ptr 1 0)))], [], [(0, [.d (.int .u32 x_0), .d (.int .i64 x_1), .d (.sl (.pair (.int .u32) (.int .u32)) x_2)]), (1, [.d (.int .u32 b_0), .d (.int .u32 b_1)])], 2⟩ [] (by kernel_rfl) trivial ?_
  refine At.step hm ht ⟨[], [], [], [0, 3, 5], [0, 1]⟩ 2 ⟨[(0, .one (.c (.ptr 0 0))), (3, .one (.c (.ptr 1 0))), (5, .one (.c (.d (.sl .unit []))))], [], [(0, [.d (.int .u32 x_0), .d (.int .i64 x_1), .d (.sl (.pair (.int .u32) (.int .u32)) x_2)]), (1, [.d (.int .u32 b_0), .d (.int .u32 b_1)])], 2⟩ [] (by kernel_rfl) trivial ?_
  refine At.step hm ht ⟨[], [], [], [0, 3, 5, 6], [0, 1]⟩ 3 ⟨[(0, .one (.c (.ptr 0 0))), (3, .one (.c (.ptr 1 0))), (5, .one (.c (.d (.sl .unit [])))), (6, .one (.c (.d (.bool false))))], [], [(0, [.d (.int .u32 x_0), .d (.int .i64 x_1), .d (.sl (.pair (.int .u32) (.int .u32)) x_2)]), (1, [.d (.int .u32 b_0), .d (.int .u32 b_1)])], 2⟩ [] (by kernel_rfl) trivial ?_
  refine At.step hm ht ⟨[], [], [.nil false 5 0 (.pair (.int .u32) (.int .u32)) (some 160)], [0, 3, 5, 6, 12, 13, 14], [0, 1, 8]⟩ 4 ⟨[(0, .one (.c (.ptr 0 0))), (3, .one (.c (.ptr 1 0))), (5, .one (.c (.own 2 (.pair (.int .u32) (.int .u32)) []))), (6, .one (.c (.d (.bool false)))), (12, .one (.c (.d (.sl (.pair (.int .u32) (.int .u32)) x_2)))), (13, .one (.c (.d (.int .i64 ((x_2.length : Nat) : Int))))), (14, .one (.c (.d (.int .i64 0))))], [(2, some ⟨160, 0⟩)], [(0, [.d (.int .u32 x_0), .d (.int .i64 x_1), .d (.sl (.pair (.int .u32) (.int .u32)) x_2)]), (1, [.d (.int .u32 b_0), .d (.int .u32 b_1)])], 3⟩ [] (by kernel_rfl) trivial ?_
  obtain ⟨w416, cw416, h⟩ := bindS h
  refine f93_sack_Board_put_v2_L4_ok n [] false x_2 ((x_2.length : Nat) : Int) 0 x_0 x_1 x_2 b_0 b_1 w416 cw416 _ ?_
  show At Go.Proofs.Try.prog Go.Proofs.Try.f93 1 17 ⟨[(0, .one (.c (.ptr 0 0))), (3, .one (.c (.ptr 1 0))), (5, .one (.c (.own 2 (.pair (.int .u32) (.int .u32)) w416.1))), (6, .one (.c (.d (.bool w416.2.1))))], [(2, some ⟨160, 0⟩)], [(0, [.d (.int .u32 w416.2.2.1), .d (.int .i64 w416.2.2.2.1), .d (.sl (.pair (.int .u32) (.int .u32)) w416.2.2.2.2.1)]), (1, [.d (.int .u32 w416.2.2.2.2.2.1), .d (.int .u32 w416.2.2.2.2.2.2)])], 3⟩ _
  rcases iteS h with ⟨b418_e0, h⟩ | ⟨b418_e0, h⟩
  · refine At.step hm ht ⟨[], [true], [], [0, 3, 5], [0, 1, 2]⟩ 18 ⟨[(0, .one (.c (.ptr 0 0))), (3, .one (.c (.ptr 1 0))), (5, .one (.c (.own 2 (.pair (.int .u32) (.int .u32)) w416.1)))], [(2, some ⟨160, 0⟩)], [(0, [.d (.int .u32 w416.2.2.1), .d (.int .i64 w416.2.2.2.1), .d (.sl (.pair (.int .u32) (.int .u32)) w416.2.2.2.2.1)]), (1, [.d (.int .u32 w416.2.2.2.2.2.1), .d (.int .u32 w416.2.2.2.2.2.2)])], 3⟩ [(!w416.2.1) = true] (by kernel_rfl) ⟨b418_e0, trivial⟩ ?_
    obtain ⟨g419_0, h⟩ := ifS h
    refine At.step hm ht ⟨[], [], [], [0, 5], [0, 6]⟩ 19 ⟨[(0, .one (.c (.ptr 0 0))), (5, .one (.c (.own 1 (.pair (.int .u32) (.int .u32)) (w416.1 ++ [w416.2.2.2.2.2]))))], [(1, some ⟨160, 0⟩)], [(0, [.d (.int .u32 w416.2.2.1), .d (.int .i64 w416.2.2.2.1), .d (.sl (.pair (.int .u32) (.int .u32)) w416.2.2.2.2.1)])], 2⟩ [w416.1.length + [w416.2.2.2.2.2].length ≤ maxLen ∧ (w416.1.length + [w416.2.2.2.2.2].length) * 8 ≤ 140737488355328] (by kernel_rfl) ⟨g419_0, trivial⟩ ?_
    obtain ⟨g420_0, h⟩ := ifS h
    rcases iteS h with ⟨b420_e0, h⟩ | ⟨b420_e0, h⟩
    · refine At.step hm ht ⟨[], [true], [], [0, 5], [0, 1]⟩ 20 ⟨[(0, .one (.c (.ptr 0 0))), (5, .one (.c (.own 1 (.pair (.int .u32) (.int .u32)) (w416.1 ++ [w416.2.2.2.2.2]))))], [(1, some ⟨160, 0⟩)], [(0, [.d (.int .u32 w416.2.2.1), .d (.int .i64 w416.2.2.2.1), .d (.sl (.pair (.int .u32) (.int .u32)) w416.2.2.2.2.1)])], 2⟩ [(0 : Int) ≤ 0 ∧ 0 < ((((w416.1 ++ [w416.2.2.2.2.2])).length : Nat) : Int), (((((w416.1 ++ [w416.2.2.2.2.2]).getD 0 (0, 0)).1) : Int) == w416.2.2.1) = true] (by kernel_rfl) ⟨g420_0, b420_e0, trivial⟩ ?_
      obtain ⟨g421_0, h⟩ := ifS h
      refine At.step hm ht ⟨[], [], [], [0, 5], [0, 1]⟩ 21 ⟨[(0, .one (.c (.ptr 0 0))), (5, .one (.c (.own 1 (.pair (.int .u32) (.int .u32)) (w416.1 ++ [w416.2.2.2.2.2]))))], [(1, some ⟨160, 0⟩)], [(0, [.d (.int .u32 (((w416.1 ++ [w416.2.2.2.2.2]).getD 0 (0, 0)).2)), .d (.int .i64 w416.2.2.2.1), .d (.sl (.pair (.int .u32) (.int .u32)) w416.2.2.2.2.1)])], 2⟩ [(0 : Int) ≤ 0 ∧ 0 < ((((w416.1 ++ [w416.2.2.2.2.2])).length : Nat) : Int), 0 + 1 ≤ 3] (by kernel_rfl) ⟨g421_0, (by decide), trivial⟩ ?_
      obtain ⟨g422_0, h⟩ := ifS h
      refine At.step hm ht ⟨[], [], [], [0, 5], [0]⟩ 22 ⟨[(0, .one (.c (.ptr 0 0))), (5, .one (.c (.d (.sl (.pair (.int .u32) (.int .u32)) (((w416.1 ++ [w416.2.2.2.2.2]).take (w416.1 ++ [w416.2.2.2.2.2]).length).drop 1)))))], [], [(0, [.d (.int .u32 (((w416.1 ++ [w416.2.2.2.2.2]).getD 0 (0, 0)).2)), .d (.int .i64 w416.2.2.2.1), .d (.sl (.pair (.int .u32) (.int .u32)) w416.2.2.2.2.1)])], 1⟩ [cutOk (w416.1 ++ [w416.2.2.2.2.2]).length (some 1) none none] (by kernel_rfl) ⟨g422_0, trivial⟩ ?_
      rcases iteS h with ⟨b423_e0, h⟩ | ⟨b423_e0, h⟩
      · refine At.step hm ht ⟨[], [true], [], [], [0]⟩ 23 ⟨[], [], [(0, [.d (.int .u32 (((w416.1 ++ [w416.2.2.2.2.2]).getD 0 (0, 0)).2)), .d (.int .i64 w416.2.2.2.1), .d (.sl (.pair (.int .u32) (.int .u32)) w416.2.2.2.2.1)])], 1⟩ [(decide (((((((w416.1 ++ [w416.2.2.2.2.2]).take (w416.1 ++ [w416.2.2.2.2.2]).length).drop 1).length : Nat) : Int) : Int) > w416.2.2.2.1)) = true] (by kernel_rfl) ⟨b423_e0, trivial⟩ ?_
        have h := Option.some.inj h
        subst h
        exact At.fin hm ht ⟨[], [], [], [4], [0]⟩ [] (by kernel_rfl) trivial
      · refine At.step hm ht ⟨[], [false], [], [0, 5], [0]⟩ 24 ⟨[(0, .one (.c (.ptr 0 0))), (5, .one (.c (.d (.sl (.pair (.int .u32) (.int .u32)) (((w416.1 ++ [w416.2.2.2.2.2]).take (w416.1 ++ [w416.2.2.2.2.2]).length).drop 1)))))], [], [(0, [.d (.int .u32 (((w416.1 ++ [w416.2.2.2.2.2]).getD 0 (0, 0)).2)), .d (.int .i64 w416.2.2.2.1), .d (.sl (.pair (.int .u32) (.int .u32)) w416.2.2.2.2.1)])], 1⟩ [(decide (((((((w416.1 ++ [w416.2.2.2.2.2]).take (w416.1 ++ [w416.2.2.2.2.2]).length).drop 1).length : Nat) : Int) : Int) > w416.2.2.2.1)) = false] (by kernel_rfl) ⟨b423_e0, trivial⟩ ?_
        obtain ⟨r425_0, cr425_0, h⟩ := bindS h
        refine At.step hm ht ⟨[(2, .call [] [] (f94_sack_Block_out r425_0))], [], [], [], [0]⟩ 25 ⟨[], [], [(0, [.d (.int .u32 (((w416.1 ++ [w416.2.2.2.2.2]).getD 0 (0, 0)).2)), .d (.int .i64 w416.2.2.2.1), .d (.sl (.pair (.int .u32) (.int .u32)) r425_0)])], 1⟩ [FnOK Go.Proofs.Try.prog 94 (f94_sack_Block_in (((w416.1 ++ [w416.2.2.2.2.2]).take (w416.1 ++ [w416.2.2.2.2.2]).length).drop 1)) (f94_sack_Block_out r425_0), 2 + 1 ≤ 3] (by kernel_rfl) ⟨(f94_sack_Block_ok (((w416.1 ++ [w416.2.2.2.2.2]).take (w416.1 ++ [w416.2.2.2.2.2]).length).drop 1) r425_0 cr425_0), (by decide), trivial⟩ ?_
        have h := Option.some.inj h
        subst h
        exact At.fin hm ht ⟨[], [], [], [4], [0]⟩ [] (by kernel_rfl) trivial
    · refine At.step hm ht ⟨[], [false], [], [0, 5], [0, 1]⟩ 22 ⟨[(0, .one (.c (.ptr 0 0))), (5, .one (.c (.own 1 (.pair (.int .u32) (.int .u32)) (w416.1 ++ [w416.2.2.2.2.2]))))], [(1, some ⟨160, 0⟩)], [(0, [.d (.int .u32 w416.2.2.1), .d (.int .i64 w416.2.2.2.1), .d (.sl (.pair (.int .u32) (.int .u32)) w416.2.2.2.2.1)])], 2⟩ [(0 : Int) ≤ 0 ∧ 0 < ((((w416.1 ++ [w416.2.2.2.2.2])).length : Nat) : Int), (((((w416.1 ++ [w416.2.2.2.2.2]).getD 0 (0, 0)).1) : Int) == w416.2.2.1) = false] (by kernel_rfl) ⟨g420_0, b420_e0, trivial⟩ ?_
      rcases iteS h with ⟨b427_e0, h⟩ | ⟨b427_e0, h⟩
      · refine At.step hm ht ⟨[], [true], [], [], [0]⟩ 23 ⟨[], [], [(0, [.d (.int .u32 w416.2.2.1), .d (.int .i64 w416.2.2.2.1), .d (.sl (.pair (.int .u32) (.int .u32)) w416.2.2.2.2.1)])], 1⟩ [(decide (((((w416.1 ++ [w416.2.2.2.2.2]).length : Nat) : Int) : Int) > w416.2.2.2.1)) = true] (by kernel_rfl) ⟨b427_e0, trivial⟩ ?_
        have h := Option.some.inj h
        subst h
        exact At.fin hm ht ⟨[], [], [], [4], [0]⟩ [] (by kernel_rfl) trivial
      · refine At.step hm ht ⟨[], [false], [], [0, 5], [0, 1]⟩ 24 ⟨[(0, .one (.c (.ptr 0 0))), (5, .one (.c (.own 1 (.pair (.int .u32) (.int .u32)) (w416.1 ++ [w416.2.2.2.2.2]))))], [(1, some ⟨160, 0⟩)], [(0, [.d (.int .u32 w416.2.2.1), .d (.int .i64 w416.2.2.2.1), .d (.sl (.pair (.int .u32) (.int .u32)) w416.2.2.2.2.1)])], 2⟩ [(decide (((((w416.1 ++ [w416.2.2.2.2.2]).length : Nat) : Int) : Int) > w416.2.2.2.1)) = false] (by kernel_rfl) ⟨b427_e0, trivial⟩ ?_
        obtain ⟨r429_0, cr429_0, h⟩ := bindS h
        refine At.step hm ht ⟨[(2, .call [] [] (f94_sack_Block_out r429_0))], [], [], [], [0]⟩ 25 ⟨[], [], [(0, [.d (.int .u32 w416.2.2.1), .d (.int .i64 w416.2.2.2.1), .d (.sl (.pair (.int .u32) (.int .u32)) r429_0)])], 1⟩ [FnOK Go.Proofs.Try.prog 94 (f94_sack_Block_in (w416.1 ++ [w416.2.2.2.2.2])) (f94_sack_Block_out r429_0), 2 + 1 ≤ 3] (by kernel_rfl) ⟨(f94_sack_Block_ok (w416.1 ++ [w416.2.2.2.2.2]) r429_0 cr429_0), (by decide), trivial⟩ ?_
        have h := Option.some.inj h
        subst h
        exact At.fin hm ht ⟨[], [], [], [4], [0]⟩ [] (by kernel_rfl) trivial
  · refine At.step hm ht ⟨[], [false], [], [0, 5], [0, 2]⟩ 19 ⟨[(0, .one (.c (.ptr 0 0))), (5, .one (.c (.own 1 (.pair (.int .u32) (.int .u32)) w416.1)))], [(1, some ⟨160, 0⟩)], [(0, [.d (.int .u32 w416.2.2.1), .d (.int .i64 w416.2.2.2.1), .d (.sl (.pair (.int .u32) (.int .u32)) w416.2.2.2.2.1)])], 2⟩ [(!w416.2.1) = false] (by kernel_rfl) ⟨b418_e0, trivial⟩ ?_
    obtain ⟨g431_0, h⟩ := ifS h
    rcases iteS h with ⟨b431_e0, h⟩ | ⟨b431_e0, h⟩
    · refine At.step hm ht ⟨[], [true], [], [0, 5], [0, 1]⟩ 20 ⟨[(0, .one (.c (.ptr 0 0))), (5, .one (.c (.own 1 (.pair (.int .u32) (.int .u32)) w416.1)))], [(1, some ⟨160, 0⟩)], [(0, [.d (.int .u32 w416.2.2.1), .d (.int .i64 w416.2.2.2.1), .d (.sl (.pair (.int .u32) (.int .u32)) w416.2.2.2.2.1)])], 2⟩ [(0 : Int) ≤ 0 ∧ 0 < (((w416.1).length : Nat) : Int), ((((w416.1.getD 0 (0, 0)).1) : Int) == w416.2.2.1) = true] (by kernel_rfl) ⟨g431_0, b431_e0, trivial⟩ ?_
      obtain ⟨g432_0, h⟩ := ifS h
      refine At.step hm ht ⟨[], [], [], [0, 5], [0, 1]⟩ 21 ⟨[(0, .one (.c (.ptr 0 0))), (5, .one (.c (.own 1 (.pair (.int .u32) (.int .u32)) w416.1)))], [(1, some ⟨160, 0⟩)], [(0, [.d (.int .u32 ((w416.1.getD 0 (0, 0)).2)), .d (.int .i64 w416.2.2.2.1), .d (.sl (.pair (.int .u32) (.int .u32)) w416.2.2.2.2.1)])], 2⟩ [(0 : Int) ≤ 0 ∧ 0 < (((w416.1).length : Nat) : Int), 0 + 1 ≤ 3] (by kernel_rfl) ⟨g432_0, (by decide), trivial⟩ ?_
      obtain ⟨g433_0, h⟩ := ifS h
      refine At.step hm ht ⟨[], [], [], [0, 5], [0]⟩ 22 ⟨[(0, .one (.c (.ptr 0 0))), (5, .one (.c (.d (.sl (.pair (.int .u32) (.int .u32)) ((w416.1.take w416.1.length).drop 1)))))], [], [(0, [.d (.int .u32 ((w416.1.getD 0 (0, 0)).2)), .d (.int .i64 w416.2.2.2.1), .d (.sl (.pair (.int .u32) (.int .u32)) w416.2.2.2.2.1)])], 1⟩ [cutOk w416.1.length (some 1) none none] (by kernel_rfl) ⟨g433_0, trivial⟩ ?_
      rcases iteS h with ⟨b434_e0, h⟩ | ⟨b434_e0, h⟩
      · refine At.step hm ht ⟨[], [true], [], [], [0]⟩ 23 ⟨[], [], [(0, [.d (.int .u32 ((w416.1.getD 0 (0, 0)).2)), .d (.int .i64 w416.2.2.2.1), .d (.sl (.pair (.int .u32) (.int .u32)) w416.2.2.2.2.1)])], 1⟩ [(decide ((((((w416.1.take w416.1.length).drop 1).length : Nat) : Int) : Int) > w416.2.2.2.1)) = true] (by kernel_rfl) ⟨b434_e0, trivial⟩ ?_
        have h := Option.some.inj h
        subst h
        exact At.fin hm ht ⟨[], [], [], [4], [0]⟩ [] (by kernel_rfl) trivial
      · refine At.step hm ht ⟨[], [false], [], [0, 5], [0]⟩ 24 ⟨[(0, .one (.c (.ptr 0 0))), (5, .one (.c (.d (.sl (.pair (.int .u32) (.int .u32)) ((w416.1.take w416.1.length).drop 1)))))], [], [(0, [.d (.int .u32 ((w416.1.getD 0 (0, 0)).2)), .d (.int .i64 w416.2.2.2.1), .d (.sl (.pair (.int .u32) (.int .u32)) w416.2.2.2.2.1)])], 1⟩ [(decide ((((((w416.1.take w416.1.length).drop 1).length : Nat) : Int) : Int) > w416.2.2.2.1)) = false] (by kernel_rfl) ⟨b434_e0, trivial⟩ ?_
        obtain ⟨r436_0, cr436_0, h⟩ := bindS h
        refine At.step hm ht ⟨[(2, .call [] [] (f94_sack_Block_out r436_0))], [], [], [], [0]⟩ 25 ⟨[], [], [(0, [.d (.int .u32 ((w416.1.getD 0 (0, 0)).2)), .d (.int .i64 w416.2.2.2.1), .d (.sl (.pair (.int .u32) (.int .u32)) r436_0)])], 1⟩ [FnOK Go.Proofs.Try.prog 94 (f94_sack_Block_in ((w416.1.take w416.1.length).drop 1)) (f94_sack_Block_out r436_0), 2 + 1 ≤ 3] (by kernel_rfl) ⟨(f94_sack_Block_ok ((w416.1.take w416.1.length).drop 1) r436_0 cr436_0), (by decide), trivial⟩ ?_
        have h := Option.some.inj h
        subst h
        exact At.fin hm ht ⟨[], [], [], [4], [0]⟩ [] (by kernel_rfl) trivial
    · refine At.step hm ht ⟨[], [false], [], [0, 5], [0, 1]⟩ 22 ⟨[(0, .one (.c (.ptr 0 0))), (5, .one (.c (.own 1 (.pair (.int .u32) (.int .u32)) w416.1)))], [(1, some ⟨160, 0⟩)], [(0, [.d (.int .u32 w416.2.2.1), .d (.int .i64 w416.2.2.2.1), .d (.sl (.pair (.int .u32) (.int .u32)) w416.2.2.2.2.1)])], 2⟩ [(0 : Int) ≤ 0 ∧ 0 < (((w416.1).length : Nat) : Int), ((((w416.1.getD 0 (0, 0)).1) : Int) == w416.2.2.1) = false] (by kernel_rfl) ⟨g431_0, b431_e0, trivial⟩ ?_
      rcases iteS h with ⟨b438_e0, h⟩ | ⟨b438_e0, h⟩
      · refine At.step hm ht ⟨[], [true], [], [], [0]⟩ 23 ⟨[], [], [(0, [.d (.int .u32 w416.2.2.1), .d (.int .i64 w416.2.2.2.1), .d (.sl (.pair (.int .u32) (.int .u32)) w416.2.2.2.2.1)])], 1⟩ [(decide ((((w416.1.length : Nat) : Int) : Int) > w416.2.2.2.1)) = true] (by kernel_rfl) ⟨b438_e0, trivial⟩ ?_
        have h := Option.some.inj h
        subst h
        exact At.fin hm ht ⟨[], [], [], [4], [0]⟩ [] (by kernel_rfl) trivial
      · refine At.step hm ht ⟨[], [false], [], [0, 5], [0, 1]⟩ 24 ⟨[(0, .one (.c (.ptr 0 0))), (5, .one (.c (.own 1 (.pair (.int .u32) (.int .u32)) w416.1)))], [(1, some ⟨160, 0⟩)], [(0, [.d (.int .u32 w416.2.2.1), .d (.int .i64 w416.2.2.2.1), .d (.sl (.pair (.int .u32) (.int .u32)) w416.2.2.2.2.1)])], 2⟩ [(decide ((((w416.1.length : Nat) : Int) : Int) > w416.2.2.2.1)) = false] (by kernel_rfl) ⟨b438_e0, trivial⟩ ?_
        obtain ⟨r440_0, cr440_0, h⟩ := bindS h
        refine At.step hm ht ⟨[(2, .call [] [] (f94_sack_Block_out r440_0))], [], [], [], [0]⟩ 25 ⟨[], [], [(0, [.d (.int .u32 w416.2.2.1), .d (.int .i64 w416.2.2.2.1), .d (.sl (.pair (.int .u32) (.int .u32)) r440_0)])], 1⟩ [FnOK Go.Proofs.Try.prog 94 (f94_sack_Block_in w416.1) (f94_sack_Block_out r440_0), 2 + 1 ≤ 3] (by kernel_rfl) ⟨(f94_sack_Block_ok w416.1 r440_0 cr440_0), (by decide), trivial⟩ ?_
        have h := Option.some.inj h
        subst h
        exact At.fin hm ht ⟨[], [], [], [4], [0]⟩ [] (by kernel_rfl) trivial
/-! (*brougham/sack.Board).Came -/
def f33_sack_Board_Came_v2_in (from_ : Int) (many : Int) (x_0 : Int) (x_1 : Int) (x_2 : List (Int × Int)) : Inn := ⟨[.c (.ptr 0 0), .c (.d (.int .u32 from_)), .c (.d (.int .i64 many))], [], [(0, [.d (.int .u32 x_0), .d (.int .i64 x_1), .d (.sl (.pair (.int .u32) (.int .u32)) x_2)])], 1⟩
def f33_sack_Board_Came_v2_out (r : Bool × Int × Int × List (Int × Int)) : Out := ⟨.one (.c (.d (.bool r.1))), [], [(0, [.d (.int .u32 r.2.1), .d (.int .i64 r.2.2.1), .d (.sl (.pair (.int .u32) (.int .u32)) r.2.2.2)])], 1⟩
def f33_sack_Board_Came_v2 (n : Nat) (from_ : Int) (many : Int) (x_0 : Int) (x_1 : Int) (x_2 : List (Int × Int)) : Option (Bool × Int × Int × List (Int × Int)) :=
  if (decide ((many : Int) < 1)) = true then
    some (((many : Int) == 0), x_0, x_1, x_2)
  else
    if (decide ((many : Int) > 1024)) = true then
      some (((many : Int) == 0), x_0, x_1, x_2)
    else
      (f89_serial_Diff (IntKind.wrap .u32 (from_ + (IntKind.wrap .u32 many))) x_0).bind fun r374_0 =>
      if (decide ((r374_0 : Int) ≤ 0)) = true then
        (f90_serial_Near from_ x_0 1048576).bind fun r375_0 =>
        some (r375_0, x_0, x_1, x_2)
      else
        (f91_serial_Less from_ x_0).bind fun r376_0 =>
        if r376_0 = true then
          (f92_sack_Board_near_v2 x_0 x_0 x_1 x_2).bind fun r378_0 =>
          if (!r378_0.1) = true then
            some (false, r378_0.2.1, r378_0.2.2.1, r378_0.2.2.2)
          else
            (f92_sack_Board_near_v2 (IntKind.wrap .u32 (from_ + (IntKind.wrap .u32 many))) r378_0.2.1 r378_0.2.2.1 r378_0.2.2.2).bind fun r378_1 =>
            if (!r378_1.1) = true then
              some (false, r378_1.2.1, r378_1.2.2.1, r378_1.2.2.2)
            else
              (f93_sack_Board_put_v2 n x_0 (IntKind.wrap .u32 (from_ + (IntKind.wrap .u32 many))) r378_1.2.1 r378_1.2.2.1 r378_1.2.2.2).bind fun r383_0 =>
              some (r383_0.1, r383_0.2.1, r383_0.2.2.1, r383_0.2.2.2)
        else
          (f92_sack_Board_near_v2 from_ x_0 x_1 x_2).bind fun r442_0 =>
          if (!r442_0.1) = true then
            some (false, r442_0.2.1, r442_0.2.2.1, r442_0.2.2.2)
          else
            (f92_sack_Board_near_v2 (IntKind.wrap .u32 (from_ + (IntKind.wrap .u32 many))) r442_0.2.1 r442_0.2.2.1 r442_0.2.2.2).bind fun r442_1 =>
            if (!r442_1.1) = true then
              some (false, r442_1.2.1, r442_1.2.2.1, r442_1.2.2.2)
            else
              (f93_sack_Board_put_v2 n from_ (IntKind.wrap .u32 (from_ + (IntKind.wrap .u32 many))) r442_1.2.1 r442_1.2.2.1 r442_1.2.2.2).bind fun r445_0 =>
              some (r445_0.1, r445_0.2.1, r445_0.2.2.1, r445_0.2.2.2)
theorem f33_sack_Board_Came_v2_ok (n : Nat) (from_ : Int) (many : Int) (x_0 : Int) (x_1 : Int) (x_2 : List (Int × Int)) (r : Bool × Int × Int × List (Int × Int)) (h : f33_sack_Board_Came_v2 n from_ many x_0 x_1 x_2 = some r) : FnOK Go.Proofs.Try.prog 33 (f33_sack_Board_Came_v2_in from_ many x_0 x_1 x_2) (f33_sack_Board_Came_v2_out r) := by
  unfold f33_sack_Board_Came_v2 at h
  refine At.fn (r := 0) Go.Proofs.Try.func33 rfl (by kernel_rfl) rfl rfl (by kernel_rfl) ?_
  show At Go.Proofs.Try.prog Go.Proofs.Try.f33 1 0 ⟨[(0, .one (.c (.ptr 0 0))), (1, .one (.c (.d (.int .u32 from_)))), (2, .one (.c (.d (.int .i64 many))))], [], [(0, [.d (.int .u32 x_0), .d (.int .i64 x_1), .d (.sl (.pair (.int .u32) (.int .u32)) x_2)])], 1⟩ _
  refine At.step hm ht ⟨[], [], [], [0, 1, 2], [0]⟩ 1 ⟨[(0, .one (.c (.ptr 0 0))), (1, .one (.c (.d (.int .u32 from_)))), (2, .one (.c (.d (.int .i64 many))))], [], [(0, [.d (.int .u32 x_0), .d (.int .i64 x_1), .d (.sl (.pair (.int .u32) (.int .u32)) x_2)])], 1⟩ [] (by kernel_rfl) trivial ?_
  rcases iteS h with ⟨b370_2, h⟩ | ⟨b370_2, h⟩
  · refine At.step hm ht ⟨[(2, .b true)], [true], [], [2], [0]⟩ 2 ⟨[(2, .one (.c (.d (.int .i64 many))))], [], [(0, [.d (.int .u32 x_0), .d (.int .i64 x_1), .d (.sl (.pair (.int .u32) (.int .u32)) x_2)])], 1⟩ [(decide ((many : Int) < 1)) = true, true = true] (by kernel_rfl) ⟨b370_2, rfl, trivial⟩ ?_
    have h := Option.some.inj h
    subst h
    exact At.fin hm ht ⟨[], [], [], [6], [0]⟩ [] (by kernel_rfl) trivial
  · rcases iteS h with ⟨b370_e0, h⟩ | ⟨b370_e0, h⟩
    · refine At.step hm ht ⟨[(2, .b false)], [true], [], [2], [0]⟩ 2 ⟨[(2, .one (.c (.d (.int .i64 many))))], [], [(0, [.d (.int .u32 x_0), .d (.int .i64 x_1), .d (.sl (.pair (.int .u32) (.int .u32)) x_2)])], 1⟩ [(decide ((many : Int) < 1)) = false, (decide ((many : Int) > 1024)) = true] (by kernel_rfl) ⟨b370_2, b370_e0, trivial⟩ ?_
      have h := Option.some.inj h
      subst h
      exact At.fin hm ht ⟨[], [], [], [6], [0]⟩ [] (by kernel_rfl) trivial
    · refine At.step hm ht ⟨[(2, .b false)], [false], [], [0, 1, 2], [0]⟩ 3 ⟨[(0, .one (.c (.ptr 0 0))), (1, .one (.c (.d (.int .u32 from_)))), (2, .one (.c (.d (.int .i64 many))))], [], [(0, [.d (.int .u32 x_0), .d (.int .i64 x_1), .d (.sl (.pair (.int .u32) (.int .u32)) x_2)])], 1⟩ [(decide ((many : Int) < 1)) = false, (decide ((many : Int) > 1024)) = false] (by kernel_rfl) ⟨b370_2, b370_e0, trivial⟩ ?_
      refine At.step hm ht ⟨[], [], [], [0, 1, 7], [0]⟩ 4 ⟨[(0, .one (.c (.ptr 0 0))), (1, .one (.c (.d (.int .u32 from_)))), (7, .one (.c (.d (.int .u32 (IntKind.wrap .u32 (from_ + (IntKind.wrap .u32 many)))))))], [], [(0, [.d (.int .u32 x_0), .d (.int .i64 x_1), .d (.sl (.pair (.int .u32) (.int .u32)) x_2)])], 1⟩ [] (by kernel_rfl) trivial ?_
      obtain ⟨r374_0, cr374_0, h⟩ := bindS h
      rcases iteS h with ⟨b374_e0, h⟩ | ⟨b374_e0, h⟩
      · refine At.step hm ht ⟨[(5, .call [] [] (f89_serial_Diff_out r374_0))], [true], [], [0, 1], [0]⟩ 5 ⟨[(0, .one (.c (.ptr 0 0))), (1, .one (.c (.d (.int .u32 from_))))], [], [(0, [.d (.int .u32 x_0), .d (.int .i64 x_1), .d (.sl (.pair (.int .u32) (.int .u32)) x_2)])], 1⟩ [FnOK Go.Proofs.Try.prog 89 (f89_serial_Diff_in (IntKind.wrap .u32 (from_ + (IntKind.wrap .u32 many))) x_0) (f89_serial_Diff_out r374_0), (decide ((r374_0 : Int) ≤ 0)) = true] (by kernel_rfl) ⟨(f89_serial_Diff_ok (IntKind.wrap .u32 (from_ + (IntKind.wrap .u32 many))) x_0 r374_0 cr374_0), b374_e0, trivial⟩ ?_
        obtain ⟨r375_0, cr375_0, h⟩ := bindS h
        have h := Option.some.inj h
        subst h
        exact At.fin hm ht ⟨[(5, .call [] [] (f90_serial_Near_out r375_0))], [], [], [6], [0]⟩ [FnOK Go.Proofs.Try.prog 90 (f90_serial_Near_in from_ x_0 1048576) (f90_serial_Near_out r375_0)] (by kernel_rfl) ⟨(f90_serial_Near_ok from_ x_0 1048576 r375_0 cr375_0), trivial⟩
      · refine At.step hm ht ⟨[(5, .call [] [] (f89_serial_Diff_out r374_0))], [false], [], [0, 1, 7], [0]⟩ 6 ⟨[(0, .one (.c (.ptr 0 0))), (1, .one (.c (.d (.int .u32 from_)))), (7, .one (.c (.d (.int .u32 (IntKind.wrap .u32 (from_ + (IntKind.wrap .u32 many)))))))], [], [(0, [.d (.int .u32 x_0), .d (.int .i64 x_1), .d (.sl (.pair (.int .u32) (.int .u32)) x_2)])], 1⟩ [FnOK Go.Proofs.Try.prog 89 (f89_serial_Diff_in (IntKind.wrap .u32 (from_ + (IntKind.wrap .u32 many))) x_0) (f89_serial_Diff_out r374_0), (decide ((r374_0 : Int) ≤ 0)) = false] (by kernel_rfl) ⟨(f89_serial_Diff_ok (IntKind.wrap .u32 (from_ + (IntKind.wrap .u32 many))) x_0 r374_0 cr374_0), b374_e0, trivial⟩ ?_
        obtain ⟨r376_0, cr376_0, h⟩ := bindS h
        rcases iteS h with ⟨b376_e0, h⟩ | ⟨b376_e0, h⟩
        · refine At.step hm ht ⟨[(5, .call [] [] (f91_serial_Less_out r376_0))], [true], [], [0, 7], [0]⟩ 7 ⟨[(0, .one (.c (.ptr 0 0))), (7, .one (.c (.d (.int .u32 (IntKind.wrap .u32 (from_ + (IntKind.wrap .u32 many)))))))], [], [(0, [.d (.int .u32 x_0), .d (.int .i64 x_1), .d (.sl (.pair (.int .u32) (.int .u32)) x_2)])], 1⟩ [FnOK Go.Proofs.Try.prog 91 (f91_serial_Less_in from_ x_0) (f91_serial_Less_out r376_0), r376_0 = true] (by kernel_rfl) ⟨(f91_serial_Less_ok from_ x_0 r376_0 cr376_0), b376_e0, trivial⟩ ?_
          refine At.step hm ht ⟨[], [], [], [0, 1, 7], [0]⟩ 8 ⟨[(0, .one (.c (.ptr 0 0))), (1, .one (.c (.d (.int .u32 x_0)))), (7, .one (.c (.d (.int .u32 (IntKind.wrap .u32 (from_ + (IntKind.wrap .u32 many)))))))], [], [(0, [.d (.int .u32 x_0), .d (.int .i64 x_1), .d (.sl (.pair (.int .u32) (.int .u32)) x_2)])], 1⟩ [] (by kernel_rfl) trivial ?_
          obtain ⟨r378_0, cr378_0, h⟩ := bindS h
          rcases iteS h with ⟨b378_4, h⟩ | ⟨b378_4, h⟩
          · refine At.step hm ht ⟨[(2, .call [0] [] (f92_sack_Board_near_v2_out r378_0)), (4, .b true)], [true], [], [], [0]⟩ 9 ⟨[], [], [(0, [.d (.int .u32 r378_0.2.1), .d (.int .i64 r378_0.2.2.1), .d (.sl (.pair (.int .u32) (.int .u32)) r378_0.2.2.2)])], 1⟩ [FnOK Go.Proofs.Try.prog 92 (f92_sack_Board_near_v2_in x_0 x_0 x_1 x_2) (f92_sack_Board_near_v2_out r378_0), (!r378_0.1) = true, true = true] (by kernel_rfl) ⟨(f92_sack_Board_near_v2_ok x_0 x_0 x_1 x_2 r378_0 cr378_0), b378_4, rfl, trivial⟩ ?_
            have h := Option.some.inj h
            subst h
            exact At.fin hm ht ⟨[], [], [], [6], [0]⟩ [] (by kernel_rfl) trivial
          · obtain ⟨r378_1, cr378_1, h⟩ := bindS h
            rcases iteS h with ⟨b378_e0, h⟩ | ⟨b378_e0, h⟩
            · refine At.step hm ht ⟨[(2, .call [0] [] (f92_sack_Board_near_v2_out r378_0)), (4, .b false), (7, .call [0] [] (f92_sack_Board_near_v2_out r378_1))], [true], [], [], [0]⟩ 9 ⟨[], [], [(0, [.d (.int .u32 r378_1.2.1), .d (.int .i64 r378_1.2.2.1), .d (.sl (.pair (.int .u32) (.int .u32)) r378_1.2.2.2)])], 1⟩ [FnOK Go.Proofs.Try.prog 92 (f92_sack_Board_near_v2_in x_0 x_0 x_1 x_2) (f92_sack_Board_near_v2_out r378_0), (!r378_0.1) = false, FnOK Go.Proofs.Try.prog 92 (f92_sack_Board_near_v2_in (IntKind.wrap .u32 (from_ + (IntKind.wrap .u32 many))) r378_0.2.1 r378_0.2.2.1 r378_0.2.2.2) (f92_sack_Board_near_v2_out r378_1), (!r378_1.1) = true] (by kernel_rfl) ⟨(f92_sack_Board_near_v2_ok x_0 x_0 x_1 x_2 r378_0 cr378_0), b378_4, (f92_sack_Board_near_v2_ok (IntKind.wrap .u32 (from_ + (IntKind.wrap .u32 many))) r378_0.2.1 r378_0.2.2.1 r378_0.2.2.2 r378_1 cr378_1), b378_e0, trivial⟩ ?_
              have h := Option.some.inj h
              subst h
              exact At.fin hm ht ⟨[], [], [], [6], [0]⟩ [] (by kernel_rfl) trivial
            · refine At.step hm ht ⟨[(2, .call [0] [] (f92_sack_Board_near_v2_out r378_0)), (4, .b false), (7, .call [0] [] (f92_sack_Board_near_v2_out r378_1))], [false], [], [0, 1, 7], [0]⟩ 10 ⟨[(0, .one (.c (.ptr 0 0))), (1, .one (.c (.d (.int .u32 x_0)))), (7, .one (.c (.d (.int .u32 (IntKind.wrap .u32 (from_ + (IntKind.wrap .u32 many)))))))], [], [(0, [.d (.int .u32 r378_1.2.1), .d (.int .i64 r378_1.2.2.1), .d (.sl (.pair (.int .u32) (.int .u32)) r378_1.2.2.2)])], 1⟩ [FnOK Go.Proofs.Try.prog 92 (f92_sack_Board_near_v2_in x_0 x_0 x_1 x_2) (f92_sack_Board_near_v2_out r378_0), (!r378_0.1) = false, FnOK Go.Proofs.Try.prog 92 (f92_sack_Board_near_v2_in (IntKind.wrap .u32 (from_ + (IntKind.wrap .u32 many))) r378_0.2.1 r378_0.2.2.1 r378_0.2.2.2) (f92_sack_Board_near_v2_out r378_1), (!r378_1.1) = false] (by kernel_rfl) ⟨(f92_sack_Board_near_v2_ok x_0 x_0 x_1 x_2 r378_0 cr378_0), b378_4, (f92_sack_Board_near_v2_ok (IntKind.wrap .u32 (from_ + (IntKind.wrap .u32 many))) r378_0.2.1 r378_0.2.2.1 r378_0.2.2.2 r378_1 cr378_1), b378_e0, trivial⟩ ?_
              obtain ⟨r383_0, cr383_0, h⟩ := bindS h
              have h := Option.some.inj h
              subst h
              exact At.fin hm ht ⟨[(4, .call [0] [] (f93_sack_Board_put_v2_out r383_0))], [], [], [6], [0]⟩ [FnOK Go.Proofs.Try.prog 93 (f93_sack_Board_put_v2_in x_0 (IntKind.wrap .u32 (from_ + (IntKind.wrap .u32 many))) r378_1.2.1 r378_1.2.2.1 r378_1.2.2.2) (f93_sack_Board_put_v2_out r383_0)] (by kernel_rfl) ⟨(f93_sack_Board_put_v2_ok n x_0 (IntKind.wrap .u32 (from_ + (IntKind.wrap .u32 many))) r378_1.2.1 r378_1.2.2.1 r378_1.2.2.2 r383_0 cr383_0), trivial⟩
        · refine At.step hm ht ⟨[(5, .call [] [] (f91_serial_Less_out r376_0))], [false], [], [0, 1, 7], [0]⟩ 8 ⟨[(0, .one (.c (.ptr 0 0))), (1, .one (.c (.d (.int .u32 from_)))), (7, .one (.c (.d (.int .u32 (IntKind.wrap .u32 (from_ + (IntKind.wrap .u32 many)))))))], [], [(0, [.d (.int .u32 x_0), .d (.int .i64 x_1), .d (.sl (.pair (.int .u32) (.int .u32)) x_2)])], 1⟩ [FnOK Go.Proofs.Try.prog 91 (f91_serial_Less_in from_ x_0) (f91_serial_Less_out r376_0), r376_0 = false] (by kernel_rfl) ⟨(f91_serial_Less_ok from_ x_0 r376_0 cr376_0), b376_e0, trivial⟩ ?_
          obtain ⟨r442_0, cr442_0, h⟩ := bindS h
          rcases iteS h with ⟨b442_4, h⟩ | ⟨b442_4, h⟩
          · refine At.step hm ht ⟨[(2, .call [0] [] (f92_sack_Board_near_v2_out r442_0)), (4, .b true)], [true], [], [], [0]⟩ 9 ⟨[], [], [(0, [.d (.int .u32 r442_0.2.1), .d (.int .i64 r442_0.2.2.1), .d (.sl (.pair (.int .u32) (.int .u32)) r442_0.2.2.2)])], 1⟩ [FnOK Go.Proofs.Try.prog 92 (f92_sack_Board_near_v2_in from_ x_0 x_1 x_2) (f92_sack_Board_near_v2_out r442_0), (!r442_0.1) = true, true = true] (by kernel_rfl) ⟨(f92_sack_Board_near_v2_ok from_ x_0 x_1 x_2 r442_0 cr442_0), b442_4, rfl, trivial⟩ ?_
            have h := Option.some.inj h
            subst h
            exact At.fin hm ht ⟨[], [], [], [6], [0]⟩ [] (by kernel_rfl) trivial
          · obtain ⟨r442_1, cr442_1, h⟩ := bindS h
            rcases iteS h with ⟨b442_e0, h⟩ | ⟨b442_e0, h⟩
            · refine At.step hm ht ⟨[(2, .call [0] [] (f92_sack_Board_near_v2_out r442_0)), (4, .b false), (7, .call [0] [] (f92_sack_Board_near_v2_out r442_1))], [true], [], [], [0]⟩ 9 ⟨[], [], [(0, [.d (.int .u32 r442_1.2.1), .d (.int .i64 r442_1.2.2.1), .d (.sl (.pair (.int .u32) (.int .u32)) r442_1.2.2.2)])], 1⟩ [FnOK Go.Proofs.Try.prog 92 (f92_sack_Board_near_v2_in from_ x_0 x_1 x_2) (f92_sack_Board_near_v2_out r442_0), (!r442_0.1) = false, FnOK Go.Proofs.Try.prog 92 (f92_sack_Board_near_v2_in (IntKind.wrap .u32 (from_ + (IntKind.wrap .u32 many))) r442_0.2.1 r442_0.2.2.1 r442_0.2.2.2) (f92_sack_Board_near_v2_out r442_1), (!r442_1.1) = true] (by kernel_rfl) ⟨(f92_sack_Board_near_v2_ok from_ x_0 x_1 x_2 r442_0 cr442_0), b442_4, (f92_sack_Board_near_v2_ok (IntKind.wrap .u32 (from_ + (IntKind.wrap .u32 many))) r442_0.2.1 r442_0.2.2.1 r442_0.2.2.2 r442_1 cr442_1), b442_e0, trivial⟩ ?_
              have h := Option.some.inj h
              subst h
              exact At.fin hm ht ⟨[], [], [], [6], [0]⟩ [] (by kernel_rfl) trivial
            · refine At.step hm ht ⟨[(2, .call [0] [] (f92_sack_Board_near_v2_out r442_0)), (4, .b false), (7, .call [0] [] (f92_sack_Board_near_v2_out r442_1))], [false], [], [0, 1, 7], [0]⟩ 10 ⟨[(0, .one (.c (.ptr 0 0))), (1, .one (.c (.d (.int .u32 from_)))), (7, .one (.c (.d (.int .u32 (IntKind.wrap .u32 (from_ + (IntKind.wrap .u32 many)))))))], [], [(0, [.d (.int .u32 r442_1.2.1), .d (.int .i64 r442_1.2.2.1), .d (.sl (.pair (.int .u32) (.int .u32)) r442_1.2.2.2)])], 1⟩ [FnOK Go.Proofs.Try.prog 92 (f92_sack_Board_near_v2_in from_ x_0 x_1 x_2) (f92_sack_Board_near_v2_out r442_0), (!r442_0.1) = false, FnOK Go.Proofs.Try.prog 92 (f92_sack_Board_near_v2_in (IntKind.wrap .u32 (from_ + (IntKind.wrap .u32 many))) r442_0.2.1 r442_0.2.2.1 r442_0.2.2.2) (f92_sack_Board_near_v2_out r442_1), (!r442_1.1) = false] (by kernel_rfl) ⟨(f92_sack_Board_near_v2_ok from_ x_0 x_1 x_2 r442_0 cr442_0), b442_4, (f92_sack_Board_near_v2_ok (IntKind.wrap .u32 (from_ + (IntKind.wrap .u32 many))) r442_0.2.1 r442_0.2.2.1 r442_0.2.2.2 r442_1 cr442_1), b442_e0, trivial⟩ ?_
              obtain ⟨r445_0, cr445_0, h⟩ := bindS h
              have h := Option.some.inj h
              subst h
              exact At.fin hm ht ⟨[(4, .call [0] [] (f93_sack_Board_put_v2_out r445_0))], [], [], [6], [0]⟩ [FnOK Go.Proofs.Try.prog 93 (f93_sack_Board_put_v2_in from_ (IntKind.wrap .u32 (from_ + (IntKind.wrap .u32 many))) r442_1.2.1 r442_1.2.2.1 r442_1.2.2.2) (f93_sack_Board_put_v2_out r445_0)] (by kernel_rfl) ⟨(f93_sack_Board_put_v2_ok n from_ (IntKind.wrap .u32 (from_ + (IntKind.wrap .u32 many))) r442_1.2.1 r442_1.2.2.1 r442_1.2.2.2 r445_0 cr445_0), trivial⟩
/-! brougham/sack.Right -/
def f47_sack_Right_in (wait : Int) (l : List (Int × Int)) : Inn := ⟨[.c (.d (.int .u32 wait)), .c (.d (.sl (.pair (.int .u32) (.int .u32)) l))], [], [], 0⟩
def f47_sack_Right_out (r : Bool) : Out := ⟨.one (.c (.d (.bool r))), [], [], 0⟩
def f47_sack_Right_L5 : Nat → Int → Int → (List (Int × Int)) → Int → Int → Option ((Bool) ⊕ (Unit))
  | 0, _, _, _, _, _ => none
  | n + 1, wait, last, t12, t13, t14 =>
    if (decide ((t14 : Int) < t13)) = true then
      if (0 : Int) ≤ t14 ∧ t14 < (((t12).length : Nat) : Int) then
      (f89_serial_Diff ((t12.getD t14.toNat (0, 0)).1) last).bind fun r468_0 =>
      if (decide ((r468_0 : Int) ≤ 0)) = true then
        some (.inl false)
      else
        (f89_serial_Diff ((t12.getD t14.toNat (0, 0)).2) ((t12.getD t14.toNat (0, 0)).1)).bind fun r468_1 =>
        if (decide ((r468_1 : Int) ≤ 0)) = true then
          some (.inl false)
        else
          (f89_serial_Diff ((t12.getD t14.toNat (0, 0)).2) wait).bind fun r468_2 =>
          if (decide ((r468_2 : Int) ≤ 0)) = true then
            some (.inl false)
          else
            f47_sack_Right_L5 n wait ((t12.getD t14.toNat (0, 0)).2) t12 t13 (IntKind.wrap .i64 (t14 + 1))
      else none
    else
      some (.inr ())
def f47_sack_Right_L5_k (w : (Bool) ⊕ (Unit)) (o : Out) : Prop := match w with
  | .inl e => o = f47_sack_Right_out e
  | .inr e => At Go.Proofs.Try.prog Go.Proofs.Try.f47 0 11 ⟨[], [], [], 0⟩ o
theorem f47_sack_Right_L5_ok (n : Nat) : ∀ (wait : Int) (last : Int) (t12 : List (Int × Int)) (t13 : Int) (t14 : Int) (w : (Bool) ⊕ (Unit)) (h : f47_sack_Right_L5 n wait last t12 t13 t14 = some w) (o : Out) (hk : f47_sack_Right_L5_k w o), At Go.Proofs.Try.prog Go.Proofs.Try.f47 0 5 ⟨[(0, .one (.c (.d (.int .u32 wait)))), (5, .one (.c (.d (.int .u32 last)))), (12, .one (.c (.d (.sl (.pair (.int .u32) (.int .u32)) t12)))), (13, .one (.c (.d (.int .i64 t13)))), (14, .one (.c (.d (.int .i64 t14))))], [], [], 0⟩ o := by
  induction n with
  | zero => intro wait last t12 t13 t14 w h; rw [f47_sack_Right_L5] at h; cases h
  | succ n ih =>
    intro wait last t12 t13 t14 w h o hk
    rw [f47_sack_Right_L5] at h
    rcases iteS h with ⟨b466_e0, h⟩ | ⟨b466_e0, h⟩
    · refine At.step hm ht ⟨[], [true], [], [0, 5, 12, 13, 14], []⟩ 6 ⟨[(0, .one (.c (.d (.int .u32 wait)))), (5, .one (.c (.d (.int .u32 last)))), (12, .one (.c (.d (.sl (.pair (.int .u32) (.int .u32)) t12)))), (13, .one (.c (.d (.int .i64 t13)))), (14, .one (.c (.d (.int .i64 t14))))], [], [], 0⟩ [(decide ((t14 : Int) < t13)) = true] (by kernel_rfl) ⟨b466_e0, trivial⟩ ?_
      obtain ⟨g467_0, h⟩ := ifS h
      refine At.step hm ht ⟨[], [], [], [0, 5, 7, 12, 13, 14], [2]⟩ 7 ⟨[(0, .one (.c (.d (.int .u32 wait)))), (5, .one (.c (.d (.int .u32 last)))), (7, .one (.c (.ptr 0 0))), (12, .one (.c (.d (.sl (.pair (.int .u32) (.int .u32)) t12)))), (13, .one (.c (.d (.int .i64 t13)))), (14, .one (.c (.d (.int .i64 t14))))], [], [(0, [.d (.int .u32 ((t12.getD t14.toNat (0, 0)).1)), .d (.int .u32 ((t12.getD t14.toNat (0, 0)).2))])], 1⟩ [(0 : Int) ≤ t14 ∧ t14 < (((t12).length : Nat) : Int), 0 + 2 ≤ 2] (by kernel_rfl) ⟨g467_0, (by decide), trivial⟩ ?_
      obtain ⟨r468_0, cr468_0, h⟩ := bindS h
      rcases iteS h with ⟨b468_5, h⟩ | ⟨b468_5, h⟩
      · refine At.step hm ht ⟨[(3, .call [] [] (f89_serial_Diff_out r468_0)), (5, .b true)], [true], [], [], []⟩ 8 ⟨[], [], [], 0⟩ [FnOK Go.Proofs.Try.prog 89 (f89_serial_Diff_in ((t12.getD t14.toNat (0, 0)).1) last) (f89_serial_Diff_out r468_0), (decide ((r468_0 : Int) ≤ 0)) = true, true = true] (by kernel_rfl) ⟨(f89_serial_Diff_ok ((t12.getD t14.toNat (0, 0)).1) last r468_0 cr468_0), b468_5, rfl, trivial⟩ ?_
        have h := Option.some.inj h
        subst h
        have hk : o = f47_sack_Right_out false := hk
        subst hk
        exact At.fin hm ht ⟨[], [], [], [4], []⟩ [] (by kernel_rfl) trivial
      · obtain ⟨r468_1, cr468_1, h⟩ := bindS h
        rcases iteS h with ⟨b468_13, h⟩ | ⟨b468_13, h⟩
        · refine At.step hm ht ⟨[(3, .call [] [] (f89_serial_Diff_out r468_0)), (5, .b false), (10, .call [] [] (f89_serial_Diff_out r468_1)), (13, .b true)], [true], [], [], []⟩ 8 ⟨[], [], [], 0⟩ [FnOK Go.Proofs.Try.prog 89 (f89_serial_Diff_in ((t12.getD t14.toNat (0, 0)).1) last) (f89_serial_Diff_out r468_0), (decide ((r468_0 : Int) ≤ 0)) = false, FnOK Go.Proofs.Try.prog 89 (f89_serial_Diff_in ((t12.getD t14.toNat (0, 0)).2) ((t12.getD t14.toNat (0, 0)).1)) (f89_serial_Diff_out r468_1), (decide ((r468_1 : Int) ≤ 0)) = true, true = true] (by kernel_rfl) ⟨(f89_serial_Diff_ok ((t12.getD t14.toNat (0, 0)).1) last r468_0 cr468_0), b468_5, (f89_serial_Diff_ok ((t12.getD t14.toNat (0, 0)).2) ((t12.getD t14.toNat (0, 0)).1) r468_1 cr468_1), b468_13, rfl, trivial⟩ ?_
          have h := Option.some.inj h
          subst h
          have hk : o = f47_sack_Right_out false := hk
          subst hk
          exact At.fin hm ht ⟨[], [], [], [4], []⟩ [] (by kernel_rfl) trivial
        · obtain ⟨r468_2, cr468_2, h⟩ := bindS h
          rcases iteS h with ⟨b468_e0, h⟩ | ⟨b468_e0, h⟩
          · refine At.step hm ht ⟨[(3, .call [] [] (f89_serial_Diff_out r468_0)), (5, .b false), (10, .call [] [] (f89_serial_Diff_out r468_1)), (13, .b false), (17, .call [] [] (f89_serial_Diff_out r468_2))], [true], [], [], []⟩ 8 ⟨[], [], [], 0⟩ [FnOK Go.Proofs.Try.prog 89 (f89_serial_Diff_in ((t12.getD t14.toNat (0, 0)).1) last) (f89_serial_Diff_out r468_0), (decide ((r468_0 : Int) ≤ 0)) = false, FnOK Go.Proofs.Try.prog 89 (f89_serial_Diff_in ((t12.getD t14.toNat (0, 0)).2) ((t12.getD t14.toNat (0, 0)).1)) (f89_serial_Diff_out r468_1), (decide ((r468_1 : Int) ≤ 0)) = false, FnOK Go.Proofs.Try.prog 89 (f89_serial_Diff_in ((t12.getD t14.toNat (0, 0)).2) wait) (f89_serial_Diff_out r468_2), (decide ((r468_2 : Int) ≤ 0)) = true] (by kernel_rfl) ⟨(f89_serial_Diff_ok ((t12.getD t14.toNat (0, 0)).1) last r468_0 cr468_0), b468_5, (f89_serial_Diff_ok ((t12.getD t14.toNat (0, 0)).2) ((t12.getD t14.toNat (0, 0)).1) r468_1 cr468_1), b468_13, (f89_serial_Diff_ok ((t12.getD t14.toNat (0, 0)).2) wait r468_2 cr468_2), b468_e0, trivial⟩ ?_
            have h := Option.some.inj h
            subst h
            have hk : o = f47_sack_Right_out false := hk
            subst hk
            exact At.fin hm ht ⟨[], [], [], [4], []⟩ [] (by kernel_rfl) trivial
          · refine At.step hm ht ⟨[(3, .call [] [] (f89_serial_Diff_out r468_0)), (5, .b false), (10, .call [] [] (f89_serial_Diff_out r468_1)), (13, .b false), (17, .call [] [] (f89_serial_Diff_out r468_2))], [false], [], [0, 7, 12, 13, 14], [0]⟩ 9 ⟨[(0, .one (.c (.d (.int .u32 wait)))), (7, .one (.c (.ptr 0 0))), (12, .one (.c (.d (.sl (.pair (.int .u32) (.int .u32)) t12)))), (13, .one (.c (.d (.int .i64 t13)))), (14, .one (.c (.d (.int .i64 t14))))], [], [(0, [.d (.int .u32 ((t12.getD t14.toNat (0, 0)).1)), .d (.int .u32 ((t12.getD t14.toNat (0, 0)).2))])], 1⟩ [FnOK Go.Proofs.Try.prog 89 (f89_serial_Diff_in ((t12.getD t14.toNat (0, 0)).1) last) (f89_serial_Diff_out r468_0), (decide ((r468_0 : Int) ≤ 0)) = false, FnOK Go.Proofs.Try.prog 89 (f89_serial_Diff_in ((t12.getD t14.toNat (0, 0)).2) ((t12.getD t14.toNat (0, 0)).1)) (f89_serial_Diff_out r468_1), (decide ((r468_1 : Int) ≤ 0)) = false, FnOK Go.Proofs.Try.prog 89 (f89_serial_Diff_in ((t12.getD t14.toNat (0, 0)).2) wait) (f89_serial_Diff_out r468_2), (decide ((r468_2 : Int) ≤ 0)) = false] (by kernel_rfl) ⟨(f89_serial_Diff_ok ((t12.getD t14.toNat (0, 0)).1) last r468_0 cr468_0), b468_5, (f89_serial_Diff_ok ((t12.getD t14.toNat (0, 0)).2) ((t12.getD t14.toNat (0, 0)).1) r468_1 cr468_1), b468_13, (f89_serial_Diff_ok ((t12.getD t14.toNat (0, 0)).2) wait r468_2 cr468_2), b468_e0, trivial⟩ ?_
            refine At.step hm ht ⟨[], [], [], [0, 5, 12, 13, 14], []⟩ 10 ⟨[(0, .one (.c (.d (.int .u32 wait)))), (5, .one (.c (.d (.int .u32 ((t12.getD t14.toNat (0, 0)).2))))), (12, .one (.c (.d (.sl (.pair (.int .u32) (.int .u32)) t12)))), (13, .one (.c (.d (.int .i64 t13)))), (14, .one (.c (.d (.int .i64 t14))))], [], [], 0⟩ [] (by kernel_rfl) trivial ?_
            refine At.step hm ht ⟨[], [], [], [0, 5, 12, 13, 14], []⟩ 5 ⟨[(0, .one (.c (.d (.int .u32 wait)))), (5, .one (.c (.d (.int .u32 ((t12.getD t14.toNat (0, 0)).2))))), (12, .one (.c (.d (.sl (.pair (.int .u32) (.int .u32)) t12)))), (13, .one (.c (.d (.int .i64 t13)))), (14, .one (.c (.d (.int .i64 (IntKind.wrap .i64 (t14 + 1))))))], [], [], 0⟩ [] (by kernel_rfl) trivial ?_
            exact ih wait ((t12.getD t14.toNat (0, 0)).2) t12 t13 (IntKind.wrap .i64 (t14 + 1)) w h o hk
    · refine At.step hm ht ⟨[], [false], [], [], []⟩ 11 ⟨[], [], [], 0⟩ [(decide ((t14 : Int) < t13)) = false] (by kernel_rfl) ⟨b466_e0, trivial⟩ ?_
      have h := Option.some.inj h
      subst h
      exact hk
def f47_sack_Right (n : Nat) (wait : Int) (l : List (Int × Int)) : Option (Bool) :=
  if (decide ((((l.length : Nat) : Int) : Int) > 4)) = true then
    some false
  else
    (f47_sack_Right_L5 n wait wait l ((l.length : Nat) : Int) 0).bind fun w474 =>
    match w474 with
    | .inl e475 =>
      some e475
    | .inr e476 =>
      some true
theorem f47_sack_Right_ok (n : Nat) (wait : Int) (l : List (Int × Int)) (r : Bool) (h : f47_sack_Right n wait l = some r) : FnOK Go.Proofs.Try.prog 47 (f47_sack_Right_in wait l) (f47_sack_Right_out r) := by
  unfold f47_sack_Right at h
  refine At.fn (r := 0) Go.Proofs.Try.func47 rfl (by kernel_rfl) rfl rfl (by kernel_rfl) ?_
  show At Go.Proofs.Try.prog Go.Proofs.Try.f47 0 0 ⟨[(0, .one (.c (.d (.int .u32 wait)))), (1, .one (.c (.d (.sl (.pair (.int .u32) (.int .u32)) l))))], [], [], 0⟩ _
  refine At.step hm ht ⟨[], [], [], [0, 1], []⟩ 1 ⟨[(0, .one (.c (.d (.int .u32 wait)))), (1, .one (.c (.d (.sl (.pair (.int .u32) (.int .u32)) l))))], [], [], 0⟩ [] (by kernel_rfl) trivial ?_
  rcases iteS h with ⟨b462_e0, h⟩ | ⟨b462_e0, h⟩
  · refine At.step hm ht ⟨[], [true], [], [], []⟩ 2 ⟨[], [], [], 0⟩ [(decide ((((l.length : Nat) : Int) : Int) > 4)) = true] (by kernel_rfl) ⟨b462_e0, trivial⟩ ?_
    have h := Option.some.inj h
    subst h
    exact At.fin hm ht ⟨[], [], [], [4], []⟩ [] (by kernel_rfl) trivial
  · refine At.step hm ht ⟨[], [false], [], [0, 1], []⟩ 3 ⟨[(0, .one (.c (.d (.int .u32 wait)))), (1, .one (.c (.d (.sl (.pair (.int .u32) (.int .u32)) l))))], [], [], 0⟩ [(decide ((((l.length : Nat) : Int) : Int) > 4)) = false] (by kernel_rfl) ⟨b462_e0, trivial⟩ ?_
    refine At.step hm ht ⟨[], [], [], [0, 1, 5], []⟩ 4 ⟨[(0, .one (.c (.d (.int .u32 wait)))), (1, .one (.c (.d (.sl (.pair (.int .u32) (.int .u32)) l)))), (5, .one (.c (.d (.int .u32 wait))))], [], [], 0⟩ [] (by kernel_rfl) trivial ?_
    refine At.step hm ht ⟨[], [], [], [0, 5, 12, 13, 14], []⟩ 5 ⟨[(0, .one (.c (.d (.int .u32 wait)))), (5, .one (.c (.d (.int .u32 wait)))), (12, .one (.c (.d (.sl (.pair (.int .u32) (.int .u32)) l)))), (13, .one (.c (.d (.int .i64 ((l.length : Nat) : Int))))), (14, .one (.c (.d (.int .i64 0))))], [], [], 0⟩ [] (by kernel_rfl) trivial ?_
    obtain ⟨w474, cw474, h⟩ := bindS h
    refine f47_sack_Right_L5_ok n wait wait l ((l.length : Nat) : Int) 0 w474 cw474 _ ?_
    rcases w474 with e475 | e476
    · have h := Option.some.inj h
      subst h
      rfl
    · show At Go.Proofs.Try.prog Go.Proofs.Try.f47 0 11 ⟨[], [], [], 0⟩ _
      have h := Option.some.inj h
      subst h
      exact At.fin hm ht ⟨[], [], [], [4], []⟩ [] (by kernel_rfl) trivial
/-! brougham/pack.W -/
def f79_pack_W_in (n_ : Int) : Inn := ⟨[.c (.d (.int .u32 n_))], [], [], 0⟩
def f79_pack_W_out (r : Int × Int) : Out := ⟨.one (.agg [.d (.int .i64 r.1), .d (.int .u64 r.2)]), [], [(0, [.d (.int .i64 r.1), .d (.int .u64 r.2)])], 1⟩
def f79_pack_W (n_ : Int) : Option (Int × Int) :=
  some (4, (IntKind.wrap .u64 n_))
theorem f79_pack_W_ok (n_ : Int) (r : Int × Int) (h : f79_pack_W n_ = some r) : FnOK Go.Proofs.Try.prog 79 (f79_pack_W_in n_) (f79_pack_W_out r) := by
  unfold f79_pack_W at h
  refine At.fn (r := 0) Go.Proofs.Try.func79 rfl (by kernel_rfl) rfl rfl (by kernel_rfl) ?_
  show At Go.Proofs.Try.prog Go.Proofs.Try.f79 0 0 ⟨[(0, .one (.c (.d (.int .u32 n_))))], [], [], 0⟩ _
  refine At.step hm ht ⟨[], [], [], [0, 2], [0]⟩ 1 ⟨[(0, .one (.c (.d (.int .u32 n_)))), (2, .one (.c (.ptr 0 0)))], [], [(0, [.d (.int .i64 0), .d (.int .u64 0)])], 1⟩ [] (by kernel_rfl) trivial ?_
  have h := Option.some.inj h
  subst h
  exact At.fin hm ht ⟨[], [], [], [2], [0]⟩ [0 + 2 ≤ 2] (by kernel_rfl) ⟨(by decide), trivial⟩
/-! brougham/pack.Put -/
def f78_pack_Put_in (b : List Int) (l : List (Int × Int)) : Inn := ⟨[.c (.d (.sl (.int .u8) b)), .c (.d (.sl (.pair (.int .i64) (.int .u64)) l))], [], [], 0⟩
def f78_pack_Put_out (r : List Int) : Out := ⟨.one (.c (.own 0 (.int .u8) r)), [(0, ⟨5, 0⟩)], [], 1⟩
def f78_pack_Put_L7 : Nat → (List Int) → Int → (List (Int × Int)) → Int → Int → Int → Int → Option (List Int × (List (Int × Int)) × Int × Int)
  | 0, _, _, _, _, _, _, _ => none
  | n + 1, out, i, t11, t12, t13, f_0, f_1 =>
    if (decide ((i : Int) ≥ 0)) = true then
      if (0 : Int) ≤ (IntKind.wrap .i64 (8 * i)) then
      if out.length + [(IntKind.wrap .u8 (Int.fdiv f_1 (2 ^ (min (IntKind.wrap .i64 (8 * i)).toNat (IntKind.bits .u64)))))].length ≤ maxLen ∧ (out.length + [(IntKind.wrap .u8 (Int.fdiv f_1 (2 ^ (min (IntKind.wrap .i64 (8 * i)).toNat (IntKind.bits .u64)))))].length) * 1 ≤ 140737488355328 then
      f78_pack_Put_L7 n (out ++ [(IntKind.wrap .u8 (Int.fdiv f_1 (2 ^ (min (IntKind.wrap .i64 (8 * i)).toNat (IntKind.bits .u64)))))]) (IntKind.wrap .i64 (i - 1)) t11 t12 t13 f_0 f_1
      else none
      else none
    else
      some ((out, t11, t12, t13))
def f78_pack_Put_L7_k (e : List Int × (List (Int × Int)) × Int × Int) (o : Out) : Prop := At Go.Proofs.Try.prog Go.Proofs.Try.f78 0 10 ⟨[(5, .one (.c (.own 0 (.int .u8) e.1))), (11, .one (.c (.d (.sl (.pair (.int .i64) (.int .u64)) e.2.1)))), (12, .one (.c (.d (.int .i64 e.2.2.1)))), (13, .one (.c (.d (.int .i64 e.2.2.2))))], [(0, some ⟨5, 0⟩)], [], 1⟩ o
theorem f78_pack_Put_L7_ok (n : Nat) : ∀ (out : List Int) (i : Int) (t11 : List (Int × Int)) (t12 : Int) (t13 : Int) (f_0 : Int) (f_1 : Int) (w : List Int × (List (Int × Int)) × Int × Int) (h : f78_pack_Put_L7 n out i t11 t12 t13 f_0 f_1 = some w) (o : Out) (hk : f78_pack_Put_L7_k w o), At Go.Proofs.Try.prog Go.Proofs.Try.f78 0 7 ⟨[(5, .one (.c (.own 0 (.int .u8) out))), (7, .one (.c (.ptr 1 0))), (8, .one (.c (.d (.int .i64 i)))), (11, .one (.c (.d (.sl (.pair (.int .i64) (.int .u64)) t11)))), (12, .one (.c (.d (.int .i64 t12)))), (13, .one (.c (.d (.int .i64 t13))))], [(0, some ⟨5, 0⟩)], [(1, [.d (.int .i64 f_0), .d (.int .u64 f_1)])], 2⟩ o := by
  induction n with
  | zero => intro out i t11 t12 t13 f_0 f_1 w h; rw [f78_pack_Put_L7] at h; cases h
  | succ n ih =>
    intro out i t11 t12 t13 f_0 f_1 w h o hk
    rw [f78_pack_Put_L7] at h
    rcases iteS h with ⟨b497_e0, h⟩ | ⟨b497_e0, h⟩
    · refine At.step hm ht ⟨[], [true], [], [5, 7, 8, 11, 12, 13], [0, 1]⟩ 9 ⟨[(5, .one (.c (.own 0 (.int .u8) out))), (7, .one (.c (.ptr 1 0))), (8, .one (.c (.d (.int .i64 i)))), (11, .one (.c (.d (.sl (.pair (.int .i64) (.int .u64)) t11)))), (12, .one (.c (.d (.int .i64 t12)))), (13, .one (.c (.d (.int .i64 t13))))], [(0, some ⟨5, 0⟩)], [(1, [.d (.int .i64 f_0), .d (.int .u64 f_1)])], 2⟩ [(decide ((i : Int) ≥ 0)) = true] (by kernel_rfl) ⟨b497_e0, trivial⟩ ?_
      obtain ⟨g498_0, h⟩ := ifS h
      obtain ⟨g498_1, h⟩ := ifS h
      refine At.step hm ht ⟨[], [], [], [5, 7, 8, 11, 12, 13], [10, 1]⟩ 8 ⟨[(5, .one (.c (.own 0 (.int .u8) (out ++ [(IntKind.wrap .u8 (Int.fdiv f_1 (2 ^ (min (IntKind.wrap .i64 (8 * i)).toNat (IntKind.bits .u64)))))])))), (7, .one (.c (.ptr 1 0))), (8, .one (.c (.d (.int .i64 i)))), (11, .one (.c (.d (.sl (.pair (.int .i64) (.int .u64)) t11)))), (12, .one (.c (.d (.int .i64 t12)))), (13, .one (.c (.d (.int .i64 t13))))], [(0, some ⟨5, 0⟩)], [(1, [.d (.int .i64 f_0), .d (.int .u64 f_1)])], 2⟩ [(0 : Int) ≤ (IntKind.wrap .i64 (8 * i)), out.length + [(IntKind.wrap .u8 (Int.fdiv f_1 (2 ^ (min (IntKind.wrap .i64 (8 * i)).toNat (IntKind.bits .u64)))))].length ≤ maxLen ∧ (out.length + [(IntKind.wrap .u8 (Int.fdiv f_1 (2 ^ (min (IntKind.wrap .i64 (8 * i)).toNat (IntKind.bits .u64)))))].length) * 1 ≤ 140737488355328] (by kernel_rfl) ⟨g498_0, g498_1, trivial⟩ ?_
      refine At.step hm ht ⟨[], [], [], [5, 7, 8, 11, 12, 13], [0, 1]⟩ 7 ⟨[(5, .one (.c (.own 0 (.int .u8) (out ++ [(IntKind.wrap .u8 (Int.fdiv f_1 (2 ^ (min (IntKind.wrap .i64 (8 * i)).toNat (IntKind.bits .u64)))))])))), (7, .one (.c (.ptr 1 0))), (8, .one (.c (.d (.int .i64 (IntKind.wrap .i64 (i - 1)))))), (11, .one (.c (.d (.sl (.pair (.int .i64) (.int .u64)) t11)))), (12, .one (.c (.d (.int .i64 t12)))), (13, .one (.c (.d (.int .i64 t13))))], [(0, some ⟨5, 0⟩)], [(1, [.d (.int .i64 f_0), .d (.int .u64 f_1)])], 2⟩ [] (by kernel_rfl) trivial ?_
      exact ih (out ++ [(IntKind.wrap .u8 (Int.fdiv f_1 (2 ^ (min (IntKind.wrap .i64 (8 * i)).toNat (IntKind.bits .u64)))))]) (IntKind.wrap .i64 (i - 1)) t11 t12 t13 f_0 f_1 w h o hk
    · refine At.step hm ht ⟨[], [false], [], [5, 11, 12, 13], [0]⟩ 10 ⟨[(5, .one (.c (.own 0 (.int .u8) out))), (11, .one (.c (.d (.sl (.pair (.int .i64) (.int .u64)) t11)))), (12, .one (.c (.d (.int .i64 t12)))), (13, .one (.c (.d (.int .i64 t13))))], [(0, some ⟨5, 0⟩)], [], 1⟩ [(decide ((i : Int) ≥ 0)) = false] (by kernel_rfl) ⟨b497_e0, trivial⟩ ?_
      have h := Option.some.inj h
      subst h
      exact hk
def f78_pack_Put_L3 : Nat → (List Int) → (List (Int × Int)) → Int → Int → Option (List Int)
  | 0, _, _, _, _ => none
  | n + 1, out, t11, t12, t13 =>
    if (decide ((t13 : Int) < t12)) = true then
      if (0 : Int) ≤ t13 ∧ t13 < (((t11).length : Nat) : Int) then
      if (decide ((((t11.getD t13.toNat (0, 0)).1) : Int) < 1)) = true then
        f78_pack_Put_L3 n out t11 t12 (IntKind.wrap .i64 (t13 + 1))
      else
        if (decide ((((t11.getD t13.toNat (0, 0)).1) : Int) > 8)) = true then
          f78_pack_Put_L3 n out t11 t12 (IntKind.wrap .i64 (t13 + 1))
        else
          (f78_pack_Put_L7 n out (IntKind.wrap .i64 (((t11.getD t13.toNat (0, 0)).1) - 1)) t11 t12 t13 ((t11.getD t13.toNat (0, 0)).1) ((t11.getD t13.toNat (0, 0)).2)).bind fun w500 =>
          f78_pack_Put_L3 n w500.1 w500.2.1 w500.2.2.1 (IntKind.wrap .i64 (w500.2.2.2 + 1))
      else none
    else
      some (out)
def f78_pack_Put_L3_k (e : List Int) (o : Out) : Prop := At Go.Proofs.Try.prog Go.Proofs.Try.f78 0 11 ⟨[(5, .one (.c (.own 0 (.int .u8) e)))], [(0, some ⟨5, 0⟩)], [], 1⟩ o
theorem f78_pack_Put_L3_ok (n : Nat) : ∀ (out : List Int) (t11 : List (Int × Int)) (t12 : Int) (t13 : Int) (w : List Int) (h : f78_pack_Put_L3 n out t11 t12 t13 = some w) (o : Out) (hk : f78_pack_Put_L3_k w o), At Go.Proofs.Try.prog Go.Proofs.Try.f78 0 3 ⟨[(5, .one (.c (.own 0 (.int .u8) out))), (11, .one (.c (.d (.sl (.pair (.int .i64) (.int .u64)) t11)))), (12, .one (.c (.d (.int .i64 t12)))), (13, .one (.c (.d (.int .i64 t13))))], [(0, some ⟨5, 0⟩)], [], 1⟩ o := by
  induction n with
  | zero => intro out t11 t12 t13 w h; rw [f78_pack_Put_L3] at h; cases h
  | succ n ih =>
    intro out t11 t12 t13 w h o hk
    rw [f78_pack_Put_L3] at h
    rcases iteS h with ⟨b491_e0, h⟩ | ⟨b491_e0, h⟩
    · refine At.step hm ht ⟨[], [true], [], [5, 11, 12, 13], [0]⟩ 4 ⟨[(5, .one (.c (.own 0 (.int .u8) out))), (11, .one (.c (.d (.sl (.pair (.int .i64) (.int .u64)) t11)))), (12, .one (.c (.d (.int .i64 t12)))), (13, .one (.c (.d (.int .i64 t13))))], [(0, some ⟨5, 0⟩)], [], 1⟩ [(decide ((t13 : Int) < t12)) = true] (by kernel_rfl) ⟨b491_e0, trivial⟩ ?_
      obtain ⟨g492_0, h⟩ := ifS h
      refine At.step hm ht ⟨[], [], [], [5, 7, 11, 12, 13], [0, 3]⟩ 5 ⟨[(5, .one (.c (.own 0 (.int .u8) out))), (7, .one (.c (.ptr 1 0))), (11, .one (.c (.d (.sl (.pair (.int .i64) (.int .u64)) t11)))), (12, .one (.c (.d (.int .i64 t12)))), (13, .one (.c (.d (.int .i64 t13))))], [(0, some ⟨5, 0⟩)], [(1, [.d (.int .i64 ((t11.getD t13.toNat (0, 0)).1)), .d (.int .u64 ((t11.getD t13.toNat (0, 0)).2))])], 2⟩ [(0 : Int) ≤ t13 ∧ t13 < (((t11).length : Nat) : Int), 0 + 2 ≤ 2] (by kernel_rfl) ⟨g492_0, (by decide), trivial⟩ ?_
      rcases iteS h with ⟨b493_3, h⟩ | ⟨b493_3, h⟩
      · refine At.step hm ht ⟨[(3, .b true)], [true], [], [5, 11, 12, 13], [0]⟩ 10 ⟨[(5, .one (.c (.own 0 (.int .u8) out))), (11, .one (.c (.d (.sl (.pair (.int .i64) (.int .u64)) t11)))), (12, .one (.c (.d (.int .i64 t12)))), (13, .one (.c (.d (.int .i64 t13))))], [(0, some ⟨5, 0⟩)], [], 1⟩ [(decide ((((t11.getD t13.toNat (0, 0)).1) : Int) < 1)) = true, true = true] (by kernel_rfl) ⟨b493_3, rfl, trivial⟩ ?_
        refine At.step hm ht ⟨[], [], [], [5, 11, 12, 13], [0]⟩ 3 ⟨[(5, .one (.c (.own 0 (.int .u8) out))), (11, .one (.c (.d (.sl (.pair (.int .i64) (.int .u64)) t11)))), (12, .one (.c (.d (.int .i64 t12)))), (13, .one (.c (.d (.int .i64 (IntKind.wrap .i64 (t13 + 1))))))], [(0, some ⟨5, 0⟩)], [], 1⟩ [] (by kernel_rfl) trivial ?_
        exact ih out t11 t12 (IntKind.wrap .i64 (t13 + 1)) w h o hk
      · rcases iteS h with ⟨b493_e0, h⟩ | ⟨b493_e0, h⟩
        · refine At.step hm ht ⟨[(3, .b false)], [true], [], [5, 11, 12, 13], [0]⟩ 10 ⟨[(5, .one (.c (.own 0 (.int .u8) out))), (11, .one (.c (.d (.sl (.pair (.int .i64) (.int .u64)) t11)))), (12, .one (.c (.d (.int .i64 t12)))), (13, .one (.c (.d (.int .i64 t13))))], [(0, some ⟨5, 0⟩)], [], 1⟩ [(decide ((((t11.getD t13.toNat (0, 0)).1) : Int) < 1)) = false, (decide ((((t11.getD t13.toNat (0, 0)).1) : Int) > 8)) = true] (by kernel_rfl) ⟨b493_3, b493_e0, trivial⟩ ?_
          refine At.step hm ht ⟨[], [], [], [5, 11, 12, 13], [0]⟩ 3 ⟨[(5, .one (.c (.own 0 (.int .u8) out))), (11, .one (.c (.d (.sl (.pair (.int .i64) (.int .u64)) t11)))), (12, .one (.c (.d (.int .i64 t12)))), (13, .one (.c (.d (.int .i64 (IntKind.wrap .i64 (t13 + 1))))))], [(0, some ⟨5, 0⟩)], [], 1⟩ [] (by kernel_rfl) trivial ?_
          exact ih out t11 t12 (IntKind.wrap .i64 (t13 + 1)) w h o hk
        · refine At.step hm ht ⟨[(3, .b false)], [false], [], [5, 7, 11, 12, 13], [0, 1]⟩ 6 ⟨[(5, .one (.c (.own 0 (.int .u8) out))), (7, .one (.c (.ptr 1 0))), (11, .one (.c (.d (.sl (.pair (.int .i64) (.int .u64)) t11)))), (12, .one (.c (.d (.int .i64 t12)))), (13, .one (.c (.d (.int .i64 t13))))], [(0, some ⟨5, 0⟩)], [(1, [.d (.int .i64 ((t11.getD t13.toNat (0, 0)).1)), .d (.int .u64 ((t11.getD t13.toNat (0, 0)).2))])], 2⟩ [(decide ((((t11.getD t13.toNat (0, 0)).1) : Int) < 1)) = false, (decide ((((t11.getD t13.toNat (0, 0)).1) : Int) > 8)) = false] (by kernel_rfl) ⟨b493_3, b493_e0, trivial⟩ ?_
          refine At.step hm ht ⟨[], [], [], [5, 7, 8, 11, 12, 13], [0, 1]⟩ 7 ⟨[(5, .one (.c (.own 0 (.int .u8) out))), (7, .one (.c (.ptr 1 0))), (8, .one (.c (.d (.int .i64 (IntKind.wrap .i64 (((t11.getD t13.toNat (0, 0)).1) - 1)))))), (11, .one (.c (.d (.sl (.pair (.int .i64) (.int .u64)) t11)))), (12, .one (.c (.d (.int .i64 t12)))), (13, .one (.c (.d (.int .i64 t13))))], [(0, some ⟨5, 0⟩)], [(1, [.d (.int .i64 ((t11.getD t13.toNat (0, 0)).1)), .d (.int .u64 ((t11.getD t13.toNat (0, 0)).2))])], 2⟩ [] (by kernel_rfl) trivial ?_
          obtain ⟨w500, cw500, h⟩ := bindS h
          refine f78_pack_Put_L7_ok n out (IntKind.wrap .i64 (((t11.getD t13.toNat (0, 0)).1) - 1)) t11 t12 t13 ((t11.getD t13.toNat (0, 0)).1) ((t11.getD t13.toNat (0, 0)).2) w500 cw500 _ ?_
          show At Go.Proofs.Try.prog Go.Proofs.Try.f78 0 10 ⟨[(5, .one (.c (.own 0 (.int .u8) w500.1))), (11, .one (.c (.d (.sl (.pair (.int .i64) (.int .u64)) w500.2.1)))), (12, .one (.c (.d (.int .i64 w500.2.2.1)))), (13, .one (.c (.d (.int .i64 w500.2.2.2))))], [(0, some ⟨5, 0⟩)], [], 1⟩ _
          refine At.step hm ht ⟨[], [], [], [5, 11, 12, 13], [0]⟩ 3 ⟨[(5, .one (.c (.own 0 (.int .u8) w500.1))), (11, .one (.c (.d (.sl (.pair (.int .i64) (.int .u64)) w500.2.1)))), (12, .one (.c (.d (.int .i64 w500.2.2.1)))), (13, .one (.c (.d (.int .i64 (IntKind.wrap .i64 (w500.2.2.2 + 1))))))], [(0, some ⟨5, 0⟩)], [], 1⟩ [] (by kernel_rfl) trivial ?_
          exact ih w500.1 w500.2.1 w500.2.2.1 (IntKind.wrap .i64 (w500.2.2.2 + 1)) w h o hk
    · refine At.step hm ht ⟨[], [false], [], [5], [0]⟩ 11 ⟨[(5, .one (.c (.own 0 (.int .u8) out)))], [(0, some ⟨5, 0⟩)], [], 1⟩ [(decide ((t13 : Int) < t12)) = false] (by kernel_rfl) ⟨b491_e0, trivial⟩ ?_
      have h := Option.some.inj h
      subst h
      exact hk
def f78_pack_Put (n : Nat) (b : List Int) (l : List (Int × Int)) : Option (List Int) :=
  if b.length ≤ maxLen ∧ b.length * 1 ≤ 140737488355328 then
  (f78_pack_Put_L3 n b l ((l.length : Nat) : Int) 0).bind fun w503 =>
  some w503
  else none
theorem f78_pack_Put_ok (n : Nat) (b : List Int) (l : List (Int × Int)) (r : List Int) (h : f78_pack_Put n b l = some r) : FnOK Go.Proofs.Try.prog 78 (f78_pack_Put_in b l) (f78_pack_Put_out r) := by
  unfold f78_pack_Put at h
  refine At.fn (r := 0) Go.Proofs.Try.func78 rfl (by kernel_rfl) rfl rfl (by kernel_rfl) ?_
  show At Go.Proofs.Try.prog Go.Proofs.Try.f78 0 0 ⟨[(0, .one (.c (.d (.sl (.int .u8) b)))), (1, .one (.c (.d (.sl (.pair (.int .i64) (.int .u64)) l))))], [], [], 0⟩ _
  refine At.step hm ht ⟨[], [], [], [0, 1], []⟩ 1 ⟨[(0, .one (.c (.d (.sl (.int .u8) b)))), (1, .one (.c (.d (.sl (.pair (.int .i64) (.int .u64)) l))))], [], [], 0⟩ [] (by kernel_rfl) trivial ?_
  obtain ⟨g489_0, h⟩ := ifS h
  refine At.step hm ht ⟨[], [], [], [1, 5], [1]⟩ 2 ⟨[(1, .one (.c (.d (.sl (.pair (.int .i64) (.int .u64)) l)))), (5, .one (.c (.own 0 (.int .u8) b)))], [(0, some ⟨5, 0⟩)], [], 1⟩ [b.length ≤ maxLen ∧ b.length * 1 ≤ 140737488355328] (by kernel_rfl) ⟨g489_0, trivial⟩ ?_
  refine At.step hm ht ⟨[], [], [], [5, 11, 12, 13], [0]⟩ 3 ⟨[(5, .one (.c (.own 0 (.int .u8) b))), (11, .one (.c (.d (.sl (.pair (.int .i64) (.int .u64)) l)))), (12, .one (.c (.d (.int .i64 ((l.length : Nat) : Int))))), (13, .one (.c (.d (.int .i64 0))))], [(0, some ⟨5, 0⟩)], [], 1⟩ [] (by kernel_rfl) trivial ?_
  obtain ⟨w503, cw503, h⟩ := bindS h
  refine f78_pack_Put_L3_ok n b l ((l.length : Nat) : Int) 0 w503 cw503 _ ?_
  show At Go.Proofs.Try.prog Go.Proofs.Try.f78 0 11 ⟨[(5, .one (.c (.own 0 (.int .u8) w503)))], [(0, some ⟨5, 0⟩)], [], 1⟩ _
  have h := Option.some.inj h
  subst h
  exact At.fin hm ht ⟨[], [], [], [4], [0]⟩ [] (by kernel_rfl) trivial
/-! brougham/sack.Option -/
def f44_sack_Option_in (wait : Int) (l : List (Int × Int)) : Inn := ⟨[.c (.d (.int .u32 wait)), .c (.d (.sl (.pair (.int .u32) (.int .u32)) l))], [], [], 0⟩
def f44_sack_Option_out (r : Bool × Int × List Int) : Out := ⟨.tup [.agg [.d (.int .u8 r.2.1), .own 1 (.int .u8) r.2.2], .c (.d (.bool r.1))], [(1, ⟨5, 0⟩)], [(0, [.d (.int .u8 r.2.1), .own 1 (.int .u8) r.2.2])], 2⟩
def f44_sack_Option_L6 : Nat → (List Int) → Int → (List (Int × Int)) → Int → Int → Int → Option (List Int × Int)
  | 0, _, _, _, _, _, _ => none
  | n + 1, b, last, t21, t22, t23, t4_0 =>
    if (decide ((t23 : Int) < t22)) = true then
      if (0 : Int) ≤ t23 ∧ t23 < (((t21).length : Nat) : Int) then
      (f79_pack_W (IntKind.wrap .u32 (((t21.getD t23.toNat (0, 0)).1) - last))).bind fun r532_0 =>
      (f79_pack_W (IntKind.wrap .u32 (((t21.getD t23.toNat (0, 0)).2) - ((t21.getD t23.toNat (0, 0)).1)))).bind fun r532_1 =>
      (f78_pack_Put n b [r532_0, r532_1]).bind fun r532_2 =>
      f44_sack_Option_L6 n r532_2 ((t21.getD t23.toNat (0, 0)).2) t21 t22 (IntKind.wrap .i64 (t23 + 1)) t4_0
      else none
    else
      some ((b, t4_0))
def f44_sack_Option_L6_k (e : List Int × Int) (o : Out) : Prop := At Go.Proofs.Try.prog Go.Proofs.Try.f44 0 11 ⟨[(4, .one (.c (.ptr 0 0))), (6, .one (.c (.own 1 (.int .u8) e.1)))], [(1, some ⟨5, 0⟩)], [(0, [.d (.int .u8 e.2), .d (.sl .unit [])])], 2⟩ o
theorem f44_sack_Option_L6_ok (n : Nat) : ∀ (b : List Int) (last : Int) (t21 : List (Int × Int)) (t22 : Int) (t23 : Int) (t4_0 : Int) (w : List Int × Int) (h : f44_sack_Option_L6 n b last t21 t22 t23 t4_0 = some w) (o : Out) (hk : f44_sack_Option_L6_k w o), At Go.Proofs.Try.prog Go.Proofs.Try.f44 0 6 ⟨[(4, .one (.c (.ptr 0 0))), (6, .one (.c (.own 1 (.int .u8) b))), (7, .one (.c (.d (.int .u32 last)))), (21, .one (.c (.d (.sl (.pair (.int .u32) (.int .u32)) t21)))), (22, .one (.c (.d (.int .i64 t22)))), (23, .one (.c (.d (.int .i64 t23))))], [(1, some ⟨5, 0⟩)], [(0, [.d (.int .u8 t4_0), .d (.sl .unit [])])], 2⟩ o := by
  induction n with
  | zero => intro b last t21 t22 t23 t4_0 w h; rw [f44_sack_Option_L6] at h; cases h
  | succ n ih =>
    intro b last t21 t22 t23 t4_0 w h o hk
    rw [f44_sack_Option_L6] at h
    rcases iteS h with ⟨b530_e0, h⟩ | ⟨b530_e0, h⟩
    · refine At.step hm ht ⟨[], [true], [], [4, 6, 7, 21, 22, 23], [0, 1]⟩ 7 ⟨[(4, .one (.c (.ptr 0 0))), (6, .one (.c (.own 1 (.int .u8) b))), (7, .one (.c (.d (.int .u32 last)))), (21, .one (.c (.d (.sl (.pair (.int .u32) (.int .u32)) t21)))), (22, .one (.c (.d (.int .i64 t22)))), (23, .one (.c (.d (.int .i64 t23))))], [(1, some ⟨5, 0⟩)], [(0, [.d (.int .u8 t4_0), .d (.sl .unit [])])], 2⟩ [(decide ((t23 : Int) < t22)) = true] (by kernel_rfl) ⟨b530_e0, trivial⟩ ?_
      obtain ⟨g531_0, h⟩ := ifS h
      refine At.step hm ht ⟨[], [], [], [4, 6, 7, 9, 21, 22, 23], [0, 1, 4]⟩ 8 ⟨[(4, .one (.c (.ptr 0 0))), (6, .one (.c (.own 1 (.int .u8) b))), (7, .one (.c (.d (.int .u32 last)))), (9, .one (.c (.ptr 2 0))), (21, .one (.c (.d (.sl (.pair (.int .u32) (.int .u32)) t21)))), (22, .one (.c (.d (.int .i64 t22)))), (23, .one (.c (.d (.int .i64 t23))))], [(1, some ⟨5, 0⟩)], [(0, [.d (.int .u8 t4_0), .d (.sl .unit [])]), (2, [.d (.int .u32 ((t21.getD t23.toNat (0, 0)).1)), .d (.int .u32 ((t21.getD t23.toNat (0, 0)).2))])], 3⟩ [(0 : Int) ≤ t23 ∧ t23 < (((t21).length : Nat) : Int), 0 + 2 ≤ 2] (by kernel_rfl) ⟨g531_0, (by decide), trivial⟩ ?_
      obtain ⟨r532_0, cr532_0, h⟩ := bindS h
      obtain ⟨r532_1, cr532_1, h⟩ := bindS h
      obtain ⟨r532_2, cr532_2, h⟩ := bindS h
      refine At.step hm ht ⟨[(5, .call [] [] (f79_pack_W_out r532_0)), (11, .call [] [] (f79_pack_W_out r532_1)), (13, .call [] [] (f78_pack_Put_out r532_2))], [], [], [4, 6, 9, 21, 22, 23], [0, 16, 2]⟩ 9 ⟨[(4, .one (.c (.ptr 0 0))), (6, .one (.c (.own 1 (.int .u8) r532_2))), (9, .one (.c (.ptr 2 0))), (21, .one (.c (.d (.sl (.pair (.int .u32) (.int .u32)) t21)))), (22, .one (.c (.d (.int .i64 t22)))), (23, .one (.c (.d (.int .i64 t23))))], [(1, some ⟨5, 0⟩)], [(0, [.d (.int .u8 t4_0), .d (.sl .unit [])]), (2, [.d (.int .u32 ((t21.getD t23.toNat (0, 0)).1)), .d (.int .u32 ((t21.getD t23.toNat (0, 0)).2))])], 3⟩ [FnOK Go.Proofs.Try.prog 79 (f79_pack_W_in (IntKind.wrap .u32 (((t21.getD t23.toNat (0, 0)).1) - last))) (f79_pack_W_out r532_0), FnOK Go.Proofs.Try.prog 79 (f79_pack_W_in (IntKind.wrap .u32 (((t21.getD t23.toNat (0, 0)).2) - ((t21.getD t23.toNat (0, 0)).1)))) (f79_pack_W_out r532_1), FnOK Go.Proofs.Try.prog 78 (f78_pack_Put_in b [r532_0, r532_1]) (f78_pack_Put_out r532_2)] (by kernel_rfl) ⟨(f79_pack_W_ok (IntKind.wrap .u32 (((t21.getD t23.toNat (0, 0)).1) - last)) r532_0 cr532_0), (f79_pack_W_ok (IntKind.wrap .u32 (((t21.getD t23.toNat (0, 0)).2) - ((t21.getD t23.toNat (0, 0)).1))) r532_1 cr532_1), (f78_pack_Put_ok n b [r532_0, r532_1] r532_2 cr532_2), trivial⟩ ?_
      refine At.step hm ht ⟨[], [], [], [4, 6, 7, 21, 22, 23], [0, 1]⟩ 10 ⟨[(4, .one (.c (.ptr 0 0))), (6, .one (.c (.own 1 (.int .u8) r532_2))), (7, .one (.c (.d (.int .u32 ((t21.getD t23.toNat (0, 0)).2))))), (21, .one (.c (.d (.sl (.pair (.int .u32) (.int .u32)) t21)))), (22, .one (.c (.d (.int .i64 t22)))), (23, .one (.c (.d (.int .i64 t23))))], [(1, some ⟨5, 0⟩)], [(0, [.d (.int .u8 t4_0), .d (.sl .unit [])])], 2⟩ [] (by kernel_rfl) trivial ?_
      refine At.step hm ht ⟨[], [], [], [4, 6, 7, 21, 22, 23], [0, 1]⟩ 6 ⟨[(4, .one (.c (.ptr 0 0))), (6, .one (.c (.own 1 (.int .u8) r532_2))), (7, .one (.c (.d (.int .u32 ((t21.getD t23.toNat (0, 0)).2))))), (21, .one (.c (.d (.sl (.pair (.int .u32) (.int .u32)) t21)))), (22, .one (.c (.d (.int .i64 t22)))), (23, .one (.c (.d (.int .i64 (IntKind.wrap .i64 (t23 + 1))))))], [(1, some ⟨5, 0⟩)], [(0, [.d (.int .u8 t4_0), .d (.sl .unit [])])], 2⟩ [] (by kernel_rfl) trivial ?_
      exact ih r532_2 ((t21.getD t23.toNat (0, 0)).2) t21 t22 (IntKind.wrap .i64 (t23 + 1)) t4_0 w h o hk
    · refine At.step hm ht ⟨[], [false], [], [4, 6], [0, 1]⟩ 11 ⟨[(4, .one (.c (.ptr 0 0))), (6, .one (.c (.own 1 (.int .u8) b)))], [(1, some ⟨5, 0⟩)], [(0, [.d (.int .u8 t4_0), .d (.sl .unit [])])], 2⟩ [(decide ((t23 : Int) < t22)) = false] (by kernel_rfl) ⟨b530_e0, trivial⟩ ?_
      have h := Option.some.inj h
      subst h
      exact hk
def f44_sack_Option (n : Nat) (wait : Int) (l : List (Int × Int)) : Option (Bool × Int × List Int) :=
  (f47_sack_Right n wait l).bind fun r524_0 =>
  if (!r524_0) = true then
    some (false, 0, [])
  else
    if ((((l.length : Nat) : Int) : Int) == 0) = true then
      some (false, 0, [])
    else
      (f44_sack_Option_L6 n [] wait l ((l.length : Nat) : Int) 0 0).bind fun w535 =>
      some (true, 9, w535.1)
theorem f44_sack_Option_ok (n : Nat) (wait : Int) (l : List (Int × Int)) (r : Bool × Int × List Int) (h : f44_sack_Option n wait l = some r) : FnOK Go.Proofs.Try.prog 44 (f44_sack_Option_in wait l) (f44_sack_Option_out r) := by
  unfold f44_sack_Option at h
  refine At.fn (r := 0) Go.Proofs.Try.func44 rfl (by kernel_rfl) rfl rfl (by kernel_rfl) ?_
  show At Go.Proofs.Try.prog Go.Proofs.Try.f44 0 0 ⟨[(0, .one (.c (.d (.int .u32 wait)))), (1, .one (.c (.d (.sl (.pair (.int .u32) (.int .u32)) l))))], [], [], 0⟩ _
  refine At.step hm ht ⟨[], [], [], [0, 1, 4], [0]⟩ 1 ⟨[(0, .one (.c (.d (.int .u32 wait)))), (1, .one (.c (.d (.sl (.pair (.int .u32) (.int .u32)) l)))), (4, .one (.c (.ptr 0 0)))], [], [(0, [.d (.int .u8 0), .d (.sl .unit [])])], 1⟩ [] (by kernel_rfl) trivial ?_
  obtain ⟨r524_0, cr524_0, h⟩ := bindS h
  rcases iteS h with ⟨b524_4, h⟩ | ⟨b524_4, h⟩
  · refine At.step hm ht ⟨[(2, .call [] [] (f47_sack_Right_out r524_0)), (4, .b true)], [true], [], [4], [0]⟩ 2 ⟨[(4, .one (.c (.ptr 0 0)))], [], [(0, [.d (.int .u8 0), .d (.sl .unit [])])], 1⟩ [FnOK Go.Proofs.Try.prog 47 (f47_sack_Right_in wait l) (f47_sack_Right_out r524_0), (!r524_0) = true, true = true] (by kernel_rfl) ⟨(f47_sack_Right_ok n wait l r524_0 cr524_0), b524_4, rfl, trivial⟩ ?_
    have h := Option.some.inj h
    subst h
    exact At.fin hm ht ⟨[], [], [.nil true 0 1 (.int .u8) (some 5)], [4, 5], [0, 4]⟩ [0 + 2 ≤ 2] (by kernel_rfl) ⟨(by decide), trivial⟩
  · rcases iteS h with ⟨b524_e0, h⟩ | ⟨b524_e0, h⟩
    · refine At.step hm ht ⟨[(2, .call [] [] (f47_sack_Right_out r524_0)), (4, .b false)], [true], [], [4], [0]⟩ 2 ⟨[(4, .one (.c (.ptr 0 0)))], [], [(0, [.d (.int .u8 0), .d (.sl .unit [])])], 1⟩ [FnOK Go.Proofs.Try.prog 47 (f47_sack_Right_in wait l) (f47_sack_Right_out r524_0), (!r524_0) = false, ((((l.length : Nat) : Int) : Int) == 0) = true] (by kernel_rfl) ⟨(f47_sack_Right_ok n wait l r524_0 cr524_0), b524_4, b524_e0, trivial⟩ ?_
      have h := Option.some.inj h
      subst h
      exact At.fin hm ht ⟨[], [], [.nil true 0 1 (.int .u8) (some 5)], [4, 5], [0, 4]⟩ [0 + 2 ≤ 2] (by kernel_rfl) ⟨(by decide), trivial⟩
    · refine At.step hm ht ⟨[(2, .call [] [] (f47_sack_Right_out r524_0)), (4, .b false)], [false], [], [0, 1, 4], [0]⟩ 3 ⟨[(0, .one (.c (.d (.int .u32 wait)))), (1, .one (.c (.d (.sl (.pair (.int .u32) (.int .u32)) l)))), (4, .one (.c (.ptr 0 0)))], [], [(0, [.d (.int .u8 0), .d (.sl .unit [])])], 1⟩ [FnOK Go.Proofs.Try.prog 47 (f47_sack_Right_in wait l) (f47_sack_Right_out r524_0), (!r524_0) = false, ((((l.length : Nat) : Int) : Int) == 0) = false] (by kernel_rfl) ⟨(f47_sack_Right_ok n wait l r524_0 cr524_0), b524_4, b524_e0, trivial⟩ ?_
      refine At.step hm ht ⟨[], [], [], [0, 1, 4, 6], [0]⟩ 4 ⟨[(0, .one (.c (.d (.int .u32 wait)))), (1, .one (.c (.d (.sl (.pair (.int .u32) (.int .u32)) l)))), (4, .one (.c (.ptr 0 0))), (6, .one (.c (.d (.sl .unit []))))], [], [(0, [.d (.int .u8 0), .d (.sl .unit [])])], 1⟩ [] (by kernel_rfl) trivial ?_
      refine At.step hm ht ⟨[], [], [], [1, 4, 6, 7], [0]⟩ 5 ⟨[(1, .one (.c (.d (.sl (.pair (.int .u32) (.int .u32)) l)))), (4, .one (.c (.ptr 0 0))), (6, .one (.c (.d (.sl .unit [])))), (7, .one (.c (.d (.int .u32 wait))))], [], [(0, [.d (.int .u8 0), .d (.sl .unit [])])], 1⟩ [] (by kernel_rfl) trivial ?_
      refine At.step hm ht ⟨[], [], [.nil false 6 0 (.int .u8) (some 5)], [4, 6, 7, 21, 22, 23], [0, 4]⟩ 6 ⟨[(4, .one (.c (.ptr 0 0))), (6, .one (.c (.own 1 (.int .u8) []))), (7, .one (.c (.d (.int .u32 wait)))), (21, .one (.c (.d (.sl (.pair (.int .u32) (.int .u32)) l)))), (22, .one (.c (.d (.int .i64 ((l.length : Nat) : Int))))), (23, .one (.c (.d (.int .i64 0))))], [(1, some ⟨5, 0⟩)], [(0, [.d (.int .u8 0), .d (.sl .unit [])])], 2⟩ [] (by kernel_rfl) trivial ?_
      obtain ⟨w535, cw535, h⟩ := bindS h
      refine f44_sack_Option_L6_ok n [] wait l ((l.length : Nat) : Int) 0 0 w535 cw535 _ ?_
      show At Go.Proofs.Try.prog Go.Proofs.Try.f44 0 11 ⟨[(4, .one (.c (.ptr 0 0))), (6, .one (.c (.own 1 (.int .u8) w535.1)))], [(1, some ⟨5, 0⟩)], [(0, [.d (.int .u8 w535.2), .d (.sl .unit [])])], 2⟩ _
      have h := Option.some.inj h
      subst h
      exact At.fin hm ht ⟨[], [], [], [4, 5], [0, 1]⟩ [0 + 2 ≤ 2] (by kernel_rfl) ⟨(by decide), trivial⟩
end Go.Proofs.YtjoibacjpapncaaF31b
