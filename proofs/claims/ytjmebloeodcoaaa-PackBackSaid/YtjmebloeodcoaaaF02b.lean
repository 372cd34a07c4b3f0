/- What the functions compute, and that they do: printed by a program of this session (zgen.py), proved by Zed. -/
import Derived.Test.YtjmebloeodcoaaaProg
import Derived.Test.YtjmebloeodcoaaaZedYa
namespace Go.Proofs.YtjmebloeodcoaaaF02b
open Go Zed
set_option maxRecDepth 100000
set_option linter.unusedVariables false
def tab : Tab := [(3, ⟨.int .i64, 1, 8, [.int .i64 0], some (.int .i64), none⟩), (5, ⟨.int .u8, 1, 1, [.int .u8 0], some (.int .u8), none⟩), (9, ⟨.str, 1, 16, [.str (⟨#[]⟩ : ByteArray)], some .str, none⟩), (22, ⟨.slice 3, 1, 24, [.sl .unit []], some (.slice (.int .i64)), none⟩), (38, ⟨.int .u64, 1, 8, [.int .u64 0], some (.int .u64), none⟩), (52, ⟨.slice 55, 1, 24, [.sl .unit []], some (.slice (.pair (.int .i64) (.int .u64))), none⟩), (53, ⟨.slice 5, 1, 24, [.sl .unit []], some (.slice (.int .u8)), none⟩), (55, ⟨.struct [(0, 3), (1, 38)], 2, 16, [.int .i64 0, .int .u64 0], some (.pair (.int .i64) (.int .u64)), some [(0, 3), (1, 38)]⟩), (57, ⟨.slice 38, 1, 24, [.sl .unit []], some (.slice (.int .u64)), none⟩), (60, ⟨.int .u64, 1, 8, [.int .u64 0], some (.int .u64), none⟩), (70, ⟨.int .u16, 1, 2, [.int .u16 0], some (.int .u16), none⟩)]
theorem ht : TabOk Go.Proofs.Try.prog tab := tabOk_of (ts := [3, 5, 9, 22, 38, 52, 53, 55, 57, 60, 70]) (by kernel_rfl)
theorem hm : Go.Proofs.Try.prog.follows .mixedOrders = true := by kernel_rfl
/-! brougham/pack.Put -/
def f46_pack_Put_in (b : List Int) (l : List (Int × Int)) : Inn := ⟨[.c (.d (.sl (.int .u8) b)), .c (.d (.sl (.pair (.int .i64) (.int .u64)) l))], [], [], 0⟩
def f46_pack_Put_out (r : List Int) : Out := ⟨.one (.c (.own 0 (.int .u8) r)), [(0, ⟨5, 0⟩)], [], 1⟩
def f46_pack_Put_L7 : Nat → (List Int) → Int → (List (Int × Int)) → Int → Int → Int → Int → Option (List Int × (List (Int × Int)) × Int × Int)
  | 0, _, _, _, _, _, _, _ => none
  | n + 1, out, i, t11, t12, t13, f_0, f_1 =>
    if (decide ((i : Int) ≥ 0)) = true then
      if (0 : Int) ≤ (IntKind.wrap .i64 (8 * i)) then
      if out.length + [(IntKind.wrap .u8 (Int.fdiv f_1 (2 ^ (min (IntKind.wrap .i64 (8 * i)).toNat (IntKind.bits .u64)))))].length ≤ maxLen ∧ (out.length + [(IntKind.wrap .u8 (Int.fdiv f_1 (2 ^ (min (IntKind.wrap .i64 (8 * i)).toNat (IntKind.bits .u64)))))].length) * 1 ≤ 140737488355328 then
      f46_pack_Put_L7 n (out ++ [(IntKind.wrap .u8 (Int.fdiv f_1 (2 ^ (min (IntKind.wrap .i64 (8 * i)).toNat (IntKind.bits .u64)))))]) (IntKind.wrap .i64 (i - 1)) t11 t12 t13 f_0 f_1
      else none
      else none
    else
      some ((out, t11, t12, t13))
def f46_pack_Put_L7_k (e : List Int × (List (Int × Int)) × Int × Int) (o : Out) : Prop := At Go.Proofs.Try.prog Go.Proofs.Try.f46 0 10 ⟨[(5, .one (.c (.own 0 (.int .u8) e.1))), (11, .one (.c (.d (.sl (.pair (.int .i64) (.int .u64)) e.2.1)))), (12, .one (.c (.d (.int .i64 e.2.2.1)))), (13, .one (.c (.d (.int .i64 e.2.2.2))))], [(0, some ⟨5, 0⟩)], [], 1⟩ o
theorem f46_pack_Put_L7_ok (n : Nat) : ∀ (out : List Int) (i : Int) (t11 : List (Int × Int)) (t12 : Int) (t13 : Int) (f_0 : Int) (f_1 : Int) (w : List Int × (List (Int × Int)) × Int × Int) (h : f46_pack_Put_L7 n out i t11 t12 t13 f_0 f_1 = some w) (o : Out) (hk : f46_pack_Put_L7_k w o), At Go.Proofs.Try.prog Go.Proofs.Try.f46 0 7 ⟨[(5, .one (.c (.own 0 (.int .u8) out))), (7, .one (.c (.ptr 1 0))), (8, .one (.c (.d (.int .i64 i)))), (11, .one (.c (.d (.sl (.pair (.int .i64) (.int .u64)) t11)))), (12, .one (.c (.d (.int .i64 t12)))), (13, .one (.c (.d (.int .i64 t13))))], [(0, some ⟨5, 0⟩)], [(1, [.d (.int .i64 f_0), .d (.int .u64 f_1)])], 2⟩ o := by
  induction n with
  | zero => intro out i t11 t12 t13 f_0 f_1 w h; rw [f46_pack_Put_L7] at h; cases h
  | succ n ih =>
    intro out i t11 t12 t13 f_0 f_1 w h o hk
    rw [f46_pack_Put_L7] at h
    rcases iteS h with ⟨b38_e0, h⟩ | ⟨b38_e0, h⟩
    · refine At.step hm ht ⟨[], [true], [], [5, 7, 8, 11, 12, 13], [0, 1]⟩ 9 ⟨[(5, .one (.c (.own 0 (.int .u8) out))), (7, .one (.c (.ptr 1 0))), (8, .one (.c (.d (.int .i64 i)))), (11, .one (.c (.d (.sl (.pair (.int .i64) (.int .u64)) t11)))), (12, .one (.c (.d (.int .i64 t12)))), (13, .one (.c (.d (.int .i64 t13))))], [(0, some ⟨5, 0⟩)], [(1, [.d (.int .i64 f_0), .d (.int .u64 f_1)])], 2⟩ [(decide ((i : Int) ≥ 0)) = true] (by kernel_rfl) ⟨b38_e0, trivial⟩ ?_
      obtain ⟨g39_0, h⟩ := ifS h
      obtain ⟨g39_1, h⟩ := ifS h
      refine At.step hm ht ⟨[], [], [], [5, 7, 8, 11, 12, 13], [10, 1]⟩ 8 ⟨[(5, .one (.c (.own 0 (.int .u8) (out ++ [(IntKind.wrap .u8 (Int.fdiv f_1 (2 ^ (min (IntKind.wrap .i64 (8 * i)).toNat (IntKind.bits .u64)))))])))), (7, .one (.c (.ptr 1 0))), (8, .one (.c (.d (.int .i64 i)))), (11, .one (.c (.d (.sl (.pair (.int .i64) (.int .u64)) t11)))), (12, .one (.c (.d (.int .i64 t12)))), (13, .one (.c (.d (.int .i64 t13))))], [(0, some ⟨5, 0⟩)], [(1, [.d (.int .i64 f_0), .d (.int .u64 f_1)])], 2⟩ [(0 : Int) ≤ (IntKind.wrap .i64 (8 * i)), out.length + [(IntKind.wrap .u8 (Int.fdiv f_1 (2 ^ (min (IntKind.wrap .i64 (8 * i)).toNat (IntKind.bits .u64)))))].length ≤ maxLen ∧ (out.length + [(IntKind.wrap .u8 (Int.fdiv f_1 (2 ^ (min (IntKind.wrap .i64 (8 * i)).toNat (IntKind.bits .u64)))))].length) * 1 ≤ 140737488355328] (by kernel_rfl) ⟨g39_0, g39_1, trivial⟩ ?_
      refine At.step hm ht ⟨[], [], [], [5, 7, 8, 11, 12, 13], [0, 1]⟩ 7 ⟨[(5, .one (.c (.own 0 (.int .u8) (out ++ [(IntKind.wrap .u8 (Int.fdiv f_1 (2 ^ (min (IntKind.wrap .i64 (8 * i)).toNat (IntKind.bits .u64)))))])))), (7, .one (.c (.ptr 1 0))), (8, .one (.c (.d (.int .i64 (IntKind.wrap .i64 (i - 1)))))), (11, .one (.c (.d (.sl (.pair (.int .i64) (.int .u64)) t11)))), (12, .one (.c (.d (.int .i64 t12)))), (13, .one (.c (.d (.int .i64 t13))))], [(0, some ⟨5, 0⟩)], [(1, [.d (.int .i64 f_0), .d (.int .u64 f_1)])], 2⟩ [] (by kernel_rfl) trivial ?_
      exact ih (out ++ [(IntKind.wrap .u8 (Int.fdiv f_1 (2 ^ (min (IntKind.wrap .i64 (8 * i)).toNat (IntKind.bits .u64)))))]) (IntKind.wrap .i64 (i - 1)) t11 t12 t13 f_0 f_1 w h o hk
    · refine At.step hm ht ⟨[], [false], [], [5, 11, 12, 13], [0]⟩ 10 ⟨[(5, .one (.c (.own 0 (.int .u8) out))), (11, .one (.c (.d (.sl (.pair (.int .i64) (.int .u64)) t11)))), (12, .one (.c (.d (.int .i64 t12)))), (13, .one (.c (.d (.int .i64 t13))))], [(0, some ⟨5, 0⟩)], [], 1⟩ [(decide ((i : Int) ≥ 0)) = false] (by kernel_rfl) ⟨b38_e0, trivial⟩ ?_
      have h := Option.some.inj h
      subst h
      exact hk
def f46_pack_Put_L3 : Nat → (List Int) → (List (Int × Int)) → Int → Int → Option (List Int)
  | 0, _, _, _, _ => none
  | n + 1, out, t11, t12, t13 =>
    if (decide ((t13 : Int) < t12)) = true then
      if (0 : Int) ≤ t13 ∧ t13 < (((t11).length : Nat) : Int) then
      if (decide ((((t11.getD t13.toNat (0, 0)).1) : Int) < 1)) = true then
        f46_pack_Put_L3 n out t11 t12 (IntKind.wrap .i64 (t13 + 1))
      else
        if (decide ((((t11.getD t13.toNat (0, 0)).1) : Int) > 8)) = true then
          f46_pack_Put_L3 n out t11 t12 (IntKind.wrap .i64 (t13 + 1))
        else
          (f46_pack_Put_L7 n out (IntKind.wrap .i64 (((t11.getD t13.toNat (0, 0)).1) - 1)) t11 t12 t13 ((t11.getD t13.toNat (0, 0)).1) ((t11.getD t13.toNat (0, 0)).2)).bind fun w41 =>
          f46_pack_Put_L3 n w41.1 w41.2.1 w41.2.2.1 (IntKind.wrap .i64 (w41.2.2.2 + 1))
      else none
    else
      some (out)
def f46_pack_Put_L3_k (e : List Int) (o : Out) : Prop := At Go.Proofs.Try.prog Go.Proofs.Try.f46 0 11 ⟨[(5, .one (.c (.own 0 (.int .u8) e)))], [(0, some ⟨5, 0⟩)], [], 1⟩ o
theorem f46_pack_Put_L3_ok (n : Nat) : ∀ (out : List Int) (t11 : List (Int × Int)) (t12 : Int) (t13 : Int) (w : List Int) (h : f46_pack_Put_L3 n out t11 t12 t13 = some w) (o : Out) (hk : f46_pack_Put_L3_k w o), At Go.Proofs.Try.prog Go.Proofs.Try.f46 0 3 ⟨[(5, .one (.c (.own 0 (.int .u8) out))), (11, .one (.c (.d (.sl (.pair (.int .i64) (.int .u64)) t11)))), (12, .one (.c (.d (.int .i64 t12)))), (13, .one (.c (.d (.int .i64 t13))))], [(0, some ⟨5, 0⟩)], [], 1⟩ o := by
  induction n with
  | zero => intro out t11 t12 t13 w h; rw [f46_pack_Put_L3] at h; cases h
  | succ n ih =>
    intro out t11 t12 t13 w h o hk
    rw [f46_pack_Put_L3] at h
    rcases iteS h with ⟨b32_e0, h⟩ | ⟨b32_e0, h⟩
    · refine At.step hm ht ⟨[], [true], [], [5, 11, 12, 13], [0]⟩ 4 ⟨[(5, .one (.c (.own 0 (.int .u8) out))), (11, .one (.c (.d (.sl (.pair (.int .i64) (.int .u64)) t11)))), (12, .one (.c (.d (.int .i64 t12)))), (13, .one (.c (.d (.int .i64 t13))))], [(0, some ⟨5, 0⟩)], [], 1⟩ [(decide ((t13 : Int) < t12)) = true] (by kernel_rfl) ⟨b32_e0, trivial⟩ ?_
      obtain ⟨g33_0, h⟩ := ifS h
      refine At.step hm ht ⟨[], [], [], [5, 7, 11, 12, 13], [0, 3]⟩ 5 ⟨[(5, .one (.c (.own 0 (.int .u8) out))), (7, .one (.c (.ptr 1 0))), (11, .one (.c (.d (.sl (.pair (.int .i64) (.int .u64)) t11)))), (12, .one (.c (.d (.int .i64 t12)))), (13, .one (.c (.d (.int .i64 t13))))], [(0, some ⟨5, 0⟩)], [(1, [.d (.int .i64 ((t11.getD t13.toNat (0, 0)).1)), .d (.int .u64 ((t11.getD t13.toNat (0, 0)).2))])], 2⟩ [(0 : Int) ≤ t13 ∧ t13 < (((t11).length : Nat) : Int), 0 + 2 ≤ 2] (by kernel_rfl) ⟨g33_0, (by decide), trivial⟩ ?_
      rcases iteS h with ⟨b34_3, h⟩ | ⟨b34_3, h⟩
      · refine At.step hm ht ⟨[(3, .b true)], [true], [], [5, 11, 12, 13], [0]⟩ 10 ⟨[(5, .one (.c (.own 0 (.int .u8) out))), (11, .one (.c (.d (.sl (.pair (.int .i64) (.int .u64)) t11)))), (12, .one (.c (.d (.int .i64 t12)))), (13, .one (.c (.d (.int .i64 t13))))], [(0, some ⟨5, 0⟩)], [], 1⟩ [(decide ((((t11.getD t13.toNat (0, 0)).1) : Int) < 1)) = true, true = true] (by kernel_rfl) ⟨b34_3, rfl, trivial⟩ ?_
        refine At.step hm ht ⟨[], [], [], [5, 11, 12, 13], [0]⟩ 3 ⟨[(5, .one (.c (.own 0 (.int .u8) out))), (11, .one (.c (.d (.sl (.pair (.int .i64) (.int .u64)) t11)))), (12, .one (.c (.d (.int .i64 t12)))), (13, .one (.c (.d (.int .i64 (IntKind.wrap .i64 (t13 + 1))))))], [(0, some ⟨5, 0⟩)], [], 1⟩ [] (by kernel_rfl) trivial ?_
        exact ih out t11 t12 (IntKind.wrap .i64 (t13 + 1)) w h o hk
      · rcases iteS h with ⟨b34_e0, h⟩ | ⟨b34_e0, h⟩
        · refine At.step hm ht ⟨[(3, .b false)], [true], [], [5, 11, 12, 13], [0]⟩ 10 ⟨[(5, .one (.c (.own 0 (.int .u8) out))), (11, .one (.c (.d (.sl (.pair (.int .i64) (.int .u64)) t11)))), (12, .one (.c (.d (.int .i64 t12)))), (13, .one (.c (.d (.int .i64 t13))))], [(0, some ⟨5, 0⟩)], [], 1⟩ [(decide ((((t11.getD t13.toNat (0, 0)).1) : Int) < 1)) = false, (decide ((((t11.getD t13.toNat (0, 0)).1) : Int) > 8)) = true] (by kernel_rfl) ⟨b34_3, b34_e0, trivial⟩ ?_
          refine At.step hm ht ⟨[], [], [], [5, 11, 12, 13], [0]⟩ 3 ⟨[(5, .one (.c (.own 0 (.int .u8) out))), (11, .one (.c (.d (.sl (.pair (.int .i64) (.int .u64)) t11)))), (12, .one (.c (.d (.int .i64 t12)))), (13, .one (.c (.d (.int .i64 (IntKind.wrap .i64 (t13 + 1))))))], [(0, some ⟨5, 0⟩)], [], 1⟩ [] (by kernel_rfl) trivial ?_
          exact ih out t11 t12 (IntKind.wrap .i64 (t13 + 1)) w h o hk
        · refine At.step hm ht ⟨[(3, .b false)], [false], [], [5, 7, 11, 12, 13], [0, 1]⟩ 6 ⟨[(5, .one (.c (.own 0 (.int .u8) out))), (7, .one (.c (.ptr 1 0))), (11, .one (.c (.d (.sl (.pair (.int .i64) (.int .u64)) t11)))), (12, .one (.c (.d (.int .i64 t12)))), (13, .one (.c (.d (.int .i64 t13))))], [(0, some ⟨5, 0⟩)], [(1, [.d (.int .i64 ((t11.getD t13.toNat (0, 0)).1)), .d (.int .u64 ((t11.getD t13.toNat (0, 0)).2))])], 2⟩ [(decide ((((t11.getD t13.toNat (0, 0)).1) : Int) < 1)) = false, (decide ((((t11.getD t13.toNat (0, 0)).1) : Int) > 8)) = false] (by kernel_rfl) ⟨b34_3, b34_e0, trivial⟩ ?_
          refine At.step hm ht ⟨[], [], [], [5, 7, 8, 11, 12, 13], [0, 1]⟩ 7 ⟨[(5, .one (.c (.own 0 (.int .u8) out))), (7, .one (.c (.ptr 1 0))), (8, .one (.c (.d (.int .i64 (IntKind.wrap .i64 (((t11.getD t13.toNat (0, 0)).1) - 1)))))), (11, .one (.c (.d (.sl (.pair (.int .i64) (.int .u64)) t11)))), (12, .one (.c (.d (.int .i64 t12)))), (13, .one (.c (.d (.int .i64 t13))))], [(0, some ⟨5, 0⟩)], [(1, [.d (.int .i64 ((t11.getD t13.toNat (0, 0)).1)), .d (.int .u64 ((t11.getD t13.toNat (0, 0)).2))])], 2⟩ [] (by kernel_rfl) trivial ?_
          obtain ⟨w41, cw41, h⟩ := bindS h
          refine f46_pack_Put_L7_ok n out (IntKind.wrap .i64 (((t11.getD t13.toNat (0, 0)).1) - 1)) t11 t12 t13 ((t11.getD t13.toNat (0, 0)).1) ((t11.getD t13.toNat (0, 0)).2) w41 cw41 _ ?_
          show At Go.Proofs.Try.prog Go.Proofs.Try.f46 0 10 ⟨[(5, .one (.c (.own 0 (.int .u8) w41.1))), (11, .one (.c (.d (.sl (.pair (.int .i64) (.int .u64)) w41.2.1)))), (12, .one (.c (.d (.int .i64 w41.2.2.1)))), (13, .one (.c (.d (.int .i64 w41.2.2.2))))], [(0, some ⟨5, 0⟩)], [], 1⟩ _
          refine At.step hm ht ⟨[], [], [], [5, 11, 12, 13], [0]⟩ 3 ⟨[(5, .one (.c (.own 0 (.int .u8) w41.1))), (11, .one (.c (.d (.sl (.pair (.int .i64) (.int .u64)) w41.2.1)))), (12, .one (.c (.d (.int .i64 w41.2.2.1)))), (13, .one (.c (.d (.int .i64 (IntKind.wrap .i64 (w41.2.2.2 + 1))))))], [(0, some ⟨5, 0⟩)], [], 1⟩ [] (by kernel_rfl) trivial ?_
          exact ih w41.1 w41.2.1 w41.2.2.1 (IntKind.wrap .i64 (w41.2.2.2 + 1)) w h o hk
    · refine At.step hm ht ⟨[], [false], [], [5], [0]⟩ 11 ⟨[(5, .one (.c (.own 0 (.int .u8) out)))], [(0, some ⟨5, 0⟩)], [], 1⟩ [(decide ((t13 : Int) < t12)) = false] (by kernel_rfl) ⟨b32_e0, trivial⟩ ?_
      have h := Option.some.inj h
      subst h
      exact hk
def f46_pack_Put (n : Nat) (b : List Int) (l : List (Int × Int)) : Option (List Int) :=
  if b.length ≤ maxLen ∧ b.length * 1 ≤ 140737488355328 then
  (f46_pack_Put_L3 n b l ((l.length : Nat) : Int) 0).bind fun w44 =>
  some w44
  else none
theorem f46_pack_Put_ok (n : Nat) (b : List Int) (l : List (Int × Int)) (r : List Int) (h : f46_pack_Put n b l = some r) : FnOK Go.Proofs.Try.prog 46 (f46_pack_Put_in b l) (f46_pack_Put_out r) := by
  unfold f46_pack_Put at h
  refine At.fn (r := 0) Go.Proofs.Try.func46 rfl (by kernel_rfl) rfl rfl (by kernel_rfl) ?_
  show At Go.Proofs.Try.prog Go.Proofs.Try.f46 0 0 ⟨[(0, .one (.c (.d (.sl (.int .u8) b)))), (1, .one (.c (.d (.sl (.pair (.int .i64) (.int .u64)) l))))], [], [], 0⟩ _
  refine At.step hm ht ⟨[], [], [], [0, 1], []⟩ 1 ⟨[(0, .one (.c (.d (.sl (.int .u8) b)))), (1, .one (.c (.d (.sl (.pair (.int .i64) (.int .u64)) l))))], [], [], 0⟩ [] (by kernel_rfl) trivial ?_
  obtain ⟨g30_0, h⟩ := ifS h
  refine At.step hm ht ⟨[], [], [], [1, 5], [1]⟩ 2 ⟨[(1, .one (.c (.d (.sl (.pair (.int .i64) (.int .u64)) l)))), (5, .one (.c (.own 0 (.int .u8) b)))], [(0, some ⟨5, 0⟩)], [], 1⟩ [b.length ≤ maxLen ∧ b.length * 1 ≤ 140737488355328] (by kernel_rfl) ⟨g30_0, trivial⟩ ?_
  refine At.step hm ht ⟨[], [], [], [5, 11, 12, 13], [0]⟩ 3 ⟨[(5, .one (.c (.own 0 (.int .u8) b))), (11, .one (.c (.d (.sl (.pair (.int .i64) (.int .u64)) l)))), (12, .one (.c (.d (.int .i64 ((l.length : Nat) : Int))))), (13, .one (.c (.d (.int .i64 0))))], [(0, some ⟨5, 0⟩)], [], 1⟩ [] (by kernel_rfl) trivial ?_
  obtain ⟨w44, cw44, h⟩ := bindS h
  refine f46_pack_Put_L3_ok n b l ((l.length : Nat) : Int) 0 w44 cw44 _ ?_
  show At Go.Proofs.Try.prog Go.Proofs.Try.f46 0 11 ⟨[(5, .one (.c (.own 0 (.int .u8) w44)))], [(0, some ⟨5, 0⟩)], [], 1⟩ _
  have h := Option.some.inj h
  subst h
  exact At.fin hm ht ⟨[], [], [], [4], [0]⟩ [] (by kernel_rfl) trivial
/-! brougham/pack.Get -/
def f47_pack_Get_in (b : List Int) (sizes : List Int) : Inn := ⟨[.c (.d (.sl (.int .u8) b)), .c (.d (.sl (.int .i64) sizes))], [], [], 0⟩
def f47_pack_Get_out (r : List Int × Bool × List Int) : Out := ⟨.tup [.c (.own 0 (.int .u64) r.1), .c (.row 1 (.int .u8)), .c (.d (.bool r.2.1))], [(0, ⟨38, 0⟩), (1, ⟨5, 2⟩)], [(1, [.run (.int .u8) r.2.2])], 2⟩
def f47_pack_Get_L9 : Nat → (List Int) → (List Int) → Int → Int → (List Int) → Int → Int → (List Int) → Int → Int → Option (List Int × List Int × Int × Int × List Int × Int × Int)
  | 0, _, _, _, _, _, _, _, _, _, _ => none
  | n + 1, b, out, n_, x, t13, t14, t15, t33, t34, t35 =>
    if (decide ((t35 : Int) < t34)) = true then
      if (0 : Int) ≤ t35 ∧ t35 < (((t33).length : Nat) : Int) then
      f47_pack_Get_L9 n b out n_ (bits .or .u64 (IntKind.wrap .u64 (x * 2 ^ 8)) (IntKind.wrap .u64 (t33.getD t35.toNat 0))) t13 t14 t15 t33 t34 (IntKind.wrap .i64 (t35 + 1))
      else none
    else
      some ((b, out, n_, x, t13, t14, t15))
def f47_pack_Get_L9_k (e : List Int × List Int × Int × Int × List Int × Int × Int) (o : Out) : Prop := At Go.Proofs.Try.prog Go.Proofs.Try.f47 0 13 ⟨[(0, .one (.c (.d (.sl (.int .u8) e.1)))), (7, .one (.c (.own 0 (.int .u64) e.2.1))), (9, .one (.c (.d (.int .i64 e.2.2.1)))), (10, .one (.c (.d (.int .u64 e.2.2.2.1)))), (13, .one (.c (.d (.sl (.int .i64) e.2.2.2.2.1)))), (14, .one (.c (.d (.int .i64 e.2.2.2.2.2.1)))), (15, .one (.c (.d (.int .i64 e.2.2.2.2.2.2))))], [(0, some ⟨38, 0⟩)], [], 1⟩ o
theorem f47_pack_Get_L9_ok (n : Nat) : ∀ (b : List Int) (out : List Int) (n_ : Int) (x : Int) (t13 : List Int) (t14 : Int) (t15 : Int) (t33 : List Int) (t34 : Int) (t35 : Int) (w : List Int × List Int × Int × Int × List Int × Int × Int) (h : f47_pack_Get_L9 n b out n_ x t13 t14 t15 t33 t34 t35 = some w) (o : Out) (hk : f47_pack_Get_L9_k w o), At Go.Proofs.Try.prog Go.Proofs.Try.f47 0 9 ⟨[(0, .one (.c (.d (.sl (.int .u8) b)))), (7, .one (.c (.own 0 (.int .u64) out))), (9, .one (.c (.d (.int .i64 n_)))), (10, .one (.c (.d (.int .u64 x)))), (13, .one (.c (.d (.sl (.int .i64) t13)))), (14, .one (.c (.d (.int .i64 t14)))), (15, .one (.c (.d (.int .i64 t15)))), (33, .one (.c (.d (.sl (.int .u8) t33)))), (34, .one (.c (.d (.int .i64 t34)))), (35, .one (.c (.d (.int .i64 t35))))], [(0, some ⟨38, 0⟩)], [], 1⟩ o := by
  induction n with
  | zero => intro b out n_ x t13 t14 t15 t33 t34 t35 w h; rw [f47_pack_Get_L9] at h; cases h
  | succ n ih =>
    intro b out n_ x t13 t14 t15 t33 t34 t35 w h o hk
    rw [f47_pack_Get_L9] at h
    rcases iteS h with ⟨b114_e0, h⟩ | ⟨b114_e0, h⟩
    · refine At.step hm ht ⟨[], [true], [], [0, 7, 9, 10, 13, 14, 15, 33, 34, 35], [0]⟩ 10 ⟨[(0, .one (.c (.d (.sl (.int .u8) b)))), (7, .one (.c (.own 0 (.int .u64) out))), (9, .one (.c (.d (.int .i64 n_)))), (10, .one (.c (.d (.int .u64 x)))), (13, .one (.c (.d (.sl (.int .i64) t13)))), (14, .one (.c (.d (.int .i64 t14)))), (15, .one (.c (.d (.int .i64 t15)))), (33, .one (.c (.d (.sl (.int .u8) t33)))), (34, .one (.c (.d (.int .i64 t34)))), (35, .one (.c (.d (.int .i64 t35))))], [(0, some ⟨38, 0⟩)], [], 1⟩ [(decide ((t35 : Int) < t34)) = true] (by kernel_rfl) ⟨b114_e0, trivial⟩ ?_
      obtain ⟨g115_0, h⟩ := ifS h
      refine At.step hm ht ⟨[], [], [], [0, 7, 9, 10, 12, 13, 14, 15, 33, 34, 35], [0]⟩ 11 ⟨[(0, .one (.c (.d (.sl (.int .u8) b)))), (7, .one (.c (.own 0 (.int .u64) out))), (9, .one (.c (.d (.int .i64 n_)))), (10, .one (.c (.d (.int .u64 x)))), (12, .one (.c (.d (.int .u8 (t33.getD t35.toNat 0))))), (13, .one (.c (.d (.sl (.int .i64) t13)))), (14, .one (.c (.d (.int .i64 t14)))), (15, .one (.c (.d (.int .i64 t15)))), (33, .one (.c (.d (.sl (.int .u8) t33)))), (34, .one (.c (.d (.int .i64 t34)))), (35, .one (.c (.d (.int .i64 t35))))], [(0, some ⟨38, 0⟩)], [], 1⟩ [(0 : Int) ≤ t35 ∧ t35 < (((t33).length : Nat) : Int)] (by kernel_rfl) ⟨g115_0, trivial⟩ ?_
      refine At.step hm ht ⟨[], [], [], [0, 7, 9, 10, 13, 14, 15, 33, 34, 35], [0]⟩ 12 ⟨[(0, .one (.c (.d (.sl (.int .u8) b)))), (7, .one (.c (.own 0 (.int .u64) out))), (9, .one (.c (.d (.int .i64 n_)))), (10, .one (.c (.d (.int .u64 (bits .or .u64 (IntKind.wrap .u64 (x * 2 ^ 8)) (IntKind.wrap .u64 (t33.getD t35.toNat 0))))))), (13, .one (.c (.d (.sl (.int .i64) t13)))), (14, .one (.c (.d (.int .i64 t14)))), (15, .one (.c (.d (.int .i64 t15)))), (33, .one (.c (.d (.sl (.int .u8) t33)))), (34, .one (.c (.d (.int .i64 t34)))), (35, .one (.c (.d (.int .i64 t35))))], [(0, some ⟨38, 0⟩)], [], 1⟩ [(0 : Int) ≤ 8] (by kernel_rfl) ⟨(by decide), trivial⟩ ?_
      refine At.step hm ht ⟨[], [], [], [0, 7, 9, 10, 13, 14, 15, 33, 34, 35], [0]⟩ 9 ⟨[(0, .one (.c (.d (.sl (.int .u8) b)))), (7, .one (.c (.own 0 (.int .u64) out))), (9, .one (.c (.d (.int .i64 n_)))), (10, .one (.c (.d (.int .u64 (bits .or .u64 (IntKind.wrap .u64 (x * 2 ^ 8)) (IntKind.wrap .u64 (t33.getD t35.toNat 0))))))), (13, .one (.c (.d (.sl (.int .i64) t13)))), (14, .one (.c (.d (.int .i64 t14)))), (15, .one (.c (.d (.int .i64 t15)))), (33, .one (.c (.d (.sl (.int .u8) t33)))), (34, .one (.c (.d (.int .i64 t34)))), (35, .one (.c (.d (.int .i64 (IntKind.wrap .i64 (t35 + 1))))))], [(0, some ⟨38, 0⟩)], [], 1⟩ [] (by kernel_rfl) trivial ?_
      exact ih b out n_ (bits .or .u64 (IntKind.wrap .u64 (x * 2 ^ 8)) (IntKind.wrap .u64 (t33.getD t35.toNat 0))) t13 t14 t15 t33 t34 (IntKind.wrap .i64 (t35 + 1)) w h o hk
    · refine At.step hm ht ⟨[], [false], [], [0, 7, 9, 10, 13, 14, 15], [0]⟩ 13 ⟨[(0, .one (.c (.d (.sl (.int .u8) b)))), (7, .one (.c (.own 0 (.int .u64) out))), (9, .one (.c (.d (.int .i64 n_)))), (10, .one (.c (.d (.int .u64 x)))), (13, .one (.c (.d (.sl (.int .i64) t13)))), (14, .one (.c (.d (.int .i64 t14)))), (15, .one (.c (.d (.int .i64 t15))))], [(0, some ⟨38, 0⟩)], [], 1⟩ [(decide ((t35 : Int) < t34)) = false] (by kernel_rfl) ⟨b114_e0, trivial⟩ ?_
      have h := Option.some.inj h
      subst h
      exact hk
def f47_pack_Get_L3 : Nat → (List Int) → (List Int) → (List Int) → Int → Int → Option ((List Int × Bool × List Int) ⊕ (List Int × List Int))
  | 0, _, _, _, _, _ => none
  | n + 1, b, out, t13, t14, t15 =>
    if (decide ((t15 : Int) < t14)) = true then
      if (0 : Int) ≤ t15 ∧ t15 < (((t13).length : Nat) : Int) then
      if (decide (((t13.getD t15.toNat 0) : Int) < 1)) = true then
        some (.inl ([], false, []))
      else
        if (decide (((t13.getD t15.toNat 0) : Int) > 8)) = true then
          some (.inl ([], false, []))
        else
          if (decide (((t13.getD t15.toNat 0) : Int) > ((b.length : Nat) : Int))) = true then
            some (.inl ([], false, []))
          else
            if cutOk b.length none (some (t13.getD t15.toNat 0)) none then
            (f47_pack_Get_L9 n b out (t13.getD t15.toNat 0) 0 t13 t14 t15 (b.take (t13.getD t15.toNat 0).toNat) (((b.take (t13.getD t15.toNat 0).toNat).length : Nat) : Int) 0).bind fun w118 =>
            if w118.2.1.length + [w118.2.2.2.1].length ≤ maxLen ∧ (w118.2.1.length + [w118.2.2.2.1].length) * 8 ≤ 140737488355328 then
            if cutOk w118.1.length (some w118.2.2.1) none none then
            f47_pack_Get_L3 n ((w118.1.take w118.1.length).drop w118.2.2.1.toNat) (w118.2.1 ++ [w118.2.2.2.1]) w118.2.2.2.2.1 w118.2.2.2.2.2.1 (IntKind.wrap .i64 (w118.2.2.2.2.2.2 + 1))
            else none
            else none
            else none
      else none
    else
      some (.inr ((b, out)))
def f47_pack_Get_L3_k (w : (List Int × Bool × List Int) ⊕ (List Int × List Int)) (o : Out) : Prop := match w with
  | .inl e => o = f47_pack_Get_out e
  | .inr e => At Go.Proofs.Try.prog Go.Proofs.Try.f47 0 16 ⟨[(0, .one (.c (.d (.sl (.int .u8) e.1)))), (7, .one (.c (.own 0 (.int .u64) e.2)))], [(0, some ⟨38, 0⟩)], [], 1⟩ o
theorem f47_pack_Get_L3_ok (n : Nat) : ∀ (b : List Int) (out : List Int) (t13 : List Int) (t14 : Int) (t15 : Int) (w : (List Int × Bool × List Int) ⊕ (List Int × List Int)) (h : f47_pack_Get_L3 n b out t13 t14 t15 = some w) (o : Out) (hk : f47_pack_Get_L3_k w o), At Go.Proofs.Try.prog Go.Proofs.Try.f47 0 3 ⟨[(0, .one (.c (.d (.sl (.int .u8) b)))), (7, .one (.c (.own 0 (.int .u64) out))), (13, .one (.c (.d (.sl (.int .i64) t13)))), (14, .one (.c (.d (.int .i64 t14)))), (15, .one (.c (.d (.int .i64 t15))))], [(0, some ⟨38, 0⟩)], [], 1⟩ o := by
  induction n with
  | zero => intro b out t13 t14 t15 w h; rw [f47_pack_Get_L3] at h; cases h
  | succ n ih =>
    intro b out t13 t14 t15 w h o hk
    rw [f47_pack_Get_L3] at h
    rcases iteS h with ⟨b106_e0, h⟩ | ⟨b106_e0, h⟩
    · refine At.step hm ht ⟨[], [true], [], [0, 7, 13, 14, 15], [0]⟩ 4 ⟨[(0, .one (.c (.d (.sl (.int .u8) b)))), (7, .one (.c (.own 0 (.int .u64) out))), (13, .one (.c (.d (.sl (.int .i64) t13)))), (14, .one (.c (.d (.int .i64 t14)))), (15, .one (.c (.d (.int .i64 t15))))], [(0, some ⟨38, 0⟩)], [], 1⟩ [(decide ((t15 : Int) < t14)) = true] (by kernel_rfl) ⟨b106_e0, trivial⟩ ?_
      obtain ⟨g107_0, h⟩ := ifS h
      refine At.step hm ht ⟨[], [], [], [0, 7, 9, 13, 14, 15], [0]⟩ 5 ⟨[(0, .one (.c (.d (.sl (.int .u8) b)))), (7, .one (.c (.own 0 (.int .u64) out))), (9, .one (.c (.d (.int .i64 (t13.getD t15.toNat 0))))), (13, .one (.c (.d (.sl (.int .i64) t13)))), (14, .one (.c (.d (.int .i64 t14)))), (15, .one (.c (.d (.int .i64 t15))))], [(0, some ⟨38, 0⟩)], [], 1⟩ [(0 : Int) ≤ t15 ∧ t15 < (((t13).length : Nat) : Int)] (by kernel_rfl) ⟨g107_0, trivial⟩ ?_
      rcases iteS h with ⟨b108_2, h⟩ | ⟨b108_2, h⟩
      · refine At.step hm ht ⟨[(2, .b true)], [true], [], [], []⟩ 6 ⟨[], [], [], 0⟩ [(decide (((t13.getD t15.toNat 0) : Int) < 1)) = true, true = true] (by kernel_rfl) ⟨b108_2, rfl, trivial⟩ ?_
        have h := Option.some.inj h
        subst h
        have hk : o = f47_pack_Get_out ([], false, []) := hk
        subst hk
        exact At.fin hm ht ⟨[], [], [.nil false 4 0 (.int .u64) (some 38), .nilrow 5 0 (.int .u8) 5], [4, 5, 6], [3, 4]⟩ [] (by kernel_rfl) trivial
      · rcases iteS h with ⟨b108_6, h⟩ | ⟨b108_6, h⟩
        · refine At.step hm ht ⟨[(2, .b false), (6, .b true)], [true], [], [], []⟩ 6 ⟨[], [], [], 0⟩ [(decide (((t13.getD t15.toNat 0) : Int) < 1)) = false, (decide (((t13.getD t15.toNat 0) : Int) > 8)) = true, true = true] (by kernel_rfl) ⟨b108_2, b108_6, rfl, trivial⟩ ?_
          have h := Option.some.inj h
          subst h
          have hk : o = f47_pack_Get_out ([], false, []) := hk
          subst hk
          exact At.fin hm ht ⟨[], [], [.nil false 4 0 (.int .u64) (some 38), .nilrow 5 0 (.int .u8) 5], [4, 5, 6], [3, 4]⟩ [] (by kernel_rfl) trivial
        · rcases iteS h with ⟨b108_e0, h⟩ | ⟨b108_e0, h⟩
          · refine At.step hm ht ⟨[(2, .b false), (6, .b false)], [true], [], [], []⟩ 6 ⟨[], [], [], 0⟩ [(decide (((t13.getD t15.toNat 0) : Int) < 1)) = false, (decide (((t13.getD t15.toNat 0) : Int) > 8)) = false, (decide (((t13.getD t15.toNat 0) : Int) > ((b.length : Nat) : Int))) = true] (by kernel_rfl) ⟨b108_2, b108_6, b108_e0, trivial⟩ ?_
            have h := Option.some.inj h
            subst h
            have hk : o = f47_pack_Get_out ([], false, []) := hk
            subst hk
            exact At.fin hm ht ⟨[], [], [.nil false 4 0 (.int .u64) (some 38), .nilrow 5 0 (.int .u8) 5], [4, 5, 6], [3, 4]⟩ [] (by kernel_rfl) trivial
          · refine At.step hm ht ⟨[(2, .b false), (6, .b false)], [false], [], [0, 7, 9, 13, 14, 15], [0]⟩ 7 ⟨[(0, .one (.c (.d (.sl (.int .u8) b)))), (7, .one (.c (.own 0 (.int .u64) out))), (9, .one (.c (.d (.int .i64 (t13.getD t15.toNat 0))))), (13, .one (.c (.d (.sl (.int .i64) t13)))), (14, .one (.c (.d (.int .i64 t14)))), (15, .one (.c (.d (.int .i64 t15))))], [(0, some ⟨38, 0⟩)], [], 1⟩ [(decide (((t13.getD t15.toNat 0) : Int) < 1)) = false, (decide (((t13.getD t15.toNat 0) : Int) > 8)) = false, (decide (((t13.getD t15.toNat 0) : Int) > ((b.length : Nat) : Int))) = false] (by kernel_rfl) ⟨b108_2, b108_6, b108_e0, trivial⟩ ?_
            refine At.step hm ht ⟨[], [], [], [0, 7, 9, 10, 13, 14, 15], [0]⟩ 8 ⟨[(0, .one (.c (.d (.sl (.int .u8) b)))), (7, .one (.c (.own 0 (.int .u64) out))), (9, .one (.c (.d (.int .i64 (t13.getD t15.toNat 0))))), (10, .one (.c (.d (.int .u64 0)))), (13, .one (.c (.d (.sl (.int .i64) t13)))), (14, .one (.c (.d (.int .i64 t14)))), (15, .one (.c (.d (.int .i64 t15))))], [(0, some ⟨38, 0⟩)], [], 1⟩ [] (by kernel_rfl) trivial ?_
            obtain ⟨g113_0, h⟩ := ifS h
            refine At.step hm ht ⟨[], [], [], [0, 7, 9, 10, 13, 14, 15, 33, 34, 35], [0]⟩ 9 ⟨[(0, .one (.c (.d (.sl (.int .u8) b)))), (7, .one (.c (.own 0 (.int .u64) out))), (9, .one (.c (.d (.int .i64 (t13.getD t15.toNat 0))))), (10, .one (.c (.d (.int .u64 0)))), (13, .one (.c (.d (.sl (.int .i64) t13)))), (14, .one (.c (.d (.int .i64 t14)))), (15, .one (.c (.d (.int .i64 t15)))), (33, .one (.c (.d (.sl (.int .u8) (b.take (t13.getD t15.toNat 0).toNat))))), (34, .one (.c (.d (.int .i64 (((b.take (t13.getD t15.toNat 0).toNat).length : Nat) : Int))))), (35, .one (.c (.d (.int .i64 0))))], [(0, some ⟨38, 0⟩)], [], 1⟩ [cutOk b.length none (some (t13.getD t15.toNat 0)) none] (by kernel_rfl) ⟨g113_0, trivial⟩ ?_
            obtain ⟨w118, cw118, h⟩ := bindS h
            refine f47_pack_Get_L9_ok n b out (t13.getD t15.toNat 0) 0 t13 t14 t15 (b.take (t13.getD t15.toNat 0).toNat) (((b.take (t13.getD t15.toNat 0).toNat).length : Nat) : Int) 0 w118 cw118 _ ?_
            show At Go.Proofs.Try.prog Go.Proofs.Try.f47 0 13 ⟨[(0, .one (.c (.d (.sl (.int .u8) w118.1)))), (7, .one (.c (.own 0 (.int .u64) w118.2.1))), (9, .one (.c (.d (.int .i64 w118.2.2.1)))), (10, .one (.c (.d (.int .u64 w118.2.2.2.1)))), (13, .one (.c (.d (.sl (.int .i64) w118.2.2.2.2.1)))), (14, .one (.c (.d (.int .i64 w118.2.2.2.2.2.1)))), (15, .one (.c (.d (.int .i64 w118.2.2.2.2.2.2))))], [(0, some ⟨38, 0⟩)], [], 1⟩ _
            obtain ⟨g120_0, h⟩ := ifS h
            refine At.step hm ht ⟨[], [], [], [0, 7, 9, 13, 14, 15], [4]⟩ 14 ⟨[(0, .one (.c (.d (.sl (.int .u8) w118.1)))), (7, .one (.c (.own 0 (.int .u64) (w118.2.1 ++ [w118.2.2.2.1])))), (9, .one (.c (.d (.int .i64 w118.2.2.1)))), (13, .one (.c (.d (.sl (.int .i64) w118.2.2.2.2.1)))), (14, .one (.c (.d (.int .i64 w118.2.2.2.2.2.1)))), (15, .one (.c (.d (.int .i64 w118.2.2.2.2.2.2))))], [(0, some ⟨38, 0⟩)], [], 1⟩ [w118.2.1.length + [w118.2.2.2.1].length ≤ maxLen ∧ (w118.2.1.length + [w118.2.2.2.1].length) * 8 ≤ 140737488355328] (by kernel_rfl) ⟨g120_0, trivial⟩ ?_
            obtain ⟨g121_0, h⟩ := ifS h
            refine At.step hm ht ⟨[], [], [], [0, 7, 13, 14, 15], [0]⟩ 15 ⟨[(0, .one (.c (.d (.sl (.int .u8) ((w118.1.take w118.1.length).drop w118.2.2.1.toNat))))), (7, .one (.c (.own 0 (.int .u64) (w118.2.1 ++ [w118.2.2.2.1])))), (13, .one (.c (.d (.sl (.int .i64) w118.2.2.2.2.1)))), (14, .one (.c (.d (.int .i64 w118.2.2.2.2.2.1)))), (15, .one (.c (.d (.int .i64 w118.2.2.2.2.2.2))))], [(0, some ⟨38, 0⟩)], [], 1⟩ [cutOk w118.1.length (some w118.2.2.1) none none] (by kernel_rfl) ⟨g121_0, trivial⟩ ?_
            refine At.step hm ht ⟨[], [], [], [0, 7, 13, 14, 15], [0]⟩ 3 ⟨[(0, .one (.c (.d (.sl (.int .u8) ((w118.1.take w118.1.length).drop w118.2.2.1.toNat))))), (7, .one (.c (.own 0 (.int .u64) (w118.2.1 ++ [w118.2.2.2.1])))), (13, .one (.c (.d (.sl (.int .i64) w118.2.2.2.2.1)))), (14, .one (.c (.d (.int .i64 w118.2.2.2.2.2.1)))), (15, .one (.c (.d (.int .i64 (IntKind.wrap .i64 (w118.2.2.2.2.2.2 + 1))))))], [(0, some ⟨38, 0⟩)], [], 1⟩ [] (by kernel_rfl) trivial ?_
            exact ih ((w118.1.take w118.1.length).drop w118.2.2.1.toNat) (w118.2.1 ++ [w118.2.2.2.1]) w118.2.2.2.2.1 w118.2.2.2.2.2.1 (IntKind.wrap .i64 (w118.2.2.2.2.2.2 + 1)) w h o hk
    · refine At.step hm ht ⟨[], [false], [], [0, 7], [0]⟩ 16 ⟨[(0, .one (.c (.d (.sl (.int .u8) b)))), (7, .one (.c (.own 0 (.int .u64) out)))], [(0, some ⟨38, 0⟩)], [], 1⟩ [(decide ((t15 : Int) < t14)) = false] (by kernel_rfl) ⟨b106_e0, trivial⟩ ?_
      have h := Option.some.inj h
      subst h
      exact hk
def f47_pack_Get (n : Nat) (b : List Int) (sizes : List Int) : Option (List Int × Bool × List Int) :=
  (f47_pack_Get_L3 n b [] sizes ((sizes.length : Nat) : Int) 0).bind fun w123 =>
  match w123 with
  | .inl e124 =>
    some (e124.1, e124.2.1, e124.2.2)
  | .inr e125 =>
    if e125.1.length ≤ maxLen ∧ e125.1.length * 1 ≤ 140737488355328 then
    some (e125.2, true, e125.1)
    else none
theorem f47_pack_Get_ok (n : Nat) (b : List Int) (sizes : List Int) (r : List Int × Bool × List Int) (h : f47_pack_Get n b sizes = some r) : FnOK Go.Proofs.Try.prog 47 (f47_pack_Get_in b sizes) (f47_pack_Get_out r) := by
  unfold f47_pack_Get at h
  refine At.fn (r := 0) Go.Proofs.Try.func47 rfl (by kernel_rfl) rfl rfl (by kernel_rfl) ?_
  show At Go.Proofs.Try.prog Go.Proofs.Try.f47 0 0 ⟨[(0, .one (.c (.d (.sl (.int .u8) b)))), (1, .one (.c (.d (.sl (.int .i64) sizes))))], [], [], 0⟩ _
  refine At.step hm ht ⟨[], [], [], [0, 1], []⟩ 1 ⟨[(0, .one (.c (.d (.sl (.int .u8) b)))), (1, .one (.c (.d (.sl (.int .i64) sizes))))], [], [], 0⟩ [] (by kernel_rfl) trivial ?_
  refine At.step hm ht ⟨[], [], [], [0, 1, 7], []⟩ 2 ⟨[(0, .one (.c (.d (.sl (.int .u8) b)))), (1, .one (.c (.d (.sl (.int .i64) sizes)))), (7, .one (.c (.d (.sl .unit []))))], [], [], 0⟩ [] (by kernel_rfl) trivial ?_
  refine At.step hm ht ⟨[], [], [.nil false 7 0 (.int .u64) (some 38)], [0, 7, 13, 14, 15], [3]⟩ 3 ⟨[(0, .one (.c (.d (.sl (.int .u8) b)))), (7, .one (.c (.own 0 (.int .u64) []))), (13, .one (.c (.d (.sl (.int .i64) sizes)))), (14, .one (.c (.d (.int .i64 ((sizes.length : Nat) : Int))))), (15, .one (.c (.d (.int .i64 0))))], [(0, some ⟨38, 0⟩)], [], 1⟩ [] (by kernel_rfl) trivial ?_
  obtain ⟨w123, cw123, h⟩ := bindS h
  refine f47_pack_Get_L3_ok n b [] sizes ((sizes.length : Nat) : Int) 0 w123 cw123 _ ?_
  rcases w123 with e124 | e125
  · have h := Option.some.inj h
    subst h
    rfl
  · show At Go.Proofs.Try.prog Go.Proofs.Try.f47 0 16 ⟨[(0, .one (.c (.d (.sl (.int .u8) e125.1)))), (7, .one (.c (.own 0 (.int .u64) e125.2)))], [(0, some ⟨38, 0⟩)], [], 1⟩ _
    obtain ⟨g126_0, h⟩ := ifS h
    have h := Option.some.inj h
    subst h
    exact At.fin hm ht ⟨[(2, .row)], [], [], [4, 5, 6], [0, 3]⟩ [e125.1.length ≤ maxLen ∧ e125.1.length * 1 ≤ 140737488355328] (by kernel_rfl) ⟨g126_0, trivial⟩
/-! brougham/pack.H -/
def f54_pack_H_in (n_ : Int) : Inn := ⟨[.c (.d (.int .u16 n_))], [], [], 0⟩
def f54_pack_H_out (r : Int × Int) : Out := ⟨.one (.agg [.d (.int .i64 r.1), .d (.int .u64 r.2)]), [], [(0, [.d (.int .i64 r.1), .d (.int .u64 r.2)])], 1⟩
def f54_pack_H (n_ : Int) : Option (Int × Int) :=
  some (2, (IntKind.wrap .u64 n_))
theorem f54_pack_H_ok (n_ : Int) (r : Int × Int) (h : f54_pack_H n_ = some r) : FnOK Go.Proofs.Try.prog 54 (f54_pack_H_in n_) (f54_pack_H_out r) := by
  unfold f54_pack_H at h
  refine At.fn (r := 0) Go.Proofs.Try.func54 rfl (by kernel_rfl) rfl rfl (by kernel_rfl) ?_
  show At Go.Proofs.Try.prog Go.Proofs.Try.f54 0 0 ⟨[(0, .one (.c (.d (.int .u16 n_))))], [], [], 0⟩ _
  refine At.step hm ht ⟨[], [], [], [0, 2], [0]⟩ 1 ⟨[(0, .one (.c (.d (.int .u16 n_)))), (2, .one (.c (.ptr 0 0)))], [], [(0, [.d (.int .i64 0), .d (.int .u64 0)])], 1⟩ [] (by kernel_rfl) trivial ?_
  have h := Option.some.inj h
  subst h
  exact At.fin hm ht ⟨[], [], [], [2], [0]⟩ [0 + 2 ≤ 2] (by kernel_rfl) ⟨(by decide), trivial⟩
/-! brougham/pack.B -/
def f53_pack_B_in (n_ : Int) : Inn := ⟨[.c (.d (.int .u8 n_))], [], [], 0⟩
def f53_pack_B_out (r : Int × Int) : Out := ⟨.one (.agg [.d (.int .i64 r.1), .d (.int .u64 r.2)]), [], [(0, [.d (.int .i64 r.1), .d (.int .u64 r.2)])], 1⟩
def f53_pack_B (n_ : Int) : Option (Int × Int) :=
  some (1, (IntKind.wrap .u64 n_))
theorem f53_pack_B_ok (n_ : Int) (r : Int × Int) (h : f53_pack_B n_ = some r) : FnOK Go.Proofs.Try.prog 53 (f53_pack_B_in n_) (f53_pack_B_out r) := by
  unfold f53_pack_B at h
  refine At.fn (r := 0) Go.Proofs.Try.func53 rfl (by kernel_rfl) rfl rfl (by kernel_rfl) ?_
  show At Go.Proofs.Try.prog Go.Proofs.Try.f53 0 0 ⟨[(0, .one (.c (.d (.int .u8 n_))))], [], [], 0⟩ _
  refine At.step hm ht ⟨[], [], [], [0, 2], [0]⟩ 1 ⟨[(0, .one (.c (.d (.int .u8 n_)))), (2, .one (.c (.ptr 0 0)))], [], [(0, [.d (.int .i64 0), .d (.int .u64 0)])], 1⟩ [] (by kernel_rfl) trivial ?_
  have h := Option.some.inj h
  subst h
  exact At.fin hm ht ⟨[], [], [], [2], [0]⟩ [0 + 2 ≤ 2] (by kernel_rfl) ⟨(by decide), trivial⟩
/-! brougham/broughamlaw02.alive -/
def f48_broughamlaw02_alive_in : Inn := ⟨[], [], [], 0⟩
def f48_broughamlaw02_alive_out (r : Bool) : Out := ⟨.one (.c (.d (.bool r))), [], [], 0⟩
def f48_broughamlaw02_alive (n : Nat) : Option (Bool) :=
  (f47_pack_Get n [1, 2, 3] [2]).bind fun r153_0 =>
  (f54_pack_H 258).bind fun r154_0 =>
  (f53_pack_B 3).bind fun r154_1 =>
  (f46_pack_Put n [] [r154_0, r154_1]).bind fun r154_2 =>
  if ((strOfNums r154_2).toList == (⟨#[1, 2, 3]⟩ : ByteArray).toList) = true then
    if r153_0.2.1 = true then
      if ((((r153_0.1.length : Nat) : Int) : Int) == 1) = true then
        if (0 : Int) ≤ 0 ∧ 0 < (((r153_0.1).length : Nat) : Int) then
        if (((r153_0.1.getD 0 0) : Int) == 258) = true then
          some ((strOfNums r153_0.2.2).toList == (⟨#[3]⟩ : ByteArray).toList)
        else
          some false
        else none
      else
        some false
    else
      some false
  else
    some false
theorem f48_broughamlaw02_alive_ok (n : Nat) (r : Bool) (h : f48_broughamlaw02_alive n = some r) : FnOK Go.Proofs.Try.prog 48 (f48_broughamlaw02_alive_in) (f48_broughamlaw02_alive_out r) := by
  unfold f48_broughamlaw02_alive at h
  refine At.fn (r := 0) Go.Proofs.Try.func48 rfl (by kernel_rfl) rfl rfl (by kernel_rfl) ?_
  show At Go.Proofs.Try.prog Go.Proofs.Try.f48 0 0 ⟨[], [], [], 0⟩ _
  refine At.step hm ht ⟨[], [], [], [], []⟩ 1 ⟨[], [], [], 0⟩ [] (by kernel_rfl) trivial ?_
  obtain ⟨r153_0, cr153_0, h⟩ := bindS h
  refine At.step hm ht ⟨[(2, .call [] [] (f47_pack_Get_out r153_0))], [], [], [1, 2, 3], [2, 3]⟩ 2 ⟨[(1, .one (.c (.own 0 (.int .u64) r153_0.1))), (2, .one (.c (.row 1 (.int .u8)))), (3, .one (.c (.d (.bool r153_0.2.1))))], [(0, some ⟨38, 0⟩), (1, some ⟨5, 2⟩)], [(1, [.run (.int .u8) r153_0.2.2])], 2⟩ [FnOK Go.Proofs.Try.prog 47 (f47_pack_Get_in [1, 2, 3] [2]) (f47_pack_Get_out r153_0)] (by kernel_rfl) ⟨(f47_pack_Get_ok n [1, 2, 3] [2] r153_0 cr153_0), trivial⟩ ?_
  obtain ⟨r154_0, cr154_0, h⟩ := bindS h
  obtain ⟨r154_1, cr154_1, h⟩ := bindS h
  obtain ⟨r154_2, cr154_2, h⟩ := bindS h
  rcases iteS h with ⟨b154_6, h⟩ | ⟨b154_6, h⟩
  · rcases iteS h with ⟨b154_9, h⟩ | ⟨b154_9, h⟩
    · rcases iteS h with ⟨b154_14, h⟩ | ⟨b154_14, h⟩
      · obtain ⟨g154_3, h⟩ := ifS h
        rcases iteS h with ⟨b154_20, h⟩ | ⟨b154_20, h⟩
        · have h := Option.some.inj h
          subst h
          exact At.fin hm ht ⟨[(0, .call [] [] (f54_pack_H_out r154_0)), (1, .call [] [] (f53_pack_B_out r154_1)), (3, .call [] [(0, 0, (.int .u8))] (f46_pack_Put_out r154_2)), (6, .b true), (9, .b true), (14, .b true), (20, .b true)], [], [], [0], []⟩ [FnOK Go.Proofs.Try.prog 54 (f54_pack_H_in 258) (f54_pack_H_out r154_0), FnOK Go.Proofs.Try.prog 53 (f53_pack_B_in 3) (f53_pack_B_out r154_1), FnOK Go.Proofs.Try.prog 46 (f46_pack_Put_in [] [r154_0, r154_1]) (f46_pack_Put_out r154_2), ((strOfNums r154_2).toList == (⟨#[1, 2, 3]⟩ : ByteArray).toList) = true, r153_0.2.1 = true, ((((r153_0.1.length : Nat) : Int) : Int) == 1) = true, (0 : Int) ≤ 0 ∧ 0 < (((r153_0.1).length : Nat) : Int), (((r153_0.1.getD 0 0) : Int) == 258) = true] (by kernel_rfl) ⟨(f54_pack_H_ok 258 r154_0 cr154_0), (f53_pack_B_ok 3 r154_1 cr154_1), (f46_pack_Put_ok n [] [r154_0, r154_1] r154_2 cr154_2), b154_6, b154_9, b154_14, g154_3, b154_20, trivial⟩
        · have h := Option.some.inj h
          subst h
          exact At.fin hm ht ⟨[(0, .call [] [] (f54_pack_H_out r154_0)), (1, .call [] [] (f53_pack_B_out r154_1)), (3, .call [] [(0, 0, (.int .u8))] (f46_pack_Put_out r154_2)), (6, .b true), (9, .b true), (14, .b true), (20, .b false)], [], [], [0], []⟩ [FnOK Go.Proofs.Try.prog 54 (f54_pack_H_in 258) (f54_pack_H_out r154_0), FnOK Go.Proofs.Try.prog 53 (f53_pack_B_in 3) (f53_pack_B_out r154_1), FnOK Go.Proofs.Try.prog 46 (f46_pack_Put_in [] [r154_0, r154_1]) (f46_pack_Put_out r154_2), ((strOfNums r154_2).toList == (⟨#[1, 2, 3]⟩ : ByteArray).toList) = true, r153_0.2.1 = true, ((((r153_0.1.length : Nat) : Int) : Int) == 1) = true, (0 : Int) ≤ 0 ∧ 0 < (((r153_0.1).length : Nat) : Int), (((r153_0.1.getD 0 0) : Int) == 258) = false] (by kernel_rfl) ⟨(f54_pack_H_ok 258 r154_0 cr154_0), (f53_pack_B_ok 3 r154_1 cr154_1), (f46_pack_Put_ok n [] [r154_0, r154_1] r154_2 cr154_2), b154_6, b154_9, b154_14, g154_3, b154_20, trivial⟩
      · have h := Option.some.inj h
        subst h
        exact At.fin hm ht ⟨[(0, .call [] [] (f54_pack_H_out r154_0)), (1, .call [] [] (f53_pack_B_out r154_1)), (3, .call [] [(0, 0, (.int .u8))] (f46_pack_Put_out r154_2)), (6, .b true), (9, .b true), (14, .b false)], [], [], [0], []⟩ [FnOK Go.Proofs.Try.prog 54 (f54_pack_H_in 258) (f54_pack_H_out r154_0), FnOK Go.Proofs.Try.prog 53 (f53_pack_B_in 3) (f53_pack_B_out r154_1), FnOK Go.Proofs.Try.prog 46 (f46_pack_Put_in [] [r154_0, r154_1]) (f46_pack_Put_out r154_2), ((strOfNums r154_2).toList == (⟨#[1, 2, 3]⟩ : ByteArray).toList) = true, r153_0.2.1 = true, ((((r153_0.1.length : Nat) : Int) : Int) == 1) = false] (by kernel_rfl) ⟨(f54_pack_H_ok 258 r154_0 cr154_0), (f53_pack_B_ok 3 r154_1 cr154_1), (f46_pack_Put_ok n [] [r154_0, r154_1] r154_2 cr154_2), b154_6, b154_9, b154_14, trivial⟩
    · have h := Option.some.inj h
      subst h
      exact At.fin hm ht ⟨[(0, .call [] [] (f54_pack_H_out r154_0)), (1, .call [] [] (f53_pack_B_out r154_1)), (3, .call [] [(0, 0, (.int .u8))] (f46_pack_Put_out r154_2)), (6, .b true), (9, .b false)], [], [], [0], []⟩ [FnOK Go.Proofs.Try.prog 54 (f54_pack_H_in 258) (f54_pack_H_out r154_0), FnOK Go.Proofs.Try.prog 53 (f53_pack_B_in 3) (f53_pack_B_out r154_1), FnOK Go.Proofs.Try.prog 46 (f46_pack_Put_in [] [r154_0, r154_1]) (f46_pack_Put_out r154_2), ((strOfNums r154_2).toList == (⟨#[1, 2, 3]⟩ : ByteArray).toList) = true, r153_0.2.1 = false] (by kernel_rfl) ⟨(f54_pack_H_ok 258 r154_0 cr154_0), (f53_pack_B_ok 3 r154_1 cr154_1), (f46_pack_Put_ok n [] [r154_0, r154_1] r154_2 cr154_2), b154_6, b154_9, trivial⟩
  · have h := Option.some.inj h
    subst h
    exact At.fin hm ht ⟨[(0, .call [] [] (f54_pack_H_out r154_0)), (1, .call [] [] (f53_pack_B_out r154_1)), (3, .call [] [(0, 0, (.int .u8))] (f46_pack_Put_out r154_2)), (6, .b false)], [], [], [0], []⟩ [FnOK Go.Proofs.Try.prog 54 (f54_pack_H_in 258) (f54_pack_H_out r154_0), FnOK Go.Proofs.Try.prog 53 (f53_pack_B_in 3) (f53_pack_B_out r154_1), FnOK Go.Proofs.Try.prog 46 (f46_pack_Put_in [] [r154_0, r154_1]) (f46_pack_Put_out r154_2), ((strOfNums r154_2).toList == (⟨#[1, 2, 3]⟩ : ByteArray).toList) = false] (by kernel_rfl) ⟨(f54_pack_H_ok 258 r154_0 cr154_0), (f53_pack_B_ok 3 r154_1 cr154_1), (f46_pack_Put_ok n [] [r154_0, r154_1] r154_2 cr154_2), b154_6, trivial⟩
/-! brougham/broughamlaw02.PackBack -/
def f12_broughamlaw02_PackBack_in (l : List (Int × Int)) (behind : List Int) : Inn := ⟨[.c (.d (.sl (.pair (.int .i64) (.int .u64)) l)), .c (.d (.sl (.int .u8) behind))], [], [], 0⟩
def f12_broughamlaw02_PackBack_out (r : Bool) : Out := ⟨.one (.c (.d (.bool r))), [], [], 0⟩
def f12_broughamlaw02_PackBack_L5 : Nat → (List (Int × Int)) → (List Int) → (List Int) → Int → Option ((Bool) ⊕ ((List (Int × Int)) × List Int × List Int))
  | 0, _, _, _, _ => none
  | n + 1, l, behind, sizes, i =>
    if (decide ((i : Int) < ((l.length : Nat) : Int))) = true then
      if (0 : Int) ≤ i ∧ i < (((l).length : Nat) : Int) then
      if (decide ((((l.getD i.toNat (0, 0)).1) : Int) < 1)) = true then
        some (.inl true)
      else
        if (0 : Int) ≤ i ∧ i < (((l).length : Nat) : Int) then
        if (decide ((((l.getD i.toNat (0, 0)).1) : Int) > 8)) = true then
          some (.inl true)
        else
          if (0 : Int) ≤ i ∧ i < (((l).length : Nat) : Int) then
          if sizes.length + [(l.getD i.toNat (0, 0)).1].length ≤ maxLen ∧ (sizes.length + [(l.getD i.toNat (0, 0)).1].length) * 8 ≤ 140737488355328 then
          f12_broughamlaw02_PackBack_L5 n l behind (sizes ++ [(l.getD i.toNat (0, 0)).1]) (IntKind.wrap .i64 (i + 1))
          else none
          else none
        else none
      else none
    else
      some (.inr ((l, behind, sizes)))
def f12_broughamlaw02_PackBack_L5_k (w : (Bool) ⊕ ((List (Int × Int)) × List Int × List Int)) (o : Out) : Prop := match w with
  | .inl e => o = f12_broughamlaw02_PackBack_out e
  | .inr e => At Go.Proofs.Try.prog Go.Proofs.Try.f12 0 10 ⟨[(0, .one (.c (.d (.sl (.pair (.int .i64) (.int .u64)) e.1)))), (1, .one (.c (.d (.sl (.int .u8) e.2.1)))), (5, .one (.c (.own 0 (.int .i64) e.2.2)))], [(0, some ⟨3, 0⟩)], [], 1⟩ o
theorem f12_broughamlaw02_PackBack_L5_ok (n : Nat) : ∀ (l : List (Int × Int)) (behind : List Int) (sizes : List Int) (i : Int) (w : (Bool) ⊕ ((List (Int × Int)) × List Int × List Int)) (h : f12_broughamlaw02_PackBack_L5 n l behind sizes i = some w) (o : Out) (hk : f12_broughamlaw02_PackBack_L5_k w o), At Go.Proofs.Try.prog Go.Proofs.Try.f12 0 5 ⟨[(0, .one (.c (.d (.sl (.pair (.int .i64) (.int .u64)) l)))), (1, .one (.c (.d (.sl (.int .u8) behind)))), (5, .one (.c (.own 0 (.int .i64) sizes))), (6, .one (.c (.d (.int .i64 i))))], [(0, some ⟨3, 0⟩)], [], 1⟩ o := by
  induction n with
  | zero => intro l behind sizes i w h; rw [f12_broughamlaw02_PackBack_L5] at h; cases h
  | succ n ih =>
    intro l behind sizes i w h o hk
    rw [f12_broughamlaw02_PackBack_L5] at h
    rcases iteS h with ⟨b19_e0, h⟩ | ⟨b19_e0, h⟩
    · refine At.step hm ht ⟨[], [true], [], [0, 1, 5, 6], [0]⟩ 7 ⟨[(0, .one (.c (.d (.sl (.pair (.int .i64) (.int .u64)) l)))), (1, .one (.c (.d (.sl (.int .u8) behind)))), (5, .one (.c (.own 0 (.int .i64) sizes))), (6, .one (.c (.d (.int .i64 i))))], [(0, some ⟨3, 0⟩)], [], 1⟩ [(decide ((i : Int) < ((l.length : Nat) : Int))) = true] (by kernel_rfl) ⟨b19_e0, trivial⟩ ?_
      obtain ⟨g20_0, h⟩ := ifS h
      rcases iteS h with ⟨b20_6, h⟩ | ⟨b20_6, h⟩
      · refine At.step hm ht ⟨[(6, .b true)], [true], [], [], []⟩ 8 ⟨[], [], [], 0⟩ [(0 : Int) ≤ i ∧ i < (((l).length : Nat) : Int), (decide ((((l.getD i.toNat (0, 0)).1) : Int) < 1)) = true, true = true] (by kernel_rfl) ⟨g20_0, b20_6, rfl, trivial⟩ ?_
        have h := Option.some.inj h
        subst h
        have hk : o = f12_broughamlaw02_PackBack_out true := hk
        subst hk
        exact At.fin hm ht ⟨[], [], [], [4], []⟩ [] (by kernel_rfl) trivial
      · obtain ⟨g20_1, h⟩ := ifS h
        rcases iteS h with ⟨b20_e0, h⟩ | ⟨b20_e0, h⟩
        · refine At.step hm ht ⟨[(6, .b false)], [true], [], [], []⟩ 8 ⟨[], [], [], 0⟩ [(0 : Int) ≤ i ∧ i < (((l).length : Nat) : Int), (decide ((((l.getD i.toNat (0, 0)).1) : Int) < 1)) = false, (0 : Int) ≤ i ∧ i < (((l).length : Nat) : Int), (decide ((((l.getD i.toNat (0, 0)).1) : Int) > 8)) = true] (by kernel_rfl) ⟨g20_0, b20_6, g20_1, b20_e0, trivial⟩ ?_
          have h := Option.some.inj h
          subst h
          have hk : o = f12_broughamlaw02_PackBack_out true := hk
          subst hk
          exact At.fin hm ht ⟨[], [], [], [4], []⟩ [] (by kernel_rfl) trivial
        · refine At.step hm ht ⟨[(6, .b false)], [false], [], [0, 1, 5, 6], [0]⟩ 9 ⟨[(0, .one (.c (.d (.sl (.pair (.int .i64) (.int .u64)) l)))), (1, .one (.c (.d (.sl (.int .u8) behind)))), (5, .one (.c (.own 0 (.int .i64) sizes))), (6, .one (.c (.d (.int .i64 i))))], [(0, some ⟨3, 0⟩)], [], 1⟩ [(0 : Int) ≤ i ∧ i < (((l).length : Nat) : Int), (decide ((((l.getD i.toNat (0, 0)).1) : Int) < 1)) = false, (0 : Int) ≤ i ∧ i < (((l).length : Nat) : Int), (decide ((((l.getD i.toNat (0, 0)).1) : Int) > 8)) = false] (by kernel_rfl) ⟨g20_0, b20_6, g20_1, b20_e0, trivial⟩ ?_
          obtain ⟨g23_0, h⟩ := ifS h
          obtain ⟨g23_1, h⟩ := ifS h
          refine At.step hm ht ⟨[], [], [], [0, 1, 5, 6], [8]⟩ 6 ⟨[(0, .one (.c (.d (.sl (.pair (.int .i64) (.int .u64)) l)))), (1, .one (.c (.d (.sl (.int .u8) behind)))), (5, .one (.c (.own 0 (.int .i64) (sizes ++ [(l.getD i.toNat (0, 0)).1])))), (6, .one (.c (.d (.int .i64 i))))], [(0, some ⟨3, 0⟩)], [], 1⟩ [(0 : Int) ≤ i ∧ i < (((l).length : Nat) : Int), sizes.length + [(l.getD i.toNat (0, 0)).1].length ≤ maxLen ∧ (sizes.length + [(l.getD i.toNat (0, 0)).1].length) * 8 ≤ 140737488355328] (by kernel_rfl) ⟨g23_0, g23_1, trivial⟩ ?_
          refine At.step hm ht ⟨[], [], [], [0, 1, 5, 6], [0]⟩ 5 ⟨[(0, .one (.c (.d (.sl (.pair (.int .i64) (.int .u64)) l)))), (1, .one (.c (.d (.sl (.int .u8) behind)))), (5, .one (.c (.own 0 (.int .i64) (sizes ++ [(l.getD i.toNat (0, 0)).1])))), (6, .one (.c (.d (.int .i64 (IntKind.wrap .i64 (i + 1))))))], [(0, some ⟨3, 0⟩)], [], 1⟩ [] (by kernel_rfl) trivial ?_
          exact ih l behind (sizes ++ [(l.getD i.toNat (0, 0)).1]) (IntKind.wrap .i64 (i + 1)) w h o hk
    · refine At.step hm ht ⟨[], [false], [], [0, 1, 5], [0]⟩ 10 ⟨[(0, .one (.c (.d (.sl (.pair (.int .i64) (.int .u64)) l)))), (1, .one (.c (.d (.sl (.int .u8) behind)))), (5, .one (.c (.own 0 (.int .i64) sizes)))], [(0, some ⟨3, 0⟩)], [], 1⟩ [(decide ((i : Int) < ((l.length : Nat) : Int))) = false] (by kernel_rfl) ⟨b19_e0, trivial⟩ ?_
      have h := Option.some.inj h
      subst h
      exact hk
def f12_broughamlaw02_PackBack_L15 : Nat → (List (Int × Int)) → (List Int) → (List Int) → (List Int) → Int → (List Int) → Option ((List (Int × Int)) × List Int × List Int × List Int)
  | 0, _, _, _, _, _, _ => none
  | n + 1, l, behind, b, got, i, b2_0 =>
    if (decide ((i : Int) < ((b2_0.length : Nat) : Int))) = true then
      if (0 : Int) ≤ i ∧ i < (((b2_0).length : Nat) : Int) then
      if (0 : Int) ≤ i ∧ i < (((b2_0).length : Nat) : Int) then
      f12_broughamlaw02_PackBack_L15 n l behind b got (IntKind.wrap .i64 (i + 1)) (b2_0.set i.toNat (bits .xor .u8 (b2_0.getD i.toNat 0) 255))
      else none
      else none
    else
      some ((l, behind, b, got))
def f12_broughamlaw02_PackBack_L15_k (e : (List (Int × Int)) × List Int × List Int × List Int) (o : Out) : Prop := At Go.Proofs.Try.prog Go.Proofs.Try.f12 0 18 ⟨[(0, .one (.c (.d (.sl (.pair (.int .i64) (.int .u64)) e.1)))), (1, .one (.c (.d (.sl (.int .u8) e.2.1)))), (7, .one (.c (.own 0 (.int .u8) e.2.2.1))), (8, .one (.c (.own 1 (.int .u64) e.2.2.2)))], [(0, some ⟨5, 0⟩), (1, some ⟨38, 0⟩)], [], 2⟩ o
theorem f12_broughamlaw02_PackBack_L15_ok (n : Nat) : ∀ (l : List (Int × Int)) (behind : List Int) (b : List Int) (got : List Int) (i : Int) (b2_0 : List Int) (w : (List (Int × Int)) × List Int × List Int × List Int) (h : f12_broughamlaw02_PackBack_L15 n l behind b got i b2_0 = some w) (o : Out) (hk : f12_broughamlaw02_PackBack_L15_k w o), At Go.Proofs.Try.prog Go.Proofs.Try.f12 0 15 ⟨[(0, .one (.c (.d (.sl (.pair (.int .i64) (.int .u64)) l)))), (1, .one (.c (.d (.sl (.int .u8) behind)))), (7, .one (.c (.own 0 (.int .u8) b))), (8, .one (.c (.own 1 (.int .u64) got))), (9, .one (.c (.row 2 (.int .u8)))), (11, .one (.c (.d (.int .i64 i))))], [(0, some ⟨5, 0⟩), (1, some ⟨38, 0⟩), (2, some ⟨5, 2⟩)], [(2, [.run (.int .u8) b2_0])], 3⟩ o := by
  induction n with
  | zero => intro l behind b got i b2_0 w h; rw [f12_broughamlaw02_PackBack_L15] at h; cases h
  | succ n ih =>
    intro l behind b got i b2_0 w h o hk
    rw [f12_broughamlaw02_PackBack_L15] at h
    rcases iteS h with ⟨b132_e0, h⟩ | ⟨b132_e0, h⟩
    · refine At.step hm ht ⟨[], [true], [], [0, 1, 7, 8, 9, 11], [0, 1, 2]⟩ 17 ⟨[(0, .one (.c (.d (.sl (.pair (.int .i64) (.int .u64)) l)))), (1, .one (.c (.d (.sl (.int .u8) behind)))), (7, .one (.c (.own 0 (.int .u8) b))), (8, .one (.c (.own 1 (.int .u64) got))), (9, .one (.c (.row 2 (.int .u8)))), (11, .one (.c (.d (.int .i64 i))))], [(0, some ⟨5, 0⟩), (1, some ⟨38, 0⟩), (2, some ⟨5, 2⟩)], [(2, [.run (.int .u8) b2_0])], 3⟩ [(decide ((i : Int) < ((b2_0.length : Nat) : Int))) = true] (by kernel_rfl) ⟨b132_e0, trivial⟩ ?_
      obtain ⟨g133_0, h⟩ := ifS h
      obtain ⟨g133_1, h⟩ := ifS h
      refine At.step hm ht ⟨[], [], [], [0, 1, 7, 8, 9, 11], [0, 1, 2]⟩ 16 ⟨[(0, .one (.c (.d (.sl (.pair (.int .i64) (.int .u64)) l)))), (1, .one (.c (.d (.sl (.int .u8) behind)))), (7, .one (.c (.own 0 (.int .u8) b))), (8, .one (.c (.own 1 (.int .u64) got))), (9, .one (.c (.row 2 (.int .u8)))), (11, .one (.c (.d (.int .i64 i))))], [(0, some ⟨5, 0⟩), (1, some ⟨38, 0⟩), (2, some ⟨5, 2⟩)], [(2, [.run (.int .u8) (b2_0.set i.toNat (bits .xor .u8 (b2_0.getD i.toNat 0) 255))])], 3⟩ [(0 : Int) ≤ i ∧ i < (((b2_0).length : Nat) : Int), (0 : Int) ≤ i ∧ i < (((b2_0).length : Nat) : Int)] (by kernel_rfl) ⟨g133_0, g133_1, trivial⟩ ?_
      refine At.step hm ht ⟨[], [], [], [0, 1, 7, 8, 9, 11], [0, 1, 2]⟩ 15 ⟨[(0, .one (.c (.d (.sl (.pair (.int .i64) (.int .u64)) l)))), (1, .one (.c (.d (.sl (.int .u8) behind)))), (7, .one (.c (.own 0 (.int .u8) b))), (8, .one (.c (.own 1 (.int .u64) got))), (9, .one (.c (.row 2 (.int .u8)))), (11, .one (.c (.d (.int .i64 (IntKind.wrap .i64 (i + 1))))))], [(0, some ⟨5, 0⟩), (1, some ⟨38, 0⟩), (2, some ⟨5, 2⟩)], [(2, [.run (.int .u8) (b2_0.set i.toNat (bits .xor .u8 (b2_0.getD i.toNat 0) 255))])], 3⟩ [] (by kernel_rfl) trivial ?_
      exact ih l behind b got (IntKind.wrap .i64 (i + 1)) (b2_0.set i.toNat (bits .xor .u8 (b2_0.getD i.toNat 0) 255)) w h o hk
    · refine At.step hm ht ⟨[], [false], [], [0, 1, 7, 8], [0, 1]⟩ 18 ⟨[(0, .one (.c (.d (.sl (.pair (.int .i64) (.int .u64)) l)))), (1, .one (.c (.d (.sl (.int .u8) behind)))), (7, .one (.c (.own 0 (.int .u8) b))), (8, .one (.c (.own 1 (.int .u64) got)))], [(0, some ⟨5, 0⟩), (1, some ⟨38, 0⟩)], [], 2⟩ [(decide ((i : Int) < ((b2_0.length : Nat) : Int))) = false] (by kernel_rfl) ⟨b132_e0, trivial⟩ ?_
      have h := Option.some.inj h
      subst h
      exact hk
def f12_broughamlaw02_PackBack_L19 : Nat → (List (Int × Int)) → (List Int) → (List Int) → (List Int) → Int → Option ((Bool) ⊕ (List Int × List Int))
  | 0, _, _, _, _, _ => none
  | n + 1, l, behind, b, got, i =>
    if (decide ((i : Int) < ((l.length : Nat) : Int))) = true then
      if (0 : Int) ≤ i ∧ i < (((l).length : Nat) : Int) then
      if (0 : Int) ≤ i ∧ i < (((l).length : Nat) : Int) then
      if (decide ((((l.getD i.toNat (0, 0)).1) : Int) < 8)) = true then
        if (0 : Int) ≤ i ∧ i < (((l).length : Nat) : Int) then
        if (0 : Int) ≤ (IntKind.wrap .u64 (IntKind.wrap .i64 (8 * ((l.getD i.toNat (0, 0)).1)))) then
        if ((IntKind.wrap .u64 (1 * 2 ^ (min (IntKind.wrap .u64 (IntKind.wrap .i64 (8 * ((l.getD i.toNat (0, 0)).1)))).toNat (IntKind.bits .u64)))) : Int) ≠ 0 then
        if (0 : Int) ≤ i ∧ i < (((got).length : Nat) : Int) then
        if (((got.getD i.toNat 0) : Int) != (Int.tmod ((l.getD i.toNat (0, 0)).2) (IntKind.wrap .u64 (1 * 2 ^ (min (IntKind.wrap .u64 (IntKind.wrap .i64 (8 * ((l.getD i.toNat (0, 0)).1)))).toNat (IntKind.bits .u64)))))) = true then
          some (.inl false)
        else
          f12_broughamlaw02_PackBack_L19 n l behind b got (IntKind.wrap .i64 (i + 1))
        else none
        else none
        else none
        else none
      else
        if (0 : Int) ≤ i ∧ i < (((got).length : Nat) : Int) then
        if (((got.getD i.toNat 0) : Int) != ((l.getD i.toNat (0, 0)).2)) = true then
          some (.inl false)
        else
          f12_broughamlaw02_PackBack_L19 n l behind b got (IntKind.wrap .i64 (i + 1))
        else none
      else none
      else none
    else
      some (.inr ((behind, b)))
def f12_broughamlaw02_PackBack_L19_k (w : (Bool) ⊕ (List Int × List Int)) (o : Out) : Prop := match w with
  | .inl e => o = f12_broughamlaw02_PackBack_out e
  | .inr e => At Go.Proofs.Try.prog Go.Proofs.Try.f12 0 26 ⟨[(1, .one (.c (.d (.sl (.int .u8) e.1)))), (7, .one (.c (.own 0 (.int .u8) e.2)))], [(0, some ⟨5, 0⟩)], [], 1⟩ o
theorem f12_broughamlaw02_PackBack_L19_ok (n : Nat) : ∀ (l : List (Int × Int)) (behind : List Int) (b : List Int) (got : List Int) (i : Int) (w : (Bool) ⊕ (List Int × List Int)) (h : f12_broughamlaw02_PackBack_L19 n l behind b got i = some w) (o : Out) (hk : f12_broughamlaw02_PackBack_L19_k w o), At Go.Proofs.Try.prog Go.Proofs.Try.f12 0 19 ⟨[(0, .one (.c (.d (.sl (.pair (.int .i64) (.int .u64)) l)))), (1, .one (.c (.d (.sl (.int .u8) behind)))), (7, .one (.c (.own 0 (.int .u8) b))), (8, .one (.c (.own 1 (.int .u64) got))), (12, .one (.c (.d (.int .i64 i))))], [(0, some ⟨5, 0⟩), (1, some ⟨38, 0⟩)], [], 2⟩ o := by
  induction n with
  | zero => intro l behind b got i w h; rw [f12_broughamlaw02_PackBack_L19] at h; cases h
  | succ n ih =>
    intro l behind b got i w h o hk
    rw [f12_broughamlaw02_PackBack_L19] at h
    rcases iteS h with ⟨b138_e0, h⟩ | ⟨b138_e0, h⟩
    · refine At.step hm ht ⟨[], [true], [], [0, 1, 7, 8, 12], [0, 1]⟩ 21 ⟨[(0, .one (.c (.d (.sl (.pair (.int .i64) (.int .u64)) l)))), (1, .one (.c (.d (.sl (.int .u8) behind)))), (7, .one (.c (.own 0 (.int .u8) b))), (8, .one (.c (.own 1 (.int .u64) got))), (12, .one (.c (.d (.int .i64 i))))], [(0, some ⟨5, 0⟩), (1, some ⟨38, 0⟩)], [], 2⟩ [(decide ((i : Int) < ((l.length : Nat) : Int))) = true] (by kernel_rfl) ⟨b138_e0, trivial⟩ ?_
      obtain ⟨g139_0, h⟩ := ifS h
      refine At.step hm ht ⟨[], [], [], [0, 1, 7, 8, 12, 13], [0, 1]⟩ 22 ⟨[(0, .one (.c (.d (.sl (.pair (.int .i64) (.int .u64)) l)))), (1, .one (.c (.d (.sl (.int .u8) behind)))), (7, .one (.c (.own 0 (.int .u8) b))), (8, .one (.c (.own 1 (.int .u64) got))), (12, .one (.c (.d (.int .i64 i)))), (13, .one (.c (.d (.int .u64 ((l.getD i.toNat (0, 0)).2)))))], [(0, some ⟨5, 0⟩), (1, some ⟨38, 0⟩)], [], 2⟩ [(0 : Int) ≤ i ∧ i < (((l).length : Nat) : Int)] (by kernel_rfl) ⟨g139_0, trivial⟩ ?_
      obtain ⟨g140_0, h⟩ := ifS h
      rcases iteS h with ⟨b140_e0, h⟩ | ⟨b140_e0, h⟩
      · refine At.step hm ht ⟨[], [true], [], [0, 1, 7, 8, 12, 13], [0, 1]⟩ 23 ⟨[(0, .one (.c (.d (.sl (.pair (.int .i64) (.int .u64)) l)))), (1, .one (.c (.d (.sl (.int .u8) behind)))), (7, .one (.c (.own 0 (.int .u8) b))), (8, .one (.c (.own 1 (.int .u64) got))), (12, .one (.c (.d (.int .i64 i)))), (13, .one (.c (.d (.int .u64 ((l.getD i.toNat (0, 0)).2)))))], [(0, some ⟨5, 0⟩), (1, some ⟨38, 0⟩)], [], 2⟩ [(0 : Int) ≤ i ∧ i < (((l).length : Nat) : Int), (decide ((((l.getD i.toNat (0, 0)).1) : Int) < 8)) = true] (by kernel_rfl) ⟨g140_0, b140_e0, trivial⟩ ?_
        obtain ⟨g141_0, h⟩ := ifS h
        obtain ⟨g141_1, h⟩ := ifS h
        obtain ⟨g141_2, h⟩ := ifS h
        refine At.step hm ht ⟨[], [], [], [0, 1, 7, 8, 12, 13], [0, 1]⟩ 24 ⟨[(0, .one (.c (.d (.sl (.pair (.int .i64) (.int .u64)) l)))), (1, .one (.c (.d (.sl (.int .u8) behind)))), (7, .one (.c (.own 0 (.int .u8) b))), (8, .one (.c (.own 1 (.int .u64) got))), (12, .one (.c (.d (.int .i64 i)))), (13, .one (.c (.d (.int .u64 (Int.tmod ((l.getD i.toNat (0, 0)).2) (IntKind.wrap .u64 (1 * 2 ^ (min (IntKind.wrap .u64 (IntKind.wrap .i64 (8 * ((l.getD i.toNat (0, 0)).1)))).toNat (IntKind.bits .u64)))))))))], [(0, some ⟨5, 0⟩), (1, some ⟨38, 0⟩)], [], 2⟩ [(0 : Int) ≤ i ∧ i < (((l).length : Nat) : Int), (0 : Int) ≤ (IntKind.wrap .u64 (IntKind.wrap .i64 (8 * ((l.getD i.toNat (0, 0)).1)))), ((IntKind.wrap .u64 (1 * 2 ^ (min (IntKind.wrap .u64 (IntKind.wrap .i64 (8 * ((l.getD i.toNat (0, 0)).1)))).toNat (IntKind.bits .u64)))) : Int) ≠ 0] (by kernel_rfl) ⟨g141_0, g141_1, g141_2, trivial⟩ ?_
        obtain ⟨g142_0, h⟩ := ifS h
        rcases iteS h with ⟨b142_e0, h⟩ | ⟨b142_e0, h⟩
        · refine At.step hm ht ⟨[], [true], [], [], []⟩ 25 ⟨[], [], [], 0⟩ [(0 : Int) ≤ i ∧ i < (((got).length : Nat) : Int), (((got.getD i.toNat 0) : Int) != (Int.tmod ((l.getD i.toNat (0, 0)).2) (IntKind.wrap .u64 (1 * 2 ^ (min (IntKind.wrap .u64 (IntKind.wrap .i64 (8 * ((l.getD i.toNat (0, 0)).1)))).toNat (IntKind.bits .u64)))))) = true] (by kernel_rfl) ⟨g142_0, b142_e0, trivial⟩ ?_
          have h := Option.some.inj h
          subst h
          have hk : o = f12_broughamlaw02_PackBack_out false := hk
          subst hk
          exact At.fin hm ht ⟨[], [], [], [4], []⟩ [] (by kernel_rfl) trivial
        · refine At.step hm ht ⟨[], [false], [], [0, 1, 7, 8, 12], [0, 1]⟩ 20 ⟨[(0, .one (.c (.d (.sl (.pair (.int .i64) (.int .u64)) l)))), (1, .one (.c (.d (.sl (.int .u8) behind)))), (7, .one (.c (.own 0 (.int .u8) b))), (8, .one (.c (.own 1 (.int .u64) got))), (12, .one (.c (.d (.int .i64 i))))], [(0, some ⟨5, 0⟩), (1, some ⟨38, 0⟩)], [], 2⟩ [(0 : Int) ≤ i ∧ i < (((got).length : Nat) : Int), (((got.getD i.toNat 0) : Int) != (Int.tmod ((l.getD i.toNat (0, 0)).2) (IntKind.wrap .u64 (1 * 2 ^ (min (IntKind.wrap .u64 (IntKind.wrap .i64 (8 * ((l.getD i.toNat (0, 0)).1)))).toNat (IntKind.bits .u64)))))) = false] (by kernel_rfl) ⟨g142_0, b142_e0, trivial⟩ ?_
          refine At.step hm ht ⟨[], [], [], [0, 1, 7, 8, 12], [0, 1]⟩ 19 ⟨[(0, .one (.c (.d (.sl (.pair (.int .i64) (.int .u64)) l)))), (1, .one (.c (.d (.sl (.int .u8) behind)))), (7, .one (.c (.own 0 (.int .u8) b))), (8, .one (.c (.own 1 (.int .u64) got))), (12, .one (.c (.d (.int .i64 (IntKind.wrap .i64 (i + 1))))))], [(0, some ⟨5, 0⟩), (1, some ⟨38, 0⟩)], [], 2⟩ [] (by kernel_rfl) trivial ?_
          exact ih l behind b got (IntKind.wrap .i64 (i + 1)) w h o hk
      · refine At.step hm ht ⟨[], [false], [], [0, 1, 7, 8, 12, 13], [0, 1]⟩ 24 ⟨[(0, .one (.c (.d (.sl (.pair (.int .i64) (.int .u64)) l)))), (1, .one (.c (.d (.sl (.int .u8) behind)))), (7, .one (.c (.own 0 (.int .u8) b))), (8, .one (.c (.own 1 (.int .u64) got))), (12, .one (.c (.d (.int .i64 i)))), (13, .one (.c (.d (.int .u64 ((l.getD i.toNat (0, 0)).2)))))], [(0, some ⟨5, 0⟩), (1, some ⟨38, 0⟩)], [], 2⟩ [(0 : Int) ≤ i ∧ i < (((l).length : Nat) : Int), (decide ((((l.getD i.toNat (0, 0)).1) : Int) < 8)) = false] (by kernel_rfl) ⟨g140_0, b140_e0, trivial⟩ ?_
        obtain ⟨g145_0, h⟩ := ifS h
        rcases iteS h with ⟨b145_e0, h⟩ | ⟨b145_e0, h⟩
        · refine At.step hm ht ⟨[], [true], [], [], []⟩ 25 ⟨[], [], [], 0⟩ [(0 : Int) ≤ i ∧ i < (((got).length : Nat) : Int), (((got.getD i.toNat 0) : Int) != ((l.getD i.toNat (0, 0)).2)) = true] (by kernel_rfl) ⟨g145_0, b145_e0, trivial⟩ ?_
          have h := Option.some.inj h
          subst h
          have hk : o = f12_broughamlaw02_PackBack_out false := hk
          subst hk
          exact At.fin hm ht ⟨[], [], [], [4], []⟩ [] (by kernel_rfl) trivial
        · refine At.step hm ht ⟨[], [false], [], [0, 1, 7, 8, 12], [0, 1]⟩ 20 ⟨[(0, .one (.c (.d (.sl (.pair (.int .i64) (.int .u64)) l)))), (1, .one (.c (.d (.sl (.int .u8) behind)))), (7, .one (.c (.own 0 (.int .u8) b))), (8, .one (.c (.own 1 (.int .u64) got))), (12, .one (.c (.d (.int .i64 i))))], [(0, some ⟨5, 0⟩), (1, some ⟨38, 0⟩)], [], 2⟩ [(0 : Int) ≤ i ∧ i < (((got).length : Nat) : Int), (((got.getD i.toNat 0) : Int) != ((l.getD i.toNat (0, 0)).2)) = false] (by kernel_rfl) ⟨g145_0, b145_e0, trivial⟩ ?_
          refine At.step hm ht ⟨[], [], [], [0, 1, 7, 8, 12], [0, 1]⟩ 19 ⟨[(0, .one (.c (.d (.sl (.pair (.int .i64) (.int .u64)) l)))), (1, .one (.c (.d (.sl (.int .u8) behind)))), (7, .one (.c (.own 0 (.int .u8) b))), (8, .one (.c (.own 1 (.int .u64) got))), (12, .one (.c (.d (.int .i64 (IntKind.wrap .i64 (i + 1))))))], [(0, some ⟨5, 0⟩), (1, some ⟨38, 0⟩)], [], 2⟩ [] (by kernel_rfl) trivial ?_
          exact ih l behind b got (IntKind.wrap .i64 (i + 1)) w h o hk
    · refine At.step hm ht ⟨[], [false], [], [1, 7], [0]⟩ 26 ⟨[(1, .one (.c (.d (.sl (.int .u8) behind)))), (7, .one (.c (.own 0 (.int .u8) b)))], [(0, some ⟨5, 0⟩)], [], 1⟩ [(decide ((i : Int) < ((l.length : Nat) : Int))) = false] (by kernel_rfl) ⟨b138_e0, trivial⟩ ?_
      have h := Option.some.inj h
      subst h
      exact hk
def f12_broughamlaw02_PackBack (n : Nat) (l : List (Int × Int)) (behind : List Int) : Option (Bool) :=
  if (decide ((((l.length : Nat) : Int) : Int) > 100)) = true then
    some true
  else
    if (decide ((((behind.length : Nat) : Int) : Int) > 4096)) = true then
      some true
    else
      (f12_broughamlaw02_PackBack_L5 n l behind [] 0).bind fun w25 =>
      match w25 with
      | .inl e26 =>
        some e26
      | .inr e27 =>
        (f46_pack_Put n [] e27.1).bind fun r28_0 =>
        if r28_0.length + e27.2.1.length ≤ maxLen ∧ (r28_0.length + e27.2.1.length) * 1 ≤ 140737488355328 then
        (f47_pack_Get n (r28_0 ++ e27.2.1) e27.2.2).bind fun r47_0 =>
        if (!r47_0.2.1) = true then
          some false
        else
          if ((((r47_0.1.length : Nat) : Int) : Int) != ((e27.1.length : Nat) : Int)) = true then
            some false
          else
            if (!((strOfNums r47_0.2.2).toList == (strOfNums e27.2.1).toList)) = true then
              some false
            else
              (f12_broughamlaw02_PackBack_L15 n e27.1 e27.2.1 (r28_0 ++ e27.2.1) r47_0.1 0 r47_0.2.2).bind fun w135 =>
              (f12_broughamlaw02_PackBack_L19 n w135.1 w135.2.1 w135.2.2.1 w135.2.2.2 0).bind fun w148 =>
              match w148 with
              | .inl e149 =>
                some e149
              | .inr e150 =>
                if cutOk e150.2.length (some (IntKind.wrap .i64 (((e150.2.length : Nat) : Int) - ((e150.1.length : Nat) : Int)))) none none then
                if ((strOfNums ((e150.2.take e150.2.length).drop (IntKind.wrap .i64 (((e150.2.length : Nat) : Int) - ((e150.1.length : Nat) : Int))).toNat)).toList == (strOfNums e150.1).toList) = true then
                  (f48_broughamlaw02_alive n).bind fun r151_1 =>
                  some r151_1
                else
                  some false
                else none
        else none
theorem f12_broughamlaw02_PackBack_ok (n : Nat) (l : List (Int × Int)) (behind : List Int) (r : Bool) (h : f12_broughamlaw02_PackBack n l behind = some r) : FnOK Go.Proofs.Try.prog 12 (f12_broughamlaw02_PackBack_in l behind) (f12_broughamlaw02_PackBack_out r) := by
  unfold f12_broughamlaw02_PackBack at h
  refine At.fn (r := 0) Go.Proofs.Try.func12 rfl (by kernel_rfl) rfl rfl (by kernel_rfl) ?_
  show At Go.Proofs.Try.prog Go.Proofs.Try.f12 0 0 ⟨[(0, .one (.c (.d (.sl (.pair (.int .i64) (.int .u64)) l)))), (1, .one (.c (.d (.sl (.int .u8) behind))))], [], [], 0⟩ _
  refine At.step hm ht ⟨[], [], [], [0, 1], []⟩ 1 ⟨[(0, .one (.c (.d (.sl (.pair (.int .i64) (.int .u64)) l)))), (1, .one (.c (.d (.sl (.int .u8) behind))))], [], [], 0⟩ [] (by kernel_rfl) trivial ?_
  rcases iteS h with ⟨b14_3, h⟩ | ⟨b14_3, h⟩
  · refine At.step hm ht ⟨[(3, .b true)], [true], [], [], []⟩ 2 ⟨[], [], [], 0⟩ [(decide ((((l.length : Nat) : Int) : Int) > 100)) = true, true = true] (by kernel_rfl) ⟨b14_3, rfl, trivial⟩ ?_
    have h := Option.some.inj h
    subst h
    exact At.fin hm ht ⟨[], [], [], [4], []⟩ [] (by kernel_rfl) trivial
  · rcases iteS h with ⟨b14_e0, h⟩ | ⟨b14_e0, h⟩
    · refine At.step hm ht ⟨[(3, .b false)], [true], [], [], []⟩ 2 ⟨[], [], [], 0⟩ [(decide ((((l.length : Nat) : Int) : Int) > 100)) = false, (decide ((((behind.length : Nat) : Int) : Int) > 4096)) = true] (by kernel_rfl) ⟨b14_3, b14_e0, trivial⟩ ?_
      have h := Option.some.inj h
      subst h
      exact At.fin hm ht ⟨[], [], [], [4], []⟩ [] (by kernel_rfl) trivial
    · refine At.step hm ht ⟨[(3, .b false)], [false], [], [0, 1], []⟩ 3 ⟨[(0, .one (.c (.d (.sl (.pair (.int .i64) (.int .u64)) l)))), (1, .one (.c (.d (.sl (.int .u8) behind))))], [], [], 0⟩ [(decide ((((l.length : Nat) : Int) : Int) > 100)) = false, (decide ((((behind.length : Nat) : Int) : Int) > 4096)) = false] (by kernel_rfl) ⟨b14_3, b14_e0, trivial⟩ ?_
      refine At.step hm ht ⟨[], [], [], [0, 1, 5], []⟩ 4 ⟨[(0, .one (.c (.d (.sl (.pair (.int .i64) (.int .u64)) l)))), (1, .one (.c (.d (.sl (.int .u8) behind)))), (5, .one (.c (.d (.sl .unit []))))], [], [], 0⟩ [] (by kernel_rfl) trivial ?_
      refine At.step hm ht ⟨[], [], [.nil false 5 0 (.int .i64) (some 3)], [0, 1, 5, 6], [1]⟩ 5 ⟨[(0, .one (.c (.d (.sl (.pair (.int .i64) (.int .u64)) l)))), (1, .one (.c (.d (.sl (.int .u8) behind)))), (5, .one (.c (.own 0 (.int .i64) []))), (6, .one (.c (.d (.int .i64 0))))], [(0, some ⟨3, 0⟩)], [], 1⟩ [] (by kernel_rfl) trivial ?_
      obtain ⟨w25, cw25, h⟩ := bindS h
      refine f12_broughamlaw02_PackBack_L5_ok n l behind [] 0 w25 cw25 _ ?_
      rcases w25 with e26 | e27
      · have h := Option.some.inj h
        subst h
        rfl
      · show At Go.Proofs.Try.prog Go.Proofs.Try.f12 0 10 ⟨[(0, .one (.c (.d (.sl (.pair (.int .i64) (.int .u64)) e27.1)))), (1, .one (.c (.d (.sl (.int .u8) e27.2.1)))), (5, .one (.c (.own 0 (.int .i64) e27.2.2)))], [(0, some ⟨3, 0⟩)], [], 1⟩ _
        obtain ⟨r28_0, cr28_0, h⟩ := bindS h
        obtain ⟨g28_1, h⟩ := ifS h
        refine At.step hm ht ⟨[(1, .call [] [(0, 0, (.int .u8))] (f46_pack_Put_out r28_0))], [], [], [0, 1, 5, 7], [0, 4]⟩ 11 ⟨[(0, .one (.c (.d (.sl (.pair (.int .i64) (.int .u64)) e27.1)))), (1, .one (.c (.d (.sl (.int .u8) e27.2.1)))), (5, .one (.c (.own 0 (.int .i64) e27.2.2))), (7, .one (.c (.own 1 (.int .u8) (r28_0 ++ e27.2.1))))], [(0, some ⟨3, 0⟩), (1, some ⟨5, 0⟩)], [], 2⟩ [FnOK Go.Proofs.Try.prog 46 (f46_pack_Put_in [] e27.1) (f46_pack_Put_out r28_0), r28_0.length + e27.2.1.length ≤ maxLen ∧ (r28_0.length + e27.2.1.length) * 1 ≤ 140737488355328] (by kernel_rfl) ⟨(f46_pack_Put_ok n [] e27.1 r28_0 cr28_0), g28_1, trivial⟩ ?_
        obtain ⟨r47_0, cr47_0, h⟩ := bindS h
        refine At.step hm ht ⟨[(2, .call [] [] (f47_pack_Get_out r47_0))], [], [], [0, 1, 7, 8, 9, 10], [1, 4, 5]⟩ 12 ⟨[(0, .one (.c (.d (.sl (.pair (.int .i64) (.int .u64)) e27.1)))), (1, .one (.c (.d (.sl (.int .u8) e27.2.1)))), (7, .one (.c (.own 0 (.int .u8) (r28_0 ++ e27.2.1)))), (8, .one (.c (.own 1 (.int .u64) r47_0.1))), (9, .one (.c (.row 2 (.int .u8)))), (10, .one (.c (.d (.bool r47_0.2.1))))], [(0, some ⟨5, 0⟩), (1, some ⟨38, 0⟩), (2, some ⟨5, 2⟩)], [(2, [.run (.int .u8) r47_0.2.2])], 3⟩ [FnOK Go.Proofs.Try.prog 47 (f47_pack_Get_in (r28_0 ++ e27.2.1) e27.2.2) (f47_pack_Get_out r47_0)] (by kernel_rfl) ⟨(f47_pack_Get_ok n (r28_0 ++ e27.2.1) e27.2.2 r47_0 cr47_0), trivial⟩ ?_
        rcases iteS h with ⟨b127_2, h⟩ | ⟨b127_2, h⟩
        · refine At.step hm ht ⟨[(2, .b true)], [true], [], [], []⟩ 13 ⟨[], [], [], 0⟩ [(!r47_0.2.1) = true, true = true] (by kernel_rfl) ⟨b127_2, rfl, trivial⟩ ?_
          have h := Option.some.inj h
          subst h
          exact At.fin hm ht ⟨[], [], [], [4], []⟩ [] (by kernel_rfl) trivial
        · rcases iteS h with ⟨b127_9, h⟩ | ⟨b127_9, h⟩
          · refine At.step hm ht ⟨[(2, .b false), (9, .b true)], [true], [], [], []⟩ 13 ⟨[], [], [], 0⟩ [(!r47_0.2.1) = false, ((((r47_0.1.length : Nat) : Int) : Int) != ((e27.1.length : Nat) : Int)) = true, true = true] (by kernel_rfl) ⟨b127_2, b127_9, rfl, trivial⟩ ?_
            have h := Option.some.inj h
            subst h
            exact At.fin hm ht ⟨[], [], [], [4], []⟩ [] (by kernel_rfl) trivial
          · rcases iteS h with ⟨b127_e0, h⟩ | ⟨b127_e0, h⟩
            · refine At.step hm ht ⟨[(2, .b false), (9, .b false)], [true], [], [], []⟩ 13 ⟨[], [], [], 0⟩ [(!r47_0.2.1) = false, ((((r47_0.1.length : Nat) : Int) : Int) != ((e27.1.length : Nat) : Int)) = false, (!((strOfNums r47_0.2.2).toList == (strOfNums e27.2.1).toList)) = true] (by kernel_rfl) ⟨b127_2, b127_9, b127_e0, trivial⟩ ?_
              have h := Option.some.inj h
              subst h
              exact At.fin hm ht ⟨[], [], [], [4], []⟩ [] (by kernel_rfl) trivial
            · refine At.step hm ht ⟨[(2, .b false), (9, .b false)], [false], [], [0, 1, 7, 8, 9], [0, 1, 2]⟩ 14 ⟨[(0, .one (.c (.d (.sl (.pair (.int .i64) (.int .u64)) e27.1)))), (1, .one (.c (.d (.sl (.int .u8) e27.2.1)))), (7, .one (.c (.own 0 (.int .u8) (r28_0 ++ e27.2.1)))), (8, .one (.c (.own 1 (.int .u64) r47_0.1))), (9, .one (.c (.row 2 (.int .u8))))], [(0, some ⟨5, 0⟩), (1, some ⟨38, 0⟩), (2, some ⟨5, 2⟩)], [(2, [.run (.int .u8) r47_0.2.2])], 3⟩ [(!r47_0.2.1) = false, ((((r47_0.1.length : Nat) : Int) : Int) != ((e27.1.length : Nat) : Int)) = false, (!((strOfNums r47_0.2.2).toList == (strOfNums e27.2.1).toList)) = false] (by kernel_rfl) ⟨b127_2, b127_9, b127_e0, trivial⟩ ?_
              refine At.step hm ht ⟨[], [], [], [0, 1, 7, 8, 9, 11], [0, 1, 2]⟩ 15 ⟨[(0, .one (.c (.d (.sl (.pair (.int .i64) (.int .u64)) e27.1)))), (1, .one (.c (.d (.sl (.int .u8) e27.2.1)))), (7, .one (.c (.own 0 (.int .u8) (r28_0 ++ e27.2.1)))), (8, .one (.c (.own 1 (.int .u64) r47_0.1))), (9, .one (.c (.row 2 (.int .u8)))), (11, .one (.c (.d (.int .i64 0))))], [(0, some ⟨5, 0⟩), (1, some ⟨38, 0⟩), (2, some ⟨5, 2⟩)], [(2, [.run (.int .u8) r47_0.2.2])], 3⟩ [] (by kernel_rfl) trivial ?_
              obtain ⟨w135, cw135, h⟩ := bindS h
              refine f12_broughamlaw02_PackBack_L15_ok n e27.1 e27.2.1 (r28_0 ++ e27.2.1) r47_0.1 0 r47_0.2.2 w135 cw135 _ ?_
              show At Go.Proofs.Try.prog Go.Proofs.Try.f12 0 18 ⟨[(0, .one (.c (.d (.sl (.pair (.int .i64) (.int .u64)) w135.1)))), (1, .one (.c (.d (.sl (.int .u8) w135.2.1)))), (7, .one (.c (.own 0 (.int .u8) w135.2.2.1))), (8, .one (.c (.own 1 (.int .u64) w135.2.2.2)))], [(0, some ⟨5, 0⟩), (1, some ⟨38, 0⟩)], [], 2⟩ _
              refine At.step hm ht ⟨[], [], [], [0, 1, 7, 8, 12], [0, 1]⟩ 19 ⟨[(0, .one (.c (.d (.sl (.pair (.int .i64) (.int .u64)) w135.1)))), (1, .one (.c (.d (.sl (.int .u8) w135.2.1)))), (7, .one (.c (.own 0 (.int .u8) w135.2.2.1))), (8, .one (.c (.own 1 (.int .u64) w135.2.2.2))), (12, .one (.c (.d (.int .i64 0))))], [(0, some ⟨5, 0⟩), (1, some ⟨38, 0⟩)], [], 2⟩ [] (by kernel_rfl) trivial ?_
              obtain ⟨w148, cw148, h⟩ := bindS h
              refine f12_broughamlaw02_PackBack_L19_ok n w135.1 w135.2.1 w135.2.2.1 w135.2.2.2 0 w148 cw148 _ ?_
              rcases w148 with e149 | e150
              · have h := Option.some.inj h
                subst h
                rfl
              · show At Go.Proofs.Try.prog Go.Proofs.Try.f12 0 26 ⟨[(1, .one (.c (.d (.sl (.int .u8) e150.1)))), (7, .one (.c (.own 0 (.int .u8) e150.2)))], [(0, some ⟨5, 0⟩)], [], 1⟩ _
                obtain ⟨g151_0, h⟩ := ifS h
                rcases iteS h with ⟨b151_11, h⟩ | ⟨b151_11, h⟩
                · obtain ⟨r151_1, cr151_1, h⟩ := bindS h
                  have h := Option.some.inj h
                  subst h
                  exact At.fin hm ht ⟨[(11, .b true), (12, .call [] [] (f48_broughamlaw02_alive_out r151_1))], [], [], [4], []⟩ [cutOk e150.2.length (some (IntKind.wrap .i64 (((e150.2.length : Nat) : Int) - ((e150.1.length : Nat) : Int)))) none none, ((strOfNums ((e150.2.take e150.2.length).drop (IntKind.wrap .i64 (((e150.2.length : Nat) : Int) - ((e150.1.length : Nat) : Int))).toNat)).toList == (strOfNums e150.1).toList) = true, FnOK Go.Proofs.Try.prog 48 (f48_broughamlaw02_alive_in) (f48_broughamlaw02_alive_out r151_1)] (by kernel_rfl) ⟨g151_0, b151_11, (f48_broughamlaw02_alive_ok n r151_1 cr151_1), trivial⟩
                · have h := Option.some.inj h
                  subst h
                  exact At.fin hm ht ⟨[(11, .b false)], [], [], [4], []⟩ [cutOk e150.2.length (some (IntKind.wrap .i64 (((e150.2.length : Nat) : Int) - ((e150.1.length : Nat) : Int)))) none none, ((strOfNums ((e150.2.take e150.2.length).drop (IntKind.wrap .i64 (((e150.2.length : Nat) : Int) - ((e150.1.length : Nat) : Int))).toNat)).toList == (strOfNums e150.1).toList) = false] (by kernel_rfl) ⟨g151_0, b151_11, trivial⟩
end Go.Proofs.YtjmebloeodcoaaaF02b
