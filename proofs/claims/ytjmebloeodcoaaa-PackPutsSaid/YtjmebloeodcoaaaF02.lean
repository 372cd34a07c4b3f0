/- What the functions compute, and that they do: printed by a program of this session (zgen.py), proved by Zed. -/
import Derived.Test.YtjmebloeodcoaaaProg
import Derived.Test.YtjmebloeodcoaaaZedY
namespace Go.Proofs.YtjmebloeodcoaaaF02
open Go Zed
set_option maxRecDepth 100000
set_option linter.unusedVariables false
def tab : Tab := [(3, ⟨.int .i64, 1, 8, [.int .i64 0], some (.int .i64), none⟩), (4, ⟨.bool, 1, 1, [.bool false], some .bool, none⟩), (5, ⟨.int .u8, 1, 1, [.int .u8 0], some (.int .u8), none⟩), (9, ⟨.str, 1, 16, [.str (⟨#[]⟩ : ByteArray)], some .str, none⟩), (22, ⟨.slice 3, 1, 24, [.sl .unit []], some (.slice (.int .i64)), none⟩), (38, ⟨.int .u64, 1, 8, [.int .u64 0], some (.int .u64), none⟩), (39, ⟨.int .u32, 1, 4, [.int .u32 0], some (.int .u32), none⟩), (52, ⟨.slice 55, 1, 24, [.sl .unit []], some (.slice (.pair (.int .i64) (.int .u64))), none⟩), (53, ⟨.slice 5, 1, 24, [.sl .unit []], some (.slice (.int .u8)), none⟩), (55, ⟨.struct [(0, 3), (1, 38)], 2, 16, [.int .i64 0, .int .u64 0], some (.pair (.int .i64) (.int .u64)), some [(0, 3), (1, 38)]⟩), (57, ⟨.slice 38, 1, 24, [.sl .unit []], some (.slice (.int .u64)), none⟩), (70, ⟨.int .u16, 1, 2, [.int .u16 0], some (.int .u16), none⟩)]
theorem ht : TabOk Go.Proofs.Try.prog tab := tabOk_of (ts := [3, 4, 5, 9, 22, 38, 39, 52, 53, 55, 57, 70]) (by kernel_rfl)
theorem hm : Go.Proofs.Try.prog.follows .mixedOrders = true := by kernel_rfl
/-! brougham/pack.Put -/
def f46_pack_Put_in (b : List Int) (l : List (Int × Int)) : Inn := ⟨[.c (.d (.sl (.int .u8) b)), .c (.d (.sl (.pair (.int .i64) (.int .u64)) l))], [], [], 0⟩
def f46_pack_Put_out (r : List Int) : Out := ⟨.one (.c (.own 0 (.int .u8) r)), [(0, ⟨5, 0⟩)], [], 1⟩
def f46_pack_Put_L7 : Nat → (List Int) → Int → (List (Int × Int)) → Int → Int → Int → Int → Option (List Int × (List (Int × Int)) × Int × Int)
  | 0, _, _, _, _, _, _, _ => none
  | n + 1, out, i, t11, t12, t13, f_0, f_1 =>
    if (decide ((i : Int) ≥ 0)) = true then
      if (0 : Int) ≤ (IntKind.wrap .i64 (8 * i)) then
      if out.length + [(IntKind.wrap .u8 (Int.fdiv f_1 (2 ^ (min (IntKind.wrap .i64 (8 * i)).toNat (IntKind.bits .u64)))))].length ≤ maxLen ∧ (out.length + [(IntKind.wrap .u8 (Int.fdiv f_1 (2 ^ (min (IntKind.wrap .i64 (8 * i)).toNat (IntKind.bits .u64)))))].length) * 1 ≤ 140737488355328 then
      f46_pack_Put_L7 n (out ++ [(IntKind.wrap .u8 (Int.fdiv f_1 (2 ^ (min (IntKind.wrap .i64 (8 * i)).toNat (IntKind.bits .u64)))))]) (IntKind.wrap .i64 (i - 1)) t11 t12 t13 f_0 f_1
      else none
      else none
    else
      some ((out, t11, t12, t13))
def f46_pack_Put_L7_k (e : List Int × (List (Int × Int)) × Int × Int) (o : Out) : Prop := At Go.Proofs.Try.prog Go.Proofs.Try.f46 0 10 ⟨[(5, .one (.c (.own 0 (.int .u8) e.1))), (11, .one (.c (.d (.sl (.pair (.int .i64) (.int .u64)) e.2.1)))), (12, .one (.c (.d (.int .i64 e.2.2.1)))), (13, .one (.c (.d (.int .i64 e.2.2.2))))], [(0, some ⟨5, 0⟩)], [], 1⟩ o
theorem f46_pack_Put_L7_ok (n : Nat) : ∀ (out : List Int) (i : Int) (t11 : List (Int × Int)) (t12 : Int) (t13 : Int) (f_0 : Int) (f_1 : Int) (w : List Int × (List (Int × Int)) × Int × Int) (h : f46_pack_Put_L7 n out i t11 t12 t13 f_0 f_1 = some w) (o : Out) (hk : f46_pack_Put_L7_k w o), At Go.Proofs.Try.prog Go.Proofs.Try.f46 0 7 ⟨[(5, .one (.c (.own 0 (.int .u8) out))), (7, .one (.c (.ptr 1 0))), (8, .one (.c (.d (.int .i64 i)))), (11, .one (.c (.d (.sl (.pair (.int .i64) (.int .u64)) t11)))), (12, .one (.c (.d (.int .i64 t12)))), (13, .one (.c (.d (.int .i64 t13))))], [(0, some ⟨5, 0⟩)], [(1, [.d (.int .i64 f_0), .d (.int .u64 f_1)])], 2⟩ o := by
  induction n with
  | zero => intro out i t11 t12 t13 f_0 f_1 w h; rw [f46_pack_Put_L7] at h; cases h
  | succ n ih =>
    intro out i t11 t12 t13 f_0 f_1 w h o hk
    rw [f46_pack_Put_L7] at h
    rcases iteS h with ⟨b38_e0, h⟩ | ⟨b38_e0, h⟩
    · refine At.step hm ht ⟨[], [true], [], [5, 7, 8, 11, 12, 13], [0, 1]⟩ 9 ⟨[(5, .one (.c (.own 0 (.int .u8) out))), (7, .one (.c (.ptr 1 0))), (8, .one (.c (.d (.int .i64 i)))), (11, .one (.c (.d (.sl (.pair (.int .i64) (.int .u64)) t11)))), (12, .one (.c (.d (.int .i64 t12)))), (13, .one (.c (.d (.int .i64 t13))))], [(0, some ⟨5, 0⟩)], [(1, [.d (.int .i64 f_0), .d (.int .u64 f_1)])], 2⟩ [(decide ((i : Int) ≥ 0)) = true] (by kernel_rfl) ⟨b38_e0, trivial⟩ ?_
      obtain ⟨g39_0, h⟩ := ifS h
      obtain ⟨g39_1, h⟩ := ifS h
      refine At.step hm ht ⟨[], [], [], [5, 7, 8, 11, 12, 13], [10, 1]⟩ 8 ⟨[(5, .one (.c (.own 0 (.int .u8) (out ++ [(IntKind.wrap .u8 (Int.fdiv f_1 (2 ^ (min (IntKind.wrap .i64 (8 * i)).toNat (IntKind.bits .u64)))))])))), (7, .one (.c (.ptr 1 0))), (8, .one (.c (.d (.int .i64 i)))), (11, .one (.c (.d (.sl (.pair (.int .i64) (.int .u64)) t11)))), (12, .one (.c (.d (.int .i64 t12)))), (13, .one (.c (.d (.int .i64 t13))))], [(0, some ⟨5, 0⟩)], [(1, [.d (.int .i64 f_0), .d (.int .u64 f_1)])], 2⟩ [(0 : Int) ≤ (IntKind.wrap .i64 (8 * i)), out.length + [(IntKind.wrap .u8 (Int.fdiv f_1 (2 ^ (min (IntKind.wrap .i64 (8 * i)).toNat (IntKind.bits .u64)))))].length ≤ maxLen ∧ (out.length + [(IntKind.wrap .u8 (Int.fdiv f_1 (2 ^ (min (IntKind.wrap .i64 (8 * i)).toNat (IntKind.bits .u64)))))].length) * 1 ≤ 140737488355328] (by kernel_rfl) ⟨g39_0, g39_1, trivial⟩ ?_
      refine At.step hm ht ⟨[], [], [], [5, 7, 8, 11, 12, 13], [0, 1]⟩ 7 ⟨[(5, .one (.c (.own 0 (.int .u8) (out ++ [(IntKind.wrap .u8 (Int.fdiv f_1 (2 ^ (min (IntKind.wrap .i64 (8 * i)).toNat (IntKind.bits .u64)))))])))), (7, .one (.c (.ptr 1 0))), (8, .one (.c (.d (.int .i64 (IntKind.wrap .i64 (i - 1)))))), (11, .one (.c (.d (.sl (.pair (.int .i64) (.int .u64)) t11)))), (12, .one (.c (.d (.int .i64 t12)))), (13, .one (.c (.d (.int .i64 t13))))], [(0, some ⟨5, 0⟩)], [(1, [.d (.int .i64 f_0), .d (.int .u64 f_1)])], 2⟩ [] (by kernel_rfl) trivial ?_
      exact ih (out ++ [(IntKind.wrap .u8 (Int.fdiv f_1 (2 ^ (min (IntKind.wrap .i64 (8 * i)).toNat (IntKind.bits .u64)))))]) (IntKind.wrap .i64 (i - 1)) t11 t12 t13 f_0 f_1 w h o hk
    · refine At.step hm ht ⟨[], [false], [], [5, 11, 12, 13], [0]⟩ 10 ⟨[(5, .one (.c (.own 0 (.int .u8) out))), (11, .one (.c (.d (.sl (.pair (.int .i64) (.int .u64)) t11)))), (12, .one (.c (.d (.int .i64 t12)))), (13, .one (.c (.d (.int .i64 t13))))], [(0, some ⟨5, 0⟩)], [], 1⟩ [(decide ((i : Int) ≥ 0)) = false] (by kernel_rfl) ⟨b38_e0, trivial⟩ ?_
      have h := Option.some.inj h
      subst h
      exact hk
def f46_pack_Put_L3 : Nat → (List Int) → (List (Int × Int)) → Int → Int → Option (List Int)
  | 0, _, _, _, _ => none
  | n + 1, out, t11, t12, t13 =>
    if (decide ((t13 : Int) < t12)) = true then
      if (0 : Int) ≤ t13 ∧ t13 < (((t11).length : Nat) : Int) then
      if (decide ((((t11.getD t13.toNat (0, 0)).1) : Int) < 1)) = true then
        f46_pack_Put_L3 n out t11 t12 (IntKind.wrap .i64 (t13 + 1))
      else
        if (decide ((((t11.getD t13.toNat (0, 0)).1) : Int) > 8)) = true then
          f46_pack_Put_L3 n out t11 t12 (IntKind.wrap .i64 (t13 + 1))
        else
          (f46_pack_Put_L7 n out (IntKind.wrap .i64 (((t11.getD t13.toNat (0, 0)).1) - 1)) t11 t12 t13 ((t11.getD t13.toNat (0, 0)).1) ((t11.getD t13.toNat (0, 0)).2)).bind fun w41 =>
          f46_pack_Put_L3 n w41.1 w41.2.1 w41.2.2.1 (IntKind.wrap .i64 (w41.2.2.2 + 1))
      else none
    else
      some (out)
def f46_pack_Put_L3_k (e : List Int) (o : Out) : Prop := At Go.Proofs.Try.prog Go.Proofs.Try.f46 0 11 ⟨[(5, .one (.c (.own 0 (.int .u8) e)))], [(0, some ⟨5, 0⟩)], [], 1⟩ o
theorem f46_pack_Put_L3_ok (n : Nat) : ∀ (out : List Int) (t11 : List (Int × Int)) (t12 : Int) (t13 : Int) (w : List Int) (h : f46_pack_Put_L3 n out t11 t12 t13 = some w) (o : Out) (hk : f46_pack_Put_L3_k w o), At Go.Proofs.Try.prog Go.Proofs.Try.f46 0 3 ⟨[(5, .one (.c (.own 0 (.int .u8) out))), (11, .one (.c (.d (.sl (.pair (.int .i64) (.int .u64)) t11)))), (12, .one (.c (.d (.int .i64 t12)))), (13, .one (.c (.d (.int .i64 t13))))], [(0, some ⟨5, 0⟩)], [], 1⟩ o := by
  induction n with
  | zero => intro out t11 t12 t13 w h; rw [f46_pack_Put_L3] at h; cases h
  | succ n ih =>
    intro out t11 t12 t13 w h o hk
    rw [f46_pack_Put_L3] at h
    rcases iteS h with ⟨b32_e0, h⟩ | ⟨b32_e0, h⟩
    · refine At.step hm ht ⟨[], [true], [], [5, 11, 12, 13], [0]⟩ 4 ⟨[(5, .one (.c (.own 0 (.int .u8) out))), (11, .one (.c (.d (.sl (.pair (.int .i64) (.int .u64)) t11)))), (12, .one (.c (.d (.int .i64 t12)))), (13, .one (.c (.d (.int .i64 t13))))], [(0, some ⟨5, 0⟩)], [], 1⟩ [(decide ((t13 : Int) < t12)) = true] (by kernel_rfl) ⟨b32_e0, trivial⟩ ?_
      obtain ⟨g33_0, h⟩ := ifS h
      refine At.step hm ht ⟨[], [], [], [5, 7, 11, 12, 13], [0, 3]⟩ 5 ⟨[(5, .one (.c (.own 0 (.int .u8) out))), (7, .one (.c (.ptr 1 0))), (11, .one (.c (.d (.sl (.pair (.int .i64) (.int .u64)) t11)))), (12, .one (.c (.d (.int .i64 t12)))), (13, .one (.c (.d (.int .i64 t13))))], [(0, some ⟨5, 0⟩)], [(1, [.d (.int .i64 ((t11.getD t13.toNat (0, 0)).1)), .d (.int .u64 ((t11.getD t13.toNat (0, 0)).2))])], 2⟩ [(0 : Int) ≤ t13 ∧ t13 < (((t11).length : Nat) : Int), 0 + 2 ≤ 2] (by kernel_rfl) ⟨g33_0, (by decide), trivial⟩ ?_
      rcases iteS h with ⟨b34_3, h⟩ | ⟨b34_3, h⟩
      · refine At.step hm ht ⟨[(3, .b true)], [true], [], [5, 11, 12, 13], [0]⟩ 10 ⟨[(5, .one (.c (.own 0 (.int .u8) out))), (11, .one (.c (.d (.sl (.pair (.int .i64) (.int .u64)) t11)))), (12, .one (.c (.d (.int .i64 t12)))), (13, .one (.c (.d (.int .i64 t13))))], [(0, some ⟨5, 0⟩)], [], 1⟩ [(decide ((((t11.getD t13.toNat (0, 0)).1) : Int) < 1)) = true, true = true] (by kernel_rfl) ⟨b34_3, rfl, trivial⟩ ?_
        refine At.step hm ht ⟨[], [], [], [5, 11, 12, 13], [0]⟩ 3 ⟨[(5, .one (.c (.own 0 (.int .u8) out))), (11, .one (.c (.d (.sl (.pair (.int .i64) (.int .u64)) t11)))), (12, .one (.c (.d (.int .i64 t12)))), (13, .one (.c (.d (.int .i64 (IntKind.wrap .i64 (t13 + 1))))))], [(0, some ⟨5, 0⟩)], [], 1⟩ [] (by kernel_rfl) trivial ?_
        exact ih out t11 t12 (IntKind.wrap .i64 (t13 + 1)) w h o hk
      · rcases iteS h with ⟨b34_e0, h⟩ | ⟨b34_e0, h⟩
        · refine At.step hm ht ⟨[(3, .b false)], [true], [], [5, 11, 12, 13], [0]⟩ 10 ⟨[(5, .one (.c (.own 0 (.int .u8) out))), (11, .one (.c (.d (.sl (.pair (.int .i64) (.int .u64)) t11)))), (12, .one (.c (.d (.int .i64 t12)))), (13, .one (.c (.d (.int .i64 t13))))], [(0, some ⟨5, 0⟩)], [], 1⟩ [(decide ((((t11.getD t13.toNat (0, 0)).1) : Int) < 1)) = false, (decide ((((t11.getD t13.toNat (0, 0)).1) : Int) > 8)) = true] (by kernel_rfl) ⟨b34_3, b34_e0, trivial⟩ ?_
          refine At.step hm ht ⟨[], [], [], [5, 11, 12, 13], [0]⟩ 3 ⟨[(5, .one (.c (.own 0 (.int .u8) out))), (11, .one (.c (.d (.sl (.pair (.int .i64) (.int .u64)) t11)))), (12, .one (.c (.d (.int .i64 t12)))), (13, .one (.c (.d (.int .i64 (IntKind.wrap .i64 (t13 + 1))))))], [(0, some ⟨5, 0⟩)], [], 1⟩ [] (by kernel_rfl) trivial ?_
          exact ih out t11 t12 (IntKind.wrap .i64 (t13 + 1)) w h o hk
        · refine At.step hm ht ⟨[(3, .b false)], [false], [], [5, 7, 11, 12, 13], [0, 1]⟩ 6 ⟨[(5, .one (.c (.own 0 (.int .u8) out))), (7, .one (.c (.ptr 1 0))), (11, .one (.c (.d (.sl (.pair (.int .i64) (.int .u64)) t11)))), (12, .one (.c (.d (.int .i64 t12)))), (13, .one (.c (.d (.int .i64 t13))))], [(0, some ⟨5, 0⟩)], [(1, [.d (.int .i64 ((t11.getD t13.toNat (0, 0)).1)), .d (.int .u64 ((t11.getD t13.toNat (0, 0)).2))])], 2⟩ [(decide ((((t11.getD t13.toNat (0, 0)).1) : Int) < 1)) = false, (decide ((((t11.getD t13.toNat (0, 0)).1) : Int) > 8)) = false] (by kernel_rfl) ⟨b34_3, b34_e0, trivial⟩ ?_
          refine At.step hm ht ⟨[], [], [], [5, 7, 8, 11, 12, 13], [0, 1]⟩ 7 ⟨[(5, .one (.c (.own 0 (.int .u8) out))), (7, .one (.c (.ptr 1 0))), (8, .one (.c (.d (.int .i64 (IntKind.wrap .i64 (((t11.getD t13.toNat (0, 0)).1) - 1)))))), (11, .one (.c (.d (.sl (.pair (.int .i64) (.int .u64)) t11)))), (12, .one (.c (.d (.int .i64 t12)))), (13, .one (.c (.d (.int .i64 t13))))], [(0, some ⟨5, 0⟩)], [(1, [.d (.int .i64 ((t11.getD t13.toNat (0, 0)).1)), .d (.int .u64 ((t11.getD t13.toNat (0, 0)).2))])], 2⟩ [] (by kernel_rfl) trivial ?_
          obtain ⟨w41, cw41, h⟩ := bindS h
          refine f46_pack_Put_L7_ok n out (IntKind.wrap .i64 (((t11.getD t13.toNat (0, 0)).1) - 1)) t11 t12 t13 ((t11.getD t13.toNat (0, 0)).1) ((t11.getD t13.toNat (0, 0)).2) w41 cw41 _ ?_
          show At Go.Proofs.Try.prog Go.Proofs.Try.f46 0 10 ⟨[(5, .one (.c (.own 0 (.int .u8) w41.1))), (11, .one (.c (.d (.sl (.pair (.int .i64) (.int .u64)) w41.2.1)))), (12, .one (.c (.d (.int .i64 w41.2.2.1)))), (13, .one (.c (.d (.int .i64 w41.2.2.2))))], [(0, some ⟨5, 0⟩)], [], 1⟩ _
          refine At.step hm ht ⟨[], [], [], [5, 11, 12, 13], [0]⟩ 3 ⟨[(5, .one (.c (.own 0 (.int .u8) w41.1))), (11, .one (.c (.d (.sl (.pair (.int .i64) (.int .u64)) w41.2.1)))), (12, .one (.c (.d (.int .i64 w41.2.2.1)))), (13, .one (.c (.d (.int .i64 (IntKind.wrap .i64 (w41.2.2.2 + 1))))))], [(0, some ⟨5, 0⟩)], [], 1⟩ [] (by kernel_rfl) trivial ?_
          exact ih w41.1 w41.2.1 w41.2.2.1 (IntKind.wrap .i64 (w41.2.2.2 + 1)) w h o hk
    · refine At.step hm ht ⟨[], [false], [], [5], [0]⟩ 11 ⟨[(5, .one (.c (.own 0 (.int .u8) out)))], [(0, some ⟨5, 0⟩)], [], 1⟩ [(decide ((t13 : Int) < t12)) = false] (by kernel_rfl) ⟨b32_e0, trivial⟩ ?_
      have h := Option.some.inj h
      subst h
      exact hk
def f46_pack_Put (n : Nat) (b : List Int) (l : List (Int × Int)) : Option (List Int) :=
  if b.length ≤ maxLen ∧ b.length * 1 ≤ 140737488355328 then
  (f46_pack_Put_L3 n b l ((l.length : Nat) : Int) 0).bind fun w44 =>
  some w44
  else none
theorem f46_pack_Put_ok (n : Nat) (b : List Int) (l : List (Int × Int)) (r : List Int) (h : f46_pack_Put n b l = some r) : FnOK Go.Proofs.Try.prog 46 (f46_pack_Put_in b l) (f46_pack_Put_out r) := by
  unfold f46_pack_Put at h
  refine At.fn (r := 0) Go.Proofs.Try.func46 rfl (by kernel_rfl) rfl rfl (by kernel_rfl) ?_
  show At Go.Proofs.Try.prog Go.Proofs.Try.f46 0 0 ⟨[(0, .one (.c (.d (.sl (.int .u8) b)))), (1, .one (.c (.d (.sl (.pair (.int .i64) (.int .u64)) l))))], [], [], 0⟩ _
  refine At.step hm ht ⟨[], [], [], [0, 1], []⟩ 1 ⟨[(0, .one (.c (.d (.sl (.int .u8) b)))), (1, .one (.c (.d (.sl (.pair (.int .i64) (.int .u64)) l))))], [], [], 0⟩ [] (by kernel_rfl) trivial ?_
  obtain ⟨g30_0, h⟩ := ifS h
  refine At.step hm ht ⟨[], [], [], [1, 5], [1]⟩ 2 ⟨[(1, .one (.c (.d (.sl (.pair (.int .i64) (.int .u64)) l)))), (5, .one (.c (.own 0 (.int .u8) b)))], [(0, some ⟨5, 0⟩)], [], 1⟩ [b.length ≤ maxLen ∧ b.length * 1 ≤ 140737488355328] (by kernel_rfl) ⟨g30_0, trivial⟩ ?_
  refine At.step hm ht ⟨[], [], [], [5, 11, 12, 13], [0]⟩ 3 ⟨[(5, .one (.c (.own 0 (.int .u8) b))), (11, .one (.c (.d (.sl (.pair (.int .i64) (.int .u64)) l)))), (12, .one (.c (.d (.int .i64 ((l.length : Nat) : Int))))), (13, .one (.c (.d (.int .i64 0))))], [(0, some ⟨5, 0⟩)], [], 1⟩ [] (by kernel_rfl) trivial ?_
  obtain ⟨w44, cw44, h⟩ := bindS h
  refine f46_pack_Put_L3_ok n b l ((l.length : Nat) : Int) 0 w44 cw44 _ ?_
  show At Go.Proofs.Try.prog Go.Proofs.Try.f46 0 11 ⟨[(5, .one (.c (.own 0 (.int .u8) w44)))], [(0, some ⟨5, 0⟩)], [], 1⟩ _
  have h := Option.some.inj h
  subst h
  exact At.fin hm ht ⟨[], [], [], [4], [0]⟩ [] (by kernel_rfl) trivial
/-! brougham/pack.Get -/
def f47_pack_Get_in (b : List Int) (sizes : List Int) : Inn := ⟨[.c (.d (.sl (.int .u8) b)), .c (.d (.sl (.int .i64) sizes))], [], [], 0⟩
def f47_pack_Get_out (r : List Int × List Int × Bool) : Out := ⟨.tup [.c (.own 0 (.int .u64) r.1), .c (.own 1 (.int .u8) r.2.1), .c (.d (.bool r.2.2))], [(0, ⟨38, 0⟩), (1, ⟨5, 0⟩)], [], 2⟩
def f47_pack_Get_L9 : Nat → (List Int) → (List Int) → Int → Int → (List Int) → Int → Int → (List Int) → Int → Int → Option (List Int × List Int × Int × Int × List Int × Int × Int)
  | 0, _, _, _, _, _, _, _, _, _, _ => none
  | n + 1, b, out, n_, x, t13, t14, t15, t33, t34, t35 =>
    if (decide ((t35 : Int) < t34)) = true then
      if (0 : Int) ≤ t35 ∧ t35 < (((t33).length : Nat) : Int) then
      f47_pack_Get_L9 n b out n_ (bits .or .u64 (IntKind.wrap .u64 (x * 2 ^ 8)) (IntKind.wrap .u64 (t33.getD t35.toNat 0))) t13 t14 t15 t33 t34 (IntKind.wrap .i64 (t35 + 1))
      else none
    else
      some ((b, out, n_, x, t13, t14, t15))
def f47_pack_Get_L9_k (e : List Int × List Int × Int × Int × List Int × Int × Int) (o : Out) : Prop := At Go.Proofs.Try.prog Go.Proofs.Try.f47 0 13 ⟨[(0, .one (.c (.d (.sl (.int .u8) e.1)))), (7, .one (.c (.own 0 (.int .u64) e.2.1))), (9, .one (.c (.d (.int .i64 e.2.2.1)))), (10, .one (.c (.d (.int .u64 e.2.2.2.1)))), (13, .one (.c (.d (.sl (.int .i64) e.2.2.2.2.1)))), (14, .one (.c (.d (.int .i64 e.2.2.2.2.2.1)))), (15, .one (.c (.d (.int .i64 e.2.2.2.2.2.2))))], [(0, some ⟨38, 0⟩)], [], 1⟩ o
theorem f47_pack_Get_L9_ok (n : Nat) : ∀ (b : List Int) (out : List Int) (n_ : Int) (x : Int) (t13 : List Int) (t14 : Int) (t15 : Int) (t33 : List Int) (t34 : Int) (t35 : Int) (w : List Int × List Int × Int × Int × List Int × Int × Int) (h : f47_pack_Get_L9 n b out n_ x t13 t14 t15 t33 t34 t35 = some w) (o : Out) (hk : f47_pack_Get_L9_k w o), At Go.Proofs.Try.prog Go.Proofs.Try.f47 0 9 ⟨[(0, .one (.c (.d (.sl (.int .u8) b)))), (7, .one (.c (.own 0 (.int .u64) out))), (9, .one (.c (.d (.int .i64 n_)))), (10, .one (.c (.d (.int .u64 x)))), (13, .one (.c (.d (.sl (.int .i64) t13)))), (14, .one (.c (.d (.int .i64 t14)))), (15, .one (.c (.d (.int .i64 t15)))), (33, .one (.c (.d (.sl (.int .u8) t33)))), (34, .one (.c (.d (.int .i64 t34)))), (35, .one (.c (.d (.int .i64 t35))))], [(0, some ⟨38, 0⟩)], [], 1⟩ o := by
  induction n with
  | zero => intro b out n_ x t13 t14 t15 t33 t34 t35 w h; rw [f47_pack_Get_L9] at h; cases h
  | succ n ih =>
    intro b out n_ x t13 t14 t15 t33 t34 t35 w h o hk
    rw [f47_pack_Get_L9] at h
    rcases iteS h with ⟨b114_e0, h⟩ | ⟨b114_e0, h⟩
    · refine At.step hm ht ⟨[], [true], [], [0, 7, 9, 10, 13, 14, 15, 33, 34, 35], [0]⟩ 10 ⟨[(0, .one (.c (.d (.sl (.int .u8) b)))), (7, .one (.c (.own 0 (.int .u64) out))), (9, .one (.c (.d (.int .i64 n_)))), (10, .one (.c (.d (.int .u64 x)))), (13, .one (.c (.d (.sl (.int .i64) t13)))), (14, .one (.c (.d (.int .i64 t14)))), (15, .one (.c (.d (.int .i64 t15)))), (33, .one (.c (.d (.sl (.int .u8) t33)))), (34, .one (.c (.d (.int .i64 t34)))), (35, .one (.c (.d (.int .i64 t35))))], [(0, some ⟨38, 0⟩)], [], 1⟩ [(decide ((t35 : Int) < t34)) = true] (by kernel_rfl) ⟨b114_e0, trivial⟩ ?_
      obtain ⟨g115_0, h⟩ := ifS h
      refine At.step hm ht ⟨[], [], [], [0, 7, 9, 10, 12, 13, 14, 15, 33, 34, 35], [0]⟩ 11 ⟨[(0, .one (.c (.d (.sl (.int .u8) b)))), (7, .one (.c (.own 0 (.int .u64) out))), (9, .one (.c (.d (.int .i64 n_)))), (10, .one (.c (.d (.int .u64 x)))), (12, .one (.c (.d (.int .u8 (t33.getD t35.toNat 0))))), (13, .one (.c (.d (.sl (.int .i64) t13)))), (14, .one (.c (.d (.int .i64 t14)))), (15, .one (.c (.d (.int .i64 t15)))), (33, .one (.c (.d (.sl (.int .u8) t33)))), (34, .one (.c (.d (.int .i64 t34)))), (35, .one (.c (.d (.int .i64 t35))))], [(0, some ⟨38, 0⟩)], [], 1⟩ [(0 : Int) ≤ t35 ∧ t35 < (((t33).length : Nat) : Int)] (by kernel_rfl) ⟨g115_0, trivial⟩ ?_
      refine At.step hm ht ⟨[], [], [], [0, 7, 9, 10, 13, 14, 15, 33, 34, 35], [0]⟩ 12 ⟨[(0, .one (.c (.d (.sl (.int .u8) b)))), (7, .one (.c (.own 0 (.int .u64) out))), (9, .one (.c (.d (.int .i64 n_)))), (10, .one (.c (.d (.int .u64 (bits .or .u64 (IntKind.wrap .u64 (x * 2 ^ 8)) (IntKind.wrap .u64 (t33.getD t35.toNat 0))))))), (13, .one (.c (.d (.sl (.int .i64) t13)))), (14, .one (.c (.d (.int .i64 t14)))), (15, .one (.c (.d (.int .i64 t15)))), (33, .one (.c (.d (.sl (.int .u8) t33)))), (34, .one (.c (.d (.int .i64 t34)))), (35, .one (.c (.d (.int .i64 t35))))], [(0, some ⟨38, 0⟩)], [], 1⟩ [(0 : Int) ≤ 8] (by kernel_rfl) ⟨(by decide), trivial⟩ ?_
      refine At.step hm ht ⟨[], [], [], [0, 7, 9, 10, 13, 14, 15, 33, 34, 35], [0]⟩ 9 ⟨[(0, .one (.c (.d (.sl (.int .u8) b)))), (7, .one (.c (.own 0 (.int .u64) out))), (9, .one (.c (.d (.int .i64 n_)))), (10, .one (.c (.d (.int .u64 (bits .or .u64 (IntKind.wrap .u64 (x * 2 ^ 8)) (IntKind.wrap .u64 (t33.getD t35.toNat 0))))))), (13, .one (.c (.d (.sl (.int .i64) t13)))), (14, .one (.c (.d (.int .i64 t14)))), (15, .one (.c (.d (.int .i64 t15)))), (33, .one (.c (.d (.sl (.int .u8) t33)))), (34, .one (.c (.d (.int .i64 t34)))), (35, .one (.c (.d (.int .i64 (IntKind.wrap .i64 (t35 + 1))))))], [(0, some ⟨38, 0⟩)], [], 1⟩ [] (by kernel_rfl) trivial ?_
      exact ih b out n_ (bits .or .u64 (IntKind.wrap .u64 (x * 2 ^ 8)) (IntKind.wrap .u64 (t33.getD t35.toNat 0))) t13 t14 t15 t33 t34 (IntKind.wrap .i64 (t35 + 1)) w h o hk
    · refine At.step hm ht ⟨[], [false], [], [0, 7, 9, 10, 13, 14, 15], [0]⟩ 13 ⟨[(0, .one (.c (.d (.sl (.int .u8) b)))), (7, .one (.c (.own 0 (.int .u64) out))), (9, .one (.c (.d (.int .i64 n_)))), (10, .one (.c (.d (.int .u64 x)))), (13, .one (.c (.d (.sl (.int .i64) t13)))), (14, .one (.c (.d (.int .i64 t14)))), (15, .one (.c (.d (.int .i64 t15))))], [(0, some ⟨38, 0⟩)], [], 1⟩ [(decide ((t35 : Int) < t34)) = false] (by kernel_rfl) ⟨b114_e0, trivial⟩ ?_
      have h := Option.some.inj h
      subst h
      exact hk
def f47_pack_Get_L3 : Nat → (List Int) → (List Int) → (List Int) → Int → Int → Option ((List Int × List Int × Bool) ⊕ (List Int × List Int))
  | 0, _, _, _, _, _ => none
  | n + 1, b, out, t13, t14, t15 =>
    if (decide ((t15 : Int) < t14)) = true then
      if (0 : Int) ≤ t15 ∧ t15 < (((t13).length : Nat) : Int) then
      if (decide (((t13.getD t15.toNat 0) : Int) < 1)) = true then
        some (.inl ([], [], false))
      else
        if (decide (((t13.getD t15.toNat 0) : Int) > 8)) = true then
          some (.inl ([], [], false))
        else
          if (decide (((t13.getD t15.toNat 0) : Int) > ((b.length : Nat) : Int))) = true then
            some (.inl ([], [], false))
          else
            if cutOk b.length none (some (t13.getD t15.toNat 0)) none then
            (f47_pack_Get_L9 n b out (t13.getD t15.toNat 0) 0 t13 t14 t15 (b.take (t13.getD t15.toNat 0).toNat) (((b.take (t13.getD t15.toNat 0).toNat).length : Nat) : Int) 0).bind fun w118 =>
            if w118.2.1.length + [w118.2.2.2.1].length ≤ maxLen ∧ (w118.2.1.length + [w118.2.2.2.1].length) * 8 ≤ 140737488355328 then
            if cutOk w118.1.length (some w118.2.2.1) none none then
            f47_pack_Get_L3 n ((w118.1.take w118.1.length).drop w118.2.2.1.toNat) (w118.2.1 ++ [w118.2.2.2.1]) w118.2.2.2.2.1 w118.2.2.2.2.2.1 (IntKind.wrap .i64 (w118.2.2.2.2.2.2 + 1))
            else none
            else none
            else none
      else none
    else
      some (.inr ((b, out)))
def f47_pack_Get_L3_k (w : (List Int × List Int × Bool) ⊕ (List Int × List Int)) (o : Out) : Prop := match w with
  | .inl e => o = f47_pack_Get_out e
  | .inr e => At Go.Proofs.Try.prog Go.Proofs.Try.f47 0 16 ⟨[(0, .one (.c (.d (.sl (.int .u8) e.1)))), (7, .one (.c (.own 0 (.int .u64) e.2)))], [(0, some ⟨38, 0⟩)], [], 1⟩ o
theorem f47_pack_Get_L3_ok (n : Nat) : ∀ (b : List Int) (out : List Int) (t13 : List Int) (t14 : Int) (t15 : Int) (w : (List Int × List Int × Bool) ⊕ (List Int × List Int)) (h : f47_pack_Get_L3 n b out t13 t14 t15 = some w) (o : Out) (hk : f47_pack_Get_L3_k w o), At Go.Proofs.Try.prog Go.Proofs.Try.f47 0 3 ⟨[(0, .one (.c (.d (.sl (.int .u8) b)))), (7, .one (.c (.own 0 (.int .u64) out))), (13, .one (.c (.d (.sl (.int .i64) t13)))), (14, .one (.c (.d (.int .i64 t14)))), (15, .one (.c (.d (.int .i64 t15))))], [(0, some ⟨38, 0⟩)], [], 1⟩ o := by
  induction n with
  | zero => intro b out t13 t14 t15 w h; rw [f47_pack_Get_L3] at h; cases h
  | succ n ih =>
    intro b out t13 t14 t15 w h o hk
    rw [f47_pack_Get_L3] at h
    rcases iteS h with ⟨b106_e0, h⟩ | ⟨b106_e0, h⟩
    · refine At.step hm ht ⟨[], [true], [], [0, 7, 13, 14, 15], [0]⟩ 4 ⟨[(0, .one (.c (.d (.sl (.int .u8) b)))), (7, .one (.c (.own 0 (.int .u64) out))), (13, .one (.c (.d (.sl (.int .i64) t13)))), (14, .one (.c (.d (.int .i64 t14)))), (15, .one (.c (.d (.int .i64 t15))))], [(0, some ⟨38, 0⟩)], [], 1⟩ [(decide ((t15 : Int) < t14)) = true] (by kernel_rfl) ⟨b106_e0, trivial⟩ ?_
      obtain ⟨g107_0, h⟩ := ifS h
      refine At.step hm ht ⟨[], [], [], [0, 7, 9, 13, 14, 15], [0]⟩ 5 ⟨[(0, .one (.c (.d (.sl (.int .u8) b)))), (7, .one (.c (.own 0 (.int .u64) out))), (9, .one (.c (.d (.int .i64 (t13.getD t15.toNat 0))))), (13, .one (.c (.d (.sl (.int .i64) t13)))), (14, .one (.c (.d (.int .i64 t14)))), (15, .one (.c (.d (.int .i64 t15))))], [(0, some ⟨38, 0⟩)], [], 1⟩ [(0 : Int) ≤ t15 ∧ t15 < (((t13).length : Nat) : Int)] (by kernel_rfl) ⟨g107_0, trivial⟩ ?_
      rcases iteS h with ⟨b108_2, h⟩ | ⟨b108_2, h⟩
      · refine At.step hm ht ⟨[(2, .b true)], [true], [], [], []⟩ 6 ⟨[], [], [], 0⟩ [(decide (((t13.getD t15.toNat 0) : Int) < 1)) = true, true = true] (by kernel_rfl) ⟨b108_2, rfl, trivial⟩ ?_
        have h := Option.some.inj h
        subst h
        have hk : o = f47_pack_Get_out ([], [], false) := hk
        subst hk
        exact At.fin hm ht ⟨[], [], [.nil false 4 0 (.int .u64) (some 38), .nil false 5 0 (.int .u8) (some 5)], [4, 5, 6], [3, 4]⟩ [] (by kernel_rfl) trivial
      · rcases iteS h with ⟨b108_6, h⟩ | ⟨b108_6, h⟩
        · refine At.step hm ht ⟨[(2, .b false), (6, .b true)], [true], [], [], []⟩ 6 ⟨[], [], [], 0⟩ [(decide (((t13.getD t15.toNat 0) : Int) < 1)) = false, (decide (((t13.getD t15.toNat 0) : Int) > 8)) = true, true = true] (by kernel_rfl) ⟨b108_2, b108_6, rfl, trivial⟩ ?_
          have h := Option.some.inj h
          subst h
          have hk : o = f47_pack_Get_out ([], [], false) := hk
          subst hk
          exact At.fin hm ht ⟨[], [], [.nil false 4 0 (.int .u64) (some 38), .nil false 5 0 (.int .u8) (some 5)], [4, 5, 6], [3, 4]⟩ [] (by kernel_rfl) trivial
        · rcases iteS h with ⟨b108_e0, h⟩ | ⟨b108_e0, h⟩
          · refine At.step hm ht ⟨[(2, .b false), (6, .b false)], [true], [], [], []⟩ 6 ⟨[], [], [], 0⟩ [(decide (((t13.getD t15.toNat 0) : Int) < 1)) = false, (decide (((t13.getD t15.toNat 0) : Int) > 8)) = false, (decide (((t13.getD t15.toNat 0) : Int) > ((b.length : Nat) : Int))) = true] (by kernel_rfl) ⟨b108_2, b108_6, b108_e0, trivial⟩ ?_
            have h := Option.some.inj h
            subst h
            have hk : o = f47_pack_Get_out ([], [], false) := hk
            subst hk
            exact At.fin hm ht ⟨[], [], [.nil false 4 0 (.int .u64) (some 38), .nil false 5 0 (.int .u8) (some 5)], [4, 5, 6], [3, 4]⟩ [] (by kernel_rfl) trivial
          · refine At.step hm ht ⟨[(2, .b false), (6, .b false)], [false], [], [0, 7, 9, 13, 14, 15], [0]⟩ 7 ⟨[(0, .one (.c (.d (.sl (.int .u8) b)))), (7, .one (.c (.own 0 (.int .u64) out))), (9, .one (.c (.d (.int .i64 (t13.getD t15.toNat 0))))), (13, .one (.c (.d (.sl (.int .i64) t13)))), (14, .one (.c (.d (.int .i64 t14)))), (15, .one (.c (.d (.int .i64 t15))))], [(0, some ⟨38, 0⟩)], [], 1⟩ [(decide (((t13.getD t15.toNat 0) : Int) < 1)) = false, (decide (((t13.getD t15.toNat 0) : Int) > 8)) = false, (decide (((t13.getD t15.toNat 0) : Int) > ((b.length : Nat) : Int))) = false] (by kernel_rfl) ⟨b108_2, b108_6, b108_e0, trivial⟩ ?_
            refine At.step hm ht ⟨[], [], [], [0, 7, 9, 10, 13, 14, 15], [0]⟩ 8 ⟨[(0, .one (.c (.d (.sl (.int .u8) b)))), (7, .one (.c (.own 0 (.int .u64) out))), (9, .one (.c (.d (.int .i64 (t13.getD t15.toNat 0))))), (10, .one (.c (.d (.int .u64 0)))), (13, .one (.c (.d (.sl (.int .i64) t13)))), (14, .one (.c (.d (.int .i64 t14)))), (15, .one (.c (.d (.int .i64 t15))))], [(0, some ⟨38, 0⟩)], [], 1⟩ [] (by kernel_rfl) trivial ?_
            obtain ⟨g113_0, h⟩ := ifS h
            refine At.step hm ht ⟨[], [], [], [0, 7, 9, 10, 13, 14, 15, 33, 34, 35], [0]⟩ 9 ⟨[(0, .one (.c (.d (.sl (.int .u8) b)))), (7, .one (.c (.own 0 (.int .u64) out))), (9, .one (.c (.d (.int .i64 (t13.getD t15.toNat 0))))), (10, .one (.c (.d (.int .u64 0)))), (13, .one (.c (.d (.sl (.int .i64) t13)))), (14, .one (.c (.d (.int .i64 t14)))), (15, .one (.c (.d (.int .i64 t15)))), (33, .one (.c (.d (.sl (.int .u8) (b.take (t13.getD t15.toNat 0).toNat))))), (34, .one (.c (.d (.int .i64 (((b.take (t13.getD t15.toNat 0).toNat).length : Nat) : Int))))), (35, .one (.c (.d (.int .i64 0))))], [(0, some ⟨38, 0⟩)], [], 1⟩ [cutOk b.length none (some (t13.getD t15.toNat 0)) none] (by kernel_rfl) ⟨g113_0, trivial⟩ ?_
            obtain ⟨w118, cw118, h⟩ := bindS h
            refine f47_pack_Get_L9_ok n b out (t13.getD t15.toNat 0) 0 t13 t14 t15 (b.take (t13.getD t15.toNat 0).toNat) (((b.take (t13.getD t15.toNat 0).toNat).length : Nat) : Int) 0 w118 cw118 _ ?_
            show At Go.Proofs.Try.prog Go.Proofs.Try.f47 0 13 ⟨[(0, .one (.c (.d (.sl (.int .u8) w118.1)))), (7, .one (.c (.own 0 (.int .u64) w118.2.1))), (9, .one (.c (.d (.int .i64 w118.2.2.1)))), (10, .one (.c (.d (.int .u64 w118.2.2.2.1)))), (13, .one (.c (.d (.sl (.int .i64) w118.2.2.2.2.1)))), (14, .one (.c (.d (.int .i64 w118.2.2.2.2.2.1)))), (15, .one (.c (.d (.int .i64 w118.2.2.2.2.2.2))))], [(0, some ⟨38, 0⟩)], [], 1⟩ _
            obtain ⟨g120_0, h⟩ := ifS h
            refine At.step hm ht ⟨[], [], [], [0, 7, 9, 13, 14, 15], [4]⟩ 14 ⟨[(0, .one (.c (.d (.sl (.int .u8) w118.1)))), (7, .one (.c (.own 0 (.int .u64) (w118.2.1 ++ [w118.2.2.2.1])))), (9, .one (.c (.d (.int .i64 w118.2.2.1)))), (13, .one (.c (.d (.sl (.int .i64) w118.2.2.2.2.1)))), (14, .one (.c (.d (.int .i64 w118.2.2.2.2.2.1)))), (15, .one (.c (.d (.int .i64 w118.2.2.2.2.2.2))))], [(0, some ⟨38, 0⟩)], [], 1⟩ [w118.2.1.length + [w118.2.2.2.1].length ≤ maxLen ∧ (w118.2.1.length + [w118.2.2.2.1].length) * 8 ≤ 140737488355328] (by kernel_rfl) ⟨g120_0, trivial⟩ ?_
            obtain ⟨g121_0, h⟩ := ifS h
            refine At.step hm ht ⟨[], [], [], [0, 7, 13, 14, 15], [0]⟩ 15 ⟨[(0, .one (.c (.d (.sl (.int .u8) ((w118.1.take w118.1.length).drop w118.2.2.1.toNat))))), (7, .one (.c (.own 0 (.int .u64) (w118.2.1 ++ [w118.2.2.2.1])))), (13, .one (.c (.d (.sl (.int .i64) w118.2.2.2.2.1)))), (14, .one (.c (.d (.int .i64 w118.2.2.2.2.2.1)))), (15, .one (.c (.d (.int .i64 w118.2.2.2.2.2.2))))], [(0, some ⟨38, 0⟩)], [], 1⟩ [cutOk w118.1.length (some w118.2.2.1) none none] (by kernel_rfl) ⟨g121_0, trivial⟩ ?_
            refine At.step hm ht ⟨[], [], [], [0, 7, 13, 14, 15], [0]⟩ 3 ⟨[(0, .one (.c (.d (.sl (.int .u8) ((w118.1.take w118.1.length).drop w118.2.2.1.toNat))))), (7, .one (.c (.own 0 (.int .u64) (w118.2.1 ++ [w118.2.2.2.1])))), (13, .one (.c (.d (.sl (.int .i64) w118.2.2.2.2.1)))), (14, .one (.c (.d (.int .i64 w118.2.2.2.2.2.1)))), (15, .one (.c (.d (.int .i64 (IntKind.wrap .i64 (w118.2.2.2.2.2.2 + 1))))))], [(0, some ⟨38, 0⟩)], [], 1⟩ [] (by kernel_rfl) trivial ?_
            exact ih ((w118.1.take w118.1.length).drop w118.2.2.1.toNat) (w118.2.1 ++ [w118.2.2.2.1]) w118.2.2.2.2.1 w118.2.2.2.2.2.1 (IntKind.wrap .i64 (w118.2.2.2.2.2.2 + 1)) w h o hk
    · refine At.step hm ht ⟨[], [false], [], [0, 7], [0]⟩ 16 ⟨[(0, .one (.c (.d (.sl (.int .u8) b)))), (7, .one (.c (.own 0 (.int .u64) out)))], [(0, some ⟨38, 0⟩)], [], 1⟩ [(decide ((t15 : Int) < t14)) = false] (by kernel_rfl) ⟨b106_e0, trivial⟩ ?_
      have h := Option.some.inj h
      subst h
      exact hk
def f47_pack_Get (n : Nat) (b : List Int) (sizes : List Int) : Option (List Int × List Int × Bool) :=
  (f47_pack_Get_L3 n b [] sizes ((sizes.length : Nat) : Int) 0).bind fun w123 =>
  match w123 with
  | .inl e124 =>
    some (e124.1, e124.2.1, e124.2.2)
  | .inr e125 =>
    if e125.1.length ≤ maxLen ∧ e125.1.length * 1 ≤ 140737488355328 then
    some (e125.2, e125.1, true)
    else none
theorem f47_pack_Get_ok (n : Nat) (b : List Int) (sizes : List Int) (r : List Int × List Int × Bool) (h : f47_pack_Get n b sizes = some r) : FnOK Go.Proofs.Try.prog 47 (f47_pack_Get_in b sizes) (f47_pack_Get_out r) := by
  unfold f47_pack_Get at h
  refine At.fn (r := 0) Go.Proofs.Try.func47 rfl (by kernel_rfl) rfl rfl (by kernel_rfl) ?_
  show At Go.Proofs.Try.prog Go.Proofs.Try.f47 0 0 ⟨[(0, .one (.c (.d (.sl (.int .u8) b)))), (1, .one (.c (.d (.sl (.int .i64) sizes))))], [], [], 0⟩ _
  refine At.step hm ht ⟨[], [], [], [0, 1], []⟩ 1 ⟨[(0, .one (.c (.d (.sl (.int .u8) b)))), (1, .one (.c (.d (.sl (.int .i64) sizes))))], [], [], 0⟩ [] (by kernel_rfl) trivial ?_
  refine At.step hm ht ⟨[], [], [], [0, 1, 7], []⟩ 2 ⟨[(0, .one (.c (.d (.sl (.int .u8) b)))), (1, .one (.c (.d (.sl (.int .i64) sizes)))), (7, .one (.c (.d (.sl .unit []))))], [], [], 0⟩ [] (by kernel_rfl) trivial ?_
  refine At.step hm ht ⟨[], [], [.nil false 7 0 (.int .u64) (some 38)], [0, 7, 13, 14, 15], [3]⟩ 3 ⟨[(0, .one (.c (.d (.sl (.int .u8) b)))), (7, .one (.c (.own 0 (.int .u64) []))), (13, .one (.c (.d (.sl (.int .i64) sizes)))), (14, .one (.c (.d (.int .i64 ((sizes.length : Nat) : Int))))), (15, .one (.c (.d (.int .i64 0))))], [(0, some ⟨38, 0⟩)], [], 1⟩ [] (by kernel_rfl) trivial ?_
  obtain ⟨w123, cw123, h⟩ := bindS h
  refine f47_pack_Get_L3_ok n b [] sizes ((sizes.length : Nat) : Int) 0 w123 cw123 _ ?_
  rcases w123 with e124 | e125
  · have h := Option.some.inj h
    subst h
    rfl
  · show At Go.Proofs.Try.prog Go.Proofs.Try.f47 0 16 ⟨[(0, .one (.c (.d (.sl (.int .u8) e125.1)))), (7, .one (.c (.own 0 (.int .u64) e125.2)))], [(0, some ⟨38, 0⟩)], [], 1⟩ _
    obtain ⟨g126_0, h⟩ := ifS h
    have h := Option.some.inj h
    subst h
    exact At.fin hm ht ⟨[], [], [], [4, 5, 6], [0, 3]⟩ [e125.1.length ≤ maxLen ∧ e125.1.length * 1 ≤ 140737488355328] (by kernel_rfl) ⟨g126_0, trivial⟩
/-! brougham/broughamref02.Get -/
def f62_broughamref02_Get_in (b : List Int) (bytes : Int) : Inn := ⟨[.c (.d (.sl (.int .u8) b)), .c (.d (.int .i64 bytes))], [], [], 0⟩
def f62_broughamref02_Get_out (r : Int × List Int × Bool) : Out := ⟨.tup [.c (.d (.int .u64 r.1)), .c (.d (.sl (.int .u8) r.2.1)), .c (.d (.bool r.2.2))], [], [], 0⟩
def f62_broughamref02_Get_L5 : Nat → (List Int) → Int → Int → Int → Option (List Int × Int × Int)
  | 0, _, _, _, _ => none
  | n + 1, b, bytes, n_, i =>
    if (decide ((i : Int) < bytes)) = true then
      if (0 : Int) ≤ i ∧ i < (((b).length : Nat) : Int) then
      f62_broughamref02_Get_L5 n b bytes (IntKind.wrap .u64 ((IntKind.wrap .u64 (n_ * 256)) + (IntKind.wrap .u64 (b.getD i.toNat 0)))) (IntKind.wrap .i64 (i + 1))
      else none
    else
      some ((b, bytes, n_))
def f62_broughamref02_Get_L5_k (e : List Int × Int × Int) (o : Out) : Prop := At Go.Proofs.Try.prog Go.Proofs.Try.f62 0 8 ⟨[(0, .one (.c (.d (.sl (.int .u8) e.1)))), (1, .one (.c (.d (.int .i64 e.2.1)))), (7, .one (.c (.d (.int .u64 e.2.2))))], [], [], 0⟩ o
theorem f62_broughamref02_Get_L5_ok (n : Nat) : ∀ (b : List Int) (bytes : Int) (n_ : Int) (i : Int) (w : List Int × Int × Int) (h : f62_broughamref02_Get_L5 n b bytes n_ i = some w) (o : Out) (hk : f62_broughamref02_Get_L5_k w o), At Go.Proofs.Try.prog Go.Proofs.Try.f62 0 5 ⟨[(0, .one (.c (.d (.sl (.int .u8) b)))), (1, .one (.c (.d (.int .i64 bytes)))), (7, .one (.c (.d (.int .u64 n_)))), (8, .one (.c (.d (.int .i64 i))))], [], [], 0⟩ o := by
  induction n with
  | zero => intro b bytes n_ i w h; rw [f62_broughamref02_Get_L5] at h; cases h
  | succ n ih =>
    intro b bytes n_ i w h o hk
    rw [f62_broughamref02_Get_L5] at h
    rcases iteS h with ⟨b165_e0, h⟩ | ⟨b165_e0, h⟩
    · refine At.step hm ht ⟨[], [true], [], [0, 1, 7, 8], []⟩ 7 ⟨[(0, .one (.c (.d (.sl (.int .u8) b)))), (1, .one (.c (.d (.int .i64 bytes)))), (7, .one (.c (.d (.int .u64 n_)))), (8, .one (.c (.d (.int .i64 i))))], [], [], 0⟩ [(decide ((i : Int) < bytes)) = true] (by kernel_rfl) ⟨b165_e0, trivial⟩ ?_
      obtain ⟨g166_0, h⟩ := ifS h
      refine At.step hm ht ⟨[], [], [], [0, 1, 7, 8], []⟩ 6 ⟨[(0, .one (.c (.d (.sl (.int .u8) b)))), (1, .one (.c (.d (.int .i64 bytes)))), (7, .one (.c (.d (.int .u64 (IntKind.wrap .u64 ((IntKind.wrap .u64 (n_ * 256)) + (IntKind.wrap .u64 (b.getD i.toNat 0)))))))), (8, .one (.c (.d (.int .i64 i))))], [], [], 0⟩ [(0 : Int) ≤ i ∧ i < (((b).length : Nat) : Int)] (by kernel_rfl) ⟨g166_0, trivial⟩ ?_
      refine At.step hm ht ⟨[], [], [], [0, 1, 7, 8], []⟩ 5 ⟨[(0, .one (.c (.d (.sl (.int .u8) b)))), (1, .one (.c (.d (.int .i64 bytes)))), (7, .one (.c (.d (.int .u64 (IntKind.wrap .u64 ((IntKind.wrap .u64 (n_ * 256)) + (IntKind.wrap .u64 (b.getD i.toNat 0)))))))), (8, .one (.c (.d (.int .i64 (IntKind.wrap .i64 (i + 1))))))], [], [], 0⟩ [] (by kernel_rfl) trivial ?_
      exact ih b bytes (IntKind.wrap .u64 ((IntKind.wrap .u64 (n_ * 256)) + (IntKind.wrap .u64 (b.getD i.toNat 0)))) (IntKind.wrap .i64 (i + 1)) w h o hk
    · refine At.step hm ht ⟨[], [false], [], [0, 1, 7], []⟩ 8 ⟨[(0, .one (.c (.d (.sl (.int .u8) b)))), (1, .one (.c (.d (.int .i64 bytes)))), (7, .one (.c (.d (.int .u64 n_))))], [], [], 0⟩ [(decide ((i : Int) < bytes)) = false] (by kernel_rfl) ⟨b165_e0, trivial⟩ ?_
      have h := Option.some.inj h
      subst h
      exact hk
def f62_broughamref02_Get (n : Nat) (b : List Int) (bytes : Int) : Option (Int × List Int × Bool) :=
  if (decide ((bytes : Int) < 1)) = true then
    some (0, [], false)
  else
    if (decide ((bytes : Int) > 8)) = true then
      some (0, [], false)
    else
      if (decide ((((b.length : Nat) : Int) : Int) < bytes)) = true then
        some (0, [], false)
      else
        (f62_broughamref02_Get_L5 n b bytes 0 0).bind fun w168 =>
        if cutOk w168.1.length (some w168.2.1) none none then
        some (w168.2.2, ((w168.1.take w168.1.length).drop w168.2.1.toNat), true)
        else none
theorem f62_broughamref02_Get_ok (n : Nat) (b : List Int) (bytes : Int) (r : Int × List Int × Bool) (h : f62_broughamref02_Get n b bytes = some r) : FnOK Go.Proofs.Try.prog 62 (f62_broughamref02_Get_in b bytes) (f62_broughamref02_Get_out r) := by
  unfold f62_broughamref02_Get at h
  refine At.fn (r := 0) Go.Proofs.Try.func62 rfl (by kernel_rfl) rfl rfl (by kernel_rfl) ?_
  show At Go.Proofs.Try.prog Go.Proofs.Try.f62 0 0 ⟨[(0, .one (.c (.d (.sl (.int .u8) b)))), (1, .one (.c (.d (.int .i64 bytes))))], [], [], 0⟩ _
  refine At.step hm ht ⟨[], [], [], [0, 1], []⟩ 1 ⟨[(0, .one (.c (.d (.sl (.int .u8) b)))), (1, .one (.c (.d (.int .i64 bytes))))], [], [], 0⟩ [] (by kernel_rfl) trivial ?_
  rcases iteS h with ⟨b159_2, h⟩ | ⟨b159_2, h⟩
  · refine At.step hm ht ⟨[(2, .b true)], [true], [], [], []⟩ 2 ⟨[], [], [], 0⟩ [(decide ((bytes : Int) < 1)) = true, true = true] (by kernel_rfl) ⟨b159_2, rfl, trivial⟩ ?_
    have h := Option.some.inj h
    subst h
    exact At.fin hm ht ⟨[], [], [.nil false 5 0 (.int .u8) none], [4, 5, 6], []⟩ [] (by kernel_rfl) trivial
  · rcases iteS h with ⟨b159_6, h⟩ | ⟨b159_6, h⟩
    · refine At.step hm ht ⟨[(2, .b false), (6, .b true)], [true], [], [], []⟩ 2 ⟨[], [], [], 0⟩ [(decide ((bytes : Int) < 1)) = false, (decide ((bytes : Int) > 8)) = true, true = true] (by kernel_rfl) ⟨b159_2, b159_6, rfl, trivial⟩ ?_
      have h := Option.some.inj h
      subst h
      exact At.fin hm ht ⟨[], [], [.nil false 5 0 (.int .u8) none], [4, 5, 6], []⟩ [] (by kernel_rfl) trivial
    · rcases iteS h with ⟨b159_e0, h⟩ | ⟨b159_e0, h⟩
      · refine At.step hm ht ⟨[(2, .b false), (6, .b false)], [true], [], [], []⟩ 2 ⟨[], [], [], 0⟩ [(decide ((bytes : Int) < 1)) = false, (decide ((bytes : Int) > 8)) = false, (decide ((((b.length : Nat) : Int) : Int) < bytes)) = true] (by kernel_rfl) ⟨b159_2, b159_6, b159_e0, trivial⟩ ?_
        have h := Option.some.inj h
        subst h
        exact At.fin hm ht ⟨[], [], [.nil false 5 0 (.int .u8) none], [4, 5, 6], []⟩ [] (by kernel_rfl) trivial
      · refine At.step hm ht ⟨[(2, .b false), (6, .b false)], [false], [], [0, 1], []⟩ 3 ⟨[(0, .one (.c (.d (.sl (.int .u8) b)))), (1, .one (.c (.d (.int .i64 bytes))))], [], [], 0⟩ [(decide ((bytes : Int) < 1)) = false, (decide ((bytes : Int) > 8)) = false, (decide ((((b.length : Nat) : Int) : Int) < bytes)) = false] (by kernel_rfl) ⟨b159_2, b159_6, b159_e0, trivial⟩ ?_
        refine At.step hm ht ⟨[], [], [], [0, 1, 7], []⟩ 4 ⟨[(0, .one (.c (.d (.sl (.int .u8) b)))), (1, .one (.c (.d (.int .i64 bytes)))), (7, .one (.c (.d (.int .u64 0))))], [], [], 0⟩ [] (by kernel_rfl) trivial ?_
        refine At.step hm ht ⟨[], [], [], [0, 1, 7, 8], []⟩ 5 ⟨[(0, .one (.c (.d (.sl (.int .u8) b)))), (1, .one (.c (.d (.int .i64 bytes)))), (7, .one (.c (.d (.int .u64 0)))), (8, .one (.c (.d (.int .i64 0))))], [], [], 0⟩ [] (by kernel_rfl) trivial ?_
        obtain ⟨w168, cw168, h⟩ := bindS h
        refine f62_broughamref02_Get_L5_ok n b bytes 0 0 w168 cw168 _ ?_
        show At Go.Proofs.Try.prog Go.Proofs.Try.f62 0 8 ⟨[(0, .one (.c (.d (.sl (.int .u8) w168.1)))), (1, .one (.c (.d (.int .i64 w168.2.1)))), (7, .one (.c (.d (.int .u64 w168.2.2))))], [], [], 0⟩ _
        obtain ⟨g170_0, h⟩ := ifS h
        have h := Option.some.inj h
        subst h
        exact At.fin hm ht ⟨[], [], [], [4, 5, 6], []⟩ [cutOk w168.1.length (some w168.2.1) none none] (by kernel_rfl) ⟨g170_0, trivial⟩
/-! brougham/broughamref02.All -/
def f49_broughamref02_All_in (b : List Int) (sizes : List Int) : Inn := ⟨[.c (.d (.sl (.int .u8) b)), .c (.d (.sl (.int .i64) sizes))], [], [], 0⟩
def f49_broughamref02_All_out (r : List Int × List Int × Bool) : Out := ⟨.tup [.c (.own 0 (.int .u64) r.1), .c (.d (.sl (.int .u8) r.2.1)), .c (.d (.bool r.2.2))], [(0, ⟨38, 0⟩)], [], 1⟩
def f49_broughamref02_All_L3 : Nat → (List Int) → (List Int) → (List Int) → Int → Option ((List Int × List Int × Bool) ⊕ (List Int × List Int))
  | 0, _, _, _, _ => none
  | n + 1, b, sizes, out, i =>
    if (decide ((i : Int) < ((sizes.length : Nat) : Int))) = true then
      if (0 : Int) ≤ i ∧ i < (((sizes).length : Nat) : Int) then
      (f62_broughamref02_Get n b (sizes.getD i.toNat 0)).bind fun r194_1 =>
      if (!r194_1.2.2) = true then
        some (.inl ([], [], false))
      else
        if out.length + [r194_1.1].length ≤ maxLen ∧ (out.length + [r194_1.1].length) * 8 ≤ 140737488355328 then
        f49_broughamref02_All_L3 n r194_1.2.1 sizes (out ++ [r194_1.1]) (IntKind.wrap .i64 (i + 1))
        else none
      else none
    else
      some (.inr ((b, out)))
def f49_broughamref02_All_L3_k (w : (List Int × List Int × Bool) ⊕ (List Int × List Int)) (o : Out) : Prop := match w with
  | .inl e => o = f49_broughamref02_All_out e
  | .inr e => At Go.Proofs.Try.prog Go.Proofs.Try.f49 0 10 ⟨[(0, .one (.c (.d (.sl (.int .u8) e.1)))), (7, .one (.c (.own 0 (.int .u64) e.2)))], [(0, some ⟨38, 0⟩)], [], 1⟩ o
theorem f49_broughamref02_All_L3_ok (n : Nat) : ∀ (b : List Int) (sizes : List Int) (out : List Int) (i : Int) (w : (List Int × List Int × Bool) ⊕ (List Int × List Int)) (h : f49_broughamref02_All_L3 n b sizes out i = some w) (o : Out) (hk : f49_broughamref02_All_L3_k w o), At Go.Proofs.Try.prog Go.Proofs.Try.f49 0 3 ⟨[(0, .one (.c (.d (.sl (.int .u8) b)))), (1, .one (.c (.d (.sl (.int .i64) sizes)))), (7, .one (.c (.own 0 (.int .u64) out))), (8, .one (.c (.d (.int .i64 i))))], [(0, some ⟨38, 0⟩)], [], 1⟩ o := by
  induction n with
  | zero => intro b sizes out i w h; rw [f49_broughamref02_All_L3] at h; cases h
  | succ n ih =>
    intro b sizes out i w h o hk
    rw [f49_broughamref02_All_L3] at h
    rcases iteS h with ⟨b193_e0, h⟩ | ⟨b193_e0, h⟩
    · refine At.step hm ht ⟨[], [true], [], [0, 1, 7, 8], [0]⟩ 5 ⟨[(0, .one (.c (.d (.sl (.int .u8) b)))), (1, .one (.c (.d (.sl (.int .i64) sizes)))), (7, .one (.c (.own 0 (.int .u64) out))), (8, .one (.c (.d (.int .i64 i))))], [(0, some ⟨38, 0⟩)], [], 1⟩ [(decide ((i : Int) < ((sizes.length : Nat) : Int))) = true] (by kernel_rfl) ⟨b193_e0, trivial⟩ ?_
      obtain ⟨g194_0, h⟩ := ifS h
      obtain ⟨r194_1, cr194_1, h⟩ := bindS h
      refine At.step hm ht ⟨[(5, .call [] [] (f62_broughamref02_Get_out r194_1))], [], [], [1, 7, 8, 9, 10, 11], [0]⟩ 6 ⟨[(1, .one (.c (.d (.sl (.int .i64) sizes)))), (7, .one (.c (.own 0 (.int .u64) out))), (8, .one (.c (.d (.int .i64 i)))), (9, .one (.c (.d (.int .u64 r194_1.1)))), (10, .one (.c (.d (.sl (.int .u8) r194_1.2.1)))), (11, .one (.c (.d (.bool r194_1.2.2))))], [(0, some ⟨38, 0⟩)], [], 1⟩ [(0 : Int) ≤ i ∧ i < (((sizes).length : Nat) : Int), FnOK Go.Proofs.Try.prog 62 (f62_broughamref02_Get_in b (sizes.getD i.toNat 0)) (f62_broughamref02_Get_out r194_1)] (by kernel_rfl) ⟨g194_0, (f62_broughamref02_Get_ok n b (sizes.getD i.toNat 0) r194_1 cr194_1), trivial⟩ ?_
      rcases iteS h with ⟨b195_e0, h⟩ | ⟨b195_e0, h⟩
      · refine At.step hm ht ⟨[], [true], [], [], []⟩ 7 ⟨[], [], [], 0⟩ [(!r194_1.2.2) = true] (by kernel_rfl) ⟨b195_e0, trivial⟩ ?_
        have h := Option.some.inj h
        subst h
        have hk : o = f49_broughamref02_All_out ([], [], false) := hk
        subst hk
        exact At.fin hm ht ⟨[], [], [.nil false 4 0 (.int .u64) (some 38), .nil false 5 0 (.int .u8) none], [4, 5, 6], [3]⟩ [] (by kernel_rfl) trivial
      · refine At.step hm ht ⟨[], [false], [], [1, 7, 8, 9, 10], [0]⟩ 8 ⟨[(1, .one (.c (.d (.sl (.int .i64) sizes)))), (7, .one (.c (.own 0 (.int .u64) out))), (8, .one (.c (.d (.int .i64 i)))), (9, .one (.c (.d (.int .u64 r194_1.1)))), (10, .one (.c (.d (.sl (.int .u8) r194_1.2.1))))], [(0, some ⟨38, 0⟩)], [], 1⟩ [(!r194_1.2.2) = false] (by kernel_rfl) ⟨b195_e0, trivial⟩ ?_
        obtain ⟨g197_0, h⟩ := ifS h
        refine At.step hm ht ⟨[], [], [], [1, 7, 8, 10], [4]⟩ 9 ⟨[(1, .one (.c (.d (.sl (.int .i64) sizes)))), (7, .one (.c (.own 0 (.int .u64) (out ++ [r194_1.1])))), (8, .one (.c (.d (.int .i64 i)))), (10, .one (.c (.d (.sl (.int .u8) r194_1.2.1))))], [(0, some ⟨38, 0⟩)], [], 1⟩ [out.length + [r194_1.1].length ≤ maxLen ∧ (out.length + [r194_1.1].length) * 8 ≤ 140737488355328] (by kernel_rfl) ⟨g197_0, trivial⟩ ?_
        refine At.step hm ht ⟨[], [], [], [0, 1, 7, 8], [0]⟩ 4 ⟨[(0, .one (.c (.d (.sl (.int .u8) r194_1.2.1)))), (1, .one (.c (.d (.sl (.int .i64) sizes)))), (7, .one (.c (.own 0 (.int .u64) (out ++ [r194_1.1])))), (8, .one (.c (.d (.int .i64 i))))], [(0, some ⟨38, 0⟩)], [], 1⟩ [] (by kernel_rfl) trivial ?_
        refine At.step hm ht ⟨[], [], [], [0, 1, 7, 8], [0]⟩ 3 ⟨[(0, .one (.c (.d (.sl (.int .u8) r194_1.2.1)))), (1, .one (.c (.d (.sl (.int .i64) sizes)))), (7, .one (.c (.own 0 (.int .u64) (out ++ [r194_1.1])))), (8, .one (.c (.d (.int .i64 (IntKind.wrap .i64 (i + 1))))))], [(0, some ⟨38, 0⟩)], [], 1⟩ [] (by kernel_rfl) trivial ?_
        exact ih r194_1.2.1 sizes (out ++ [r194_1.1]) (IntKind.wrap .i64 (i + 1)) w h o hk
    · refine At.step hm ht ⟨[], [false], [], [0, 7], [0]⟩ 10 ⟨[(0, .one (.c (.d (.sl (.int .u8) b)))), (7, .one (.c (.own 0 (.int .u64) out)))], [(0, some ⟨38, 0⟩)], [], 1⟩ [(decide ((i : Int) < ((sizes.length : Nat) : Int))) = false] (by kernel_rfl) ⟨b193_e0, trivial⟩ ?_
      have h := Option.some.inj h
      subst h
      exact hk
def f49_broughamref02_All (n : Nat) (b : List Int) (sizes : List Int) : Option (List Int × List Int × Bool) :=
  (f49_broughamref02_All_L3 n b sizes [] 0).bind fun w200 =>
  match w200 with
  | .inl e201 =>
    some (e201.1, e201.2.1, e201.2.2)
  | .inr e202 =>
    some (e202.2, e202.1, true)
theorem f49_broughamref02_All_ok (n : Nat) (b : List Int) (sizes : List Int) (r : List Int × List Int × Bool) (h : f49_broughamref02_All n b sizes = some r) : FnOK Go.Proofs.Try.prog 49 (f49_broughamref02_All_in b sizes) (f49_broughamref02_All_out r) := by
  unfold f49_broughamref02_All at h
  refine At.fn (r := 0) Go.Proofs.Try.func49 rfl (by kernel_rfl) rfl rfl (by kernel_rfl) ?_
  show At Go.Proofs.Try.prog Go.Proofs.Try.f49 0 0 ⟨[(0, .one (.c (.d (.sl (.int .u8) b)))), (1, .one (.c (.d (.sl (.int .i64) sizes))))], [], [], 0⟩ _
  refine At.step hm ht ⟨[], [], [], [0, 1], []⟩ 1 ⟨[(0, .one (.c (.d (.sl (.int .u8) b)))), (1, .one (.c (.d (.sl (.int .i64) sizes))))], [], [], 0⟩ [] (by kernel_rfl) trivial ?_
  refine At.step hm ht ⟨[], [], [], [0, 1, 7], []⟩ 2 ⟨[(0, .one (.c (.d (.sl (.int .u8) b)))), (1, .one (.c (.d (.sl (.int .i64) sizes)))), (7, .one (.c (.d (.sl .unit []))))], [], [], 0⟩ [] (by kernel_rfl) trivial ?_
  refine At.step hm ht ⟨[], [], [.nil false 7 0 (.int .u64) (some 38)], [0, 1, 7, 8], [1]⟩ 3 ⟨[(0, .one (.c (.d (.sl (.int .u8) b)))), (1, .one (.c (.d (.sl (.int .i64) sizes)))), (7, .one (.c (.own 0 (.int .u64) []))), (8, .one (.c (.d (.int .i64 0))))], [(0, some ⟨38, 0⟩)], [], 1⟩ [] (by kernel_rfl) trivial ?_
  obtain ⟨w200, cw200, h⟩ := bindS h
  refine f49_broughamref02_All_L3_ok n b sizes [] 0 w200 cw200 _ ?_
  rcases w200 with e201 | e202
  · have h := Option.some.inj h
    subst h
    rfl
  · show At Go.Proofs.Try.prog Go.Proofs.Try.f49 0 10 ⟨[(0, .one (.c (.d (.sl (.int .u8) e202.1)))), (7, .one (.c (.own 0 (.int .u64) e202.2)))], [(0, some ⟨38, 0⟩)], [], 1⟩ _
    have h := Option.some.inj h
    subst h
    exact At.fin hm ht ⟨[], [], [], [4, 5, 6], [0]⟩ [] (by kernel_rfl) trivial
/-! brougham/broughamlaw02.same -/
def f50_broughamlaw02_same_in (a : List Int) (b : List Int) : Inn := ⟨[.c (.d (.sl (.int .u64) a)), .c (.d (.sl (.int .u64) b))], [], [], 0⟩
def f50_broughamlaw02_same_out (r : Bool) : Out := ⟨.one (.c (.d (.bool r))), [], [], 0⟩
def f50_broughamlaw02_same_L4 : Nat → (List Int) → (List Int) → Int → Option ((Bool) ⊕ (Unit))
  | 0, _, _, _ => none
  | n + 1, a, b, i =>
    if (decide ((i : Int) < ((a.length : Nat) : Int))) = true then
      if (0 : Int) ≤ i ∧ i < (((a).length : Nat) : Int) then
      if (0 : Int) ≤ i ∧ i < (((b).length : Nat) : Int) then
      if (((a.getD i.toNat 0) : Int) != (b.getD i.toNat 0)) = true then
        some (.inl false)
      else
        f50_broughamlaw02_same_L4 n a b (IntKind.wrap .i64 (i + 1))
      else none
      else none
    else
      some (.inr ())
def f50_broughamlaw02_same_L4_k (w : (Bool) ⊕ (Unit)) (o : Out) : Prop := match w with
  | .inl e => o = f50_broughamlaw02_same_out e
  | .inr e => At Go.Proofs.Try.prog Go.Proofs.Try.f50 0 8 ⟨[], [], [], 0⟩ o
theorem f50_broughamlaw02_same_L4_ok (n : Nat) : ∀ (a : List Int) (b : List Int) (i : Int) (w : (Bool) ⊕ (Unit)) (h : f50_broughamlaw02_same_L4 n a b i = some w) (o : Out) (hk : f50_broughamlaw02_same_L4_k w o), At Go.Proofs.Try.prog Go.Proofs.Try.f50 0 4 ⟨[(0, .one (.c (.d (.sl (.int .u64) a)))), (1, .one (.c (.d (.sl (.int .u64) b)))), (5, .one (.c (.d (.int .i64 i))))], [], [], 0⟩ o := by
  induction n with
  | zero => intro a b i w h; rw [f50_broughamlaw02_same_L4] at h; cases h
  | succ n ih =>
    intro a b i w h o hk
    rw [f50_broughamlaw02_same_L4] at h
    rcases iteS h with ⟨b210_e0, h⟩ | ⟨b210_e0, h⟩
    · refine At.step hm ht ⟨[], [true], [], [0, 1, 5], []⟩ 6 ⟨[(0, .one (.c (.d (.sl (.int .u64) a)))), (1, .one (.c (.d (.sl (.int .u64) b)))), (5, .one (.c (.d (.int .i64 i))))], [], [], 0⟩ [(decide ((i : Int) < ((a.length : Nat) : Int))) = true] (by kernel_rfl) ⟨b210_e0, trivial⟩ ?_
      obtain ⟨g211_0, h⟩ := ifS h
      obtain ⟨g211_1, h⟩ := ifS h
      rcases iteS h with ⟨b211_e0, h⟩ | ⟨b211_e0, h⟩
      · refine At.step hm ht ⟨[], [true], [], [], []⟩ 7 ⟨[], [], [], 0⟩ [(0 : Int) ≤ i ∧ i < (((a).length : Nat) : Int), (0 : Int) ≤ i ∧ i < (((b).length : Nat) : Int), (((a.getD i.toNat 0) : Int) != (b.getD i.toNat 0)) = true] (by kernel_rfl) ⟨g211_0, g211_1, b211_e0, trivial⟩ ?_
        have h := Option.some.inj h
        subst h
        have hk : o = f50_broughamlaw02_same_out false := hk
        subst hk
        exact At.fin hm ht ⟨[], [], [], [4], []⟩ [] (by kernel_rfl) trivial
      · refine At.step hm ht ⟨[], [false], [], [0, 1, 5], []⟩ 5 ⟨[(0, .one (.c (.d (.sl (.int .u64) a)))), (1, .one (.c (.d (.sl (.int .u64) b)))), (5, .one (.c (.d (.int .i64 i))))], [], [], 0⟩ [(0 : Int) ≤ i ∧ i < (((a).length : Nat) : Int), (0 : Int) ≤ i ∧ i < (((b).length : Nat) : Int), (((a.getD i.toNat 0) : Int) != (b.getD i.toNat 0)) = false] (by kernel_rfl) ⟨g211_0, g211_1, b211_e0, trivial⟩ ?_
        refine At.step hm ht ⟨[], [], [], [0, 1, 5], []⟩ 4 ⟨[(0, .one (.c (.d (.sl (.int .u64) a)))), (1, .one (.c (.d (.sl (.int .u64) b)))), (5, .one (.c (.d (.int .i64 (IntKind.wrap .i64 (i + 1))))))], [], [], 0⟩ [] (by kernel_rfl) trivial ?_
        exact ih a b (IntKind.wrap .i64 (i + 1)) w h o hk
    · refine At.step hm ht ⟨[], [false], [], [], []⟩ 8 ⟨[], [], [], 0⟩ [(decide ((i : Int) < ((a.length : Nat) : Int))) = false] (by kernel_rfl) ⟨b210_e0, trivial⟩ ?_
      have h := Option.some.inj h
      subst h
      exact hk
def f50_broughamlaw02_same (n : Nat) (a : List Int) (b : List Int) : Option (Bool) :=
  if ((((a.length : Nat) : Int) : Int) != ((b.length : Nat) : Int)) = true then
    some false
  else
    (f50_broughamlaw02_same_L4 n a b 0).bind fun w214 =>
    match w214 with
    | .inl e215 =>
      some e215
    | .inr e216 =>
      some true
theorem f50_broughamlaw02_same_ok (n : Nat) (a : List Int) (b : List Int) (r : Bool) (h : f50_broughamlaw02_same n a b = some r) : FnOK Go.Proofs.Try.prog 50 (f50_broughamlaw02_same_in a b) (f50_broughamlaw02_same_out r) := by
  unfold f50_broughamlaw02_same at h
  refine At.fn (r := 0) Go.Proofs.Try.func50 rfl (by kernel_rfl) rfl rfl (by kernel_rfl) ?_
  show At Go.Proofs.Try.prog Go.Proofs.Try.f50 0 0 ⟨[(0, .one (.c (.d (.sl (.int .u64) a)))), (1, .one (.c (.d (.sl (.int .u64) b))))], [], [], 0⟩ _
  refine At.step hm ht ⟨[], [], [], [0, 1], []⟩ 1 ⟨[(0, .one (.c (.d (.sl (.int .u64) a)))), (1, .one (.c (.d (.sl (.int .u64) b))))], [], [], 0⟩ [] (by kernel_rfl) trivial ?_
  rcases iteS h with ⟨b207_e0, h⟩ | ⟨b207_e0, h⟩
  · refine At.step hm ht ⟨[], [true], [], [], []⟩ 2 ⟨[], [], [], 0⟩ [((((a.length : Nat) : Int) : Int) != ((b.length : Nat) : Int)) = true] (by kernel_rfl) ⟨b207_e0, trivial⟩ ?_
    have h := Option.some.inj h
    subst h
    exact At.fin hm ht ⟨[], [], [], [4], []⟩ [] (by kernel_rfl) trivial
  · refine At.step hm ht ⟨[], [false], [], [0, 1], []⟩ 3 ⟨[(0, .one (.c (.d (.sl (.int .u64) a)))), (1, .one (.c (.d (.sl (.int .u64) b))))], [], [], 0⟩ [((((a.length : Nat) : Int) : Int) != ((b.length : Nat) : Int)) = false] (by kernel_rfl) ⟨b207_e0, trivial⟩ ?_
    refine At.step hm ht ⟨[], [], [], [0, 1, 5], []⟩ 4 ⟨[(0, .one (.c (.d (.sl (.int .u64) a)))), (1, .one (.c (.d (.sl (.int .u64) b)))), (5, .one (.c (.d (.int .i64 0))))], [], [], 0⟩ [] (by kernel_rfl) trivial ?_
    obtain ⟨w214, cw214, h⟩ := bindS h
    refine f50_broughamlaw02_same_L4_ok n a b 0 w214 cw214 _ ?_
    rcases w214 with e215 | e216
    · have h := Option.some.inj h
      subst h
      rfl
    · show At Go.Proofs.Try.prog Go.Proofs.Try.f50 0 8 ⟨[], [], [], 0⟩ _
      have h := Option.some.inj h
      subst h
      exact At.fin hm ht ⟨[], [], [], [4], []⟩ [] (by kernel_rfl) trivial
/-! brougham/pack.All -/
def f51_pack_All_in (b : List Int) (sizes : List Int) : Inn := ⟨[.c (.d (.sl (.int .u8) b)), .c (.d (.sl (.int .i64) sizes))], [], [], 0⟩
def f51_pack_All_out (r : List Int × Bool) : Out := ⟨.tup [.c (.own 0 (.int .u64) r.1), .c (.d (.bool r.2))], [(0, ⟨38, 0⟩)], [], 1⟩
def f51_pack_All (n : Nat) (b : List Int) (sizes : List Int) : Option (List Int × Bool) :=
  (f47_pack_Get n b sizes).bind fun r228_0 =>
  if (!r228_0.2.2) = true then
    some ([], false)
  else
    if (decide ((((r228_0.2.1.length : Nat) : Int) : Int) > 0)) = true then
      some ([], false)
    else
      some (r228_0.1, true)
theorem f51_pack_All_ok (n : Nat) (b : List Int) (sizes : List Int) (r : List Int × Bool) (h : f51_pack_All n b sizes = some r) : FnOK Go.Proofs.Try.prog 51 (f51_pack_All_in b sizes) (f51_pack_All_out r) := by
  unfold f51_pack_All at h
  refine At.fn (r := 0) Go.Proofs.Try.func51 rfl (by kernel_rfl) rfl rfl (by kernel_rfl) ?_
  show At Go.Proofs.Try.prog Go.Proofs.Try.f51 0 0 ⟨[(0, .one (.c (.d (.sl (.int .u8) b)))), (1, .one (.c (.d (.sl (.int .i64) sizes))))], [], [], 0⟩ _
  refine At.step hm ht ⟨[], [], [], [0, 1], []⟩ 1 ⟨[(0, .one (.c (.d (.sl (.int .u8) b)))), (1, .one (.c (.d (.sl (.int .i64) sizes))))], [], [], 0⟩ [] (by kernel_rfl) trivial ?_
  obtain ⟨r228_0, cr228_0, h⟩ := bindS h
  refine At.step hm ht ⟨[(2, .call [] [] (f47_pack_Get_out r228_0))], [], [], [6, 7, 8], [2, 3]⟩ 2 ⟨[(6, .one (.c (.own 0 (.int .u64) r228_0.1))), (7, .one (.c (.own 1 (.int .u8) r228_0.2.1))), (8, .one (.c (.d (.bool r228_0.2.2))))], [(0, some ⟨38, 0⟩), (1, some ⟨5, 0⟩)], [], 2⟩ [FnOK Go.Proofs.Try.prog 47 (f47_pack_Get_in b sizes) (f47_pack_Get_out r228_0)] (by kernel_rfl) ⟨(f47_pack_Get_ok n b sizes r228_0 cr228_0), trivial⟩ ?_
  rcases iteS h with ⟨b229_2, h⟩ | ⟨b229_2, h⟩
  · refine At.step hm ht ⟨[(2, .b true)], [true], [], [], []⟩ 3 ⟨[], [], [], 0⟩ [(!r228_0.2.2) = true, true = true] (by kernel_rfl) ⟨b229_2, rfl, trivial⟩ ?_
    have h := Option.some.inj h
    subst h
    exact At.fin hm ht ⟨[], [], [.nil false 4 0 (.int .u64) (some 38)], [4, 5], [2]⟩ [] (by kernel_rfl) trivial
  · rcases iteS h with ⟨b229_e0, h⟩ | ⟨b229_e0, h⟩
    · refine At.step hm ht ⟨[(2, .b false)], [true], [], [], []⟩ 3 ⟨[], [], [], 0⟩ [(!r228_0.2.2) = false, (decide ((((r228_0.2.1.length : Nat) : Int) : Int) > 0)) = true] (by kernel_rfl) ⟨b229_2, b229_e0, trivial⟩ ?_
      have h := Option.some.inj h
      subst h
      exact At.fin hm ht ⟨[], [], [.nil false 4 0 (.int .u64) (some 38)], [4, 5], [2]⟩ [] (by kernel_rfl) trivial
    · refine At.step hm ht ⟨[(2, .b false)], [false], [], [6], [0]⟩ 4 ⟨[(6, .one (.c (.own 0 (.int .u64) r228_0.1)))], [(0, some ⟨38, 0⟩)], [], 1⟩ [(!r228_0.2.2) = false, (decide ((((r228_0.2.1.length : Nat) : Int) : Int) > 0)) = false] (by kernel_rfl) ⟨b229_2, b229_e0, trivial⟩ ?_
      have h := Option.some.inj h
      subst h
      exact At.fin hm ht ⟨[], [], [], [4, 5], [0]⟩ [] (by kernel_rfl) trivial
/-! brougham/pack.H -/
def f54_pack_H_in (n_ : Int) : Inn := ⟨[.c (.d (.int .u16 n_))], [], [], 0⟩
def f54_pack_H_out (r : Int × Int) : Out := ⟨.one (.agg [.d (.int .i64 r.1), .d (.int .u64 r.2)]), [], [(0, [.d (.int .i64 r.1), .d (.int .u64 r.2)])], 1⟩
def f54_pack_H (n_ : Int) : Option (Int × Int) :=
  some (2, (IntKind.wrap .u64 n_))
theorem f54_pack_H_ok (n_ : Int) (r : Int × Int) (h : f54_pack_H n_ = some r) : FnOK Go.Proofs.Try.prog 54 (f54_pack_H_in n_) (f54_pack_H_out r) := by
  unfold f54_pack_H at h
  refine At.fn (r := 0) Go.Proofs.Try.func54 rfl (by kernel_rfl) rfl rfl (by kernel_rfl) ?_
  show At Go.Proofs.Try.prog Go.Proofs.Try.f54 0 0 ⟨[(0, .one (.c (.d (.int .u16 n_))))], [], [], 0⟩ _
  refine At.step hm ht ⟨[], [], [], [0, 2], [0]⟩ 1 ⟨[(0, .one (.c (.d (.int .u16 n_)))), (2, .one (.c (.ptr 0 0)))], [], [(0, [.d (.int .i64 0), .d (.int .u64 0)])], 1⟩ [] (by kernel_rfl) trivial ?_
  have h := Option.some.inj h
  subst h
  exact At.fin hm ht ⟨[], [], [], [2], [0]⟩ [0 + 2 ≤ 2] (by kernel_rfl) ⟨(by decide), trivial⟩
/-! brougham/pack.B -/
def f53_pack_B_in (n_ : Int) : Inn := ⟨[.c (.d (.int .u8 n_))], [], [], 0⟩
def f53_pack_B_out (r : Int × Int) : Out := ⟨.one (.agg [.d (.int .i64 r.1), .d (.int .u64 r.2)]), [], [(0, [.d (.int .i64 r.1), .d (.int .u64 r.2)])], 1⟩
def f53_pack_B (n_ : Int) : Option (Int × Int) :=
  some (1, (IntKind.wrap .u64 n_))
theorem f53_pack_B_ok (n_ : Int) (r : Int × Int) (h : f53_pack_B n_ = some r) : FnOK Go.Proofs.Try.prog 53 (f53_pack_B_in n_) (f53_pack_B_out r) := by
  unfold f53_pack_B at h
  refine At.fn (r := 0) Go.Proofs.Try.func53 rfl (by kernel_rfl) rfl rfl (by kernel_rfl) ?_
  show At Go.Proofs.Try.prog Go.Proofs.Try.f53 0 0 ⟨[(0, .one (.c (.d (.int .u8 n_))))], [], [], 0⟩ _
  refine At.step hm ht ⟨[], [], [], [0, 2], [0]⟩ 1 ⟨[(0, .one (.c (.d (.int .u8 n_)))), (2, .one (.c (.ptr 0 0)))], [], [(0, [.d (.int .i64 0), .d (.int .u64 0)])], 1⟩ [] (by kernel_rfl) trivial ?_
  have h := Option.some.inj h
  subst h
  exact At.fin hm ht ⟨[], [], [], [2], [0]⟩ [0 + 2 ≤ 2] (by kernel_rfl) ⟨(by decide), trivial⟩
/-! brougham/broughamlaw02.alive -/
def f48_broughamlaw02_alive_in : Inn := ⟨[], [], [], 0⟩
def f48_broughamlaw02_alive_out (r : Bool) : Out := ⟨.one (.c (.d (.bool r))), [], [], 0⟩
def f48_broughamlaw02_alive (n : Nat) : Option (Bool) :=
  (f47_pack_Get n [1, 2, 3] [2]).bind fun r236_0 =>
  (f54_pack_H 258).bind fun r237_0 =>
  (f53_pack_B 3).bind fun r237_1 =>
  (f46_pack_Put n [] [r237_0, r237_1]).bind fun r237_2 =>
  if ((strOfNums r237_2).toList == (⟨#[1, 2, 3]⟩ : ByteArray).toList) = true then
    if r236_0.2.2 = true then
      if ((((r236_0.1.length : Nat) : Int) : Int) == 1) = true then
        if (0 : Int) ≤ 0 ∧ 0 < (((r236_0.1).length : Nat) : Int) then
        if (((r236_0.1.getD 0 0) : Int) == 258) = true then
          some ((strOfNums r236_0.2.1).toList == (⟨#[3]⟩ : ByteArray).toList)
        else
          some false
        else none
      else
        some false
    else
      some false
  else
    some false
theorem f48_broughamlaw02_alive_ok (n : Nat) (r : Bool) (h : f48_broughamlaw02_alive n = some r) : FnOK Go.Proofs.Try.prog 48 (f48_broughamlaw02_alive_in) (f48_broughamlaw02_alive_out r) := by
  unfold f48_broughamlaw02_alive at h
  refine At.fn (r := 0) Go.Proofs.Try.func48 rfl (by kernel_rfl) rfl rfl (by kernel_rfl) ?_
  show At Go.Proofs.Try.prog Go.Proofs.Try.f48 0 0 ⟨[], [], [], 0⟩ _
  refine At.step hm ht ⟨[], [], [], [], []⟩ 1 ⟨[], [], [], 0⟩ [] (by kernel_rfl) trivial ?_
  obtain ⟨r236_0, cr236_0, h⟩ := bindS h
  refine At.step hm ht ⟨[(2, .call [] [] (f47_pack_Get_out r236_0))], [], [], [1, 2, 3], [2, 3]⟩ 2 ⟨[(1, .one (.c (.own 0 (.int .u64) r236_0.1))), (2, .one (.c (.own 1 (.int .u8) r236_0.2.1))), (3, .one (.c (.d (.bool r236_0.2.2))))], [(0, some ⟨38, 0⟩), (1, some ⟨5, 0⟩)], [], 2⟩ [FnOK Go.Proofs.Try.prog 47 (f47_pack_Get_in [1, 2, 3] [2]) (f47_pack_Get_out r236_0)] (by kernel_rfl) ⟨(f47_pack_Get_ok n [1, 2, 3] [2] r236_0 cr236_0), trivial⟩ ?_
  obtain ⟨r237_0, cr237_0, h⟩ := bindS h
  obtain ⟨r237_1, cr237_1, h⟩ := bindS h
  obtain ⟨r237_2, cr237_2, h⟩ := bindS h
  rcases iteS h with ⟨b237_6, h⟩ | ⟨b237_6, h⟩
  · rcases iteS h with ⟨b237_9, h⟩ | ⟨b237_9, h⟩
    · rcases iteS h with ⟨b237_14, h⟩ | ⟨b237_14, h⟩
      · obtain ⟨g237_3, h⟩ := ifS h
        rcases iteS h with ⟨b237_20, h⟩ | ⟨b237_20, h⟩
        · have h := Option.some.inj h
          subst h
          exact At.fin hm ht ⟨[(0, .call [] [] (f54_pack_H_out r237_0)), (1, .call [] [] (f53_pack_B_out r237_1)), (3, .call [] [(0, 0, (.int .u8))] (f46_pack_Put_out r237_2)), (6, .b true), (9, .b true), (14, .b true), (20, .b true)], [], [], [0], []⟩ [FnOK Go.Proofs.Try.prog 54 (f54_pack_H_in 258) (f54_pack_H_out r237_0), FnOK Go.Proofs.Try.prog 53 (f53_pack_B_in 3) (f53_pack_B_out r237_1), FnOK Go.Proofs.Try.prog 46 (f46_pack_Put_in [] [r237_0, r237_1]) (f46_pack_Put_out r237_2), ((strOfNums r237_2).toList == (⟨#[1, 2, 3]⟩ : ByteArray).toList) = true, r236_0.2.2 = true, ((((r236_0.1.length : Nat) : Int) : Int) == 1) = true, (0 : Int) ≤ 0 ∧ 0 < (((r236_0.1).length : Nat) : Int), (((r236_0.1.getD 0 0) : Int) == 258) = true] (by kernel_rfl) ⟨(f54_pack_H_ok 258 r237_0 cr237_0), (f53_pack_B_ok 3 r237_1 cr237_1), (f46_pack_Put_ok n [] [r237_0, r237_1] r237_2 cr237_2), b237_6, b237_9, b237_14, g237_3, b237_20, trivial⟩
        · have h := Option.some.inj h
          subst h
          exact At.fin hm ht ⟨[(0, .call [] [] (f54_pack_H_out r237_0)), (1, .call [] [] (f53_pack_B_out r237_1)), (3, .call [] [(0, 0, (.int .u8))] (f46_pack_Put_out r237_2)), (6, .b true), (9, .b true), (14, .b true), (20, .b false)], [], [], [0], []⟩ [FnOK Go.Proofs.Try.prog 54 (f54_pack_H_in 258) (f54_pack_H_out r237_0), FnOK Go.Proofs.Try.prog 53 (f53_pack_B_in 3) (f53_pack_B_out r237_1), FnOK Go.Proofs.Try.prog 46 (f46_pack_Put_in [] [r237_0, r237_1]) (f46_pack_Put_out r237_2), ((strOfNums r237_2).toList == (⟨#[1, 2, 3]⟩ : ByteArray).toList) = true, r236_0.2.2 = true, ((((r236_0.1.length : Nat) : Int) : Int) == 1) = true, (0 : Int) ≤ 0 ∧ 0 < (((r236_0.1).length : Nat) : Int), (((r236_0.1.getD 0 0) : Int) == 258) = false] (by kernel_rfl) ⟨(f54_pack_H_ok 258 r237_0 cr237_0), (f53_pack_B_ok 3 r237_1 cr237_1), (f46_pack_Put_ok n [] [r237_0, r237_1] r237_2 cr237_2), b237_6, b237_9, b237_14, g237_3, b237_20, trivial⟩
      · have h := Option.some.inj h
        subst h
        exact At.fin hm ht ⟨[(0, .call [] [] (f54_pack_H_out r237_0)), (1, .call [] [] (f53_pack_B_out r237_1)), (3, .call [] [(0, 0, (.int .u8))] (f46_pack_Put_out r237_2)), (6, .b true), (9, .b true), (14, .b false)], [], [], [0], []⟩ [FnOK Go.Proofs.Try.prog 54 (f54_pack_H_in 258) (f54_pack_H_out r237_0), FnOK Go.Proofs.Try.prog 53 (f53_pack_B_in 3) (f53_pack_B_out r237_1), FnOK Go.Proofs.Try.prog 46 (f46_pack_Put_in [] [r237_0, r237_1]) (f46_pack_Put_out r237_2), ((strOfNums r237_2).toList == (⟨#[1, 2, 3]⟩ : ByteArray).toList) = true, r236_0.2.2 = true, ((((r236_0.1.length : Nat) : Int) : Int) == 1) = false] (by kernel_rfl) ⟨(f54_pack_H_ok 258 r237_0 cr237_0), (f53_pack_B_ok 3 r237_1 cr237_1), (f46_pack_Put_ok n [] [r237_0, r237_1] r237_2 cr237_2), b237_6, b237_9, b237_14, trivial⟩
    · have h := Option.some.inj h
      subst h
      exact At.fin hm ht ⟨[(0, .call [] [] (f54_pack_H_out r237_0)), (1, .call [] [] (f53_pack_B_out r237_1)), (3, .call [] [(0, 0, (.int .u8))] (f46_pack_Put_out r237_2)), (6, .b true), (9, .b false)], [], [], [0], []⟩ [FnOK Go.Proofs.Try.prog 54 (f54_pack_H_in 258) (f54_pack_H_out r237_0), FnOK Go.Proofs.Try.prog 53 (f53_pack_B_in 3) (f53_pack_B_out r237_1), FnOK Go.Proofs.Try.prog 46 (f46_pack_Put_in [] [r237_0, r237_1]) (f46_pack_Put_out r237_2), ((strOfNums r237_2).toList == (⟨#[1, 2, 3]⟩ : ByteArray).toList) = true, r236_0.2.2 = false] (by kernel_rfl) ⟨(f54_pack_H_ok 258 r237_0 cr237_0), (f53_pack_B_ok 3 r237_1 cr237_1), (f46_pack_Put_ok n [] [r237_0, r237_1] r237_2 cr237_2), b237_6, b237_9, trivial⟩
  · have h := Option.some.inj h
    subst h
    exact At.fin hm ht ⟨[(0, .call [] [] (f54_pack_H_out r237_0)), (1, .call [] [] (f53_pack_B_out r237_1)), (3, .call [] [(0, 0, (.int .u8))] (f46_pack_Put_out r237_2)), (6, .b false)], [], [], [0], []⟩ [FnOK Go.Proofs.Try.prog 54 (f54_pack_H_in 258) (f54_pack_H_out r237_0), FnOK Go.Proofs.Try.prog 53 (f53_pack_B_in 3) (f53_pack_B_out r237_1), FnOK Go.Proofs.Try.prog 46 (f46_pack_Put_in [] [r237_0, r237_1]) (f46_pack_Put_out r237_2), ((strOfNums r237_2).toList == (⟨#[1, 2, 3]⟩ : ByteArray).toList) = false] (by kernel_rfl) ⟨(f54_pack_H_ok 258 r237_0 cr237_0), (f53_pack_B_ok 3 r237_1 cr237_1), (f46_pack_Put_ok n [] [r237_0, r237_1] r237_2 cr237_2), b237_6, trivial⟩
/-! brougham/broughamlaw02.PackGets -/
def f13_broughamlaw02_PackGets_in (b : List Int) (sizes : List Int) : Inn := ⟨[.c (.d (.sl (.int .u8) b)), .c (.d (.sl (.int .i64) sizes))], [], [], 0⟩
def f13_broughamlaw02_PackGets_out (r : Bool) : Out := ⟨.one (.c (.d (.bool r))), [], [], 0⟩
def f13_broughamlaw02_PackGets (n : Nat) (b : List Int) (sizes : List Int) : Option (Bool) :=
  if (decide ((((b.length : Nat) : Int) : Int) > 4096)) = true then
    some true
  else
    if (decide ((((sizes.length : Nat) : Int) : Int) > 200)) = true then
      some true
    else
      (f47_pack_Get n b sizes).bind fun r138_0 =>
      (f49_broughamref02_All n b sizes).bind fun r139_0 =>
      if (!(r138_0.2.2 == r139_0.2.2)) = true then
        some false
      else
        (f50_broughamlaw02_same n r138_0.1 r139_0.1).bind fun r204_0 =>
        if (!r204_0) = true then
          some false
        else
          if (!((strOfNums r138_0.2.1).toList == (strOfNums r139_0.2.1).toList)) = true then
            some false
          else
            (f51_pack_All n b sizes).bind fun r220_0 =>
            if r139_0.2.2 = true then
              if ((((r139_0.2.1.length : Nat) : Int) : Int) == 0) = true then
                if r220_0.2 = true then
                  (f50_broughamlaw02_same n r220_0.1 r139_0.1).bind fun r234_0 =>
                  if r234_0 = true then
                    (f48_broughamlaw02_alive n).bind fun r234_1 =>
                    some r234_1
                  else
                    some false
                else
                  some false
              else
                if (!r220_0.2) = true then
                  if ((((r220_0.1.length : Nat) : Int) : Int) == 0) = true then
                    (f48_broughamlaw02_alive n).bind fun r242_0 =>
                    some r242_0
                  else
                    some false
                else
                  some false
            else
              if (!r220_0.2) = true then
                if ((((r220_0.1.length : Nat) : Int) : Int) == 0) = true then
                  (f48_broughamlaw02_alive n).bind fun r243_0 =>
                  some r243_0
                else
                  some false
              else
                some false
theorem f13_broughamlaw02_PackGets_ok (n : Nat) (b : List Int) (sizes : List Int) (r : Bool) (h : f13_broughamlaw02_PackGets n b sizes = some r) : FnOK Go.Proofs.Try.prog 13 (f13_broughamlaw02_PackGets_in b sizes) (f13_broughamlaw02_PackGets_out r) := by
  unfold f13_broughamlaw02_PackGets at h
  refine At.fn (r := 0) Go.Proofs.Try.func13 rfl (by kernel_rfl) rfl rfl (by kernel_rfl) ?_
  show At Go.Proofs.Try.prog Go.Proofs.Try.f13 0 0 ⟨[(0, .one (.c (.d (.sl (.int .u8) b)))), (1, .one (.c (.d (.sl (.int .i64) sizes))))], [], [], 0⟩ _
  refine At.step hm ht ⟨[], [], [], [0, 1], []⟩ 1 ⟨[(0, .one (.c (.d (.sl (.int .u8) b)))), (1, .one (.c (.d (.sl (.int .i64) sizes))))], [], [], 0⟩ [] (by kernel_rfl) trivial ?_
  rcases iteS h with ⟨b135_3, h⟩ | ⟨b135_3, h⟩
  · refine At.step hm ht ⟨[(3, .b true)], [true], [], [], []⟩ 2 ⟨[], [], [], 0⟩ [(decide ((((b.length : Nat) : Int) : Int) > 4096)) = true, true = true] (by kernel_rfl) ⟨b135_3, rfl, trivial⟩ ?_
    have h := Option.some.inj h
    subst h
    exact At.fin hm ht ⟨[], [], [], [4], []⟩ [] (by kernel_rfl) trivial
  · rcases iteS h with ⟨b135_e0, h⟩ | ⟨b135_e0, h⟩
    · refine At.step hm ht ⟨[(3, .b false)], [true], [], [], []⟩ 2 ⟨[], [], [], 0⟩ [(decide ((((b.length : Nat) : Int) : Int) > 4096)) = false, (decide ((((sizes.length : Nat) : Int) : Int) > 200)) = true] (by kernel_rfl) ⟨b135_3, b135_e0, trivial⟩ ?_
      have h := Option.some.inj h
      subst h
      exact At.fin hm ht ⟨[], [], [], [4], []⟩ [] (by kernel_rfl) trivial
    · refine At.step hm ht ⟨[(3, .b false)], [false], [], [0, 1], []⟩ 3 ⟨[(0, .one (.c (.d (.sl (.int .u8) b)))), (1, .one (.c (.d (.sl (.int .i64) sizes))))], [], [], 0⟩ [(decide ((((b.length : Nat) : Int) : Int) > 4096)) = false, (decide ((((sizes.length : Nat) : Int) : Int) > 200)) = false] (by kernel_rfl) ⟨b135_3, b135_e0, trivial⟩ ?_
      obtain ⟨r138_0, cr138_0, h⟩ := bindS h
      refine At.step hm ht ⟨[(2, .call [] [] (f47_pack_Get_out r138_0))], [], [], [0, 1, 5, 6, 7], [2, 3]⟩ 4 ⟨[(0, .one (.c (.d (.sl (.int .u8) b)))), (1, .one (.c (.d (.sl (.int .i64) sizes)))), (5, .one (.c (.own 0 (.int .u64) r138_0.1))), (6, .one (.c (.own 1 (.int .u8) r138_0.2.1))), (7, .one (.c (.d (.bool r138_0.2.2))))], [(0, some ⟨38, 0⟩), (1, some ⟨5, 0⟩)], [], 2⟩ [FnOK Go.Proofs.Try.prog 47 (f47_pack_Get_in b sizes) (f47_pack_Get_out r138_0)] (by kernel_rfl) ⟨(f47_pack_Get_ok n b sizes r138_0 cr138_0), trivial⟩ ?_
      obtain ⟨r139_0, cr139_0, h⟩ := bindS h
      refine At.step hm ht ⟨[(2, .call [] [] (f49_broughamref02_All_out r139_0))], [], [], [0, 1, 5, 6, 7, 8, 9, 10], [0, 1, 4]⟩ 5 ⟨[(0, .one (.c (.d (.sl (.int .u8) b)))), (1, .one (.c (.d (.sl (.int .i64) sizes)))), (5, .one (.c (.own 0 (.int .u64) r138_0.1))), (6, .one (.c (.own 1 (.int .u8) r138_0.2.1))), (7, .one (.c (.d (.bool r138_0.2.2)))), (8, .one (.c (.own 2 (.int .u64) r139_0.1))), (9, .one (.c (.d (.sl (.int .u8) r139_0.2.1)))), (10, .one (.c (.d (.bool r139_0.2.2))))], [(0, some ⟨38, 0⟩), (1, some ⟨5, 0⟩), (2, some ⟨38, 0⟩)], [], 3⟩ [FnOK Go.Proofs.Try.prog 49 (f49_broughamref02_All_in b sizes) (f49_broughamref02_All_out r139_0)] (by kernel_rfl) ⟨(f49_broughamref02_All_ok n b sizes r139_0 cr139_0), trivial⟩ ?_
      rcases iteS h with ⟨b204_3, h⟩ | ⟨b204_3, h⟩
      · refine At.step hm ht ⟨[(3, .b true)], [true], [], [], []⟩ 6 ⟨[], [], [], 0⟩ [(!(r138_0.2.2 == r139_0.2.2)) = true, true = true] (by kernel_rfl) ⟨b204_3, rfl, trivial⟩ ?_
        have h := Option.some.inj h
        subst h
        exact At.fin hm ht ⟨[], [], [], [4], []⟩ [] (by kernel_rfl) trivial
      · obtain ⟨r204_0, cr204_0, h⟩ := bindS h
        rcases iteS h with ⟨b204_9, h⟩ | ⟨b204_9, h⟩
        · refine At.step hm ht ⟨[(3, .b false), (6, .call [] [] (f50_broughamlaw02_same_out r204_0)), (9, .b true)], [true], [], [], []⟩ 6 ⟨[], [], [], 0⟩ [(!(r138_0.2.2 == r139_0.2.2)) = false, FnOK Go.Proofs.Try.prog 50 (f50_broughamlaw02_same_in r138_0.1 r139_0.1) (f50_broughamlaw02_same_out r204_0), (!r204_0) = true, true = true] (by kernel_rfl) ⟨b204_3, (f50_broughamlaw02_same_ok n r138_0.1 r139_0.1 r204_0 cr204_0), b204_9, rfl, trivial⟩ ?_
          have h := Option.some.inj h
          subst h
          exact At.fin hm ht ⟨[], [], [], [4], []⟩ [] (by kernel_rfl) trivial
        · rcases iteS h with ⟨b204_e0, h⟩ | ⟨b204_e0, h⟩
          · refine At.step hm ht ⟨[(3, .b false), (6, .call [] [] (f50_broughamlaw02_same_out r204_0)), (9, .b false)], [true], [], [], []⟩ 6 ⟨[], [], [], 0⟩ [(!(r138_0.2.2 == r139_0.2.2)) = false, FnOK Go.Proofs.Try.prog 50 (f50_broughamlaw02_same_in r138_0.1 r139_0.1) (f50_broughamlaw02_same_out r204_0), (!r204_0) = false, (!((strOfNums r138_0.2.1).toList == (strOfNums r139_0.2.1).toList)) = true] (by kernel_rfl) ⟨b204_3, (f50_broughamlaw02_same_ok n r138_0.1 r139_0.1 r204_0 cr204_0), b204_9, b204_e0, trivial⟩ ?_
            have h := Option.some.inj h
            subst h
            exact At.fin hm ht ⟨[], [], [], [4], []⟩ [] (by kernel_rfl) trivial
          · refine At.step hm ht ⟨[(3, .b false), (6, .call [] [] (f50_broughamlaw02_same_out r204_0)), (9, .b false)], [false], [], [0, 1, 8, 9, 10], [2]⟩ 7 ⟨[(0, .one (.c (.d (.sl (.int .u8) b)))), (1, .one (.c (.d (.sl (.int .i64) sizes)))), (8, .one (.c (.own 0 (.int .u64) r139_0.1))), (9, .one (.c (.d (.sl (.int .u8) r139_0.2.1)))), (10, .one (.c (.d (.bool r139_0.2.2))))], [(0, some ⟨38, 0⟩)], [], 1⟩ [(!(r138_0.2.2 == r139_0.2.2)) = false, FnOK Go.Proofs.Try.prog 50 (f50_broughamlaw02_same_in r138_0.1 r139_0.1) (f50_broughamlaw02_same_out r204_0), (!r204_0) = false, (!((strOfNums r138_0.2.1).toList == (strOfNums r139_0.2.1).toList)) = false] (by kernel_rfl) ⟨b204_3, (f50_broughamlaw02_same_ok n r138_0.1 r139_0.1 r204_0 cr204_0), b204_9, b204_e0, trivial⟩ ?_
            obtain ⟨r220_0, cr220_0, h⟩ := bindS h
            refine At.step hm ht ⟨[(2, .call [] [] (f51_pack_All_out r220_0))], [], [], [8, 9, 10, 11, 12], [0, 3]⟩ 8 ⟨[(8, .one (.c (.own 0 (.int .u64) r139_0.1))), (9, .one (.c (.d (.sl (.int .u8) r139_0.2.1)))), (10, .one (.c (.d (.bool r139_0.2.2)))), (11, .one (.c (.own 1 (.int .u64) r220_0.1))), (12, .one (.c (.d (.bool r220_0.2))))], [(0, some ⟨38, 0⟩), (1, some ⟨38, 0⟩)], [], 2⟩ [FnOK Go.Proofs.Try.prog 51 (f51_pack_All_in b sizes) (f51_pack_All_out r220_0)] (by kernel_rfl) ⟨(f51_pack_All_ok n b sizes r220_0 cr220_0), trivial⟩ ?_
            rcases iteS h with ⟨b233_1, h⟩ | ⟨b233_1, h⟩
            · rcases iteS h with ⟨b233_e0, h⟩ | ⟨b233_e0, h⟩
              · refine At.step hm ht ⟨[(1, .b true)], [true], [], [8, 11, 12], [0, 1]⟩ 9 ⟨[(8, .one (.c (.own 0 (.int .u64) r139_0.1))), (11, .one (.c (.own 1 (.int .u64) r220_0.1))), (12, .one (.c (.d (.bool r220_0.2))))], [(0, some ⟨38, 0⟩), (1, some ⟨38, 0⟩)], [], 2⟩ [r139_0.2.2 = true, ((((r139_0.2.1.length : Nat) : Int) : Int) == 0) = true] (by kernel_rfl) ⟨b233_1, b233_e0, trivial⟩ ?_
                rcases iteS h with ⟨b234_1, h⟩ | ⟨b234_1, h⟩
                · obtain ⟨r234_0, cr234_0, h⟩ := bindS h
                  rcases iteS h with ⟨b234_6, h⟩ | ⟨b234_6, h⟩
                  · obtain ⟨r234_1, cr234_1, h⟩ := bindS h
                    have h := Option.some.inj h
                    subst h
                    exact At.fin hm ht ⟨[(1, .b true), (4, .call [] [] (f50_broughamlaw02_same_out r234_0)), (6, .b true), (7, .call [] [] (f48_broughamlaw02_alive_out r234_1))], [], [], [4], []⟩ [r220_0.2 = true, FnOK Go.Proofs.Try.prog 50 (f50_broughamlaw02_same_in r220_0.1 r139_0.1) (f50_broughamlaw02_same_out r234_0), r234_0 = true, FnOK Go.Proofs.Try.prog 48 (f48_broughamlaw02_alive_in) (f48_broughamlaw02_alive_out r234_1)] (by kernel_rfl) ⟨b234_1, (f50_broughamlaw02_same_ok n r220_0.1 r139_0.1 r234_0 cr234_0), b234_6, (f48_broughamlaw02_alive_ok n r234_1 cr234_1), trivial⟩
                  · have h := Option.some.inj h
                    subst h
                    exact At.fin hm ht ⟨[(1, .b true), (4, .call [] [] (f50_broughamlaw02_same_out r234_0)), (6, .b false)], [], [], [4], []⟩ [r220_0.2 = true, FnOK Go.Proofs.Try.prog 50 (f50_broughamlaw02_same_in r220_0.1 r139_0.1) (f50_broughamlaw02_same_out r234_0), r234_0 = false] (by kernel_rfl) ⟨b234_1, (f50_broughamlaw02_same_ok n r220_0.1 r139_0.1 r234_0 cr234_0), b234_6, trivial⟩
                · have h := Option.some.inj h
                  subst h
                  exact At.fin hm ht ⟨[(1, .b false)], [], [], [4], []⟩ [r220_0.2 = false] (by kernel_rfl) ⟨b234_1, trivial⟩
              · refine At.step hm ht ⟨[(1, .b true)], [false], [], [11, 12], [1]⟩ 10 ⟨[(11, .one (.c (.own 0 (.int .u64) r220_0.1))), (12, .one (.c (.d (.bool r220_0.2))))], [(0, some ⟨38, 0⟩)], [], 1⟩ [r139_0.2.2 = true, ((((r139_0.2.1.length : Nat) : Int) : Int) == 0) = false] (by kernel_rfl) ⟨b233_1, b233_e0, trivial⟩ ?_
                rcases iteS h with ⟨b242_2, h⟩ | ⟨b242_2, h⟩
                · rcases iteS h with ⟨b242_7, h⟩ | ⟨b242_7, h⟩
                  · obtain ⟨r242_0, cr242_0, h⟩ := bindS h
                    have h := Option.some.inj h
                    subst h
                    exact At.fin hm ht ⟨[(2, .b true), (7, .b true), (8, .call [] [] (f48_broughamlaw02_alive_out r242_0))], [], [], [4], []⟩ [(!r220_0.2) = true, ((((r220_0.1.length : Nat) : Int) : Int) == 0) = true, FnOK Go.Proofs.Try.prog 48 (f48_broughamlaw02_alive_in) (f48_broughamlaw02_alive_out r242_0)] (by kernel_rfl) ⟨b242_2, b242_7, (f48_broughamlaw02_alive_ok n r242_0 cr242_0), trivial⟩
                  · have h := Option.some.inj h
                    subst h
                    exact At.fin hm ht ⟨[(2, .b true), (7, .b false)], [], [], [4], []⟩ [(!r220_0.2) = true, ((((r220_0.1.length : Nat) : Int) : Int) == 0) = false] (by kernel_rfl) ⟨b242_2, b242_7, trivial⟩
                · have h := Option.some.inj h
                  subst h
                  exact At.fin hm ht ⟨[(2, .b false)], [], [], [4], []⟩ [(!r220_0.2) = false] (by kernel_rfl) ⟨b242_2, trivial⟩
            · refine At.step hm ht ⟨[(1, .b false)], [false], [], [11, 12], [1]⟩ 10 ⟨[(11, .one (.c (.own 0 (.int .u64) r220_0.1))), (12, .one (.c (.d (.bool r220_0.2))))], [(0, some ⟨38, 0⟩)], [], 1⟩ [r139_0.2.2 = false, false = false] (by kernel_rfl) ⟨b233_1, rfl, trivial⟩ ?_
              rcases iteS h with ⟨b243_2, h⟩ | ⟨b243_2, h⟩
              · rcases iteS h with ⟨b243_7, h⟩ | ⟨b243_7, h⟩
                · obtain ⟨r243_0, cr243_0, h⟩ := bindS h
                  have h := Option.some.inj h
                  subst h
                  exact At.fin hm ht ⟨[(2, .b true), (7, .b true), (8, .call [] [] (f48_broughamlaw02_alive_out r243_0))], [], [], [4], []⟩ [(!r220_0.2) = true, ((((r220_0.1.length : Nat) : Int) : Int) == 0) = true, FnOK Go.Proofs.Try.prog 48 (f48_broughamlaw02_alive_in) (f48_broughamlaw02_alive_out r243_0)] (by kernel_rfl) ⟨b243_2, b243_7, (f48_broughamlaw02_alive_ok n r243_0 cr243_0), trivial⟩
                · have h := Option.some.inj h
                  subst h
                  exact At.fin hm ht ⟨[(2, .b true), (7, .b false)], [], [], [4], []⟩ [(!r220_0.2) = true, ((((r220_0.1.length : Nat) : Int) : Int) == 0) = false] (by kernel_rfl) ⟨b243_2, b243_7, trivial⟩
              · have h := Option.some.inj h
                subst h
                exact At.fin hm ht ⟨[(2, .b false)], [], [], [4], []⟩ [(!r220_0.2) = false] (by kernel_rfl) ⟨b243_2, trivial⟩
/-! brougham/broughamref02.Put -/
def f52_broughamref02_Put_in (b : List Int) (n_ : Int) (bytes : Int) : Inn := ⟨[.c (.own 0 (.int .u8) b), .c (.d (.int .u64 n_)), .c (.d (.int .i64 bytes))], [(0, ⟨5, 0⟩)], [], 1⟩
def f52_broughamref02_Put_out (r : List Int) : Out := ⟨.one (.c (.own 1 (.int .u8) r)), [(1, ⟨5, 0⟩)], [], 2⟩
def f52_broughamref02_Put : Nat → (List Int) → Int → Int → Option (List Int)
  | 0, _, _, _ => none
  | n + 1, b, n_, bytes =>
    if (decide ((bytes : Int) < 1)) = true then
      some b
    else
      if (decide ((bytes : Int) > 8)) = true then
        some b
      else
        (f52_broughamref02_Put n b (IntKind.wrap .u64 (Int.tdiv n_ 256)) (IntKind.wrap .i64 (bytes - 1))).bind fun r269_0 =>
        if r269_0.length + [(IntKind.wrap .u8 (Int.tmod n_ 256))].length ≤ maxLen ∧ (r269_0.length + [(IntKind.wrap .u8 (Int.tmod n_ 256))].length) * 1 ≤ 140737488355328 then
        some (r269_0 ++ [(IntKind.wrap .u8 (Int.tmod n_ 256))])
        else none
theorem f52_broughamref02_Put_ok (n : Nat) : ∀ (b : List Int) (n_ : Int) (bytes : Int) (r : List Int) (h : f52_broughamref02_Put n b n_ bytes = some r), FnOK Go.Proofs.Try.prog 52 (f52_broughamref02_Put_in b n_ bytes) (f52_broughamref02_Put_out r) := by
  induction n with
  | zero => intro b n_ bytes r h; rw [f52_broughamref02_Put] at h; cases h
  | succ n ih =>
    intro b n_ bytes r h
    rw [f52_broughamref02_Put] at h
    refine At.fn (r := 0) Go.Proofs.Try.func52 rfl (by kernel_rfl) rfl rfl (by kernel_rfl) ?_
    show At Go.Proofs.Try.prog Go.Proofs.Try.f52 1 0 ⟨[(0, .one (.c (.own 0 (.int .u8) b))), (1, .one (.c (.d (.int .u64 n_)))), (2, .one (.c (.d (.int .i64 bytes))))], [(0, some ⟨5, 0⟩)], [], 1⟩ _
    refine At.step hm ht ⟨[], [], [], [0, 1, 2], [0]⟩ 1 ⟨[(0, .one (.c (.own 0 (.int .u8) b))), (1, .one (.c (.d (.int .u64 n_)))), (2, .one (.c (.d (.int .i64 bytes))))], [(0, some ⟨5, 0⟩)], [], 1⟩ [] (by kernel_rfl) trivial ?_
    rcases iteS h with ⟨b266_2, h⟩ | ⟨b266_2, h⟩
    · refine At.step hm ht ⟨[(2, .b true)], [true], [], [0], [0]⟩ 2 ⟨[(0, .one (.c (.own 0 (.int .u8) b)))], [(0, some ⟨5, 0⟩)], [], 1⟩ [(decide ((bytes : Int) < 1)) = true, true = true] (by kernel_rfl) ⟨b266_2, rfl, trivial⟩ ?_
      have h := Option.some.inj h
      subst h
      exact At.fin hm ht ⟨[], [], [.mv 0 6 0], [6], [0, 3]⟩ [] (by kernel_rfl) trivial
    · rcases iteS h with ⟨b266_e0, h⟩ | ⟨b266_e0, h⟩
      · refine At.step hm ht ⟨[(2, .b false)], [true], [], [0], [0]⟩ 2 ⟨[(0, .one (.c (.own 0 (.int .u8) b)))], [(0, some ⟨5, 0⟩)], [], 1⟩ [(decide ((bytes : Int) < 1)) = false, (decide ((bytes : Int) > 8)) = true] (by kernel_rfl) ⟨b266_2, b266_e0, trivial⟩ ?_
        have h := Option.some.inj h
        subst h
        exact At.fin hm ht ⟨[], [], [.mv 0 6 0], [6], [0, 3]⟩ [] (by kernel_rfl) trivial
      · refine At.step hm ht ⟨[(2, .b false)], [false], [], [0, 1, 2], [0]⟩ 3 ⟨[(0, .one (.c (.own 0 (.int .u8) b))), (1, .one (.c (.d (.int .u64 n_)))), (2, .one (.c (.d (.int .i64 bytes))))], [(0, some ⟨5, 0⟩)], [], 1⟩ [(decide ((bytes : Int) < 1)) = false, (decide ((bytes : Int) > 8)) = false] (by kernel_rfl) ⟨b266_2, b266_e0, trivial⟩ ?_
        obtain ⟨r269_0, cr269_0, h⟩ := bindS h
        refine At.step hm ht ⟨[(5, .call [0] [] (f52_broughamref02_Put_out r269_0))], [], [], [0, 1], [0, 7]⟩ 4 ⟨[(0, .one (.c (.own 1 (.int .u8) r269_0))), (1, .one (.c (.d (.int .u64 n_))))], [(1, some ⟨5, 0⟩)], [], 2⟩ [(256 : Int) ≠ 0, FnOK Go.Proofs.Try.prog 52 (f52_broughamref02_Put_in b (IntKind.wrap .u64 (Int.tdiv n_ 256)) (IntKind.wrap .i64 (bytes - 1))) (f52_broughamref02_Put_out r269_0)] (by kernel_rfl) ⟨(by decide), (ih b (IntKind.wrap .u64 (Int.tdiv n_ 256)) (IntKind.wrap .i64 (bytes - 1)) r269_0 cr269_0), trivial⟩ ?_
        obtain ⟨g270_0, h⟩ := ifS h
        have h := Option.some.inj h
        subst h
        exact At.fin hm ht ⟨[], [], [], [6], [0, 7]⟩ [(256 : Int) ≠ 0, r269_0.length + [(IntKind.wrap .u8 (Int.tmod n_ 256))].length ≤ maxLen ∧ (r269_0.length + [(IntKind.wrap .u8 (Int.tmod n_ 256))].length) * 1 ≤ 140737488355328] (by kernel_rfl) ⟨(by decide), g270_0, trivial⟩
/-! brougham/broughamref02.Put -/
def f52_broughamref02_Put_v2_in (n_ : Int) (bytes : Int) : Inn := ⟨[.c (.d (.sl .unit [])), .c (.d (.int .u64 n_)), .c (.d (.int .i64 bytes))], [], [], 0⟩
def f52_broughamref02_Put_v2_out (r : List Int) : Out := ⟨.one (.c (.own 0 (.int .u8) r)), [(0, ⟨5, 0⟩)], [], 1⟩
def f52_broughamref02_Put_v2 : Nat → Int → Int → Option (List Int)
  | 0, _, _ => none
  | n + 1, n_, bytes =>
    if (decide ((bytes : Int) < 1)) = true then
      some []
    else
      if (decide ((bytes : Int) > 8)) = true then
        some []
      else
        (f52_broughamref02_Put_v2 n (IntKind.wrap .u64 (Int.tdiv n_ 256)) (IntKind.wrap .i64 (bytes - 1))).bind fun r287_0 =>
        if r287_0.length + [(IntKind.wrap .u8 (Int.tmod n_ 256))].length ≤ maxLen ∧ (r287_0.length + [(IntKind.wrap .u8 (Int.tmod n_ 256))].length) * 1 ≤ 140737488355328 then
        some (r287_0 ++ [(IntKind.wrap .u8 (Int.tmod n_ 256))])
        else none
theorem f52_broughamref02_Put_v2_ok (n : Nat) : ∀ (n_ : Int) (bytes : Int) (r : List Int) (h : f52_broughamref02_Put_v2 n n_ bytes = some r), FnOK Go.Proofs.Try.prog 52 (f52_broughamref02_Put_v2_in n_ bytes) (f52_broughamref02_Put_v2_out r) := by
  induction n with
  | zero => intro n_ bytes r h; rw [f52_broughamref02_Put_v2] at h; cases h
  | succ n ih =>
    intro n_ bytes r h
    rw [f52_broughamref02_Put_v2] at h
    refine At.fn (r := 0) Go.Proofs.Try.func52 rfl (by kernel_rfl) rfl rfl (by kernel_rfl) ?_
    show At Go.Proofs.Try.prog Go.Proofs.Try.f52 0 0 ⟨[(0, .one (.c (.d (.sl .unit [])))), (1, .one (.c (.d (.int .u64 n_)))), (2, .one (.c (.d (.int .i64 bytes))))], [], [], 0⟩ _
    refine At.step hm ht ⟨[], [], [], [0, 1, 2], []⟩ 1 ⟨[(0, .one (.c (.d (.sl .unit [])))), (1, .one (.c (.d (.int .u64 n_)))), (2, .one (.c (.d (.int .i64 bytes))))], [], [], 0⟩ [] (by kernel_rfl) trivial ?_
    rcases iteS h with ⟨b284_2, h⟩ | ⟨b284_2, h⟩
    · refine At.step hm ht ⟨[(2, .b true)], [true], [], [0], []⟩ 2 ⟨[(0, .one (.c (.d (.sl .unit []))))], [], [], 0⟩ [(decide ((bytes : Int) < 1)) = true, true = true] (by kernel_rfl) ⟨b284_2, rfl, trivial⟩ ?_
      have h := Option.some.inj h
      subst h
      exact At.fin hm ht ⟨[], [], [.nil false 6 0 (.int .u8) (some 5)], [6], [2]⟩ [] (by kernel_rfl) trivial
    · rcases iteS h with ⟨b284_e0, h⟩ | ⟨b284_e0, h⟩
      · refine At.step hm ht ⟨[(2, .b false)], [true], [], [0], []⟩ 2 ⟨[(0, .one (.c (.d (.sl .unit []))))], [], [], 0⟩ [(decide ((bytes : Int) < 1)) = false, (decide ((bytes : Int) > 8)) = true] (by kernel_rfl) ⟨b284_2, b284_e0, trivial⟩ ?_
        have h := Option.some.inj h
        subst h
        exact At.fin hm ht ⟨[], [], [.nil false 6 0 (.int .u8) (some 5)], [6], [2]⟩ [] (by kernel_rfl) trivial
      · refine At.step hm ht ⟨[(2, .b false)], [false], [], [0, 1, 2], []⟩ 3 ⟨[(0, .one (.c (.d (.sl .unit [])))), (1, .one (.c (.d (.int .u64 n_)))), (2, .one (.c (.d (.int .i64 bytes))))], [], [], 0⟩ [(decide ((bytes : Int) < 1)) = false, (decide ((bytes : Int) > 8)) = false] (by kernel_rfl) ⟨b284_2, b284_e0, trivial⟩ ?_
        obtain ⟨r287_0, cr287_0, h⟩ := bindS h
        refine At.step hm ht ⟨[(5, .call [] [] (f52_broughamref02_Put_v2_out r287_0))], [], [], [0, 1], [5]⟩ 4 ⟨[(0, .one (.c (.own 0 (.int .u8) r287_0))), (1, .one (.c (.d (.int .u64 n_))))], [(0, some ⟨5, 0⟩)], [], 1⟩ [(256 : Int) ≠ 0, FnOK Go.Proofs.Try.prog 52 (f52_broughamref02_Put_v2_in (IntKind.wrap .u64 (Int.tdiv n_ 256)) (IntKind.wrap .i64 (bytes - 1))) (f52_broughamref02_Put_v2_out r287_0)] (by kernel_rfl) ⟨(by decide), (ih (IntKind.wrap .u64 (Int.tdiv n_ 256)) (IntKind.wrap .i64 (bytes - 1)) r287_0 cr287_0), trivial⟩ ?_
        obtain ⟨g288_0, h⟩ := ifS h
        have h := Option.some.inj h
        subst h
        exact At.fin hm ht ⟨[], [], [], [6], [6]⟩ [(256 : Int) ≠ 0, r287_0.length + [(IntKind.wrap .u8 (Int.tmod n_ 256))].length ≤ maxLen ∧ (r287_0.length + [(IntKind.wrap .u8 (Int.tmod n_ 256))].length) * 1 ≤ 140737488355328] (by kernel_rfl) ⟨(by decide), g288_0, trivial⟩
/-! brougham/pack.W -/
def f55_pack_W_in (n_ : Int) : Inn := ⟨[.c (.d (.int .u32 n_))], [], [], 0⟩
def f55_pack_W_out (r : Int × Int) : Out := ⟨.one (.agg [.d (.int .i64 r.1), .d (.int .u64 r.2)]), [], [(0, [.d (.int .i64 r.1), .d (.int .u64 r.2)])], 1⟩
def f55_pack_W (n_ : Int) : Option (Int × Int) :=
  some (4, (IntKind.wrap .u64 n_))
theorem f55_pack_W_ok (n_ : Int) (r : Int × Int) (h : f55_pack_W n_ = some r) : FnOK Go.Proofs.Try.prog 55 (f55_pack_W_in n_) (f55_pack_W_out r) := by
  unfold f55_pack_W at h
  refine At.fn (r := 0) Go.Proofs.Try.func55 rfl (by kernel_rfl) rfl rfl (by kernel_rfl) ?_
  show At Go.Proofs.Try.prog Go.Proofs.Try.f55 0 0 ⟨[(0, .one (.c (.d (.int .u32 n_))))], [], [], 0⟩ _
  refine At.step hm ht ⟨[], [], [], [0, 2], [0]⟩ 1 ⟨[(0, .one (.c (.d (.int .u32 n_)))), (2, .one (.c (.ptr 0 0)))], [], [(0, [.d (.int .i64 0), .d (.int .u64 0)])], 1⟩ [] (by kernel_rfl) trivial ?_
  have h := Option.some.inj h
  subst h
  exact At.fin hm ht ⟨[], [], [], [2], [0]⟩ [0 + 2 ≤ 2] (by kernel_rfl) ⟨(by decide), trivial⟩
/-! brougham/pack.Q -/
def f56_pack_Q_in (n_ : Int) : Inn := ⟨[.c (.d (.int .u64 n_))], [], [], 0⟩
def f56_pack_Q_out (r : Int × Int) : Out := ⟨.one (.agg [.d (.int .i64 r.1), .d (.int .u64 r.2)]), [], [(0, [.d (.int .i64 r.1), .d (.int .u64 r.2)])], 1⟩
def f56_pack_Q (n_ : Int) : Option (Int × Int) :=
  some (8, n_)
theorem f56_pack_Q_ok (n_ : Int) (r : Int × Int) (h : f56_pack_Q n_ = some r) : FnOK Go.Proofs.Try.prog 56 (f56_pack_Q_in n_) (f56_pack_Q_out r) := by
  unfold f56_pack_Q at h
  refine At.fn (r := 0) Go.Proofs.Try.func56 rfl (by kernel_rfl) rfl rfl (by kernel_rfl) ?_
  show At Go.Proofs.Try.prog Go.Proofs.Try.f56 0 0 ⟨[(0, .one (.c (.d (.int .u64 n_))))], [], [], 0⟩ _
  refine At.step hm ht ⟨[], [], [], [0, 2], [0]⟩ 1 ⟨[(0, .one (.c (.d (.int .u64 n_)))), (2, .one (.c (.ptr 0 0)))], [], [(0, [.d (.int .i64 0), .d (.int .u64 0)])], 1⟩ [] (by kernel_rfl) trivial ?_
  have h := Option.some.inj h
  subst h
  exact At.fin hm ht ⟨[], [], [], [2], [0]⟩ [0 + 2 ≤ 2] (by kernel_rfl) ⟨(by decide), trivial⟩
/-! brougham/pack.Size -/
def f57_pack_Size_in (l : List (Int × Int)) : Inn := ⟨[.c (.d (.sl (.pair (.int .i64) (.int .u64)) l))], [], [], 0⟩
def f57_pack_Size_out (r : Int) : Out := ⟨.one (.c (.d (.int .i64 r))), [], [], 0⟩
def f57_pack_Size_L3 : Nat → Int → (List (Int × Int)) → Int → Int → Option (Int)
  | 0, _, _, _, _ => none
  | n + 1, n_, t6, t7, t8 =>
    if (decide ((t8 : Int) < t7)) = true then
      if (0 : Int) ≤ t8 ∧ t8 < (((t6).length : Nat) : Int) then
      if (decide ((((t6.getD t8.toNat (0, 0)).1) : Int) ≥ 1)) = true then
        if (decide ((((t6.getD t8.toNat (0, 0)).1) : Int) ≤ 8)) = true then
          f57_pack_Size_L3 n (IntKind.wrap .i64 (n_ + ((t6.getD t8.toNat (0, 0)).1))) t6 t7 (IntKind.wrap .i64 (t8 + 1))
        else
          f57_pack_Size_L3 n n_ t6 t7 (IntKind.wrap .i64 (t8 + 1))
      else
        f57_pack_Size_L3 n n_ t6 t7 (IntKind.wrap .i64 (t8 + 1))
      else none
    else
      some (n_)
def f57_pack_Size_L3_k (e : Int) (o : Out) : Prop := At Go.Proofs.Try.prog Go.Proofs.Try.f57 0 8 ⟨[(3, .one (.c (.d (.int .i64 e))))], [], [], 0⟩ o
theorem f57_pack_Size_L3_ok (n : Nat) : ∀ (n_ : Int) (t6 : List (Int × Int)) (t7 : Int) (t8 : Int) (w : Int) (h : f57_pack_Size_L3 n n_ t6 t7 t8 = some w) (o : Out) (hk : f57_pack_Size_L3_k w o), At Go.Proofs.Try.prog Go.Proofs.Try.f57 0 3 ⟨[(3, .one (.c (.d (.int .i64 n_)))), (6, .one (.c (.d (.sl (.pair (.int .i64) (.int .u64)) t6)))), (7, .one (.c (.d (.int .i64 t7)))), (8, .one (.c (.d (.int .i64 t8))))], [], [], 0⟩ o := by
  induction n with
  | zero => intro n_ t6 t7 t8 w h; rw [f57_pack_Size_L3] at h; cases h
  | succ n ih =>
    intro n_ t6 t7 t8 w h o hk
    rw [f57_pack_Size_L3] at h
    rcases iteS h with ⟨b298_e0, h⟩ | ⟨b298_e0, h⟩
    · refine At.step hm ht ⟨[], [true], [], [3, 6, 7, 8], []⟩ 4 ⟨[(3, .one (.c (.d (.int .i64 n_)))), (6, .one (.c (.d (.sl (.pair (.int .i64) (.int .u64)) t6)))), (7, .one (.c (.d (.int .i64 t7)))), (8, .one (.c (.d (.int .i64 t8))))], [], [], 0⟩ [(decide ((t8 : Int) < t7)) = true] (by kernel_rfl) ⟨b298_e0, trivial⟩ ?_
      obtain ⟨g299_0, h⟩ := ifS h
      refine At.step hm ht ⟨[], [], [], [3, 5, 6, 7, 8], [2]⟩ 5 ⟨[(3, .one (.c (.d (.int .i64 n_)))), (5, .one (.c (.ptr 0 0))), (6, .one (.c (.d (.sl (.pair (.int .i64) (.int .u64)) t6)))), (7, .one (.c (.d (.int .i64 t7)))), (8, .one (.c (.d (.int .i64 t8))))], [], [(0, [.d (.int .i64 ((t6.getD t8.toNat (0, 0)).1)), .d (.int .u64 ((t6.getD t8.toNat (0, 0)).2))])], 1⟩ [(0 : Int) ≤ t8 ∧ t8 < (((t6).length : Nat) : Int), 0 + 2 ≤ 2] (by kernel_rfl) ⟨g299_0, (by decide), trivial⟩ ?_
      rcases iteS h with ⟨b300_3, h⟩ | ⟨b300_3, h⟩
      · rcases iteS h with ⟨b300_e0, h⟩ | ⟨b300_e0, h⟩
        · refine At.step hm ht ⟨[(3, .b true)], [true], [], [3, 5, 6, 7, 8], [0]⟩ 6 ⟨[(3, .one (.c (.d (.int .i64 n_)))), (5, .one (.c (.ptr 0 0))), (6, .one (.c (.d (.sl (.pair (.int .i64) (.int .u64)) t6)))), (7, .one (.c (.d (.int .i64 t7)))), (8, .one (.c (.d (.int .i64 t8))))], [], [(0, [.d (.int .i64 ((t6.getD t8.toNat (0, 0)).1)), .d (.int .u64 ((t6.getD t8.toNat (0, 0)).2))])], 1⟩ [(decide ((((t6.getD t8.toNat (0, 0)).1) : Int) ≥ 1)) = true, (decide ((((t6.getD t8.toNat (0, 0)).1) : Int) ≤ 8)) = true] (by kernel_rfl) ⟨b300_3, b300_e0, trivial⟩ ?_
          refine At.step hm ht ⟨[], [], [], [3, 6, 7, 8], []⟩ 7 ⟨[(3, .one (.c (.d (.int .i64 (IntKind.wrap .i64 (n_ + ((t6.getD t8.toNat (0, 0)).1))))))), (6, .one (.c (.d (.sl (.pair (.int .i64) (.int .u64)) t6)))), (7, .one (.c (.d (.int .i64 t7)))), (8, .one (.c (.d (.int .i64 t8))))], [], [], 0⟩ [] (by kernel_rfl) trivial ?_
          refine At.step hm ht ⟨[], [], [], [3, 6, 7, 8], []⟩ 3 ⟨[(3, .one (.c (.d (.int .i64 (IntKind.wrap .i64 (n_ + ((t6.getD t8.toNat (0, 0)).1))))))), (6, .one (.c (.d (.sl (.pair (.int .i64) (.int .u64)) t6)))), (7, .one (.c (.d (.int .i64 t7)))), (8, .one (.c (.d (.int .i64 (IntKind.wrap .i64 (t8 + 1))))))], [], [], 0⟩ [] (by kernel_rfl) trivial ?_
          exact ih (IntKind.wrap .i64 (n_ + ((t6.getD t8.toNat (0, 0)).1))) t6 t7 (IntKind.wrap .i64 (t8 + 1)) w h o hk
        · refine At.step hm ht ⟨[(3, .b true)], [false], [], [3, 6, 7, 8], []⟩ 7 ⟨[(3, .one (.c (.d (.int .i64 n_)))), (6, .one (.c (.d (.sl (.pair (.int .i64) (.int .u64)) t6)))), (7, .one (.c (.d (.int .i64 t7)))), (8, .one (.c (.d (.int .i64 t8))))], [], [], 0⟩ [(decide ((((t6.getD t8.toNat (0, 0)).1) : Int) ≥ 1)) = true, (decide ((((t6.getD t8.toNat (0, 0)).1) : Int) ≤ 8)) = false] (by kernel_rfl) ⟨b300_3, b300_e0, trivial⟩ ?_
          refine At.step hm ht ⟨[], [], [], [3, 6, 7, 8], []⟩ 3 ⟨[(3, .one (.c (.d (.int .i64 n_)))), (6, .one (.c (.d (.sl (.pair (.int .i64) (.int .u64)) t6)))), (7, .one (.c (.d (.int .i64 t7)))), (8, .one (.c (.d (.int .i64 (IntKind.wrap .i64 (t8 + 1))))))], [], [], 0⟩ [] (by kernel_rfl) trivial ?_
          exact ih n_ t6 t7 (IntKind.wrap .i64 (t8 + 1)) w h o hk
      · refine At.step hm ht ⟨[(3, .b false)], [false], [], [3, 6, 7, 8], []⟩ 7 ⟨[(3, .one (.c (.d (.int .i64 n_)))), (6, .one (.c (.d (.sl (.pair (.int .i64) (.int .u64)) t6)))), (7, .one (.c (.d (.int .i64 t7)))), (8, .one (.c (.d (.int .i64 t8))))], [], [], 0⟩ [(decide ((((t6.getD t8.toNat (0, 0)).1) : Int) ≥ 1)) = false, false = false] (by kernel_rfl) ⟨b300_3, rfl, trivial⟩ ?_
        refine At.step hm ht ⟨[], [], [], [3, 6, 7, 8], []⟩ 3 ⟨[(3, .one (.c (.d (.int .i64 n_)))), (6, .one (.c (.d (.sl (.pair (.int .i64) (.int .u64)) t6)))), (7, .one (.c (.d (.int .i64 t7)))), (8, .one (.c (.d (.int .i64 (IntKind.wrap .i64 (t8 + 1))))))], [], [], 0⟩ [] (by kernel_rfl) trivial ?_
        exact ih n_ t6 t7 (IntKind.wrap .i64 (t8 + 1)) w h o hk
    · refine At.step hm ht ⟨[], [false], [], [3], []⟩ 8 ⟨[(3, .one (.c (.d (.int .i64 n_))))], [], [], 0⟩ [(decide ((t8 : Int) < t7)) = false] (by kernel_rfl) ⟨b298_e0, trivial⟩ ?_
      have h := Option.some.inj h
      subst h
      exact hk
def f57_pack_Size (n : Nat) (l : List (Int × Int)) : Option (Int) :=
  (f57_pack_Size_L3 n 0 l ((l.length : Nat) : Int) 0).bind fun w305 =>
  some w305
theorem f57_pack_Size_ok (n : Nat) (l : List (Int × Int)) (r : Int) (h : f57_pack_Size n l = some r) : FnOK Go.Proofs.Try.prog 57 (f57_pack_Size_in l) (f57_pack_Size_out r) := by
  unfold f57_pack_Size at h
  refine At.fn (r := 0) Go.Proofs.Try.func57 rfl (by kernel_rfl) rfl rfl (by kernel_rfl) ?_
  show At Go.Proofs.Try.prog Go.Proofs.Try.f57 0 0 ⟨[(0, .one (.c (.d (.sl (.pair (.int .i64) (.int .u64)) l))))], [], [], 0⟩ _
  refine At.step hm ht ⟨[], [], [], [0], []⟩ 1 ⟨[(0, .one (.c (.d (.sl (.pair (.int .i64) (.int .u64)) l))))], [], [], 0⟩ [] (by kernel_rfl) trivial ?_
  refine At.step hm ht ⟨[], [], [], [0, 3], []⟩ 2 ⟨[(0, .one (.c (.d (.sl (.pair (.int .i64) (.int .u64)) l)))), (3, .one (.c (.d (.int .i64 0))))], [], [], 0⟩ [] (by kernel_rfl) trivial ?_
  refine At.step hm ht ⟨[], [], [], [3, 6, 7, 8], []⟩ 3 ⟨[(3, .one (.c (.d (.int .i64 0)))), (6, .one (.c (.d (.sl (.pair (.int .i64) (.int .u64)) l)))), (7, .one (.c (.d (.int .i64 ((l.length : Nat) : Int))))), (8, .one (.c (.d (.int .i64 0))))], [], [], 0⟩ [] (by kernel_rfl) trivial ?_
  obtain ⟨w305, cw305, h⟩ := bindS h
  refine f57_pack_Size_L3_ok n 0 l ((l.length : Nat) : Int) 0 w305 cw305 _ ?_
  show At Go.Proofs.Try.prog Go.Proofs.Try.f57 0 8 ⟨[(3, .one (.c (.d (.int .i64 w305))))], [], [], 0⟩ _
  have h := Option.some.inj h
  subst h
  exact At.fin hm ht ⟨[], [], [], [2], []⟩ [] (by kernel_rfl) trivial
/-! brougham/pack.Flag -/
def f58_pack_Flag_in (is_ : Bool) : Inn := ⟨[.c (.d (.bool is_))], [], [], 0⟩
def f58_pack_Flag_out (r : Int × Int) : Out := ⟨.one (.agg [.d (.int .i64 r.1), .d (.int .u64 r.2)]), [], [(0, [.d (.int .i64 r.1), .d (.int .u64 r.2)])], 1⟩
def f58_pack_Flag (is_ : Bool) : Option (Int × Int) :=
  if is_ = true then
    (f53_pack_B 1).bind fun r310_0 =>
    some (r310_0.1, r310_0.2)
  else
    (f53_pack_B 0).bind fun r311_0 =>
    some (r311_0.1, r311_0.2)
theorem f58_pack_Flag_ok (is_ : Bool) (r : Int × Int) (h : f58_pack_Flag is_ = some r) : FnOK Go.Proofs.Try.prog 58 (f58_pack_Flag_in is_) (f58_pack_Flag_out r) := by
  unfold f58_pack_Flag at h
  refine At.fn (r := 0) Go.Proofs.Try.func58 rfl (by kernel_rfl) rfl rfl (by kernel_rfl) ?_
  show At Go.Proofs.Try.prog Go.Proofs.Try.f58 0 0 ⟨[(0, .one (.c (.d (.bool is_))))], [], [], 0⟩ _
  refine At.step hm ht ⟨[], [], [], [0, 2], [0]⟩ 1 ⟨[(0, .one (.c (.d (.bool is_)))), (2, .one (.c (.ptr 0 0)))], [], [(0, [.d (.int .i64 0), .d (.int .u64 0)])], 1⟩ [] (by kernel_rfl) trivial ?_
  rcases iteS h with ⟨b309_e0, h⟩ | ⟨b309_e0, h⟩
  · refine At.step hm ht ⟨[], [true], [], [2], [0]⟩ 2 ⟨[(2, .one (.c (.ptr 0 0)))], [], [(0, [.d (.int .i64 0), .d (.int .u64 0)])], 1⟩ [is_ = true] (by kernel_rfl) ⟨b309_e0, trivial⟩ ?_
    obtain ⟨r310_0, cr310_0, h⟩ := bindS h
    have h := Option.some.inj h
    subst h
    exact At.fin hm ht ⟨[(0, .call [] [] (f53_pack_B_out r310_0))], [], [], [2], [0]⟩ [FnOK Go.Proofs.Try.prog 53 (f53_pack_B_in 1) (f53_pack_B_out r310_0), 0 + 2 ≤ 2] (by kernel_rfl) ⟨(f53_pack_B_ok 1 r310_0 cr310_0), (by decide), trivial⟩
  · refine At.step hm ht ⟨[], [false], [], [2], [0]⟩ 3 ⟨[(2, .one (.c (.ptr 0 0)))], [], [(0, [.d (.int .i64 0), .d (.int .u64 0)])], 1⟩ [is_ = false] (by kernel_rfl) ⟨b309_e0, trivial⟩ ?_
    obtain ⟨r311_0, cr311_0, h⟩ := bindS h
    have h := Option.some.inj h
    subst h
    exact At.fin hm ht ⟨[(0, .call [] [] (f53_pack_B_out r311_0))], [], [], [2], [0]⟩ [FnOK Go.Proofs.Try.prog 53 (f53_pack_B_in 0) (f53_pack_B_out r311_0), 0 + 2 ≤ 2] (by kernel_rfl) ⟨(f53_pack_B_ok 0 r311_0 cr311_0), (by decide), trivial⟩
/-! brougham/broughamlaw02.PackPuts -/
def f14_broughamlaw02_PackPuts_in (b : List Int) (l : List (Int × Int)) (n_ : Int) : Inn := ⟨[.c (.d (.sl (.int .u8) b)), .c (.d (.sl (.pair (.int .i64) (.int .u64)) l)), .c (.d (.int .u64 n_))], [], [], 0⟩
def f14_broughamlaw02_PackPuts_out (r : Bool) : Out := ⟨.one (.c (.d (.bool r))), [], [], 0⟩
def f14_broughamlaw02_PackPuts_L5 : Nat → (List Int) → (List (Int × Int)) → Int → (List Int) → Int → Option (List Int × (List (Int × Int)) × Int × List Int)
  | 0, _, _, _, _, _ => none
  | n + 1, b, l, n_, want, i =>
    if (decide ((i : Int) < ((l.length : Nat) : Int))) = true then
      if (0 : Int) ≤ i ∧ i < (((l).length : Nat) : Int) then
      if (decide ((((l.getD i.toNat (0, 0)).1) : Int) ≥ 1)) = true then
        if (0 : Int) ≤ i ∧ i < (((l).length : Nat) : Int) then
        if (decide ((((l.getD i.toNat (0, 0)).1) : Int) ≤ 8)) = true then
          if (0 : Int) ≤ i ∧ i < (((l).length : Nat) : Int) then
          if (0 : Int) ≤ i ∧ i < (((l).length : Nat) : Int) then
          (f52_broughamref02_Put n want ((l.getD i.toNat (0, 0)).2) ((l.getD i.toNat (0, 0)).1)).bind fun r252_2 =>
          f14_broughamlaw02_PackPuts_L5 n b l n_ r252_2 (IntKind.wrap .i64 (i + 1))
          else none
          else none
        else
          f14_broughamlaw02_PackPuts_L5 n b l n_ want (IntKind.wrap .i64 (i + 1))
        else none
      else
        f14_broughamlaw02_PackPuts_L5 n b l n_ want (IntKind.wrap .i64 (i + 1))
      else none
    else
      some ((b, l, n_, want))
def f14_broughamlaw02_PackPuts_L5_k (e : List Int × (List (Int × Int)) × Int × List Int) (o : Out) : Prop := At Go.Proofs.Try.prog Go.Proofs.Try.f14 0 9 ⟨[(0, .one (.c (.d (.sl (.int .u8) e.1)))), (1, .one (.c (.d (.sl (.pair (.int .i64) (.int .u64)) e.2.1)))), (2, .one (.c (.d (.int .u64 e.2.2.1)))), (7, .one (.c (.own 0 (.int .u8) e.2.2.2)))], [(0, some ⟨5, 0⟩)], [], 1⟩ o
theorem f14_broughamlaw02_PackPuts_L5_ok (n : Nat) : ∀ (b : List Int) (l : List (Int × Int)) (n_ : Int) (want : List Int) (i : Int) (w : List Int × (List (Int × Int)) × Int × List Int) (h : f14_broughamlaw02_PackPuts_L5 n b l n_ want i = some w) (o : Out) (hk : f14_broughamlaw02_PackPuts_L5_k w o), At Go.Proofs.Try.prog Go.Proofs.Try.f14 0 5 ⟨[(0, .one (.c (.d (.sl (.int .u8) b)))), (1, .one (.c (.d (.sl (.pair (.int .i64) (.int .u64)) l)))), (2, .one (.c (.d (.int .u64 n_)))), (7, .one (.c (.own 0 (.int .u8) want))), (8, .one (.c (.d (.int .i64 i))))], [(0, some ⟨5, 0⟩)], [], 1⟩ o := by
  induction n with
  | zero => intro b l n_ want i w h; rw [f14_broughamlaw02_PackPuts_L5] at h; cases h
  | succ n ih =>
    intro b l n_ want i w h o hk
    rw [f14_broughamlaw02_PackPuts_L5] at h
    rcases iteS h with ⟨b250_e0, h⟩ | ⟨b250_e0, h⟩
    · refine At.step hm ht ⟨[], [true], [], [0, 1, 2, 7, 8], [0]⟩ 7 ⟨[(0, .one (.c (.d (.sl (.int .u8) b)))), (1, .one (.c (.d (.sl (.pair (.int .i64) (.int .u64)) l)))), (2, .one (.c (.d (.int .u64 n_)))), (7, .one (.c (.own 0 (.int .u8) want))), (8, .one (.c (.d (.int .i64 i))))], [(0, some ⟨5, 0⟩)], [], 1⟩ [(decide ((i : Int) < ((l.length : Nat) : Int))) = true] (by kernel_rfl) ⟨b250_e0, trivial⟩ ?_
      obtain ⟨g251_0, h⟩ := ifS h
      rcases iteS h with ⟨b251_6, h⟩ | ⟨b251_6, h⟩
      · obtain ⟨g251_1, h⟩ := ifS h
        rcases iteS h with ⟨b251_e0, h⟩ | ⟨b251_e0, h⟩
        · refine At.step hm ht ⟨[(6, .b true)], [true], [], [0, 1, 2, 7, 8], [0]⟩ 8 ⟨[(0, .one (.c (.d (.sl (.int .u8) b)))), (1, .one (.c (.d (.sl (.pair (.int .i64) (.int .u64)) l)))), (2, .one (.c (.d (.int .u64 n_)))), (7, .one (.c (.own 0 (.int .u8) want))), (8, .one (.c (.d (.int .i64 i))))], [(0, some ⟨5, 0⟩)], [], 1⟩ [(0 : Int) ≤ i ∧ i < (((l).length : Nat) : Int), (decide ((((l.getD i.toNat (0, 0)).1) : Int) ≥ 1)) = true, (0 : Int) ≤ i ∧ i < (((l).length : Nat) : Int), (decide ((((l.getD i.toNat (0, 0)).1) : Int) ≤ 8)) = true] (by kernel_rfl) ⟨g251_0, b251_6, g251_1, b251_e0, trivial⟩ ?_
          obtain ⟨g252_0, h⟩ := ifS h
          obtain ⟨g252_1, h⟩ := ifS h
          obtain ⟨r252_2, cr252_2, h⟩ := bindS h
          refine At.step hm ht ⟨[(11, .call [0] [] (f52_broughamref02_Put_out r252_2))], [], [], [0, 1, 2, 7, 8], [13]⟩ 6 ⟨[(0, .one (.c (.d (.sl (.int .u8) b)))), (1, .one (.c (.d (.sl (.pair (.int .i64) (.int .u64)) l)))), (2, .one (.c (.d (.int .u64 n_)))), (7, .one (.c (.own 0 (.int .u8) r252_2))), (8, .one (.c (.d (.int .i64 i))))], [(0, some ⟨5, 0⟩)], [], 1⟩ [(0 : Int) ≤ i ∧ i < (((l).length : Nat) : Int), (0 : Int) ≤ i ∧ i < (((l).length : Nat) : Int), FnOK Go.Proofs.Try.prog 52 (f52_broughamref02_Put_in want ((l.getD i.toNat (0, 0)).2) ((l.getD i.toNat (0, 0)).1)) (f52_broughamref02_Put_out r252_2)] (by kernel_rfl) ⟨g252_0, g252_1, (f52_broughamref02_Put_ok n want ((l.getD i.toNat (0, 0)).2) ((l.getD i.toNat (0, 0)).1) r252_2 cr252_2), trivial⟩ ?_
          refine At.step hm ht ⟨[], [], [], [0, 1, 2, 7, 8], [0]⟩ 5 ⟨[(0, .one (.c (.d (.sl (.int .u8) b)))), (1, .one (.c (.d (.sl (.pair (.int .i64) (.int .u64)) l)))), (2, .one (.c (.d (.int .u64 n_)))), (7, .one (.c (.own 0 (.int .u8) r252_2))), (8, .one (.c (.d (.int .i64 (IntKind.wrap .i64 (i + 1))))))], [(0, some ⟨5, 0⟩)], [], 1⟩ [] (by kernel_rfl) trivial ?_
          exact ih b l n_ r252_2 (IntKind.wrap .i64 (i + 1)) w h o hk
        · refine At.step hm ht ⟨[(6, .b true)], [false], [], [0, 1, 2, 7, 8], [0]⟩ 6 ⟨[(0, .one (.c (.d (.sl (.int .u8) b)))), (1, .one (.c (.d (.sl (.pair (.int .i64) (.int .u64)) l)))), (2, .one (.c (.d (.int .u64 n_)))), (7, .one (.c (.own 0 (.int .u8) want))), (8, .one (.c (.d (.int .i64 i))))], [(0, some ⟨5, 0⟩)], [], 1⟩ [(0 : Int) ≤ i ∧ i < (((l).length : Nat) : Int), (decide ((((l.getD i.toNat (0, 0)).1) : Int) ≥ 1)) = true, (0 : Int) ≤ i ∧ i < (((l).length : Nat) : Int), (decide ((((l.getD i.toNat (0, 0)).1) : Int) ≤ 8)) = false] (by kernel_rfl) ⟨g251_0, b251_6, g251_1, b251_e0, trivial⟩ ?_
          refine At.step hm ht ⟨[], [], [], [0, 1, 2, 7, 8], [0]⟩ 5 ⟨[(0, .one (.c (.d (.sl (.int .u8) b)))), (1, .one (.c (.d (.sl (.pair (.int .i64) (.int .u64)) l)))), (2, .one (.c (.d (.int .u64 n_)))), (7, .one (.c (.own 0 (.int .u8) want))), (8, .one (.c (.d (.int .i64 (IntKind.wrap .i64 (i + 1))))))], [(0, some ⟨5, 0⟩)], [], 1⟩ [] (by kernel_rfl) trivial ?_
          exact ih b l n_ want (IntKind.wrap .i64 (i + 1)) w h o hk
      · refine At.step hm ht ⟨[(6, .b false)], [false], [], [0, 1, 2, 7, 8], [0]⟩ 6 ⟨[(0, .one (.c (.d (.sl (.int .u8) b)))), (1, .one (.c (.d (.sl (.pair (.int .i64) (.int .u64)) l)))), (2, .one (.c (.d (.int .u64 n_)))), (7, .one (.c (.own 0 (.int .u8) want))), (8, .one (.c (.d (.int .i64 i))))], [(0, some ⟨5, 0⟩)], [], 1⟩ [(0 : Int) ≤ i ∧ i < (((l).length : Nat) : Int), (decide ((((l.getD i.toNat (0, 0)).1) : Int) ≥ 1)) = false, false = false] (by kernel_rfl) ⟨g251_0, b251_6, rfl, trivial⟩ ?_
        refine At.step hm ht ⟨[], [], [], [0, 1, 2, 7, 8], [0]⟩ 5 ⟨[(0, .one (.c (.d (.sl (.int .u8) b)))), (1, .one (.c (.d (.sl (.pair (.int .i64) (.int .u64)) l)))), (2, .one (.c (.d (.int .u64 n_)))), (7, .one (.c (.own 0 (.int .u8) want))), (8, .one (.c (.d (.int .i64 (IntKind.wrap .i64 (i + 1))))))], [(0, some ⟨5, 0⟩)], [], 1⟩ [] (by kernel_rfl) trivial ?_
        exact ih b l n_ want (IntKind.wrap .i64 (i + 1)) w h o hk
    · refine At.step hm ht ⟨[], [false], [], [0, 1, 2, 7], [0]⟩ 9 ⟨[(0, .one (.c (.d (.sl (.int .u8) b)))), (1, .one (.c (.d (.sl (.pair (.int .i64) (.int .u64)) l)))), (2, .one (.c (.d (.int .u64 n_)))), (7, .one (.c (.own 0 (.int .u8) want)))], [(0, some ⟨5, 0⟩)], [], 1⟩ [(decide ((i : Int) < ((l.length : Nat) : Int))) = false] (by kernel_rfl) ⟨b250_e0, trivial⟩ ?_
      have h := Option.some.inj h
      subst h
      exact hk
def f14_broughamlaw02_PackPuts (n : Nat) (b : List Int) (l : List (Int × Int)) (n_ : Int) : Option (Bool) :=
  if (decide ((((l.length : Nat) : Int) : Int) > 200)) = true then
    some true
  else
    if (decide ((((b.length : Nat) : Int) : Int) > 4096)) = true then
      some true
    else
      if ([] : List Int).length + b.length ≤ maxLen ∧ (([] : List Int).length + b.length) * 1 ≤ 140737488355328 then
      (f14_broughamlaw02_PackPuts_L5 n b l n_ ([] ++ b) 0).bind fun w274 =>
      (f52_broughamref02_Put_v2 n w274.2.2.1 1).bind fun r276_0 =>
      (f52_broughamref02_Put n r276_0 w274.2.2.1 2).bind fun r276_1 =>
      (f52_broughamref02_Put n r276_1 w274.2.2.1 4).bind fun r276_2 =>
      (f52_broughamref02_Put n r276_2 w274.2.2.1 8).bind fun r276_3 =>
      (f53_pack_B (IntKind.wrap .u8 w274.2.2.1)).bind fun r289_0 =>
      (f54_pack_H (IntKind.wrap .u16 w274.2.2.1)).bind fun r289_1 =>
      (f55_pack_W (IntKind.wrap .u32 w274.2.2.1)).bind fun r289_2 =>
      (f56_pack_Q w274.2.2.1).bind fun r289_3 =>
      (f46_pack_Put n [] [r289_0, r289_1, r289_2, r289_3]).bind fun r289_4 =>
      (f46_pack_Put n w274.1 w274.2.1).bind fun r294_0 =>
      if ((strOfNums r294_0).toList == (strOfNums w274.2.2.2).toList) = true then
        (f57_pack_Size n w274.2.1).bind fun r294_1 =>
        if ((r294_1 : Int) == (IntKind.wrap .i64 (((w274.2.2.2.length : Nat) : Int) - ((w274.1.length : Nat) : Int)))) = true then
          if ((strOfNums r276_3).toList == (strOfNums r289_4).toList) = true then
            (f58_pack_Flag true).bind fun r294_2 =>
            (f53_pack_B 1).bind fun r294_3 =>
            if (((r294_2.1 : Int) == r294_3.1) && ((r294_2.2 : Int) == r294_3.2)) = true then
              (f58_pack_Flag false).bind fun r294_4 =>
              (f53_pack_B 0).bind fun r294_5 =>
              if (((r294_4.1 : Int) == r294_5.1) && ((r294_4.2 : Int) == r294_5.2)) = true then
                (f48_broughamlaw02_alive n).bind fun r294_6 =>
                some r294_6
              else
                some false
            else
              some false
          else
            some false
        else
          some false
      else
        some false
      else none
theorem f14_broughamlaw02_PackPuts_ok (n : Nat) (b : List Int) (l : List (Int × Int)) (n_ : Int) (r : Bool) (h : f14_broughamlaw02_PackPuts n b l n_ = some r) : FnOK Go.Proofs.Try.prog 14 (f14_broughamlaw02_PackPuts_in b l n_) (f14_broughamlaw02_PackPuts_out r) := by
  unfold f14_broughamlaw02_PackPuts at h
  refine At.fn (r := 0) Go.Proofs.Try.func14 rfl (by kernel_rfl) rfl rfl (by kernel_rfl) ?_
  show At Go.Proofs.Try.prog Go.Proofs.Try.f14 0 0 ⟨[(0, .one (.c (.d (.sl (.int .u8) b)))), (1, .one (.c (.d (.sl (.pair (.int .i64) (.int .u64)) l)))), (2, .one (.c (.d (.int .u64 n_))))], [], [], 0⟩ _
  refine At.step hm ht ⟨[], [], [], [0, 1, 2], []⟩ 1 ⟨[(0, .one (.c (.d (.sl (.int .u8) b)))), (1, .one (.c (.d (.sl (.pair (.int .i64) (.int .u64)) l)))), (2, .one (.c (.d (.int .u64 n_))))], [], [], 0⟩ [] (by kernel_rfl) trivial ?_
  rcases iteS h with ⟨b245_3, h⟩ | ⟨b245_3, h⟩
  · refine At.step hm ht ⟨[(3, .b true)], [true], [], [], []⟩ 2 ⟨[], [], [], 0⟩ [(decide ((((l.length : Nat) : Int) : Int) > 200)) = true, true = true] (by kernel_rfl) ⟨b245_3, rfl, trivial⟩ ?_
    have h := Option.some.inj h
    subst h
    exact At.fin hm ht ⟨[], [], [], [6], []⟩ [] (by kernel_rfl) trivial
  · rcases iteS h with ⟨b245_e0, h⟩ | ⟨b245_e0, h⟩
    · refine At.step hm ht ⟨[(3, .b false)], [true], [], [], []⟩ 2 ⟨[], [], [], 0⟩ [(decide ((((l.length : Nat) : Int) : Int) > 200)) = false, (decide ((((b.length : Nat) : Int) : Int) > 4096)) = true] (by kernel_rfl) ⟨b245_3, b245_e0, trivial⟩ ?_
      have h := Option.some.inj h
      subst h
      exact At.fin hm ht ⟨[], [], [], [6], []⟩ [] (by kernel_rfl) trivial
    · refine At.step hm ht ⟨[(3, .b false)], [false], [], [0, 1, 2], []⟩ 3 ⟨[(0, .one (.c (.d (.sl (.int .u8) b)))), (1, .one (.c (.d (.sl (.pair (.int .i64) (.int .u64)) l)))), (2, .one (.c (.d (.int .u64 n_))))], [], [], 0⟩ [(decide ((((l.length : Nat) : Int) : Int) > 200)) = false, (decide ((((b.length : Nat) : Int) : Int) > 4096)) = false] (by kernel_rfl) ⟨b245_3, b245_e0, trivial⟩ ?_
      obtain ⟨g248_0, h⟩ := ifS h
      refine At.step hm ht ⟨[], [], [], [0, 1, 2, 7], [2]⟩ 4 ⟨[(0, .one (.c (.d (.sl (.int .u8) b)))), (1, .one (.c (.d (.sl (.pair (.int .i64) (.int .u64)) l)))), (2, .one (.c (.d (.int .u64 n_)))), (7, .one (.c (.own 0 (.int .u8) ([] ++ b))))], [(0, some ⟨5, 0⟩)], [], 1⟩ [([] : List Int).length + b.length ≤ maxLen ∧ (([] : List Int).length + b.length) * 1 ≤ 140737488355328] (by kernel_rfl) ⟨g248_0, trivial⟩ ?_
      refine At.step hm ht ⟨[], [], [], [0, 1, 2, 7, 8], [0]⟩ 5 ⟨[(0, .one (.c (.d (.sl (.int .u8) b)))), (1, .one (.c (.d (.sl (.pair (.int .i64) (.int .u64)) l)))), (2, .one (.c (.d (.int .u64 n_)))), (7, .one (.c (.own 0 (.int .u8) ([] ++ b)))), (8, .one (.c (.d (.int .i64 0))))], [(0, some ⟨5, 0⟩)], [], 1⟩ [] (by kernel_rfl) trivial ?_
      obtain ⟨w274, cw274, h⟩ := bindS h
      refine f14_broughamlaw02_PackPuts_L5_ok n b l n_ ([] ++ b) 0 w274 cw274 _ ?_
      show At Go.Proofs.Try.prog Go.Proofs.Try.f14 0 9 ⟨[(0, .one (.c (.d (.sl (.int .u8) w274.1)))), (1, .one (.c (.d (.sl (.pair (.int .i64) (.int .u64)) w274.2.1)))), (2, .one (.c (.d (.int .u64 w274.2.2.1)))), (7, .one (.c (.own 0 (.int .u8) w274.2.2.2)))], [(0, some ⟨5, 0⟩)], [], 1⟩ _
      obtain ⟨r276_0, cr276_0, h⟩ := bindS h
      obtain ⟨r276_1, cr276_1, h⟩ := bindS h
      obtain ⟨r276_2, cr276_2, h⟩ := bindS h
      obtain ⟨r276_3, cr276_3, h⟩ := bindS h
      refine At.step hm ht ⟨[(1, .call [] [] (f52_broughamref02_Put_v2_out r276_0)), (3, .call [2] [] (f52_broughamref02_Put_out r276_1)), (5, .call [5] [] (f52_broughamref02_Put_out r276_2)), (7, .call [8] [] (f52_broughamref02_Put_out r276_3))], [], [], [0, 1, 2, 7, 9], [0, 11]⟩ 10 ⟨[(0, .one (.c (.d (.sl (.int .u8) w274.1)))), (1, .one (.c (.d (.sl (.pair (.int .i64) (.int .u64)) w274.2.1)))), (2, .one (.c (.d (.int .u64 w274.2.2.1)))), (7, .one (.c (.own 0 (.int .u8) w274.2.2.2))), (9, .one (.c (.own 1 (.int .u8) r276_3)))], [(0, some ⟨5, 0⟩), (1, some ⟨5, 0⟩)], [], 2⟩ [FnOK Go.Proofs.Try.prog 52 (f52_broughamref02_Put_v2_in w274.2.2.1 1) (f52_broughamref02_Put_v2_out r276_0), FnOK Go.Proofs.Try.prog 52 (f52_broughamref02_Put_in r276_0 w274.2.2.1 2) (f52_broughamref02_Put_out r276_1), FnOK Go.Proofs.Try.prog 52 (f52_broughamref02_Put_in r276_1 w274.2.2.1 4) (f52_broughamref02_Put_out r276_2), FnOK Go.Proofs.Try.prog 52 (f52_broughamref02_Put_in r276_2 w274.2.2.1 8) (f52_broughamref02_Put_out r276_3)] (by kernel_rfl) ⟨(f52_broughamref02_Put_v2_ok n w274.2.2.1 1 r276_0 cr276_0), (f52_broughamref02_Put_ok n r276_0 w274.2.2.1 2 r276_1 cr276_1), (f52_broughamref02_Put_ok n r276_1 w274.2.2.1 4 r276_2 cr276_2), (f52_broughamref02_Put_ok n r276_2 w274.2.2.1 8 r276_3 cr276_3), trivial⟩ ?_
      obtain ⟨r289_0, cr289_0, h⟩ := bindS h
      obtain ⟨r289_1, cr289_1, h⟩ := bindS h
      obtain ⟨r289_2, cr289_2, h⟩ := bindS h
      obtain ⟨r289_3, cr289_3, h⟩ := bindS h
      obtain ⟨r289_4, cr289_4, h⟩ := bindS h
      refine At.step hm ht ⟨[(2, .call [] [] (f53_pack_B_out r289_0)), (5, .call [] [] (f54_pack_H_out r289_1)), (8, .call [] [] (f55_pack_W_out r289_2)), (10, .call [] [] (f56_pack_Q_out r289_3)), (12, .call [] [(0, 0, (.int .u8))] (f46_pack_Put_out r289_4))], [], [], [0, 1, 7, 9, 10], [0, 1, 14]⟩ 11 ⟨[(0, .one (.c (.d (.sl (.int .u8) w274.1)))), (1, .one (.c (.d (.sl (.pair (.int .i64) (.int .u64)) w274.2.1)))), (7, .one (.c (.own 0 (.int .u8) w274.2.2.2))), (9, .one (.c (.own 1 (.int .u8) r276_3))), (10, .one (.c (.own 2 (.int .u8) r289_4)))], [(0, some ⟨5, 0⟩), (1, some ⟨5, 0⟩), (2, some ⟨5, 0⟩)], [], 3⟩ [FnOK Go.Proofs.Try.prog 53 (f53_pack_B_in (IntKind.wrap .u8 w274.2.2.1)) (f53_pack_B_out r289_0), FnOK Go.Proofs.Try.prog 54 (f54_pack_H_in (IntKind.wrap .u16 w274.2.2.1)) (f54_pack_H_out r289_1), FnOK Go.Proofs.Try.prog 55 (f55_pack_W_in (IntKind.wrap .u32 w274.2.2.1)) (f55_pack_W_out r289_2), FnOK Go.Proofs.Try.prog 56 (f56_pack_Q_in w274.2.2.1) (f56_pack_Q_out r289_3), FnOK Go.Proofs.Try.prog 46 (f46_pack_Put_in [] [r289_0, r289_1, r289_2, r289_3]) (f46_pack_Put_out r289_4)] (by kernel_rfl) ⟨(f53_pack_B_ok (IntKind.wrap .u8 w274.2.2.1) r289_0 cr289_0), (f54_pack_H_ok (IntKind.wrap .u16 w274.2.2.1) r289_1 cr289_1), (f55_pack_W_ok (IntKind.wrap .u32 w274.2.2.1) r289_2 cr289_2), (f56_pack_Q_ok w274.2.2.1 r289_3 cr289_3), (f46_pack_Put_ok n [] [r289_0, r289_1, r289_2, r289_3] r289_4 cr289_4), trivial⟩ ?_
      obtain ⟨r294_0, cr294_0, h⟩ := bindS h
      rcases iteS h with ⟨b294_7, h⟩ | ⟨b294_7, h⟩
      · obtain ⟨r294_1, cr294_1, h⟩ := bindS h
        rcases iteS h with ⟨b294_17, h⟩ | ⟨b294_17, h⟩
        · rcases iteS h with ⟨b294_24, h⟩ | ⟨b294_24, h⟩
          · obtain ⟨r294_2, cr294_2, h⟩ := bindS h
            obtain ⟨r294_3, cr294_3, h⟩ := bindS h
            rcases iteS h with ⟨b294_29, h⟩ | ⟨b294_29, h⟩
            · obtain ⟨r294_4, cr294_4, h⟩ := bindS h
              obtain ⟨r294_5, cr294_5, h⟩ := bindS h
              rcases iteS h with ⟨b294_34, h⟩ | ⟨b294_34, h⟩
              · obtain ⟨r294_6, cr294_6, h⟩ := bindS h
                have h := Option.some.inj h
                subst h
                exact At.fin hm ht ⟨[(2, .call [] [] (f46_pack_Put_out r294_0)), (7, .b true), (9, .call [] [] (f57_pack_Size_out r294_1)), (17, .b true), (24, .b true), (25, .call [] [] (f58_pack_Flag_out r294_2)), (26, .call [] [] (f53_pack_B_out r294_3)), (29, .b true), (30, .call [] [] (f58_pack_Flag_out r294_4)), (31, .call [] [] (f53_pack_B_out r294_5)), (34, .b true), (35, .call [] [] (f48_broughamlaw02_alive_out r294_6))], [], [], [6], []⟩ [FnOK Go.Proofs.Try.prog 46 (f46_pack_Put_in w274.1 w274.2.1) (f46_pack_Put_out r294_0), ((strOfNums r294_0).toList == (strOfNums w274.2.2.2).toList) = true, FnOK Go.Proofs.Try.prog 57 (f57_pack_Size_in w274.2.1) (f57_pack_Size_out r294_1), ((r294_1 : Int) == (IntKind.wrap .i64 (((w274.2.2.2.length : Nat) : Int) - ((w274.1.length : Nat) : Int)))) = true, ((strOfNums r276_3).toList == (strOfNums r289_4).toList) = true, FnOK Go.Proofs.Try.prog 58 (f58_pack_Flag_in true) (f58_pack_Flag_out r294_2), FnOK Go.Proofs.Try.prog 53 (f53_pack_B_in 1) (f53_pack_B_out r294_3), (((r294_2.1 : Int) == r294_3.1) && ((r294_2.2 : Int) == r294_3.2)) = true, FnOK Go.Proofs.Try.prog 58 (f58_pack_Flag_in false) (f58_pack_Flag_out r294_4), FnOK Go.Proofs.Try.prog 53 (f53_pack_B_in 0) (f53_pack_B_out r294_5), (((r294_4.1 : Int) == r294_5.1) && ((r294_4.2 : Int) == r294_5.2)) = true, FnOK Go.Proofs.Try.prog 48 (f48_broughamlaw02_alive_in) (f48_broughamlaw02_alive_out r294_6)] (by kernel_rfl) ⟨(f46_pack_Put_ok n w274.1 w274.2.1 r294_0 cr294_0), b294_7, (f57_pack_Size_ok n w274.2.1 r294_1 cr294_1), b294_17, b294_24, (f58_pack_Flag_ok true r294_2 cr294_2), (f53_pack_B_ok 1 r294_3 cr294_3), b294_29, (f58_pack_Flag_ok false r294_4 cr294_4), (f53_pack_B_ok 0 r294_5 cr294_5), b294_34, (f48_broughamlaw02_alive_ok n r294_6 cr294_6), trivial⟩
              · have h := Option.some.inj h
                subst h
                exact At.fin hm ht ⟨[(2, .call [] [] (f46_pack_Put_out r294_0)), (7, .b true), (9, .call [] [] (f57_pack_Size_out r294_1)), (17, .b true), (24, .b true), (25, .call [] [] (f58_pack_Flag_out r294_2)), (26, .call [] [] (f53_pack_B_out r294_3)), (29, .b true), (30, .call [] [] (f58_pack_Flag_out r294_4)), (31, .call [] [] (f53_pack_B_out r294_5)), (34, .b false)], [], [], [6], []⟩ [FnOK Go.Proofs.Try.prog 46 (f46_pack_Put_in w274.1 w274.2.1) (f46_pack_Put_out r294_0), ((strOfNums r294_0).toList == (strOfNums w274.2.2.2).toList) = true, FnOK Go.Proofs.Try.prog 57 (f57_pack_Size_in w274.2.1) (f57_pack_Size_out r294_1), ((r294_1 : Int) == (IntKind.wrap .i64 (((w274.2.2.2.length : Nat) : Int) - ((w274.1.length : Nat) : Int)))) = true, ((strOfNums r276_3).toList == (strOfNums r289_4).toList) = true, FnOK Go.Proofs.Try.prog 58 (f58_pack_Flag_in true) (f58_pack_Flag_out r294_2), FnOK Go.Proofs.Try.prog 53 (f53_pack_B_in 1) (f53_pack_B_out r294_3), (((r294_2.1 : Int) == r294_3.1) && ((r294_2.2 : Int) == r294_3.2)) = true, FnOK Go.Proofs.Try.prog 58 (f58_pack_Flag_in false) (f58_pack_Flag_out r294_4), FnOK Go.Proofs.Try.prog 53 (f53_pack_B_in 0) (f53_pack_B_out r294_5), (((r294_4.1 : Int) == r294_5.1) && ((r294_4.2 : Int) == r294_5.2)) = false] (by kernel_rfl) ⟨(f46_pack_Put_ok n w274.1 w274.2.1 r294_0 cr294_0), b294_7, (f57_pack_Size_ok n w274.2.1 r294_1 cr294_1), b294_17, b294_24, (f58_pack_Flag_ok true r294_2 cr294_2), (f53_pack_B_ok 1 r294_3 cr294_3), b294_29, (f58_pack_Flag_ok false r294_4 cr294_4), (f53_pack_B_ok 0 r294_5 cr294_5), b294_34, trivial⟩
            · have h := Option.some.inj h
              subst h
              exact At.fin hm ht ⟨[(2, .call [] [] (f46_pack_Put_out r294_0)), (7, .b true), (9, .call [] [] (f57_pack_Size_out r294_1)), (17, .b true), (24, .b true), (25, .call [] [] (f58_pack_Flag_out r294_2)), (26, .call [] [] (f53_pack_B_out r294_3)), (29, .b false)], [], [], [6], []⟩ [FnOK Go.Proofs.Try.prog 46 (f46_pack_Put_in w274.1 w274.2.1) (f46_pack_Put_out r294_0), ((strOfNums r294_0).toList == (strOfNums w274.2.2.2).toList) = true, FnOK Go.Proofs.Try.prog 57 (f57_pack_Size_in w274.2.1) (f57_pack_Size_out r294_1), ((r294_1 : Int) == (IntKind.wrap .i64 (((w274.2.2.2.length : Nat) : Int) - ((w274.1.length : Nat) : Int)))) = true, ((strOfNums r276_3).toList == (strOfNums r289_4).toList) = true, FnOK Go.Proofs.Try.prog 58 (f58_pack_Flag_in true) (f58_pack_Flag_out r294_2), FnOK Go.Proofs.Try.prog 53 (f53_pack_B_in 1) (f53_pack_B_out r294_3), (((r294_2.1 : Int) == r294_3.1) && ((r294_2.2 : Int) == r294_3.2)) = false] (by kernel_rfl) ⟨(f46_pack_Put_ok n w274.1 w274.2.1 r294_0 cr294_0), b294_7, (f57_pack_Size_ok n w274.2.1 r294_1 cr294_1), b294_17, b294_24, (f58_pack_Flag_ok true r294_2 cr294_2), (f53_pack_B_ok 1 r294_3 cr294_3), b294_29, trivial⟩
          · have h := Option.some.inj h
            subst h
            exact At.fin hm ht ⟨[(2, .call [] [] (f46_pack_Put_out r294_0)), (7, .b true), (9, .call [] [] (f57_pack_Size_out r294_1)), (17, .b true), (24, .b false)], [], [], [6], []⟩ [FnOK Go.Proofs.Try.prog 46 (f46_pack_Put_in w274.1 w274.2.1) (f46_pack_Put_out r294_0), ((strOfNums r294_0).toList == (strOfNums w274.2.2.2).toList) = true, FnOK Go.Proofs.Try.prog 57 (f57_pack_Size_in w274.2.1) (f57_pack_Size_out r294_1), ((r294_1 : Int) == (IntKind.wrap .i64 (((w274.2.2.2.length : Nat) : Int) - ((w274.1.length : Nat) : Int)))) = true, ((strOfNums r276_3).toList == (strOfNums r289_4).toList) = false] (by kernel_rfl) ⟨(f46_pack_Put_ok n w274.1 w274.2.1 r294_0 cr294_0), b294_7, (f57_pack_Size_ok n w274.2.1 r294_1 cr294_1), b294_17, b294_24, trivial⟩
        · have h := Option.some.inj h
          subst h
          exact At.fin hm ht ⟨[(2, .call [] [] (f46_pack_Put_out r294_0)), (7, .b true), (9, .call [] [] (f57_pack_Size_out r294_1)), (17, .b false)], [], [], [6], []⟩ [FnOK Go.Proofs.Try.prog 46 (f46_pack_Put_in w274.1 w274.2.1) (f46_pack_Put_out r294_0), ((strOfNums r294_0).toList == (strOfNums w274.2.2.2).toList) = true, FnOK Go.Proofs.Try.prog 57 (f57_pack_Size_in w274.2.1) (f57_pack_Size_out r294_1), ((r294_1 : Int) == (IntKind.wrap .i64 (((w274.2.2.2.length : Nat) : Int) - ((w274.1.length : Nat) : Int)))) = false] (by kernel_rfl) ⟨(f46_pack_Put_ok n w274.1 w274.2.1 r294_0 cr294_0), b294_7, (f57_pack_Size_ok n w274.2.1 r294_1 cr294_1), b294_17, trivial⟩
      · have h := Option.some.inj h
        subst h
        exact At.fin hm ht ⟨[(2, .call [] [] (f46_pack_Put_out r294_0)), (7, .b false)], [], [], [6], []⟩ [FnOK Go.Proofs.Try.prog 46 (f46_pack_Put_in w274.1 w274.2.1) (f46_pack_Put_out r294_0), ((strOfNums r294_0).toList == (strOfNums w274.2.2.2).toList) = false] (by kernel_rfl) ⟨(f46_pack_Put_ok n w274.1 w274.2.1 r294_0 cr294_0), b294_7, trivial⟩
end Go.Proofs.YtjmebloeodcoaaaF02
