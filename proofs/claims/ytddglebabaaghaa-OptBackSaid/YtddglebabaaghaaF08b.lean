/- What the functions compute, and that they do: printed by a program of this session (zgen.py), proved by Zed. -/
import Derived.Test.YtddglebabaaghaaProg
import Derived.Test.YtddglebabaaghaaZedY
namespace Go.Proofs.YtddglebabaaghaaF08b
open Go Zed
set_option maxRecDepth 100000
set_option linter.unusedVariables false
def tab : Tab := [(3, ⟨.int .i64, 1, 8, [.int .i64 0], some (.int .i64), none⟩), (4, ⟨.bool, 1, 1, [.bool false], some .bool, none⟩), (5, ⟨.int .u8, 1, 1, [.int .u8 0], some (.int .u8), none⟩), (9, ⟨.str, 1, 16, [.str (⟨#[]⟩ : ByteArray)], some .str, none⟩), (23, ⟨.int .u32, 1, 4, [.int .u32 0], some (.int .u32), none⟩), (25, ⟨.slice 5, 1, 24, [.sl .unit []], some (.slice (.int .u8)), none⟩), (30, ⟨.struct [(0, 5), (1, 25)], 2, 32, [.int .u8 0, .sl .unit []], some (.pair (.int .u8) (.slice (.int .u8))), some [(0, 5), (1, 25)]⟩), (36, ⟨.int .u64, 1, 8, [.int .u64 0], some (.int .u64), none⟩), (38, ⟨.struct [(0, 36)], 1, 8, [.int .u64 0], some (.int .u64), some [(0, 36)]⟩), (40, ⟨.struct [(0, 36), (1, 4), (2, 38)], 3, 24, [.int .u64 0, .bool false, .int .u64 0], some (.pair (.int .u64) (.pair .bool (.int .u64))), some [(0, 36), (1, 4), (2, 38)]⟩), (42, ⟨.struct [(0, 23), (1, 23), (2, 5), (3, 4), (4, 4), (5, 38)], 6, 24, [.int .u32 0, .int .u32 0, .int .u8 0, .bool false, .bool false, .int .u64 0], some (.pair (.int .u32) (.pair (.int .u32) (.pair (.int .u8) (.pair .bool (.pair .bool (.int .u64)))))), some [(0, 23), (1, 23), (2, 5), (3, 4), (4, 4), (5, 38)]⟩), (44, ⟨.struct [(0, 4), (1, 4), (2, 36), (3, 36), (4, 23), (5, 38)], 6, 40, [.bool false, .bool false, .int .u64 0, .int .u64 0, .int .u32 0, .int .u64 0], some (.pair .bool (.pair .bool (.pair (.int .u64) (.pair (.int .u64) (.pair (.int .u32) (.int .u64)))))), some [(0, 4), (1, 4), (2, 36), (3, 36), (4, 23), (5, 38)]⟩), (46, ⟨.struct [(0, 5), (1, 23), (2, 5), (3, 5), (4, 4), (5, 38)], 6, 24, [.int .u8 0, .int .u32 0, .int .u8 0, .int .u8 0, .bool false, .int .u64 0], some (.pair (.int .u8) (.pair (.int .u32) (.pair (.int .u8) (.pair (.int .u8) (.pair .bool (.int .u64)))))), some [(0, 5), (1, 23), (2, 5), (3, 5), (4, 4), (5, 38)]⟩), (48, ⟨.struct [(0, 40), (3, 42), (9, 44), (15, 46)], 21, 112, [.int .u64 0, .bool false, .int .u64 0, .int .u32 0, .int .u32 0, .int .u8 0, .bool false, .bool false, .int .u64 0, .bool false, .bool false, .int .u64 0, .int .u64 0, .int .u32 0, .int .u64 0, .int .u8 0, .int .u32 0, .int .u8 0, .int .u8 0, .bool false, .int .u64 0], some (.pair (.pair (.int .u64) (.pair .bool (.int .u64))) (.pair (.pair (.int .u32) (.pair (.int .u32) (.pair (.int .u8) (.pair .bool (.pair .bool (.int .u64)))))) (.pair (.pair .bool (.pair .bool (.pair (.int .u64) (.pair (.int .u64) (.pair (.int .u32) (.int .u64)))))) (.pair (.int .u8) (.pair (.int .u32) (.pair (.int .u8) (.pair (.int .u8) (.pair .bool (.int .u64))))))))), some [(0, 40), (3, 42), (9, 44), (15, 46)]⟩), (128, ⟨.struct [(0, 3), (1, 36)], 2, 16, [.int .i64 0, .int .u64 0], some (.pair (.int .i64) (.int .u64)), some [(0, 3), (1, 36)]⟩), (136, ⟨.slice 36, 1, 24, [.sl .unit []], some (.slice (.int .u64)), none⟩), (144, ⟨.slice 3, 1, 24, [.sl .unit []], some (.slice (.int .i64)), none⟩), (151, ⟨.slice 128, 1, 24, [.sl .unit []], some (.slice (.pair (.int .i64) (.int .u64))), none⟩)]
theorem ht : TabOk Go.Proofs.Try.prog tab := tabOk_of (ts := [3, 4, 5, 9, 23, 25, 30, 36, 38, 40, 42, 44, 46, 48, 128, 136, 144, 151]) (by kernel_rfl)
theorem hm : Go.Proofs.Try.prog.follows .mixedOrders = true := by kernel_rfl
/-! brougham/pack.Q -/
def f74_pack_Q_in (n_ : Int) : Inn := ⟨[.c (.d (.int .u64 n_))], [], [], 0⟩
def f74_pack_Q_out (r : Int × Int) : Out := ⟨.one (.agg [.d (.int .i64 r.1), .d (.int .u64 r.2)]), [], [(0, [.d (.int .i64 r.1), .d (.int .u64 r.2)])], 1⟩
def f74_pack_Q (n_ : Int) : Option (Int × Int) :=
  some (8, n_)
theorem f74_pack_Q_ok (n_ : Int) (r : Int × Int) (h : f74_pack_Q n_ = some r) : FnOK Go.Proofs.Try.prog 74 (f74_pack_Q_in n_) (f74_pack_Q_out r) := by
  unfold f74_pack_Q at h
  refine At.fn (r := 0) Go.Proofs.Try.func74 rfl (by kernel_rfl) rfl rfl (by kernel_rfl) ?_
  show At Go.Proofs.Try.prog Go.Proofs.Try.f74 0 0 ⟨[(0, .one (.c (.d (.int .u64 n_))))], [], [], 0⟩ _
  refine At.step hm ht ⟨[], [], [], [0, 2], [0]⟩ 1 ⟨[(0, .one (.c (.d (.int .u64 n_)))), (2, .one (.c (.ptr 0 0)))], [], [(0, [.d (.int .i64 0), .d (.int .u64 0)])], 1⟩ [] (by kernel_rfl) trivial ?_
  have h := Option.some.inj h
  subst h
  exact At.fin hm ht ⟨[], [], [], [2], [0]⟩ [0 + 2 ≤ 2] (by kernel_rfl) ⟨(by decide), trivial⟩
/-! brougham/pack.Put -/
def f73_pack_Put_in (b : List Int) (l : List (Int × Int)) : Inn := ⟨[.c (.d (.sl (.int .u8) b)), .c (.d (.sl (.pair (.int .i64) (.int .u64)) l))], [], [], 0⟩
def f73_pack_Put_out (r : List Int) : Out := ⟨.one (.c (.own 0 (.int .u8) r)), [(0, ⟨5, 0⟩)], [], 1⟩
def f73_pack_Put_L7 : Nat → (List Int) → Int → (List (Int × Int)) → Int → Int → Int → Int → Option (List Int × (List (Int × Int)) × Int × Int)
  | 0, _, _, _, _, _, _, _ => none
  | n + 1, out, i, t11, t12, t13, f_0, f_1 =>
    if (decide ((i : Int) ≥ 0)) = true then
      if (0 : Int) ≤ (IntKind.wrap .i64 (8 * i)) then
      if out.length + [(IntKind.wrap .u8 (Int.fdiv f_1 (2 ^ (min (IntKind.wrap .i64 (8 * i)).toNat (IntKind.bits .u64)))))].length ≤ maxLen ∧ (out.length + [(IntKind.wrap .u8 (Int.fdiv f_1 (2 ^ (min (IntKind.wrap .i64 (8 * i)).toNat (IntKind.bits .u64)))))].length) * 1 ≤ 140737488355328 then
      f73_pack_Put_L7 n (out ++ [(IntKind.wrap .u8 (Int.fdiv f_1 (2 ^ (min (IntKind.wrap .i64 (8 * i)).toNat (IntKind.bits .u64)))))]) (IntKind.wrap .i64 (i - 1)) t11 t12 t13 f_0 f_1
      else none
      else none
    else
      some ((out, t11, t12, t13))
def f73_pack_Put_L7_k (e : List Int × (List (Int × Int)) × Int × Int) (o : Out) : Prop := At Go.Proofs.Try.prog Go.Proofs.Try.f73 0 10 ⟨[(5, .one (.c (.own 0 (.int .u8) e.1))), (11, .one (.c (.d (.sl (.pair (.int .i64) (.int .u64)) e.2.1)))), (12, .one (.c (.d (.int .i64 e.2.2.1)))), (13, .one (.c (.d (.int .i64 e.2.2.2))))], [(0, some ⟨5, 0⟩)], [], 1⟩ o
theorem f73_pack_Put_L7_ok (n : Nat) : ∀ (out : List Int) (i : Int) (t11 : List (Int × Int)) (t12 : Int) (t13 : Int) (f_0 : Int) (f_1 : Int) (w : List Int × (List (Int × Int)) × Int × Int) (h : f73_pack_Put_L7 n out i t11 t12 t13 f_0 f_1 = some w) (o : Out) (hk : f73_pack_Put_L7_k w o), At Go.Proofs.Try.prog Go.Proofs.Try.f73 0 7 ⟨[(5, .one (.c (.own 0 (.int .u8) out))), (7, .one (.c (.ptr 1 0))), (8, .one (.c (.d (.int .i64 i)))), (11, .one (.c (.d (.sl (.pair (.int .i64) (.int .u64)) t11)))), (12, .one (.c (.d (.int .i64 t12)))), (13, .one (.c (.d (.int .i64 t13))))], [(0, some ⟨5, 0⟩)], [(1, [.d (.int .i64 f_0), .d (.int .u64 f_1)])], 2⟩ o := by
  induction n with
  | zero => intro out i t11 t12 t13 f_0 f_1 w h; rw [f73_pack_Put_L7] at h; cases h
  | succ n ih =>
    intro out i t11 t12 t13 f_0 f_1 w h o hk
    rw [f73_pack_Put_L7] at h
    rcases iteS h with ⟨b20_e0, h⟩ | ⟨b20_e0, h⟩
    · refine At.step hm ht ⟨[], [true], [], [5, 7, 8, 11, 12, 13], [0, 1]⟩ 9 ⟨[(5, .one (.c (.own 0 (.int .u8) out))), (7, .one (.c (.ptr 1 0))), (8, .one (.c (.d (.int .i64 i)))), (11, .one (.c (.d (.sl (.pair (.int .i64) (.int .u64)) t11)))), (12, .one (.c (.d (.int .i64 t12)))), (13, .one (.c (.d (.int .i64 t13))))], [(0, some ⟨5, 0⟩)], [(1, [.d (.int .i64 f_0), .d (.int .u64 f_1)])], 2⟩ [(decide ((i : Int) ≥ 0)) = true] (by kernel_rfl) ⟨b20_e0, trivial⟩ ?_
      obtain ⟨g21_0, h⟩ := ifS h
      obtain ⟨g21_1, h⟩ := ifS h
      refine At.step hm ht ⟨[], [], [], [5, 7, 8, 11, 12, 13], [10, 1]⟩ 8 ⟨[(5, .one (.c (.own 0 (.int .u8) (out ++ [(IntKind.wrap .u8 (Int.fdiv f_1 (2 ^ (min (IntKind.wrap .i64 (8 * i)).toNat (IntKind.bits .u64)))))])))), (7, .one (.c (.ptr 1 0))), (8, .one (.c (.d (.int .i64 i)))), (11, .one (.c (.d (.sl (.pair (.int .i64) (.int .u64)) t11)))), (12, .one (.c (.d (.int .i64 t12)))), (13, .one (.c (.d (.int .i64 t13))))], [(0, some ⟨5, 0⟩)], [(1, [.d (.int .i64 f_0), .d (.int .u64 f_1)])], 2⟩ [(0 : Int) ≤ (IntKind.wrap .i64 (8 * i)), out.length + [(IntKind.wrap .u8 (Int.fdiv f_1 (2 ^ (min (IntKind.wrap .i64 (8 * i)).toNat (IntKind.bits .u64)))))].length ≤ maxLen ∧ (out.length + [(IntKind.wrap .u8 (Int.fdiv f_1 (2 ^ (min (IntKind.wrap .i64 (8 * i)).toNat (IntKind.bits .u64)))))].length) * 1 ≤ 140737488355328] (by kernel_rfl) ⟨g21_0, g21_1, trivial⟩ ?_
      refine At.step hm ht ⟨[], [], [], [5, 7, 8, 11, 12, 13], [0, 1]⟩ 7 ⟨[(5, .one (.c (.own 0 (.int .u8) (out ++ [(IntKind.wrap .u8 (Int.fdiv f_1 (2 ^ (min (IntKind.wrap .i64 (8 * i)).toNat (IntKind.bits .u64)))))])))), (7, .one (.c (.ptr 1 0))), (8, .one (.c (.d (.int .i64 (IntKind.wrap .i64 (i - 1)))))), (11, .one (.c (.d (.sl (.pair (.int .i64) (.int .u64)) t11)))), (12, .one (.c (.d (.int .i64 t12)))), (13, .one (.c (.d (.int .i64 t13))))], [(0, some ⟨5, 0⟩)], [(1, [.d (.int .i64 f_0), .d (.int .u64 f_1)])], 2⟩ [] (by kernel_rfl) trivial ?_
      exact ih (out ++ [(IntKind.wrap .u8 (Int.fdiv f_1 (2 ^ (min (IntKind.wrap .i64 (8 * i)).toNat (IntKind.bits .u64)))))]) (IntKind.wrap .i64 (i - 1)) t11 t12 t13 f_0 f_1 w h o hk
    · refine At.step hm ht ⟨[], [false], [], [5, 11, 12, 13], [0]⟩ 10 ⟨[(5, .one (.c (.own 0 (.int .u8) out))), (11, .one (.c (.d (.sl (.pair (.int .i64) (.int .u64)) t11)))), (12, .one (.c (.d (.int .i64 t12)))), (13, .one (.c (.d (.int .i64 t13))))], [(0, some ⟨5, 0⟩)], [], 1⟩ [(decide ((i : Int) ≥ 0)) = false] (by kernel_rfl) ⟨b20_e0, trivial⟩ ?_
      have h := Option.some.inj h
      subst h
      exact hk
def f73_pack_Put_L3 : Nat → (List Int) → (List (Int × Int)) → Int → Int → Option (List Int)
  | 0, _, _, _, _ => none
  | n + 1, out, t11, t12, t13 =>
    if (decide ((t13 : Int) < t12)) = true then
      if (0 : Int) ≤ t13 ∧ t13 < (((t11).length : Nat) : Int) then
      if (decide ((((t11.getD t13.toNat (0, 0)).1) : Int) < 1)) = true then
        f73_pack_Put_L3 n out t11 t12 (IntKind.wrap .i64 (t13 + 1))
      else
        if (decide ((((t11.getD t13.toNat (0, 0)).1) : Int) > 8)) = true then
          f73_pack_Put_L3 n out t11 t12 (IntKind.wrap .i64 (t13 + 1))
        else
          (f73_pack_Put_L7 n out (IntKind.wrap .i64 (((t11.getD t13.toNat (0, 0)).1) - 1)) t11 t12 t13 ((t11.getD t13.toNat (0, 0)).1) ((t11.getD t13.toNat (0, 0)).2)).bind fun w23 =>
          f73_pack_Put_L3 n w23.1 w23.2.1 w23.2.2.1 (IntKind.wrap .i64 (w23.2.2.2 + 1))
      else none
    else
      some (out)
def f73_pack_Put_L3_k (e : List Int) (o : Out) : Prop := At Go.Proofs.Try.prog Go.Proofs.Try.f73 0 11 ⟨[(5, .one (.c (.own 0 (.int .u8) e)))], [(0, some ⟨5, 0⟩)], [], 1⟩ o
theorem f73_pack_Put_L3_ok (n : Nat) : ∀ (out : List Int) (t11 : List (Int × Int)) (t12 : Int) (t13 : Int) (w : List Int) (h : f73_pack_Put_L3 n out t11 t12 t13 = some w) (o : Out) (hk : f73_pack_Put_L3_k w o), At Go.Proofs.Try.prog Go.Proofs.Try.f73 0 3 ⟨[(5, .one (.c (.own 0 (.int .u8) out))), (11, .one (.c (.d (.sl (.pair (.int .i64) (.int .u64)) t11)))), (12, .one (.c (.d (.int .i64 t12)))), (13, .one (.c (.d (.int .i64 t13))))], [(0, some ⟨5, 0⟩)], [], 1⟩ o := by
  induction n with
  | zero => intro out t11 t12 t13 w h; rw [f73_pack_Put_L3] at h; cases h
  | succ n ih =>
    intro out t11 t12 t13 w h o hk
    rw [f73_pack_Put_L3] at h
    rcases iteS h with ⟨b14_e0, h⟩ | ⟨b14_e0, h⟩
    · refine At.step hm ht ⟨[], [true], [], [5, 11, 12, 13], [0]⟩ 4 ⟨[(5, .one (.c (.own 0 (.int .u8) out))), (11, .one (.c (.d (.sl (.pair (.int .i64) (.int .u64)) t11)))), (12, .one (.c (.d (.int .i64 t12)))), (13, .one (.c (.d (.int .i64 t13))))], [(0, some ⟨5, 0⟩)], [], 1⟩ [(decide ((t13 : Int) < t12)) = true] (by kernel_rfl) ⟨b14_e0, trivial⟩ ?_
      obtain ⟨g15_0, h⟩ := ifS h
      refine At.step hm ht ⟨[], [], [], [5, 7, 11, 12, 13], [0, 3]⟩ 5 ⟨[(5, .one (.c (.own 0 (.int .u8) out))), (7, .one (.c (.ptr 1 0))), (11, .one (.c (.d (.sl (.pair (.int .i64) (.int .u64)) t11)))), (12, .one (.c (.d (.int .i64 t12)))), (13, .one (.c (.d (.int .i64 t13))))], [(0, some ⟨5, 0⟩)], [(1, [.d (.int .i64 ((t11.getD t13.toNat (0, 0)).1)), .d (.int .u64 ((t11.getD t13.toNat (0, 0)).2))])], 2⟩ [(0 : Int) ≤ t13 ∧ t13 < (((t11).length : Nat) : Int), 0 + 2 ≤ 2] (by kernel_rfl) ⟨g15_0, (by decide), trivial⟩ ?_
      rcases iteS h with ⟨b16_3, h⟩ | ⟨b16_3, h⟩
      · refine At.step hm ht ⟨[(3, .b true)], [true], [], [5, 11, 12, 13], [0]⟩ 10 ⟨[(5, .one (.c (.own 0 (.int .u8) out))), (11, .one (.c (.d (.sl (.pair (.int .i64) (.int .u64)) t11)))), (12, .one (.c (.d (.int .i64 t12)))), (13, .one (.c (.d (.int .i64 t13))))], [(0, some ⟨5, 0⟩)], [], 1⟩ [(decide ((((t11.getD t13.toNat (0, 0)).1) : Int) < 1)) = true, true = true] (by kernel_rfl) ⟨b16_3, rfl, trivial⟩ ?_
        refine At.step hm ht ⟨[], [], [], [5, 11, 12, 13], [0]⟩ 3 ⟨[(5, .one (.c (.own 0 (.int .u8) out))), (11, .one (.c (.d (.sl (.pair (.int .i64) (.int .u64)) t11)))), (12, .one (.c (.d (.int .i64 t12)))), (13, .one (.c (.d (.int .i64 (IntKind.wrap .i64 (t13 + 1))))))], [(0, some ⟨5, 0⟩)], [], 1⟩ [] (by kernel_rfl) trivial ?_
        exact ih out t11 t12 (IntKind.wrap .i64 (t13 + 1)) w h o hk
      · rcases iteS h with ⟨b16_e0, h⟩ | ⟨b16_e0, h⟩
        · refine At.step hm ht ⟨[(3, .b false)], [true], [], [5, 11, 12, 13], [0]⟩ 10 ⟨[(5, .one (.c (.own 0 (.int .u8) out))), (11, .one (.c (.d (.sl (.pair (.int .i64) (.int .u64)) t11)))), (12, .one (.c (.d (.int .i64 t12)))), (13, .one (.c (.d (.int .i64 t13))))], [(0, some ⟨5, 0⟩)], [], 1⟩ [(decide ((((t11.getD t13.toNat (0, 0)).1) : Int) < 1)) = false, (decide ((((t11.getD t13.toNat (0, 0)).1) : Int) > 8)) = true] (by kernel_rfl) ⟨b16_3, b16_e0, trivial⟩ ?_
          refine At.step hm ht ⟨[], [], [], [5, 11, 12, 13], [0]⟩ 3 ⟨[(5, .one (.c (.own 0 (.int .u8) out))), (11, .one (.c (.d (.sl (.pair (.int .i64) (.int .u64)) t11)))), (12, .one (.c (.d (.int .i64 t12)))), (13, .one (.c (.d (.int .i64 (IntKind.wrap .i64 (t13 + 1))))))], [(0, some ⟨5, 0⟩)], [], 1⟩ [] (by kernel_rfl) trivial ?_
          exact ih out t11 t12 (IntKind.wrap .i64 (t13 + 1)) w h o hk
        · refine At.step hm ht ⟨[(3, .b false)], [false], [], [5, 7, 11, 12, 13], [0, 1]⟩ 6 ⟨[(5, .one (.c (.own 0 (.int .u8) out))), (7, .one (.c (.ptr 1 0))), (11, .one (.c (.d (.sl (.pair (.int .i64) (.int .u64)) t11)))), (12, .one (.c (.d (.int .i64 t12)))), (13, .one (.c (.d (.int .i64 t13))))], [(0, some ⟨5, 0⟩)], [(1, [.d (.int .i64 ((t11.getD t13.toNat (0, 0)).1)), .d (.int .u64 ((t11.getD t13.toNat (0, 0)).2))])], 2⟩ [(decide ((((t11.getD t13.toNat (0, 0)).1) : Int) < 1)) = false, (decide ((((t11.getD t13.toNat (0, 0)).1) : Int) > 8)) = false] (by kernel_rfl) ⟨b16_3, b16_e0, trivial⟩ ?_
          refine At.step hm ht ⟨[], [], [], [5, 7, 8, 11, 12, 13], [0, 1]⟩ 7 ⟨[(5, .one (.c (.own 0 (.int .u8) out))), (7, .one (.c (.ptr 1 0))), (8, .one (.c (.d (.int .i64 (IntKind.wrap .i64 (((t11.getD t13.toNat (0, 0)).1) - 1)))))), (11, .one (.c (.d (.sl (.pair (.int .i64) (.int .u64)) t11)))), (12, .one (.c (.d (.int .i64 t12)))), (13, .one (.c (.d (.int .i64 t13))))], [(0, some ⟨5, 0⟩)], [(1, [.d (.int .i64 ((t11.getD t13.toNat (0, 0)).1)), .d (.int .u64 ((t11.getD t13.toNat (0, 0)).2))])], 2⟩ [] (by kernel_rfl) trivial ?_
          obtain ⟨w23, cw23, h⟩ := bindS h
          refine f73_pack_Put_L7_ok n out (IntKind.wrap .i64 (((t11.getD t13.toNat (0, 0)).1) - 1)) t11 t12 t13 ((t11.getD t13.toNat (0, 0)).1) ((t11.getD t13.toNat (0, 0)).2) w23 cw23 _ ?_
          show At Go.Proofs.Try.prog Go.Proofs.Try.f73 0 10 ⟨[(5, .one (.c (.own 0 (.int .u8) w23.1))), (11, .one (.c (.d (.sl (.pair (.int .i64) (.int .u64)) w23.2.1)))), (12, .one (.c (.d (.int .i64 w23.2.2.1)))), (13, .one (.c (.d (.int .i64 w23.2.2.2))))], [(0, some ⟨5, 0⟩)], [], 1⟩ _
          refine At.step hm ht ⟨[], [], [], [5, 11, 12, 13], [0]⟩ 3 ⟨[(5, .one (.c (.own 0 (.int .u8) w23.1))), (11, .one (.c (.d (.sl (.pair (.int .i64) (.int .u64)) w23.2.1)))), (12, .one (.c (.d (.int .i64 w23.2.2.1)))), (13, .one (.c (.d (.int .i64 (IntKind.wrap .i64 (w23.2.2.2 + 1))))))], [(0, some ⟨5, 0⟩)], [], 1⟩ [] (by kernel_rfl) trivial ?_
          exact ih w23.1 w23.2.1 w23.2.2.1 (IntKind.wrap .i64 (w23.2.2.2 + 1)) w h o hk
    · refine At.step hm ht ⟨[], [false], [], [5], [0]⟩ 11 ⟨[(5, .one (.c (.own 0 (.int .u8) out)))], [(0, some ⟨5, 0⟩)], [], 1⟩ [(decide ((t13 : Int) < t12)) = false] (by kernel_rfl) ⟨b14_e0, trivial⟩ ?_
      have h := Option.some.inj h
      subst h
      exact hk
def f73_pack_Put (n : Nat) (b : List Int) (l : List (Int × Int)) : Option (List Int) :=
  if b.length ≤ maxLen ∧ b.length * 1 ≤ 140737488355328 then
  (f73_pack_Put_L3 n b l ((l.length : Nat) : Int) 0).bind fun w26 =>
  some w26
  else none
theorem f73_pack_Put_ok (n : Nat) (b : List Int) (l : List (Int × Int)) (r : List Int) (h : f73_pack_Put n b l = some r) : FnOK Go.Proofs.Try.prog 73 (f73_pack_Put_in b l) (f73_pack_Put_out r) := by
  unfold f73_pack_Put at h
  refine At.fn (r := 0) Go.Proofs.Try.func73 rfl (by kernel_rfl) rfl rfl (by kernel_rfl) ?_
  show At Go.Proofs.Try.prog Go.Proofs.Try.f73 0 0 ⟨[(0, .one (.c (.d (.sl (.int .u8) b)))), (1, .one (.c (.d (.sl (.pair (.int .i64) (.int .u64)) l))))], [], [], 0⟩ _
  refine At.step hm ht ⟨[], [], [], [0, 1], []⟩ 1 ⟨[(0, .one (.c (.d (.sl (.int .u8) b)))), (1, .one (.c (.d (.sl (.pair (.int .i64) (.int .u64)) l))))], [], [], 0⟩ [] (by kernel_rfl) trivial ?_
  obtain ⟨g12_0, h⟩ := ifS h
  refine At.step hm ht ⟨[], [], [], [1, 5], [1]⟩ 2 ⟨[(1, .one (.c (.d (.sl (.pair (.int .i64) (.int .u64)) l)))), (5, .one (.c (.own 0 (.int .u8) b)))], [(0, some ⟨5, 0⟩)], [], 1⟩ [b.length ≤ maxLen ∧ b.length * 1 ≤ 140737488355328] (by kernel_rfl) ⟨g12_0, trivial⟩ ?_
  refine At.step hm ht ⟨[], [], [], [5, 11, 12, 13], [0]⟩ 3 ⟨[(5, .one (.c (.own 0 (.int .u8) b))), (11, .one (.c (.d (.sl (.pair (.int .i64) (.int .u64)) l)))), (12, .one (.c (.d (.int .i64 ((l.length : Nat) : Int))))), (13, .one (.c (.d (.int .i64 0))))], [(0, some ⟨5, 0⟩)], [], 1⟩ [] (by kernel_rfl) trivial ?_
  obtain ⟨w26, cw26, h⟩ := bindS h
  refine f73_pack_Put_L3_ok n b l ((l.length : Nat) : Int) 0 w26 cw26 _ ?_
  show At Go.Proofs.Try.prog Go.Proofs.Try.f73 0 11 ⟨[(5, .one (.c (.own 0 (.int .u8) w26)))], [(0, some ⟨5, 0⟩)], [], 1⟩ _
  have h := Option.some.inj h
  subst h
  exact At.fin hm ht ⟨[], [], [], [4], [0]⟩ [] (by kernel_rfl) trivial
/-! (brougham/opt.Key).Option -/
def f21_opt_Key_Option_in (k_0 : Int) (k_1 : Bool) (k_2 : Int) : Inn := ⟨[.agg [.d (.int .u64 k_0), .d (.bool k_1), .d (.int .u64 k_2)]], [], [], 0⟩
def f21_opt_Key_Option_out (r : Int × List Int) : Out := ⟨.one (.agg [.d (.int .u8 r.1), .own 1 (.int .u8) r.2]), [(1, ⟨5, 0⟩)], [(0, [.d (.int .u8 r.1), .own 1 (.int .u8) r.2])], 2⟩
def f21_opt_Key_Option (n : Nat) (k_0 : Int) (k_1 : Bool) (k_2 : Int) : Option (Int × List Int) :=
  (f74_pack_Q k_0).bind fun r8_0 =>
  (f73_pack_Put n [] [r8_0]).bind fun r8_1 =>
  if k_1 = true then
    (f74_pack_Q k_2).bind fun r30_0 =>
    (f73_pack_Put n r8_1 [r30_0]).bind fun r30_1 =>
    some (1, r30_1)
  else
    some (1, r8_1)
theorem f21_opt_Key_Option_ok (n : Nat) (k_0 : Int) (k_1 : Bool) (k_2 : Int) (r : Int × List Int) (h : f21_opt_Key_Option n k_0 k_1 k_2 = some r) : FnOK Go.Proofs.Try.prog 21 (f21_opt_Key_Option_in k_0 k_1 k_2) (f21_opt_Key_Option_out r) := by
  unfold f21_opt_Key_Option at h
  refine At.fn (r := 0) Go.Proofs.Try.func21 rfl (by kernel_rfl) rfl rfl (by kernel_rfl) ?_
  show At Go.Proofs.Try.prog Go.Proofs.Try.f21 0 0 ⟨[(0, .one (.agg [.d (.int .u64 k_0), .d (.bool k_1), .d (.int .u64 k_2)]))], [], [], 0⟩ _
  refine At.step hm ht ⟨[], [], [], [1, 2], [0, 1]⟩ 1 ⟨[(1, .one (.c (.ptr 0 0))), (2, .one (.c (.ptr 1 0)))], [], [(0, [.d (.int .u64 k_0), .d (.bool k_1), .d (.int .u64 k_2)]), (1, [.d (.int .u8 0), .d (.sl .unit [])])], 2⟩ [] (by kernel_rfl) trivial ?_
  obtain ⟨r8_0, cr8_0, h⟩ := bindS h
  obtain ⟨r8_1, cr8_1, h⟩ := bindS h
  refine At.step hm ht ⟨[(2, .call [] [] (f74_pack_Q_out r8_0)), (4, .call [] [(0, 0, (.int .u8))] (f73_pack_Put_out r8_1))], [], [], [1, 2, 3], [0, 1, 6]⟩ 2 ⟨[(1, .one (.c (.ptr 0 0))), (2, .one (.c (.ptr 1 0))), (3, .one (.c (.own 2 (.int .u8) r8_1)))], [(2, some ⟨5, 0⟩)], [(0, [.d (.int .u64 k_0), .d (.bool k_1), .d (.int .u64 k_2)]), (1, [.d (.int .u8 0), .d (.sl .unit [])])], 3⟩ [FnOK Go.Proofs.Try.prog 74 (f74_pack_Q_in k_0) (f74_pack_Q_out r8_0), FnOK Go.Proofs.Try.prog 73 (f73_pack_Put_in [] [r8_0]) (f73_pack_Put_out r8_1)] (by kernel_rfl) ⟨(f74_pack_Q_ok k_0 r8_0 cr8_0), (f73_pack_Put_ok n [] [r8_0] r8_1 cr8_1), trivial⟩ ?_
  rcases iteS h with ⟨b29_e0, h⟩ | ⟨b29_e0, h⟩
  · refine At.step hm ht ⟨[], [true], [], [1, 2, 3], [0, 1, 2]⟩ 3 ⟨[(1, .one (.c (.ptr 0 0))), (2, .one (.c (.ptr 1 0))), (3, .one (.c (.own 2 (.int .u8) r8_1)))], [(2, some ⟨5, 0⟩)], [(0, [.d (.int .u64 k_0), .d (.bool k_1), .d (.int .u64 k_2)]), (1, [.d (.int .u8 0), .d (.sl .unit [])])], 3⟩ [k_1 = true] (by kernel_rfl) ⟨b29_e0, trivial⟩ ?_
    obtain ⟨r30_0, cr30_0, h⟩ := bindS h
    obtain ⟨r30_1, cr30_1, h⟩ := bindS h
    refine At.step hm ht ⟨[(4, .call [] [] (f74_pack_Q_out r30_0)), (6, .call [] [] (f73_pack_Put_out r30_1))], [], [], [2, 3], [1, 9]⟩ 4 ⟨[(2, .one (.c (.ptr 0 0))), (3, .one (.c (.own 1 (.int .u8) r30_1)))], [(1, some ⟨5, 0⟩)], [(0, [.d (.int .u8 0), .d (.sl .unit [])])], 2⟩ [FnOK Go.Proofs.Try.prog 74 (f74_pack_Q_in k_2) (f74_pack_Q_out r30_0), FnOK Go.Proofs.Try.prog 73 (f73_pack_Put_in r8_1 [r30_0]) (f73_pack_Put_out r30_1)] (by kernel_rfl) ⟨(f74_pack_Q_ok k_2 r30_0 cr30_0), (f73_pack_Put_ok n r8_1 [r30_0] r30_1 cr30_1), trivial⟩ ?_
    have h := Option.some.inj h
    subst h
    exact At.fin hm ht ⟨[], [], [], [2], [0, 1]⟩ [0 + 2 ≤ 2] (by kernel_rfl) ⟨(by decide), trivial⟩
  · refine At.step hm ht ⟨[], [false], [], [2, 3], [1, 2]⟩ 4 ⟨[(2, .one (.c (.ptr 0 0))), (3, .one (.c (.own 1 (.int .u8) r8_1)))], [(1, some ⟨5, 0⟩)], [(0, [.d (.int .u8 0), .d (.sl .unit [])])], 2⟩ [k_1 = false] (by kernel_rfl) ⟨b29_e0, trivial⟩ ?_
    have h := Option.some.inj h
    subst h
    exact At.fin hm ht ⟨[], [], [], [2], [0, 1]⟩ [0 + 2 ≤ 2] (by kernel_rfl) ⟨(by decide), trivial⟩
/-! brougham/pack.Get -/
def f83_pack_Get_in (b : List Int) (sizes : List Int) : Inn := ⟨[.c (.d (.sl (.int .u8) b)), .c (.d (.sl (.int .i64) sizes))], [], [], 0⟩
def f83_pack_Get_out (r : List Int × List Int × Bool) : Out := ⟨.tup [.c (.own 0 (.int .u64) r.1), .c (.own 1 (.int .u8) r.2.1), .c (.d (.bool r.2.2))], [(0, ⟨36, 0⟩), (1, ⟨5, 0⟩)], [], 2⟩
def f83_pack_Get_L9 : Nat → (List Int) → (List Int) → Int → Int → (List Int) → Int → Int → (List Int) → Int → Int → Option (List Int × List Int × Int × Int × List Int × Int × Int)
  | 0, _, _, _, _, _, _, _, _, _, _ => none
  | n + 1, b, out, n_, x, t13, t14, t15, t33, t34, t35 =>
    if (decide ((t35 : Int) < t34)) = true then
      if (0 : Int) ≤ t35 ∧ t35 < (((t33).length : Nat) : Int) then
      f83_pack_Get_L9 n b out n_ (bits .or .u64 (IntKind.wrap .u64 (x * 2 ^ 8)) (IntKind.wrap .u64 (t33.getD t35.toNat 0))) t13 t14 t15 t33 t34 (IntKind.wrap .i64 (t35 + 1))
      else none
    else
      some ((b, out, n_, x, t13, t14, t15))
def f83_pack_Get_L9_k (e : List Int × List Int × Int × Int × List Int × Int × Int) (o : Out) : Prop := At Go.Proofs.Try.prog Go.Proofs.Try.f83 0 13 ⟨[(0, .one (.c (.d (.sl (.int .u8) e.1)))), (7, .one (.c (.own 0 (.int .u64) e.2.1))), (9, .one (.c (.d (.int .i64 e.2.2.1)))), (10, .one (.c (.d (.int .u64 e.2.2.2.1)))), (13, .one (.c (.d (.sl (.int .i64) e.2.2.2.2.1)))), (14, .one (.c (.d (.int .i64 e.2.2.2.2.2.1)))), (15, .one (.c (.d (.int .i64 e.2.2.2.2.2.2))))], [(0, some ⟨36, 0⟩)], [], 1⟩ o
theorem f83_pack_Get_L9_ok (n : Nat) : ∀ (b : List Int) (out : List Int) (n_ : Int) (x : Int) (t13 : List Int) (t14 : Int) (t15 : Int) (t33 : List Int) (t34 : Int) (t35 : Int) (w : List Int × List Int × Int × Int × List Int × Int × Int) (h : f83_pack_Get_L9 n b out n_ x t13 t14 t15 t33 t34 t35 = some w) (o : Out) (hk : f83_pack_Get_L9_k w o), At Go.Proofs.Try.prog Go.Proofs.Try.f83 0 9 ⟨[(0, .one (.c (.d (.sl (.int .u8) b)))), (7, .one (.c (.own 0 (.int .u64) out))), (9, .one (.c (.d (.int .i64 n_)))), (10, .one (.c (.d (.int .u64 x)))), (13, .one (.c (.d (.sl (.int .i64) t13)))), (14, .one (.c (.d (.int .i64 t14)))), (15, .one (.c (.d (.int .i64 t15)))), (33, .one (.c (.d (.sl (.int .u8) t33)))), (34, .one (.c (.d (.int .i64 t34)))), (35, .one (.c (.d (.int .i64 t35))))], [(0, some ⟨36, 0⟩)], [], 1⟩ o := by
  induction n with
  | zero => intro b out n_ x t13 t14 t15 t33 t34 t35 w h; rw [f83_pack_Get_L9] at h; cases h
  | succ n ih =>
    intro b out n_ x t13 t14 t15 t33 t34 t35 w h o hk
    rw [f83_pack_Get_L9] at h
    rcases iteS h with ⟨b105_e0, h⟩ | ⟨b105_e0, h⟩
    · refine At.step hm ht ⟨[], [true], [], [0, 7, 9, 10, 13, 14, 15, 33, 34, 35], [0]⟩ 10 ⟨[(0, .one (.c (.d (.sl (.int .u8) b)))), (7, .one (.c (.own 0 (.int .u64) out))), (9, .one (.c (.d (.int .i64 n_)))), (10, .one (.c (.d (.int .u64 x)))), (13, .one (.c (.d (.sl (.int .i64) t13)))), (14, .one (.c (.d (.int .i64 t14)))), (15, .one (.c (.d (.int .i64 t15)))), (33, .one (.c (.d (.sl (.int .u8) t33)))), (34, .one (.c (.d (.int .i64 t34)))), (35, .one (.c (.d (.int .i64 t35))))], [(0, some ⟨36, 0⟩)], [], 1⟩ [(decide ((t35 : Int) < t34)) = true] (by kernel_rfl) ⟨b105_e0, trivial⟩ ?_
      obtain ⟨g106_0, h⟩ := ifS h
      refine At.step hm ht ⟨[], [], [], [0, 7, 9, 10, 12, 13, 14, 15, 33, 34, 35], [0]⟩ 11 ⟨[(0, .one (.c (.d (.sl (.int .u8) b)))), (7, .one (.c (.own 0 (.int .u64) out))), (9, .one (.c (.d (.int .i64 n_)))), (10, .one (.c (.d (.int .u64 x)))), (12, .one (.c (.d (.int .u8 (t33.getD t35.toNat 0))))), (13, .one (.c (.d (.sl (.int .i64) t13)))), (14, .one (.c (.d (.int .i64 t14)))), (15, .one (.c (.d (.int .i64 t15)))), (33, .one (.c (.d (.sl (.int .u8) t33)))), (34, .one (.c (.d (.int .i64 t34)))), (35, .one (.c (.d (.int .i64 t35))))], [(0, some ⟨36, 0⟩)], [], 1⟩ [(0 : Int) ≤ t35 ∧ t35 < (((t33).length : Nat) : Int)] (by kernel_rfl) ⟨g106_0, trivial⟩ ?_
      refine At.step hm ht ⟨[], [], [], [0, 7, 9, 10, 13, 14, 15, 33, 34, 35], [0]⟩ 12 ⟨[(0, .one (.c (.d (.sl (.int .u8) b)))), (7, .one (.c (.own 0 (.int .u64) out))), (9, .one (.c (.d (.int .i64 n_)))), (10, .one (.c (.d (.int .u64 (bits .or .u64 (IntKind.wrap .u64 (x * 2 ^ 8)) (IntKind.wrap .u64 (t33.getD t35.toNat 0))))))), (13, .one (.c (.d (.sl (.int .i64) t13)))), (14, .one (.c (.d (.int .i64 t14)))), (15, .one (.c (.d (.int .i64 t15)))), (33, .one (.c (.d (.sl (.int .u8) t33)))), (34, .one (.c (.d (.int .i64 t34)))), (35, .one (.c (.d (.int .i64 t35))))], [(0, some ⟨36, 0⟩)], [], 1⟩ [(0 : Int) ≤ 8] (by kernel_rfl) ⟨(by decide), trivial⟩ ?_
      refine At.step hm ht ⟨[], [], [], [0, 7, 9, 10, 13, 14, 15, 33, 34, 35], [0]⟩ 9 ⟨[(0, .one (.c (.d (.sl (.int .u8) b)))), (7, .one (.c (.own 0 (.int .u64) out))), (9, .one (.c (.d (.int .i64 n_)))), (10, .one (.c (.d (.int .u64 (bits .or .u64 (IntKind.wrap .u64 (x * 2 ^ 8)) (IntKind.wrap .u64 (t33.getD t35.toNat 0))))))), (13, .one (.c (.d (.sl (.int .i64) t13)))), (14, .one (.c (.d (.int .i64 t14)))), (15, .one (.c (.d (.int .i64 t15)))), (33, .one (.c (.d (.sl (.int .u8) t33)))), (34, .one (.c (.d (.int .i64 t34)))), (35, .one (.c (.d (.int .i64 (IntKind.wrap .i64 (t35 + 1))))))], [(0, some ⟨36, 0⟩)], [], 1⟩ [] (by kernel_rfl) trivial ?_
      exact ih b out n_ (bits .or .u64 (IntKind.wrap .u64 (x * 2 ^ 8)) (IntKind.wrap .u64 (t33.getD t35.toNat 0))) t13 t14 t15 t33 t34 (IntKind.wrap .i64 (t35 + 1)) w h o hk
    · refine At.step hm ht ⟨[], [false], [], [0, 7, 9, 10, 13, 14, 15], [0]⟩ 13 ⟨[(0, .one (.c (.d (.sl (.int .u8) b)))), (7, .one (.c (.own 0 (.int .u64) out))), (9, .one (.c (.d (.int .i64 n_)))), (10, .one (.c (.d (.int .u64 x)))), (13, .one (.c (.d (.sl (.int .i64) t13)))), (14, .one (.c (.d (.int .i64 t14)))), (15, .one (.c (.d (.int .i64 t15))))], [(0, some ⟨36, 0⟩)], [], 1⟩ [(decide ((t35 : Int) < t34)) = false] (by kernel_rfl) ⟨b105_e0, trivial⟩ ?_
      have h := Option.some.inj h
      subst h
      exact hk
def f83_pack_Get_L3 : Nat → (List Int) → (List Int) → (List Int) → Int → Int → Option ((List Int × List Int × Bool) ⊕ (List Int × List Int))
  | 0, _, _, _, _, _ => none
  | n + 1, b, out, t13, t14, t15 =>
    if (decide ((t15 : Int) < t14)) = true then
      if (0 : Int) ≤ t15 ∧ t15 < (((t13).length : Nat) : Int) then
      if (decide (((t13.getD t15.toNat 0) : Int) < 1)) = true then
        some (.inl ([], [], false))
      else
        if (decide (((t13.getD t15.toNat 0) : Int) > 8)) = true then
          some (.inl ([], [], false))
        else
          if (decide (((t13.getD t15.toNat 0) : Int) > ((b.length : Nat) : Int))) = true then
            some (.inl ([], [], false))
          else
            if cutOk b.length none (some (t13.getD t15.toNat 0)) none then
            (f83_pack_Get_L9 n b out (t13.getD t15.toNat 0) 0 t13 t14 t15 (b.take (t13.getD t15.toNat 0).toNat) (((b.take (t13.getD t15.toNat 0).toNat).length : Nat) : Int) 0).bind fun w109 =>
            if w109.2.1.length + [w109.2.2.2.1].length ≤ maxLen ∧ (w109.2.1.length + [w109.2.2.2.1].length) * 8 ≤ 140737488355328 then
            if cutOk w109.1.length (some w109.2.2.1) none none then
            f83_pack_Get_L3 n ((w109.1.take w109.1.length).drop w109.2.2.1.toNat) (w109.2.1 ++ [w109.2.2.2.1]) w109.2.2.2.2.1 w109.2.2.2.2.2.1 (IntKind.wrap .i64 (w109.2.2.2.2.2.2 + 1))
            else none
            else none
            else none
      else none
    else
      some (.inr ((b, out)))
def f83_pack_Get_L3_k (w : (List Int × List Int × Bool) ⊕ (List Int × List Int)) (o : Out) : Prop := match w with
  | .inl e => o = f83_pack_Get_out e
  | .inr e => At Go.Proofs.Try.prog Go.Proofs.Try.f83 0 16 ⟨[(0, .one (.c (.d (.sl (.int .u8) e.1)))), (7, .one (.c (.own 0 (.int .u64) e.2)))], [(0, some ⟨36, 0⟩)], [], 1⟩ o
theorem f83_pack_Get_L3_ok (n : Nat) : ∀ (b : List Int) (out : List Int) (t13 : List Int) (t14 : Int) (t15 : Int) (w : (List Int × List Int × Bool) ⊕ (List Int × List Int)) (h : f83_pack_Get_L3 n b out t13 t14 t15 = some w) (o : Out) (hk : f83_pack_Get_L3_k w o), At Go.Proofs.Try.prog Go.Proofs.Try.f83 0 3 ⟨[(0, .one (.c (.d (.sl (.int .u8) b)))), (7, .one (.c (.own 0 (.int .u64) out))), (13, .one (.c (.d (.sl (.int .i64) t13)))), (14, .one (.c (.d (.int .i64 t14)))), (15, .one (.c (.d (.int .i64 t15))))], [(0, some ⟨36, 0⟩)], [], 1⟩ o := by
  induction n with
  | zero => intro b out t13 t14 t15 w h; rw [f83_pack_Get_L3] at h; cases h
  | succ n ih =>
    intro b out t13 t14 t15 w h o hk
    rw [f83_pack_Get_L3] at h
    rcases iteS h with ⟨b97_e0, h⟩ | ⟨b97_e0, h⟩
    · refine At.step hm ht ⟨[], [true], [], [0, 7, 13, 14, 15], [0]⟩ 4 ⟨[(0, .one (.c (.d (.sl (.int .u8) b)))), (7, .one (.c (.own 0 (.int .u64) out))), (13, .one (.c (.d (.sl (.int .i64) t13)))), (14, .one (.c (.d (.int .i64 t14)))), (15, .one (.c (.d (.int .i64 t15))))], [(0, some ⟨36, 0⟩)], [], 1⟩ [(decide ((t15 : Int) < t14)) = true] (by kernel_rfl) ⟨b97_e0, trivial⟩ ?_
      obtain ⟨g98_0, h⟩ := ifS h
      refine At.step hm ht ⟨[], [], [], [0, 7, 9, 13, 14, 15], [0]⟩ 5 ⟨[(0, .one (.c (.d (.sl (.int .u8) b)))), (7, .one (.c (.own 0 (.int .u64) out))), (9, .one (.c (.d (.int .i64 (t13.getD t15.toNat 0))))), (13, .one (.c (.d (.sl (.int .i64) t13)))), (14, .one (.c (.d (.int .i64 t14)))), (15, .one (.c (.d (.int .i64 t15))))], [(0, some ⟨36, 0⟩)], [], 1⟩ [(0 : Int) ≤ t15 ∧ t15 < (((t13).length : Nat) : Int)] (by kernel_rfl) ⟨g98_0, trivial⟩ ?_
      rcases iteS h with ⟨b99_2, h⟩ | ⟨b99_2, h⟩
      · refine At.step hm ht ⟨[(2, .b true)], [true], [], [], []⟩ 6 ⟨[], [], [], 0⟩ [(decide (((t13.getD t15.toNat 0) : Int) < 1)) = true, true = true] (by kernel_rfl) ⟨b99_2, rfl, trivial⟩ ?_
        have h := Option.some.inj h
        subst h
        have hk : o = f83_pack_Get_out ([], [], false) := hk
        subst hk
        exact At.fin hm ht ⟨[], [], [.nil false 4 0 (.int .u64) (some 36), .nil false 5 0 (.int .u8) (some 5)], [4, 5, 6], [3, 4]⟩ [] (by kernel_rfl) trivial
      · rcases iteS h with ⟨b99_6, h⟩ | ⟨b99_6, h⟩
        · refine At.step hm ht ⟨[(2, .b false), (6, .b true)], [true], [], [], []⟩ 6 ⟨[], [], [], 0⟩ [(decide (((t13.getD t15.toNat 0) : Int) < 1)) = false, (decide (((t13.getD t15.toNat 0) : Int) > 8)) = true, true = true] (by kernel_rfl) ⟨b99_2, b99_6, rfl, trivial⟩ ?_
          have h := Option.some.inj h
          subst h
          have hk : o = f83_pack_Get_out ([], [], false) := hk
          subst hk
          exact At.fin hm ht ⟨[], [], [.nil false 4 0 (.int .u64) (some 36), .nil false 5 0 (.int .u8) (some 5)], [4, 5, 6], [3, 4]⟩ [] (by kernel_rfl) trivial
        · rcases iteS h with ⟨b99_e0, h⟩ | ⟨b99_e0, h⟩
          · refine At.step hm ht ⟨[(2, .b false), (6, .b false)], [true], [], [], []⟩ 6 ⟨[], [], [], 0⟩ [(decide (((t13.getD t15.toNat 0) : Int) < 1)) = false, (decide (((t13.getD t15.toNat 0) : Int) > 8)) = false, (decide (((t13.getD t15.toNat 0) : Int) > ((b.length : Nat) : Int))) = true] (by kernel_rfl) ⟨b99_2, b99_6, b99_e0, trivial⟩ ?_
            have h := Option.some.inj h
            subst h
            have hk : o = f83_pack_Get_out ([], [], false) := hk
            subst hk
            exact At.fin hm ht ⟨[], [], [.nil false 4 0 (.int .u64) (some 36), .nil false 5 0 (.int .u8) (some 5)], [4, 5, 6], [3, 4]⟩ [] (by kernel_rfl) trivial
          · refine At.step hm ht ⟨[(2, .b false), (6, .b false)], [false], [], [0, 7, 9, 13, 14, 15], [0]⟩ 7 ⟨[(0, .one (.c (.d (.sl (.int .u8) b)))), (7, .one (.c (.own 0 (.int .u64) out))), (9, .one (.c (.d (.int .i64 (t13.getD t15.toNat 0))))), (13, .one (.c (.d (.sl (.int .i64) t13)))), (14, .one (.c (.d (.int .i64 t14)))), (15, .one (.c (.d (.int .i64 t15))))], [(0, some ⟨36, 0⟩)], [], 1⟩ [(decide (((t13.getD t15.toNat 0) : Int) < 1)) = false, (decide (((t13.getD t15.toNat 0) : Int) > 8)) = false, (decide (((t13.getD t15.toNat 0) : Int) > ((b.length : Nat) : Int))) = false] (by kernel_rfl) ⟨b99_2, b99_6, b99_e0, trivial⟩ ?_
            refine At.step hm ht ⟨[], [], [], [0, 7, 9, 10, 13, 14, 15], [0]⟩ 8 ⟨[(0, .one (.c (.d (.sl (.int .u8) b)))), (7, .one (.c (.own 0 (.int .u64) out))), (9, .one (.c (.d (.int .i64 (t13.getD t15.toNat 0))))), (10, .one (.c (.d (.int .u64 0)))), (13, .one (.c (.d (.sl (.int .i64) t13)))), (14, .one (.c (.d (.int .i64 t14)))), (15, .one (.c (.d (.int .i64 t15))))], [(0, some ⟨36, 0⟩)], [], 1⟩ [] (by kernel_rfl) trivial ?_
            obtain ⟨g104_0, h⟩ := ifS h
            refine At.step hm ht ⟨[], [], [], [0, 7, 9, 10, 13, 14, 15, 33, 34, 35], [0]⟩ 9 ⟨[(0, .one (.c (.d (.sl (.int .u8) b)))), (7, .one (.c (.own 0 (.int .u64) out))), (9, .one (.c (.d (.int .i64 (t13.getD t15.toNat 0))))), (10, .one (.c (.d (.int .u64 0)))), (13, .one (.c (.d (.sl (.int .i64) t13)))), (14, .one (.c (.d (.int .i64 t14)))), (15, .one (.c (.d (.int .i64 t15)))), (33, .one (.c (.d (.sl (.int .u8) (b.take (t13.getD t15.toNat 0).toNat))))), (34, .one (.c (.d (.int .i64 (((b.take (t13.getD t15.toNat 0).toNat).length : Nat) : Int))))), (35, .one (.c (.d (.int .i64 0))))], [(0, some ⟨36, 0⟩)], [], 1⟩ [cutOk b.length none (some (t13.getD t15.toNat 0)) none] (by kernel_rfl) ⟨g104_0, trivial⟩ ?_
            obtain ⟨w109, cw109, h⟩ := bindS h
            refine f83_pack_Get_L9_ok n b out (t13.getD t15.toNat 0) 0 t13 t14 t15 (b.take (t13.getD t15.toNat 0).toNat) (((b.take (t13.getD t15.toNat 0).toNat).length : Nat) : Int) 0 w109 cw109 _ ?_
            show At Go.Proofs.Try.prog Go.Proofs.Try.f83 0 13 ⟨[(0, .one (.c (.d (.sl (.int .u8) w109.1)))), (7, .one (.c (.own 0 (.int .u64) w109.2.1))), (9, .one (.c (.d (.int .i64 w109.2.2.1)))), (10, .one (.c (.d (.int .u64 w109.2.2.2.1)))), (13, .one (.c (.d (.sl (.int .i64) w109.2.2.2.2.1)))), (14, .one (.c (.d (.int .i64 w109.2.2.2.2.2.1)))), (15, .one (.c (.d (.int .i64 w109.2.2.2.2.2.2))))], [(0, some ⟨36, 0⟩)], [], 1⟩ _
            obtain ⟨g111_0, h⟩ := ifS h
            refine At.step hm ht ⟨[], [], [], [0, 7, 9, 13, 14, 15], [4]⟩ 14 ⟨[(0, .one (.c (.d (.sl (.int .u8) w109.1)))), (7, .one (.c (.own 0 (.int .u64) (w109.2.1 ++ [w109.2.2.2.1])))), (9, .one (.c (.d (.int .i64 w109.2.2.1)))), (13, .one (.c (.d (.sl (.int .i64) w109.2.2.2.2.1)))), (14, .one (.c (.d (.int .i64 w109.2.2.2.2.2.1)))), (15, .one (.c (.d (.int .i64 w109.2.2.2.2.2.2))))], [(0, some ⟨36, 0⟩)], [], 1⟩ [w109.2.1.length + [w109.2.2.2.1].length ≤ maxLen ∧ (w109.2.1.length + [w109.2.2.2.1].length) * 8 ≤ 140737488355328] (by kernel_rfl) ⟨g111_0, trivial⟩ ?_
            obtain ⟨g112_0, h⟩ := ifS h
            refine At.step hm ht ⟨[], [], [], [0, 7, 13, 14, 15], [0]⟩ 15 ⟨[(0, .one (.c (.d (.sl (.int .u8) ((w109.1.take w109.1.length).drop w109.2.2.1.toNat))))), (7, .one (.c (.own 0 (.int .u64) (w109.2.1 ++ [w109.2.2.2.1])))), (13, .one (.c (.d (.sl (.int .i64) w109.2.2.2.2.1)))), (14, .one (.c (.d (.int .i64 w109.2.2.2.2.2.1)))), (15, .one (.c (.d (.int .i64 w109.2.2.2.2.2.2))))], [(0, some ⟨36, 0⟩)], [], 1⟩ [cutOk w109.1.length (some w109.2.2.1) none none] (by kernel_rfl) ⟨g112_0, trivial⟩ ?_
            refine At.step hm ht ⟨[], [], [], [0, 7, 13, 14, 15], [0]⟩ 3 ⟨[(0, .one (.c (.d (.sl (.int .u8) ((w109.1.take w109.1.length).drop w109.2.2.1.toNat))))), (7, .one (.c (.own 0 (.int .u64) (w109.2.1 ++ [w109.2.2.2.1])))), (13, .one (.c (.d (.sl (.int .i64) w109.2.2.2.2.1)))), (14, .one (.c (.d (.int .i64 w109.2.2.2.2.2.1)))), (15, .one (.c (.d (.int .i64 (IntKind.wrap .i64 (w109.2.2.2.2.2.2 + 1))))))], [(0, some ⟨36, 0⟩)], [], 1⟩ [] (by kernel_rfl) trivial ?_
            exact ih ((w109.1.take w109.1.length).drop w109.2.2.1.toNat) (w109.2.1 ++ [w109.2.2.2.1]) w109.2.2.2.2.1 w109.2.2.2.2.2.1 (IntKind.wrap .i64 (w109.2.2.2.2.2.2 + 1)) w h o hk
    · refine At.step hm ht ⟨[], [false], [], [0, 7], [0]⟩ 16 ⟨[(0, .one (.c (.d (.sl (.int .u8) b)))), (7, .one (.c (.own 0 (.int .u64) out)))], [(0, some ⟨36, 0⟩)], [], 1⟩ [(decide ((t15 : Int) < t14)) = false] (by kernel_rfl) ⟨b97_e0, trivial⟩ ?_
      have h := Option.some.inj h
      subst h
      exact hk
def f83_pack_Get (n : Nat) (b : List Int) (sizes : List Int) : Option (List Int × List Int × Bool) :=
  (f83_pack_Get_L3 n b [] sizes ((sizes.length : Nat) : Int) 0).bind fun w114 =>
  match w114 with
  | .inl e115 =>
    some (e115.1, e115.2.1, e115.2.2)
  | .inr e116 =>
    if e116.1.length ≤ maxLen ∧ e116.1.length * 1 ≤ 140737488355328 then
    some (e116.2, e116.1, true)
    else none
theorem f83_pack_Get_ok (n : Nat) (b : List Int) (sizes : List Int) (r : List Int × List Int × Bool) (h : f83_pack_Get n b sizes = some r) : FnOK Go.Proofs.Try.prog 83 (f83_pack_Get_in b sizes) (f83_pack_Get_out r) := by
  unfold f83_pack_Get at h
  refine At.fn (r := 0) Go.Proofs.Try.func83 rfl (by kernel_rfl) rfl rfl (by kernel_rfl) ?_
  show At Go.Proofs.Try.prog Go.Proofs.Try.f83 0 0 ⟨[(0, .one (.c (.d (.sl (.int .u8) b)))), (1, .one (.c (.d (.sl (.int .i64) sizes))))], [], [], 0⟩ _
  refine At.step hm ht ⟨[], [], [], [0, 1], []⟩ 1 ⟨[(0, .one (.c (.d (.sl (.int .u8) b)))), (1, .one (.c (.d (.sl (.int .i64) sizes))))], [], [], 0⟩ [] (by kernel_rfl) trivial ?_
  refine At.step hm ht ⟨[], [], [], [0, 1, 7], []⟩ 2 ⟨[(0, .one (.c (.d (.sl (.int .u8) b)))), (1, .one (.c (.d (.sl (.int .i64) sizes)))), (7, .one (.c (.d (.sl .unit []))))], [], [], 0⟩ [] (by kernel_rfl) trivial ?_
  refine At.step hm ht ⟨[], [], [.nil false 7 0 (.int .u64) (some 36)], [0, 7, 13, 14, 15], [3]⟩ 3 ⟨[(0, .one (.c (.d (.sl (.int .u8) b)))), (7, .one (.c (.own 0 (.int .u64) []))), (13, .one (.c (.d (.sl (.int .i64) sizes)))), (14, .one (.c (.d (.int .i64 ((sizes.length : Nat) : Int))))), (15, .one (.c (.d (.int .i64 0))))], [(0, some ⟨36, 0⟩)], [], 1⟩ [] (by kernel_rfl) trivial ?_
  obtain ⟨w114, cw114, h⟩ := bindS h
  refine f83_pack_Get_L3_ok n b [] sizes ((sizes.length : Nat) : Int) 0 w114 cw114 _ ?_
  rcases w114 with e115 | e116
  · have h := Option.some.inj h
    subst h
    rfl
  · show At Go.Proofs.Try.prog Go.Proofs.Try.f83 0 16 ⟨[(0, .one (.c (.d (.sl (.int .u8) e116.1)))), (7, .one (.c (.own 0 (.int .u64) e116.2)))], [(0, some ⟨36, 0⟩)], [], 1⟩ _
    obtain ⟨g117_0, h⟩ := ifS h
    have h := Option.some.inj h
    subst h
    exact At.fin hm ht ⟨[], [], [], [4, 5, 6], [0, 3]⟩ [e116.1.length ≤ maxLen ∧ e116.1.length * 1 ≤ 140737488355328] (by kernel_rfl) ⟨g117_0, trivial⟩
/-! brougham/pack.All -/
def f81_pack_All_in (b : List Int) (sizes : List Int) : Inn := ⟨[.c (.d (.sl (.int .u8) b)), .c (.d (.sl (.int .i64) sizes))], [], [], 0⟩
def f81_pack_All_out (r : List Int × Bool) : Out := ⟨.tup [.c (.own 0 (.int .u64) r.1), .c (.d (.bool r.2))], [(0, ⟨36, 0⟩)], [], 1⟩
def f81_pack_All (n : Nat) (b : List Int) (sizes : List Int) : Option (List Int × Bool) :=
  (f83_pack_Get n b sizes).bind fun r123_0 =>
  if (!r123_0.2.2) = true then
    some ([], false)
  else
    if (decide ((((r123_0.2.1.length : Nat) : Int) : Int) > 0)) = true then
      some ([], false)
    else
      some (r123_0.1, true)
theorem f81_pack_All_ok (n : Nat) (b : List Int) (sizes : List Int) (r : List Int × Bool) (h : f81_pack_All n b sizes = some r) : FnOK Go.Proofs.Try.prog 81 (f81_pack_All_in b sizes) (f81_pack_All_out r) := by
  unfold f81_pack_All at h
  refine At.fn (r := 0) Go.Proofs.Try.func81 rfl (by kernel_rfl) rfl rfl (by kernel_rfl) ?_
  show At Go.Proofs.Try.prog Go.Proofs.Try.f81 0 0 ⟨[(0, .one (.c (.d (.sl (.int .u8) b)))), (1, .one (.c (.d (.sl (.int .i64) sizes))))], [], [], 0⟩ _
  refine At.step hm ht ⟨[], [], [], [0, 1], []⟩ 1 ⟨[(0, .one (.c (.d (.sl (.int .u8) b)))), (1, .one (.c (.d (.sl (.int .i64) sizes))))], [], [], 0⟩ [] (by kernel_rfl) trivial ?_
  obtain ⟨r123_0, cr123_0, h⟩ := bindS h
  refine At.step hm ht ⟨[(2, .call [] [] (f83_pack_Get_out r123_0))], [], [], [6, 7, 8], [2, 3]⟩ 2 ⟨[(6, .one (.c (.own 0 (.int .u64) r123_0.1))), (7, .one (.c (.own 1 (.int .u8) r123_0.2.1))), (8, .one (.c (.d (.bool r123_0.2.2))))], [(0, some ⟨36, 0⟩), (1, some ⟨5, 0⟩)], [], 2⟩ [FnOK Go.Proofs.Try.prog 83 (f83_pack_Get_in b sizes) (f83_pack_Get_out r123_0)] (by kernel_rfl) ⟨(f83_pack_Get_ok n b sizes r123_0 cr123_0), trivial⟩ ?_
  rcases iteS h with ⟨b124_2, h⟩ | ⟨b124_2, h⟩
  · refine At.step hm ht ⟨[(2, .b true)], [true], [], [], []⟩ 3 ⟨[], [], [], 0⟩ [(!r123_0.2.2) = true, true = true] (by kernel_rfl) ⟨b124_2, rfl, trivial⟩ ?_
    have h := Option.some.inj h
    subst h
    exact At.fin hm ht ⟨[], [], [.nil false 4 0 (.int .u64) (some 36)], [4, 5], [2]⟩ [] (by kernel_rfl) trivial
  · rcases iteS h with ⟨b124_e0, h⟩ | ⟨b124_e0, h⟩
    · refine At.step hm ht ⟨[(2, .b false)], [true], [], [], []⟩ 3 ⟨[], [], [], 0⟩ [(!r123_0.2.2) = false, (decide ((((r123_0.2.1.length : Nat) : Int) : Int) > 0)) = true] (by kernel_rfl) ⟨b124_2, b124_e0, trivial⟩ ?_
      have h := Option.some.inj h
      subst h
      exact At.fin hm ht ⟨[], [], [.nil false 4 0 (.int .u64) (some 36)], [4, 5], [2]⟩ [] (by kernel_rfl) trivial
    · refine At.step hm ht ⟨[(2, .b false)], [false], [], [6], [0]⟩ 4 ⟨[(6, .one (.c (.own 0 (.int .u64) r123_0.1)))], [(0, some ⟨36, 0⟩)], [], 1⟩ [(!r123_0.2.2) = false, (decide ((((r123_0.2.1.length : Nat) : Int) : Int) > 0)) = false] (by kernel_rfl) ⟨b124_2, b124_e0, trivial⟩ ?_
      have h := Option.some.inj h
      subst h
      exact At.fin hm ht ⟨[], [], [], [4, 5], [0]⟩ [] (by kernel_rfl) trivial
/-! brougham/opt.ParseKey -/
def f32_opt_ParseKey_in (o__0 : Int) (o__1 : List Int) : Inn := ⟨[.agg [.d (.int .u8 o__0), .d (.sl (.int .u8) o__1)]], [], [], 0⟩
def f32_opt_ParseKey_out (r : Bool × Int × Bool × Int) : Out := ⟨.tup [.agg [.d (.int .u64 r.2.1), .d (.bool r.2.2.1), .d (.int .u64 r.2.2.2)], .c (.d (.bool r.1))], [], [(0, [.d (.int .u64 r.2.1), .d (.bool r.2.2.1), .d (.int .u64 r.2.2.2)])], 1⟩
def f32_opt_ParseKey (n : Nat) (o__0 : Int) (o__1 : List Int) : Option (Bool × Int × Bool × Int) :=
  if ((o__0 : Int) != 1) = true then
    some (false, 0, false, 0)
  else
    (f81_pack_All n o__1 [8]).bind fun r36_0 =>
    if r36_0.2 = true then
      if (0 : Int) ≤ 0 ∧ 0 < (((r36_0.1).length : Nat) : Int) then
      some (true, (r36_0.1.getD 0 0), false, 0)
      else none
    else
      (f81_pack_All n o__1 [8, 8]).bind fun r130_0 =>
      if (!r130_0.2) = true then
        some (false, 0, false, 0)
      else
        if (0 : Int) ≤ 0 ∧ 0 < (((r130_0.1).length : Nat) : Int) then
        if (0 : Int) ≤ 1 ∧ 1 < (((r130_0.1).length : Nat) : Int) then
        some (true, (r130_0.1.getD 0 0), true, (r130_0.1.getD 1 0))
        else none
        else none
theorem f32_opt_ParseKey_ok (n : Nat) (o__0 : Int) (o__1 : List Int) (r : Bool × Int × Bool × Int) (h : f32_opt_ParseKey n o__0 o__1 = some r) : FnOK Go.Proofs.Try.prog 32 (f32_opt_ParseKey_in o__0 o__1) (f32_opt_ParseKey_out r) := by
  unfold f32_opt_ParseKey at h
  refine At.fn (r := 0) Go.Proofs.Try.func32 rfl (by kernel_rfl) rfl rfl (by kernel_rfl) ?_
  show At Go.Proofs.Try.prog Go.Proofs.Try.f32 0 0 ⟨[(0, .one (.agg [.d (.int .u8 o__0), .d (.sl (.int .u8) o__1)]))], [], [], 0⟩ _
  refine At.step hm ht ⟨[], [], [], [1, 2], [0, 1]⟩ 1 ⟨[(1, .one (.c (.ptr 0 0))), (2, .one (.c (.ptr 1 0)))], [], [(0, [.d (.int .u8 o__0), .d (.sl (.int .u8) o__1)]), (1, [.d (.int .u64 0), .d (.bool false), .d (.int .u64 0)])], 2⟩ [] (by kernel_rfl) trivial ?_
  rcases iteS h with ⟨b34_e0, h⟩ | ⟨b34_e0, h⟩
  · refine At.step hm ht ⟨[], [true], [], [2], [1]⟩ 2 ⟨[(2, .one (.c (.ptr 0 0)))], [], [(0, [.d (.int .u64 0), .d (.bool false), .d (.int .u64 0)])], 1⟩ [((o__0 : Int) != 1) = true] (by kernel_rfl) ⟨b34_e0, trivial⟩ ?_
    have h := Option.some.inj h
    subst h
    exact At.fin hm ht ⟨[], [], [], [2, 3], [0]⟩ [0 + 3 ≤ 3] (by kernel_rfl) ⟨(by decide), trivial⟩
  · refine At.step hm ht ⟨[], [false], [], [1, 2], [0, 1]⟩ 3 ⟨[(1, .one (.c (.ptr 0 0))), (2, .one (.c (.ptr 1 0)))], [], [(0, [.d (.int .u8 o__0), .d (.sl (.int .u8) o__1)]), (1, [.d (.int .u64 0), .d (.bool false), .d (.int .u64 0)])], 2⟩ [((o__0 : Int) != 1) = false] (by kernel_rfl) ⟨b34_e0, trivial⟩ ?_
    obtain ⟨r36_0, cr36_0, h⟩ := bindS h
    refine At.step hm ht ⟨[(3, .call [] [] (f81_pack_All_out r36_0))], [], [], [1, 2, 4, 5], [0, 1, 5]⟩ 4 ⟨[(1, .one (.c (.ptr 0 0))), (2, .one (.c (.ptr 1 0))), (4, .one (.c (.own 2 (.int .u64) r36_0.1))), (5, .one (.c (.d (.bool r36_0.2))))], [(2, some ⟨36, 0⟩)], [(0, [.d (.int .u8 o__0), .d (.sl (.int .u8) o__1)]), (1, [.d (.int .u64 0), .d (.bool false), .d (.int .u64 0)])], 3⟩ [FnOK Go.Proofs.Try.prog 81 (f81_pack_All_in o__1 [8]) (f81_pack_All_out r36_0)] (by kernel_rfl) ⟨(f81_pack_All_ok n o__1 [8] r36_0 cr36_0), trivial⟩ ?_
    rcases iteS h with ⟨b128_e0, h⟩ | ⟨b128_e0, h⟩
    · refine At.step hm ht ⟨[], [true], [], [2, 4], [1, 2]⟩ 5 ⟨[(2, .one (.c (.ptr 0 0))), (4, .one (.c (.own 1 (.int .u64) r36_0.1)))], [(1, some ⟨36, 0⟩)], [(0, [.d (.int .u64 0), .d (.bool false), .d (.int .u64 0)])], 2⟩ [r36_0.2 = true] (by kernel_rfl) ⟨b128_e0, trivial⟩ ?_
      obtain ⟨g129_0, h⟩ := ifS h
      have h := Option.some.inj h
      subst h
      exact At.fin hm ht ⟨[], [], [], [2, 3], [0]⟩ [(0 : Int) ≤ 0 ∧ 0 < (((r36_0.1).length : Nat) : Int), 0 + 3 ≤ 3] (by kernel_rfl) ⟨g129_0, (by decide), trivial⟩
    · refine At.step hm ht ⟨[], [false], [], [1, 2], [0, 1]⟩ 6 ⟨[(1, .one (.c (.ptr 0 0))), (2, .one (.c (.ptr 1 0)))], [], [(0, [.d (.int .u8 o__0), .d (.sl (.int .u8) o__1)]), (1, [.d (.int .u64 0), .d (.bool false), .d (.int .u64 0)])], 2⟩ [r36_0.2 = false] (by kernel_rfl) ⟨b128_e0, trivial⟩ ?_
      obtain ⟨r130_0, cr130_0, h⟩ := bindS h
      refine At.step hm ht ⟨[(3, .call [] [] (f81_pack_All_out r130_0))], [], [], [2, 6, 7], [1, 5]⟩ 7 ⟨[(2, .one (.c (.ptr 0 0))), (6, .one (.c (.own 1 (.int .u64) r130_0.1))), (7, .one (.c (.d (.bool r130_0.2))))], [(1, some ⟨36, 0⟩)], [(0, [.d (.int .u64 0), .d (.bool false), .d (.int .u64 0)])], 2⟩ [FnOK Go.Proofs.Try.prog 81 (f81_pack_All_in o__1 [8, 8]) (f81_pack_All_out r130_0)] (by kernel_rfl) ⟨(f81_pack_All_ok n o__1 [8, 8] r130_0 cr130_0), trivial⟩ ?_
      rcases iteS h with ⟨b131_e0, h⟩ | ⟨b131_e0, h⟩
      · refine At.step hm ht ⟨[], [true], [], [2], [0]⟩ 8 ⟨[(2, .one (.c (.ptr 0 0)))], [], [(0, [.d (.int .u64 0), .d (.bool false), .d (.int .u64 0)])], 1⟩ [(!r130_0.2) = true] (by kernel_rfl) ⟨b131_e0, trivial⟩ ?_
        have h := Option.some.inj h
        subst h
        exact At.fin hm ht ⟨[], [], [], [2, 3], [0]⟩ [0 + 3 ≤ 3] (by kernel_rfl) ⟨(by decide), trivial⟩
      · refine At.step hm ht ⟨[], [false], [], [2, 6], [0, 1]⟩ 9 ⟨[(2, .one (.c (.ptr 0 0))), (6, .one (.c (.own 1 (.int .u64) r130_0.1)))], [(1, some ⟨36, 0⟩)], [(0, [.d (.int .u64 0), .d (.bool false), .d (.int .u64 0)])], 2⟩ [(!r130_0.2) = false] (by kernel_rfl) ⟨b131_e0, trivial⟩ ?_
        obtain ⟨g133_0, h⟩ := ifS h
        obtain ⟨g133_1, h⟩ := ifS h
        have h := Option.some.inj h
        subst h
        exact At.fin hm ht ⟨[], [], [], [2, 3], [0]⟩ [(0 : Int) ≤ 0 ∧ 0 < (((r130_0.1).length : Nat) : Int), (0 : Int) ≤ 1 ∧ 1 < (((r130_0.1).length : Nat) : Int), 0 + 3 ≤ 3] (by kernel_rfl) ⟨g133_0, g133_1, (by decide), trivial⟩
/-! brougham/pack.W -/
def f76_pack_W_in (n_ : Int) : Inn := ⟨[.c (.d (.int .u32 n_))], [], [], 0⟩
def f76_pack_W_out (r : Int × Int) : Out := ⟨.one (.agg [.d (.int .i64 r.1), .d (.int .u64 r.2)]), [], [(0, [.d (.int .i64 r.1), .d (.int .u64 r.2)])], 1⟩
def f76_pack_W (n_ : Int) : Option (Int × Int) :=
  some (4, (IntKind.wrap .u64 n_))
theorem f76_pack_W_ok (n_ : Int) (r : Int × Int) (h : f76_pack_W n_ = some r) : FnOK Go.Proofs.Try.prog 76 (f76_pack_W_in n_) (f76_pack_W_out r) := by
  unfold f76_pack_W at h
  refine At.fn (r := 0) Go.Proofs.Try.func76 rfl (by kernel_rfl) rfl rfl (by kernel_rfl) ?_
  show At Go.Proofs.Try.prog Go.Proofs.Try.f76 0 0 ⟨[(0, .one (.c (.d (.int .u32 n_))))], [], [], 0⟩ _
  refine At.step hm ht ⟨[], [], [], [0, 2], [0]⟩ 1 ⟨[(0, .one (.c (.d (.int .u32 n_)))), (2, .one (.c (.ptr 0 0)))], [], [(0, [.d (.int .i64 0), .d (.int .u64 0)])], 1⟩ [] (by kernel_rfl) trivial ?_
  have h := Option.some.inj h
  subst h
  exact At.fin hm ht ⟨[], [], [], [2], [0]⟩ [0 + 2 ≤ 2] (by kernel_rfl) ⟨(by decide), trivial⟩
/-! brougham/pack.B -/
def f77_pack_B_in (n_ : Int) : Inn := ⟨[.c (.d (.int .u8 n_))], [], [], 0⟩
def f77_pack_B_out (r : Int × Int) : Out := ⟨.one (.agg [.d (.int .i64 r.1), .d (.int .u64 r.2)]), [], [(0, [.d (.int .i64 r.1), .d (.int .u64 r.2)])], 1⟩
def f77_pack_B (n_ : Int) : Option (Int × Int) :=
  some (1, (IntKind.wrap .u64 n_))
theorem f77_pack_B_ok (n_ : Int) (r : Int × Int) (h : f77_pack_B n_ = some r) : FnOK Go.Proofs.Try.prog 77 (f77_pack_B_in n_) (f77_pack_B_out r) := by
  unfold f77_pack_B at h
  refine At.fn (r := 0) Go.Proofs.Try.func77 rfl (by kernel_rfl) rfl rfl (by kernel_rfl) ?_
  show At Go.Proofs.Try.prog Go.Proofs.Try.f77 0 0 ⟨[(0, .one (.c (.d (.int .u8 n_))))], [], [], 0⟩ _
  refine At.step hm ht ⟨[], [], [], [0, 2], [0]⟩ 1 ⟨[(0, .one (.c (.d (.int .u8 n_)))), (2, .one (.c (.ptr 0 0)))], [], [(0, [.d (.int .i64 0), .d (.int .u64 0)])], 1⟩ [] (by kernel_rfl) trivial ?_
  have h := Option.some.inj h
  subst h
  exact At.fin hm ht ⟨[], [], [], [2], [0]⟩ [0 + 2 ≤ 2] (by kernel_rfl) ⟨(by decide), trivial⟩
/-! brougham/pack.Flag -/
def f78_pack_Flag_in (is_ : Bool) : Inn := ⟨[.c (.d (.bool is_))], [], [], 0⟩
def f78_pack_Flag_out (r : Int × Int) : Out := ⟨.one (.agg [.d (.int .i64 r.1), .d (.int .u64 r.2)]), [], [(0, [.d (.int .i64 r.1), .d (.int .u64 r.2)])], 1⟩
def f78_pack_Flag (is_ : Bool) : Option (Int × Int) :=
  if is_ = true then
    (f77_pack_B 1).bind fun r143_0 =>
    some (r143_0.1, r143_0.2)
  else
    (f77_pack_B 0).bind fun r144_0 =>
    some (r144_0.1, r144_0.2)
theorem f78_pack_Flag_ok (is_ : Bool) (r : Int × Int) (h : f78_pack_Flag is_ = some r) : FnOK Go.Proofs.Try.prog 78 (f78_pack_Flag_in is_) (f78_pack_Flag_out r) := by
  unfold f78_pack_Flag at h
  refine At.fn (r := 0) Go.Proofs.Try.func78 rfl (by kernel_rfl) rfl rfl (by kernel_rfl) ?_
  show At Go.Proofs.Try.prog Go.Proofs.Try.f78 0 0 ⟨[(0, .one (.c (.d (.bool is_))))], [], [], 0⟩ _
  refine At.step hm ht ⟨[], [], [], [0, 2], [0]⟩ 1 ⟨[(0, .one (.c (.d (.bool is_)))), (2, .one (.c (.ptr 0 0)))], [], [(0, [.d (.int .i64 0), .d (.int .u64 0)])], 1⟩ [] (by kernel_rfl) trivial ?_
  rcases iteS h with ⟨b142_e0, h⟩ | ⟨b142_e0, h⟩
  · refine At.step hm ht ⟨[], [true], [], [2], [0]⟩ 2 ⟨[(2, .one (.c (.ptr 0 0)))], [], [(0, [.d (.int .i64 0), .d (.int .u64 0)])], 1⟩ [is_ = true] (by kernel_rfl) ⟨b142_e0, trivial⟩ ?_
    obtain ⟨r143_0, cr143_0, h⟩ := bindS h
    have h := Option.some.inj h
    subst h
    exact At.fin hm ht ⟨[(0, .call [] [] (f77_pack_B_out r143_0))], [], [], [2], [0]⟩ [FnOK Go.Proofs.Try.prog 77 (f77_pack_B_in 1) (f77_pack_B_out r143_0), 0 + 2 ≤ 2] (by kernel_rfl) ⟨(f77_pack_B_ok 1 r143_0 cr143_0), (by decide), trivial⟩
  · refine At.step hm ht ⟨[], [false], [], [2], [0]⟩ 3 ⟨[(2, .one (.c (.ptr 0 0)))], [], [(0, [.d (.int .i64 0), .d (.int .u64 0)])], 1⟩ [is_ = false] (by kernel_rfl) ⟨b142_e0, trivial⟩ ?_
    obtain ⟨r144_0, cr144_0, h⟩ := bindS h
    have h := Option.some.inj h
    subst h
    exact At.fin hm ht ⟨[(0, .call [] [] (f77_pack_B_out r144_0))], [], [], [2], [0]⟩ [FnOK Go.Proofs.Try.prog 77 (f77_pack_B_in 0) (f77_pack_B_out r144_0), 0 + 2 ≤ 2] (by kernel_rfl) ⟨(f77_pack_B_ok 0 r144_0 cr144_0), (by decide), trivial⟩
/-! (brougham/opt.Join).Option -/
def f23_opt_Join_Option_in (j_0 : Int) (j_1 : Int) (j_2 : Int) (j_3 : Bool) (j_4 : Bool) (j_5 : Int) : Inn := ⟨[.agg [.d (.int .u32 j_0), .d (.int .u32 j_1), .d (.int .u8 j_2), .d (.bool j_3), .d (.bool j_4), .d (.int .u64 j_5)]], [], [], 0⟩
def f23_opt_Join_Option_out (r : Int × List Int) : Out := ⟨.one (.agg [.d (.int .u8 r.1), .own 1 (.int .u8) r.2]), [(1, ⟨5, 0⟩)], [(0, [.d (.int .u8 r.1), .own 1 (.int .u8) r.2])], 2⟩
def f23_opt_Join_Option (n : Nat) (j_0 : Int) (j_1 : Int) (j_2 : Int) (j_3 : Bool) (j_4 : Bool) (j_5 : Int) : Option (Int × List Int) :=
  (f76_pack_W j_0).bind fun r136_0 =>
  (f76_pack_W j_1).bind fun r136_1 =>
  (f77_pack_B j_2).bind fun r136_2 =>
  (f78_pack_Flag j_3).bind fun r136_3 =>
  (f73_pack_Put n [] [r136_0, r136_1, r136_2, r136_3]).bind fun r136_4 =>
  if j_4 = true then
    (f74_pack_Q j_5).bind fun r146_0 =>
    (f73_pack_Put n r136_4 [r146_0]).bind fun r146_1 =>
    some (2, r146_1)
  else
    some (2, r136_4)
theorem f23_opt_Join_Option_ok (n : Nat) (j_0 : Int) (j_1 : Int) (j_2 : Int) (j_3 : Bool) (j_4 : Bool) (j_5 : Int) (r : Int × List Int) (h : f23_opt_Join_Option n j_0 j_1 j_2 j_3 j_4 j_5 = some r) : FnOK Go.Proofs.Try.prog 23 (f23_opt_Join_Option_in j_0 j_1 j_2 j_3 j_4 j_5) (f23_opt_Join_Option_out r) := by
  unfold f23_opt_Join_Option at h
  refine At.fn (r := 0) Go.Proofs.Try.func23 rfl (by kernel_rfl) rfl rfl (by kernel_rfl) ?_
  show At Go.Proofs.Try.prog Go.Proofs.Try.f23 0 0 ⟨[(0, .one (.agg [.d (.int .u32 j_0), .d (.int .u32 j_1), .d (.int .u8 j_2), .d (.bool j_3), .d (.bool j_4), .d (.int .u64 j_5)]))], [], [], 0⟩ _
  refine At.step hm ht ⟨[], [], [], [1, 2], [0, 1]⟩ 1 ⟨[(1, .one (.c (.ptr 0 0))), (2, .one (.c (.ptr 1 0)))], [], [(0, [.d (.int .u32 j_0), .d (.int .u32 j_1), .d (.int .u8 j_2), .d (.bool j_3), .d (.bool j_4), .d (.int .u64 j_5)]), (1, [.d (.int .u8 0), .d (.sl .unit [])])], 2⟩ [] (by kernel_rfl) trivial ?_
  obtain ⟨r136_0, cr136_0, h⟩ := bindS h
  obtain ⟨r136_1, cr136_1, h⟩ := bindS h
  obtain ⟨r136_2, cr136_2, h⟩ := bindS h
  obtain ⟨r136_3, cr136_3, h⟩ := bindS h
  obtain ⟨r136_4, cr136_4, h⟩ := bindS h
  refine At.step hm ht ⟨[(2, .call [] [] (f76_pack_W_out r136_0)), (5, .call [] [] (f76_pack_W_out r136_1)), (8, .call [] [] (f77_pack_B_out r136_2)), (11, .call [] [] (f78_pack_Flag_out r136_3)), (13, .call [] [(0, 0, (.int .u8))] (f73_pack_Put_out r136_4))], [], [], [1, 2, 3], [0, 1, 15]⟩ 2 ⟨[(1, .one (.c (.ptr 0 0))), (2, .one (.c (.ptr 1 0))), (3, .one (.c (.own 2 (.int .u8) r136_4)))], [(2, some ⟨5, 0⟩)], [(0, [.d (.int .u32 j_0), .d (.int .u32 j_1), .d (.int .u8 j_2), .d (.bool j_3), .d (.bool j_4), .d (.int .u64 j_5)]), (1, [.d (.int .u8 0), .d (.sl .unit [])])], 3⟩ [FnOK Go.Proofs.Try.prog 76 (f76_pack_W_in j_0) (f76_pack_W_out r136_0), FnOK Go.Proofs.Try.prog 76 (f76_pack_W_in j_1) (f76_pack_W_out r136_1), FnOK Go.Proofs.Try.prog 77 (f77_pack_B_in j_2) (f77_pack_B_out r136_2), FnOK Go.Proofs.Try.prog 78 (f78_pack_Flag_in j_3) (f78_pack_Flag_out r136_3), FnOK Go.Proofs.Try.prog 73 (f73_pack_Put_in [] [r136_0, r136_1, r136_2, r136_3]) (f73_pack_Put_out r136_4)] (by kernel_rfl) ⟨(f76_pack_W_ok j_0 r136_0 cr136_0), (f76_pack_W_ok j_1 r136_1 cr136_1), (f77_pack_B_ok j_2 r136_2 cr136_2), (f78_pack_Flag_ok j_3 r136_3 cr136_3), (f73_pack_Put_ok n [] [r136_0, r136_1, r136_2, r136_3] r136_4 cr136_4), trivial⟩ ?_
  rcases iteS h with ⟨b145_e0, h⟩ | ⟨b145_e0, h⟩
  · refine At.step hm ht ⟨[], [true], [], [1, 2, 3], [0, 1, 2]⟩ 3 ⟨[(1, .one (.c (.ptr 0 0))), (2, .one (.c (.ptr 1 0))), (3, .one (.c (.own 2 (.int .u8) r136_4)))], [(2, some ⟨5, 0⟩)], [(0, [.d (.int .u32 j_0), .d (.int .u32 j_1), .d (.int .u8 j_2), .d (.bool j_3), .d (.bool j_4), .d (.int .u64 j_5)]), (1, [.d (.int .u8 0), .d (.sl .unit [])])], 3⟩ [j_4 = true] (by kernel_rfl) ⟨b145_e0, trivial⟩ ?_
    obtain ⟨r146_0, cr146_0, h⟩ := bindS h
    obtain ⟨r146_1, cr146_1, h⟩ := bindS h
    refine At.step hm ht ⟨[(4, .call [] [] (f74_pack_Q_out r146_0)), (6, .call [] [] (f73_pack_Put_out r146_1))], [], [], [2, 3], [1, 9]⟩ 4 ⟨[(2, .one (.c (.ptr 0 0))), (3, .one (.c (.own 1 (.int .u8) r146_1)))], [(1, some ⟨5, 0⟩)], [(0, [.d (.int .u8 0), .d (.sl .unit [])])], 2⟩ [FnOK Go.Proofs.Try.prog 74 (f74_pack_Q_in j_5) (f74_pack_Q_out r146_0), FnOK Go.Proofs.Try.prog 73 (f73_pack_Put_in r136_4 [r146_0]) (f73_pack_Put_out r146_1)] (by kernel_rfl) ⟨(f74_pack_Q_ok j_5 r146_0 cr146_0), (f73_pack_Put_ok n r136_4 [r146_0] r146_1 cr146_1), trivial⟩ ?_
    have h := Option.some.inj h
    subst h
    exact At.fin hm ht ⟨[], [], [], [2], [0, 1]⟩ [0 + 2 ≤ 2] (by kernel_rfl) ⟨(by decide), trivial⟩
  · refine At.step hm ht ⟨[], [false], [], [2, 3], [1, 2]⟩ 4 ⟨[(2, .one (.c (.ptr 0 0))), (3, .one (.c (.own 1 (.int .u8) r136_4)))], [(1, some ⟨5, 0⟩)], [(0, [.d (.int .u8 0), .d (.sl .unit [])])], 2⟩ [j_4 = false] (by kernel_rfl) ⟨b145_e0, trivial⟩ ?_
    have h := Option.some.inj h
    subst h
    exact At.fin hm ht ⟨[], [], [], [2], [0, 1]⟩ [0 + 2 ≤ 2] (by kernel_rfl) ⟨(by decide), trivial⟩
/-! brougham/opt.ParseJoin -/
def f34_opt_ParseJoin_in (o__0 : Int) (o__1 : List Int) : Inn := ⟨[.agg [.d (.int .u8 o__0), .d (.sl (.int .u8) o__1)]], [], [], 0⟩
def f34_opt_ParseJoin_out (r : Bool × Int × Int × Int × Bool × Bool × Int) : Out := ⟨.tup [.agg [.d (.int .u32 r.2.1), .d (.int .u32 r.2.2.1), .d (.int .u8 r.2.2.2.1), .d (.bool r.2.2.2.2.1), .d (.bool r.2.2.2.2.2.1), .d (.int .u64 r.2.2.2.2.2.2)], .c (.d (.bool r.1))], [], [(0, [.d (.int .u32 r.2.1), .d (.int .u32 r.2.2.1), .d (.int .u8 r.2.2.2.1), .d (.bool r.2.2.2.2.1), .d (.bool r.2.2.2.2.2.1), .d (.int .u64 r.2.2.2.2.2.2)])], 1⟩
def f34_opt_ParseJoin (n : Nat) (o__0 : Int) (o__1 : List Int) : Option (Bool × Int × Int × Int × Bool × Bool × Int) :=
  (f83_pack_Get n o__1 [4, 4, 1, 1]).bind fun r150_0 =>
  if ((o__0 : Int) != 2) = true then
    some (false, 0, 0, 0, false, false, 0)
  else
    if (!r150_0.2.2) = true then
      some (false, 0, 0, 0, false, false, 0)
    else
      if (0 : Int) ≤ 3 ∧ 3 < (((r150_0.1).length : Nat) : Int) then
      if (decide (((r150_0.1.getD 3 0) : Int) > 1)) = true then
        some (false, 0, 0, 0, false, false, 0)
      else
        if (0 : Int) ≤ 0 ∧ 0 < (((r150_0.1).length : Nat) : Int) then
        if (0 : Int) ≤ 1 ∧ 1 < (((r150_0.1).length : Nat) : Int) then
        if (0 : Int) ≤ 2 ∧ 2 < (((r150_0.1).length : Nat) : Int) then
        if (0 : Int) ≤ 3 ∧ 3 < (((r150_0.1).length : Nat) : Int) then
        if ((((r150_0.2.1.length : Nat) : Int) : Int) == 0) = true then
          some (true, (IntKind.wrap .u32 (r150_0.1.getD 0 0)), (IntKind.wrap .u32 (r150_0.1.getD 1 0)), (IntKind.wrap .u8 (r150_0.1.getD 2 0)), (((r150_0.1.getD 3 0) : Int) == 1), false, 0)
        else
          (f81_pack_All n r150_0.2.1 [8]).bind fun r158_0 =>
          if (!r158_0.2) = true then
            some (false, 0, 0, 0, false, false, 0)
          else
            if (0 : Int) ≤ 0 ∧ 0 < (((r158_0.1).length : Nat) : Int) then
            some (true, (IntKind.wrap .u32 (r150_0.1.getD 0 0)), (IntKind.wrap .u32 (r150_0.1.getD 1 0)), (IntKind.wrap .u8 (r150_0.1.getD 2 0)), (((r150_0.1.getD 3 0) : Int) == 1), true, (r158_0.1.getD 0 0))
            else none
        else none
        else none
        else none
        else none
      else none
theorem f34_opt_ParseJoin_ok (n : Nat) (o__0 : Int) (o__1 : List Int) (r : Bool × Int × Int × Int × Bool × Bool × Int) (h : f34_opt_ParseJoin n o__0 o__1 = some r) : FnOK Go.Proofs.Try.prog 34 (f34_opt_ParseJoin_in o__0 o__1) (f34_opt_ParseJoin_out r) := by
  unfold f34_opt_ParseJoin at h
  refine At.fn (r := 0) Go.Proofs.Try.func34 rfl (by kernel_rfl) rfl rfl (by kernel_rfl) ?_
  show At Go.Proofs.Try.prog Go.Proofs.Try.f34 0 0 ⟨[(0, .one (.agg [.d (.int .u8 o__0), .d (.sl (.int .u8) o__1)]))], [], [], 0⟩ _
  refine At.step hm ht ⟨[], [], [], [1, 2], [0, 1]⟩ 1 ⟨[(1, .one (.c (.ptr 0 0))), (2, .one (.c (.ptr 1 0)))], [], [(0, [.d (.int .u8 o__0), .d (.sl (.int .u8) o__1)]), (1, [.d (.int .u32 0), .d (.int .u32 0), .d (.int .u8 0), .d (.bool false), .d (.bool false), .d (.int .u64 0)])], 2⟩ [] (by kernel_rfl) trivial ?_
  obtain ⟨r150_0, cr150_0, h⟩ := bindS h
  refine At.step hm ht ⟨[(3, .call [] [] (f83_pack_Get_out r150_0))], [], [], [1, 2, 4, 5, 6], [0, 1, 5, 6]⟩ 2 ⟨[(1, .one (.c (.ptr 0 0))), (2, .one (.c (.ptr 1 0))), (4, .one (.c (.own 2 (.int .u64) r150_0.1))), (5, .one (.c (.own 3 (.int .u8) r150_0.2.1))), (6, .one (.c (.d (.bool r150_0.2.2))))], [(2, some ⟨36, 0⟩), (3, some ⟨5, 0⟩)], [(0, [.d (.int .u8 o__0), .d (.sl (.int .u8) o__1)]), (1, [.d (.int .u32 0), .d (.int .u32 0), .d (.int .u8 0), .d (.bool false), .d (.bool false), .d (.int .u64 0)])], 4⟩ [FnOK Go.Proofs.Try.prog 83 (f83_pack_Get_in o__1 [4, 4, 1, 1]) (f83_pack_Get_out r150_0)] (by kernel_rfl) ⟨(f83_pack_Get_ok n o__1 [4, 4, 1, 1] r150_0 cr150_0), trivial⟩ ?_
  rcases iteS h with ⟨b151_3, h⟩ | ⟨b151_3, h⟩
  · refine At.step hm ht ⟨[(3, .b true)], [true], [], [2], [1]⟩ 3 ⟨[(2, .one (.c (.ptr 0 0)))], [], [(0, [.d (.int .u32 0), .d (.int .u32 0), .d (.int .u8 0), .d (.bool false), .d (.bool false), .d (.int .u64 0)])], 1⟩ [((o__0 : Int) != 2) = true, true = true] (by kernel_rfl) ⟨b151_3, rfl, trivial⟩ ?_
    have h := Option.some.inj h
    subst h
    exact At.fin hm ht ⟨[], [], [], [2, 3], [0]⟩ [0 + 6 ≤ 6] (by kernel_rfl) ⟨(by decide), trivial⟩
  · rcases iteS h with ⟨b151_7, h⟩ | ⟨b151_7, h⟩
    · refine At.step hm ht ⟨[(3, .b false), (7, .b true)], [true], [], [2], [1]⟩ 3 ⟨[(2, .one (.c (.ptr 0 0)))], [], [(0, [.d (.int .u32 0), .d (.int .u32 0), .d (.int .u8 0), .d (.bool false), .d (.bool false), .d (.int .u64 0)])], 1⟩ [((o__0 : Int) != 2) = false, (!r150_0.2.2) = true, true = true] (by kernel_rfl) ⟨b151_3, b151_7, rfl, trivial⟩ ?_
      have h := Option.some.inj h
      subst h
      exact At.fin hm ht ⟨[], [], [], [2, 3], [0]⟩ [0 + 6 ≤ 6] (by kernel_rfl) ⟨(by decide), trivial⟩
    · obtain ⟨g151_0, h⟩ := ifS h
      rcases iteS h with ⟨b151_e0, h⟩ | ⟨b151_e0, h⟩
      · refine At.step hm ht ⟨[(3, .b false), (7, .b false)], [true], [], [2], [1]⟩ 3 ⟨[(2, .one (.c (.ptr 0 0)))], [], [(0, [.d (.int .u32 0), .d (.int .u32 0), .d (.int .u8 0), .d (.bool false), .d (.bool false), .d (.int .u64 0)])], 1⟩ [((o__0 : Int) != 2) = false, (!r150_0.2.2) = false, (0 : Int) ≤ 3 ∧ 3 < (((r150_0.1).length : Nat) : Int), (decide (((r150_0.1.getD 3 0) : Int) > 1)) = true] (by kernel_rfl) ⟨b151_3, b151_7, g151_0, b151_e0, trivial⟩ ?_
        have h := Option.some.inj h
        subst h
        exact At.fin hm ht ⟨[], [], [], [2, 3], [0]⟩ [0 + 6 ≤ 6] (by kernel_rfl) ⟨(by decide), trivial⟩
      · refine At.step hm ht ⟨[(3, .b false), (7, .b false)], [false], [], [2, 4, 5], [1, 2, 3]⟩ 4 ⟨[(2, .one (.c (.ptr 0 0))), (4, .one (.c (.own 1 (.int .u64) r150_0.1))), (5, .one (.c (.own 2 (.int .u8) r150_0.2.1)))], [(1, some ⟨36, 0⟩), (2, some ⟨5, 0⟩)], [(0, [.d (.int .u32 0), .d (.int .u32 0), .d (.int .u8 0), .d (.bool false), .d (.bool false), .d (.int .u64 0)])], 3⟩ [((o__0 : Int) != 2) = false, (!r150_0.2.2) = false, (0 : Int) ≤ 3 ∧ 3 < (((r150_0.1).length : Nat) : Int), (decide (((r150_0.1.getD 3 0) : Int) > 1)) = false] (by kernel_rfl) ⟨b151_3, b151_7, g151_0, b151_e0, trivial⟩ ?_
        obtain ⟨g155_0, h⟩ := ifS h
        obtain ⟨g155_1, h⟩ := ifS h
        obtain ⟨g155_2, h⟩ := ifS h
        obtain ⟨g155_3, h⟩ := ifS h
        refine At.step hm ht ⟨[], [], [], [2, 5, 7], [0, 2, 20]⟩ 5 ⟨[(2, .one (.c (.ptr 0 0))), (5, .one (.c (.own 1 (.int .u8) r150_0.2.1))), (7, .one (.c (.ptr 2 0)))], [(1, some ⟨5, 0⟩)], [(0, [.d (.int .u32 0), .d (.int .u32 0), .d (.int .u8 0), .d (.bool false), .d (.bool false), .d (.int .u64 0)]), (2, [.d (.int .u32 (IntKind.wrap .u32 (r150_0.1.getD 0 0))), .d (.int .u32 (IntKind.wrap .u32 (r150_0.1.getD 1 0))), .d (.int .u8 (IntKind.wrap .u8 (r150_0.1.getD 2 0))), .d (.bool (((r150_0.1.getD 3 0) : Int) == 1)), .d (.bool false), .d (.int .u64 0)])], 3⟩ [(0 : Int) ≤ 0 ∧ 0 < (((r150_0.1).length : Nat) : Int), (0 : Int) ≤ 1 ∧ 1 < (((r150_0.1).length : Nat) : Int), (0 : Int) ≤ 2 ∧ 2 < (((r150_0.1).length : Nat) : Int), (0 : Int) ≤ 3 ∧ 3 < (((r150_0.1).length : Nat) : Int), 0 + 6 ≤ 6] (by kernel_rfl) ⟨g155_0, g155_1, g155_2, g155_3, (by decide), trivial⟩ ?_
        rcases iteS h with ⟨b156_e0, h⟩ | ⟨b156_e0, h⟩
        · refine At.step hm ht ⟨[], [true], [], [2, 7], [0, 2]⟩ 6 ⟨[(2, .one (.c (.ptr 0 0))), (7, .one (.c (.ptr 1 0)))], [], [(0, [.d (.int .u32 0), .d (.int .u32 0), .d (.int .u8 0), .d (.bool false), .d (.bool false), .d (.int .u64 0)]), (1, [.d (.int .u32 (IntKind.wrap .u32 (r150_0.1.getD 0 0))), .d (.int .u32 (IntKind.wrap .u32 (r150_0.1.getD 1 0))), .d (.int .u8 (IntKind.wrap .u8 (r150_0.1.getD 2 0))), .d (.bool (((r150_0.1.getD 3 0) : Int) == 1)), .d (.bool false), .d (.int .u64 0)])], 2⟩ [((((r150_0.2.1.length : Nat) : Int) : Int) == 0) = true] (by kernel_rfl) ⟨b156_e0, trivial⟩ ?_
          have h := Option.some.inj h
          subst h
          exact At.fin hm ht ⟨[], [], [], [2, 3], [0]⟩ [0 + 6 ≤ 6] (by kernel_rfl) ⟨(by decide), trivial⟩
        · refine At.step hm ht ⟨[], [false], [], [2, 5, 7], [0, 1, 2]⟩ 7 ⟨[(2, .one (.c (.ptr 0 0))), (5, .one (.c (.own 1 (.int .u8) r150_0.2.1))), (7, .one (.c (.ptr 2 0)))], [(1, some ⟨5, 0⟩)], [(0, [.d (.int .u32 0), .d (.int .u32 0), .d (.int .u8 0), .d (.bool false), .d (.bool false), .d (.int .u64 0)]), (2, [.d (.int .u32 (IntKind.wrap .u32 (r150_0.1.getD 0 0))), .d (.int .u32 (IntKind.wrap .u32 (r150_0.1.getD 1 0))), .d (.int .u8 (IntKind.wrap .u8 (r150_0.1.getD 2 0))), .d (.bool (((r150_0.1.getD 3 0) : Int) == 1)), .d (.bool false), .d (.int .u64 0)])], 3⟩ [((((r150_0.2.1.length : Nat) : Int) : Int) == 0) = false] (by kernel_rfl) ⟨b156_e0, trivial⟩ ?_
          obtain ⟨r158_0, cr158_0, h⟩ := bindS h
          refine At.step hm ht ⟨[(2, .call [] [] (f81_pack_All_out r158_0))], [], [], [2, 6, 7, 8], [0, 2, 5]⟩ 8 ⟨[(2, .one (.c (.ptr 0 0))), (6, .one (.c (.d (.bool r158_0.2)))), (7, .one (.c (.ptr 1 0))), (8, .one (.c (.own 2 (.int .u64) r158_0.1)))], [(2, some ⟨36, 0⟩)], [(0, [.d (.int .u32 0), .d (.int .u32 0), .d (.int .u8 0), .d (.bool false), .d (.bool false), .d (.int .u64 0)]), (1, [.d (.int .u32 (IntKind.wrap .u32 (r150_0.1.getD 0 0))), .d (.int .u32 (IntKind.wrap .u32 (r150_0.1.getD 1 0))), .d (.int .u8 (IntKind.wrap .u8 (r150_0.1.getD 2 0))), .d (.bool (((r150_0.1.getD 3 0) : Int) == 1)), .d (.bool false), .d (.int .u64 0)])], 3⟩ [FnOK Go.Proofs.Try.prog 81 (f81_pack_All_in r150_0.2.1 [8]) (f81_pack_All_out r158_0)] (by kernel_rfl) ⟨(f81_pack_All_ok n r150_0.2.1 [8] r158_0 cr158_0), trivial⟩ ?_
          rcases iteS h with ⟨b159_e0, h⟩ | ⟨b159_e0, h⟩
          · refine At.step hm ht ⟨[], [true], [], [2], [0]⟩ 9 ⟨[(2, .one (.c (.ptr 0 0)))], [], [(0, [.d (.int .u32 0), .d (.int .u32 0), .d (.int .u8 0), .d (.bool false), .d (.bool false), .d (.int .u64 0)])], 1⟩ [(!r158_0.2) = true] (by kernel_rfl) ⟨b159_e0, trivial⟩ ?_
            have h := Option.some.inj h
            subst h
            exact At.fin hm ht ⟨[], [], [], [2, 3], [0]⟩ [0 + 6 ≤ 6] (by kernel_rfl) ⟨(by decide), trivial⟩
          · refine At.step hm ht ⟨[], [false], [], [2, 7, 8], [0, 1, 2]⟩ 10 ⟨[(2, .one (.c (.ptr 0 0))), (7, .one (.c (.ptr 1 0))), (8, .one (.c (.own 2 (.int .u64) r158_0.1)))], [(2, some ⟨36, 0⟩)], [(0, [.d (.int .u32 0), .d (.int .u32 0), .d (.int .u8 0), .d (.bool false), .d (.bool false), .d (.int .u64 0)]), (1, [.d (.int .u32 (IntKind.wrap .u32 (r150_0.1.getD 0 0))), .d (.int .u32 (IntKind.wrap .u32 (r150_0.1.getD 1 0))), .d (.int .u8 (IntKind.wrap .u8 (r150_0.1.getD 2 0))), .d (.bool (((r150_0.1.getD 3 0) : Int) == 1)), .d (.bool false), .d (.int .u64 0)])], 3⟩ [(!r158_0.2) = false] (by kernel_rfl) ⟨b159_e0, trivial⟩ ?_
            obtain ⟨g161_0, h⟩ := ifS h
            refine At.step hm ht ⟨[], [], [], [2, 7], [0, 1]⟩ 11 ⟨[(2, .one (.c (.ptr 0 0))), (7, .one (.c (.ptr 1 0)))], [], [(0, [.d (.int .u32 0), .d (.int .u32 0), .d (.int .u8 0), .d (.bool false), .d (.bool false), .d (.int .u64 0)]), (1, [.d (.int .u32 (IntKind.wrap .u32 (r150_0.1.getD 0 0))), .d (.int .u32 (IntKind.wrap .u32 (r150_0.1.getD 1 0))), .d (.int .u8 (IntKind.wrap .u8 (r150_0.1.getD 2 0))), .d (.bool (((r150_0.1.getD 3 0) : Int) == 1)), .d (.bool true), .d (.int .u64 (r158_0.1.getD 0 0))])], 2⟩ [(0 : Int) ≤ 0 ∧ 0 < (((r158_0.1).length : Nat) : Int), 4 + 1 ≤ 6, 5 + 1 ≤ 6] (by kernel_rfl) ⟨g161_0, (by decide), (by decide), trivial⟩ ?_
            have h := Option.some.inj h
            subst h
            exact At.fin hm ht ⟨[], [], [], [2, 3], [0]⟩ [0 + 6 ≤ 6] (by kernel_rfl) ⟨(by decide), trivial⟩
/-! brougham/opt.bits -/
def f80_opt_bits_in (a : Bool) (b : Bool) : Inn := ⟨[.c (.d (.bool a)), .c (.d (.bool b))], [], [], 0⟩
def f80_opt_bits_out (r : Int) : Out := ⟨.one (.c (.d (.int .u8 r))), [], [], 0⟩
def f80_opt_bits (a : Bool) (b : Bool) : Option (Int) :=
  if a = true then
    if b = true then
      some (bits .or .u8 (bits .or .u8 0 1) 2)
    else
      some (bits .or .u8 0 1)
  else
    if b = true then
      some (bits .or .u8 0 2)
    else
      some 0
theorem f80_opt_bits_ok (a : Bool) (b : Bool) (r : Int) (h : f80_opt_bits a b = some r) : FnOK Go.Proofs.Try.prog 80 (f80_opt_bits_in a b) (f80_opt_bits_out r) := by
  unfold f80_opt_bits at h
  refine At.fn (r := 0) Go.Proofs.Try.func80 rfl (by kernel_rfl) rfl rfl (by kernel_rfl) ?_
  show At Go.Proofs.Try.prog Go.Proofs.Try.f80 0 0 ⟨[(0, .one (.c (.d (.bool a)))), (1, .one (.c (.d (.bool b))))], [], [], 0⟩ _
  refine At.step hm ht ⟨[], [], [], [0, 1], []⟩ 1 ⟨[(0, .one (.c (.d (.bool a)))), (1, .one (.c (.d (.bool b))))], [], [], 0⟩ [] (by kernel_rfl) trivial ?_
  refine At.step hm ht ⟨[], [], [], [0, 1, 5], []⟩ 2 ⟨[(0, .one (.c (.d (.bool a)))), (1, .one (.c (.d (.bool b)))), (5, .one (.c (.d (.int .u8 0))))], [], [], 0⟩ [] (by kernel_rfl) trivial ?_
  rcases iteS h with ⟨b168_e0, h⟩ | ⟨b168_e0, h⟩
  · refine At.step hm ht ⟨[], [true], [], [1, 5], []⟩ 3 ⟨[(1, .one (.c (.d (.bool b)))), (5, .one (.c (.d (.int .u8 0))))], [], [], 0⟩ [a = true] (by kernel_rfl) ⟨b168_e0, trivial⟩ ?_
    refine At.step hm ht ⟨[], [], [], [1, 5], []⟩ 4 ⟨[(1, .one (.c (.d (.bool b)))), (5, .one (.c (.d (.int .u8 (bits .or .u8 0 1)))))], [], [], 0⟩ [] (by kernel_rfl) trivial ?_
    rcases iteS h with ⟨b170_e0, h⟩ | ⟨b170_e0, h⟩
    · refine At.step hm ht ⟨[], [true], [], [5], []⟩ 5 ⟨[(5, .one (.c (.d (.int .u8 (bits .or .u8 0 1)))))], [], [], 0⟩ [b = true] (by kernel_rfl) ⟨b170_e0, trivial⟩ ?_
      refine At.step hm ht ⟨[], [], [], [5], []⟩ 6 ⟨[(5, .one (.c (.d (.int .u8 (bits .or .u8 (bits .or .u8 0 1) 2)))))], [], [], 0⟩ [] (by kernel_rfl) trivial ?_
      have h := Option.some.inj h
      subst h
      exact At.fin hm ht ⟨[], [], [], [4], []⟩ [] (by kernel_rfl) trivial
    · refine At.step hm ht ⟨[], [false], [], [5], []⟩ 6 ⟨[(5, .one (.c (.d (.int .u8 (bits .or .u8 0 1)))))], [], [], 0⟩ [b = false] (by kernel_rfl) ⟨b170_e0, trivial⟩ ?_
      have h := Option.some.inj h
      subst h
      exact At.fin hm ht ⟨[], [], [], [4], []⟩ [] (by kernel_rfl) trivial
  · refine At.step hm ht ⟨[], [false], [], [1, 5], []⟩ 4 ⟨[(1, .one (.c (.d (.bool b)))), (5, .one (.c (.d (.int .u8 0))))], [], [], 0⟩ [a = false] (by kernel_rfl) ⟨b168_e0, trivial⟩ ?_
    rcases iteS h with ⟨b174_e0, h⟩ | ⟨b174_e0, h⟩
    · refine At.step hm ht ⟨[], [true], [], [5], []⟩ 5 ⟨[(5, .one (.c (.d (.int .u8 0))))], [], [], 0⟩ [b = true] (by kernel_rfl) ⟨b174_e0, trivial⟩ ?_
      refine At.step hm ht ⟨[], [], [], [5], []⟩ 6 ⟨[(5, .one (.c (.d (.int .u8 (bits .or .u8 0 2)))))], [], [], 0⟩ [] (by kernel_rfl) trivial ?_
      have h := Option.some.inj h
      subst h
      exact At.fin hm ht ⟨[], [], [], [4], []⟩ [] (by kernel_rfl) trivial
    · refine At.step hm ht ⟨[], [false], [], [5], []⟩ 6 ⟨[(5, .one (.c (.d (.int .u8 0))))], [], [], 0⟩ [b = false] (by kernel_rfl) ⟨b174_e0, trivial⟩ ?_
      have h := Option.some.inj h
      subst h
      exact At.fin hm ht ⟨[], [], [], [4], []⟩ [] (by kernel_rfl) trivial
/-! (brougham/opt.Data).Option -/
def f26_opt_Data_Option_in (d_0 : Bool) (d_1 : Bool) (d_2 : Int) (d_3 : Int) (d_4 : Int) (d_5 : Int) : Inn := ⟨[.agg [.d (.bool d_0), .d (.bool d_1), .d (.int .u64 d_2), .d (.int .u64 d_3), .d (.int .u32 d_4), .d (.int .u64 d_5)]], [], [], 0⟩
def f26_opt_Data_Option_out (r : Int × List Int) : Out := ⟨.one (.agg [.d (.int .u8 r.1), .own 1 (.int .u8) r.2]), [(1, ⟨5, 0⟩)], [(0, [.d (.int .u8 r.1), .own 1 (.int .u8) r.2])], 2⟩
def f26_opt_Data_Option (n : Nat) (d_0 : Bool) (d_1 : Bool) (d_2 : Int) (d_3 : Int) (d_4 : Int) (d_5 : Int) : Option (Int × List Int) :=
  (f80_opt_bits d_0 d_1).bind fun r165_0 =>
  (f77_pack_B r165_0).bind fun r165_1 =>
  (f74_pack_Q d_2).bind fun r165_2 =>
  (f74_pack_Q d_3).bind fun r165_3 =>
  (f76_pack_W d_4).bind fun r165_4 =>
  (f74_pack_Q d_5).bind fun r165_5 =>
  (f73_pack_Put n [] [r165_1, r165_2, r165_3, r165_4, r165_5]).bind fun r165_6 =>
  some (3, r165_6)
theorem f26_opt_Data_Option_ok (n : Nat) (d_0 : Bool) (d_1 : Bool) (d_2 : Int) (d_3 : Int) (d_4 : Int) (d_5 : Int) (r : Int × List Int) (h : f26_opt_Data_Option n d_0 d_1 d_2 d_3 d_4 d_5 = some r) : FnOK Go.Proofs.Try.prog 26 (f26_opt_Data_Option_in d_0 d_1 d_2 d_3 d_4 d_5) (f26_opt_Data_Option_out r) := by
  unfold f26_opt_Data_Option at h
  refine At.fn (r := 0) Go.Proofs.Try.func26 rfl (by kernel_rfl) rfl rfl (by kernel_rfl) ?_
  show At Go.Proofs.Try.prog Go.Proofs.Try.f26 0 0 ⟨[(0, .one (.agg [.d (.bool d_0), .d (.bool d_1), .d (.int .u64 d_2), .d (.int .u64 d_3), .d (.int .u32 d_4), .d (.int .u64 d_5)]))], [], [], 0⟩ _
  refine At.step hm ht ⟨[], [], [], [1, 2], [0, 1]⟩ 1 ⟨[(1, .one (.c (.ptr 0 0))), (2, .one (.c (.ptr 1 0)))], [], [(0, [.d (.bool d_0), .d (.bool d_1), .d (.int .u64 d_2), .d (.int .u64 d_3), .d (.int .u32 d_4), .d (.int .u64 d_5)]), (1, [.d (.int .u8 0), .d (.sl .unit [])])], 2⟩ [] (by kernel_rfl) trivial ?_
  obtain ⟨r165_0, cr165_0, h⟩ := bindS h
  obtain ⟨r165_1, cr165_1, h⟩ := bindS h
  obtain ⟨r165_2, cr165_2, h⟩ := bindS h
  obtain ⟨r165_3, cr165_3, h⟩ := bindS h
  obtain ⟨r165_4, cr165_4, h⟩ := bindS h
  obtain ⟨r165_5, cr165_5, h⟩ := bindS h
  obtain ⟨r165_6, cr165_6, h⟩ := bindS h
  have h := Option.some.inj h
  subst h
  exact At.fin hm ht ⟨[(4, .call [] [] (f80_opt_bits_out r165_0)), (5, .call [] [] (f77_pack_B_out r165_1)), (8, .call [] [] (f74_pack_Q_out r165_2)), (11, .call [] [] (f74_pack_Q_out r165_3)), (14, .call [] [] (f76_pack_W_out r165_4)), (18, .call [] [] (f74_pack_Q_out r165_5)), (20, .call [] [(0, 0, (.int .u8))] (f73_pack_Put_out r165_6))], [], [], [2], [1, 21]⟩ [FnOK Go.Proofs.Try.prog 80 (f80_opt_bits_in d_0 d_1) (f80_opt_bits_out r165_0), FnOK Go.Proofs.Try.prog 77 (f77_pack_B_in r165_0) (f77_pack_B_out r165_1), FnOK Go.Proofs.Try.prog 74 (f74_pack_Q_in d_2) (f74_pack_Q_out r165_2), FnOK Go.Proofs.Try.prog 74 (f74_pack_Q_in d_3) (f74_pack_Q_out r165_3), FnOK Go.Proofs.Try.prog 76 (f76_pack_W_in d_4) (f76_pack_W_out r165_4), FnOK Go.Proofs.Try.prog 74 (f74_pack_Q_in d_5) (f74_pack_Q_out r165_5), FnOK Go.Proofs.Try.prog 73 (f73_pack_Put_in [] [r165_1, r165_2, r165_3, r165_4, r165_5]) (f73_pack_Put_out r165_6), 0 + 2 ≤ 2] (by kernel_rfl) ⟨(f80_opt_bits_ok d_0 d_1 r165_0 cr165_0), (f77_pack_B_ok r165_0 r165_1 cr165_1), (f74_pack_Q_ok d_2 r165_2 cr165_2), (f74_pack_Q_ok d_3 r165_3 cr165_3), (f76_pack_W_ok d_4 r165_4 cr165_4), (f74_pack_Q_ok d_5 r165_5 cr165_5), (f73_pack_Put_ok n [] [r165_1, r165_2, r165_3, r165_4, r165_5] r165_6 cr165_6), (by decide), trivial⟩
/-! brougham/opt.ParseData -/
def f36_opt_ParseData_in (o__0 : Int) (o__1 : List Int) : Inn := ⟨[.agg [.d (.int .u8 o__0), .d (.sl (.int .u8) o__1)]], [], [], 0⟩
def f36_opt_ParseData_out (r : Bool × Bool × Bool × Int × Int × Int × Int) : Out := ⟨.tup [.agg [.d (.bool r.2.1), .d (.bool r.2.2.1), .d (.int .u64 r.2.2.2.1), .d (.int .u64 r.2.2.2.2.1), .d (.int .u32 r.2.2.2.2.2.1), .d (.int .u64 r.2.2.2.2.2.2)], .c (.d (.bool r.1))], [], [(0, [.d (.bool r.2.1), .d (.bool r.2.2.1), .d (.int .u64 r.2.2.2.1), .d (.int .u64 r.2.2.2.2.1), .d (.int .u32 r.2.2.2.2.2.1), .d (.int .u64 r.2.2.2.2.2.2)])], 1⟩
def f36_opt_ParseData (n : Nat) (o__0 : Int) (o__1 : List Int) : Option (Bool × Bool × Bool × Int × Int × Int × Int) :=
  (f81_pack_All n o__1 [1, 8, 8, 4, 8]).bind fun r179_0 =>
  if ((o__0 : Int) != 3) = true then
    some (false, false, false, 0, 0, 0, 0)
  else
    if (!r179_0.2) = true then
      some (false, false, false, 0, 0, 0, 0)
    else
      if (0 : Int) ≤ 0 ∧ 0 < (((r179_0.1).length : Nat) : Int) then
      if (decide (((r179_0.1.getD 0 0) : Int) > 3)) = true then
        some (false, false, false, 0, 0, 0, 0)
      else
        if (0 : Int) ≤ 0 ∧ 0 < (((r179_0.1).length : Nat) : Int) then
        if (0 : Int) ≤ 0 ∧ 0 < (((r179_0.1).length : Nat) : Int) then
        if (0 : Int) ≤ 1 ∧ 1 < (((r179_0.1).length : Nat) : Int) then
        if (0 : Int) ≤ 2 ∧ 2 < (((r179_0.1).length : Nat) : Int) then
        if (0 : Int) ≤ 3 ∧ 3 < (((r179_0.1).length : Nat) : Int) then
        if (0 : Int) ≤ 4 ∧ 4 < (((r179_0.1).length : Nat) : Int) then
        some (true, (((bits .and .u64 (r179_0.1.getD 0 0) 1) : Int) == 1), (((bits .and .u64 (r179_0.1.getD 0 0) 2) : Int) == 2), (r179_0.1.getD 1 0), (r179_0.1.getD 2 0), (IntKind.wrap .u32 (r179_0.1.getD 3 0)), (r179_0.1.getD 4 0))
        else none
        else none
        else none
        else none
        else none
        else none
      else none
theorem f36_opt_ParseData_ok (n : Nat) (o__0 : Int) (o__1 : List Int) (r : Bool × Bool × Bool × Int × Int × Int × Int) (h : f36_opt_ParseData n o__0 o__1 = some r) : FnOK Go.Proofs.Try.prog 36 (f36_opt_ParseData_in o__0 o__1) (f36_opt_ParseData_out r) := by
  unfold f36_opt_ParseData at h
  refine At.fn (r := 0) Go.Proofs.Try.func36 rfl (by kernel_rfl) rfl rfl (by kernel_rfl) ?_
  show At Go.Proofs.Try.prog Go.Proofs.Try.f36 0 0 ⟨[(0, .one (.agg [.d (.int .u8 o__0), .d (.sl (.int .u8) o__1)]))], [], [], 0⟩ _
  refine At.step hm ht ⟨[], [], [], [1, 2], [0, 1]⟩ 1 ⟨[(1, .one (.c (.ptr 0 0))), (2, .one (.c (.ptr 1 0)))], [], [(0, [.d (.int .u8 o__0), .d (.sl (.int .u8) o__1)]), (1, [.d (.bool false), .d (.bool false), .d (.int .u64 0), .d (.int .u64 0), .d (.int .u32 0), .d (.int .u64 0)])], 2⟩ [] (by kernel_rfl) trivial ?_
  obtain ⟨r179_0, cr179_0, h⟩ := bindS h
  refine At.step hm ht ⟨[(3, .call [] [] (f81_pack_All_out r179_0))], [], [], [1, 2, 4, 5], [0, 1, 5]⟩ 2 ⟨[(1, .one (.c (.ptr 0 0))), (2, .one (.c (.ptr 1 0))), (4, .one (.c (.own 2 (.int .u64) r179_0.1))), (5, .one (.c (.d (.bool r179_0.2))))], [(2, some ⟨36, 0⟩)], [(0, [.d (.int .u8 o__0), .d (.sl (.int .u8) o__1)]), (1, [.d (.bool false), .d (.bool false), .d (.int .u64 0), .d (.int .u64 0), .d (.int .u32 0), .d (.int .u64 0)])], 3⟩ [FnOK Go.Proofs.Try.prog 81 (f81_pack_All_in o__1 [1, 8, 8, 4, 8]) (f81_pack_All_out r179_0)] (by kernel_rfl) ⟨(f81_pack_All_ok n o__1 [1, 8, 8, 4, 8] r179_0 cr179_0), trivial⟩ ?_
  rcases iteS h with ⟨b180_3, h⟩ | ⟨b180_3, h⟩
  · refine At.step hm ht ⟨[(3, .b true)], [true], [], [2], [1]⟩ 3 ⟨[(2, .one (.c (.ptr 0 0)))], [], [(0, [.d (.bool false), .d (.bool false), .d (.int .u64 0), .d (.int .u64 0), .d (.int .u32 0), .d (.int .u64 0)])], 1⟩ [((o__0 : Int) != 3) = true, true = true] (by kernel_rfl) ⟨b180_3, rfl, trivial⟩ ?_
    have h := Option.some.inj h
    subst h
    exact At.fin hm ht ⟨[], [], [], [2, 3], [0]⟩ [0 + 6 ≤ 6] (by kernel_rfl) ⟨(by decide), trivial⟩
  · rcases iteS h with ⟨b180_7, h⟩ | ⟨b180_7, h⟩
    · refine At.step hm ht ⟨[(3, .b false), (7, .b true)], [true], [], [2], [1]⟩ 3 ⟨[(2, .one (.c (.ptr 0 0)))], [], [(0, [.d (.bool false), .d (.bool false), .d (.int .u64 0), .d (.int .u64 0), .d (.int .u32 0), .d (.int .u64 0)])], 1⟩ [((o__0 : Int) != 3) = false, (!r179_0.2) = true, true = true] (by kernel_rfl) ⟨b180_3, b180_7, rfl, trivial⟩ ?_
      have h := Option.some.inj h
      subst h
      exact At.fin hm ht ⟨[], [], [], [2, 3], [0]⟩ [0 + 6 ≤ 6] (by kernel_rfl) ⟨(by decide), trivial⟩
    · obtain ⟨g180_0, h⟩ := ifS h
      rcases iteS h with ⟨b180_e0, h⟩ | ⟨b180_e0, h⟩
      · refine At.step hm ht ⟨[(3, .b false), (7, .b false)], [true], [], [2], [1]⟩ 3 ⟨[(2, .one (.c (.ptr 0 0)))], [], [(0, [.d (.bool false), .d (.bool false), .d (.int .u64 0), .d (.int .u64 0), .d (.int .u32 0), .d (.int .u64 0)])], 1⟩ [((o__0 : Int) != 3) = false, (!r179_0.2) = false, (0 : Int) ≤ 0 ∧ 0 < (((r179_0.1).length : Nat) : Int), (decide (((r179_0.1.getD 0 0) : Int) > 3)) = true] (by kernel_rfl) ⟨b180_3, b180_7, g180_0, b180_e0, trivial⟩ ?_
        have h := Option.some.inj h
        subst h
        exact At.fin hm ht ⟨[], [], [], [2, 3], [0]⟩ [0 + 6 ≤ 6] (by kernel_rfl) ⟨(by decide), trivial⟩
      · refine At.step hm ht ⟨[(3, .b false), (7, .b false)], [false], [], [2, 4], [1, 2]⟩ 4 ⟨[(2, .one (.c (.ptr 0 0))), (4, .one (.c (.own 1 (.int .u64) r179_0.1)))], [(1, some ⟨36, 0⟩)], [(0, [.d (.bool false), .d (.bool false), .d (.int .u64 0), .d (.int .u64 0), .d (.int .u32 0), .d (.int .u64 0)])], 2⟩ [((o__0 : Int) != 3) = false, (!r179_0.2) = false, (0 : Int) ≤ 0 ∧ 0 < (((r179_0.1).length : Nat) : Int), (decide (((r179_0.1.getD 0 0) : Int) > 3)) = false] (by kernel_rfl) ⟨b180_3, b180_7, g180_0, b180_e0, trivial⟩ ?_
        obtain ⟨g184_0, h⟩ := ifS h
        obtain ⟨g184_1, h⟩ := ifS h
        obtain ⟨g184_2, h⟩ := ifS h
        obtain ⟨g184_3, h⟩ := ifS h
        obtain ⟨g184_4, h⟩ := ifS h
        obtain ⟨g184_5, h⟩ := ifS h
        have h := Option.some.inj h
        subst h
        exact At.fin hm ht ⟨[], [], [], [2, 3], [0]⟩ [(0 : Int) ≤ 0 ∧ 0 < (((r179_0.1).length : Nat) : Int), (0 : Int) ≤ 0 ∧ 0 < (((r179_0.1).length : Nat) : Int), (0 : Int) ≤ 1 ∧ 1 < (((r179_0.1).length : Nat) : Int), (0 : Int) ≤ 2 ∧ 2 < (((r179_0.1).length : Nat) : Int), (0 : Int) ≤ 3 ∧ 3 < (((r179_0.1).length : Nat) : Int), (0 : Int) ≤ 4 ∧ 4 < (((r179_0.1).length : Nat) : Int), 0 + 6 ≤ 6] (by kernel_rfl) ⟨g184_0, g184_1, g184_2, g184_3, g184_4, g184_5, (by decide), trivial⟩
/-! (brougham/opt.Word).Option -/
def f29_opt_Word_Option_in (w__0 : Int) (w__1 : Int) (w__2 : Int) (w__3 : Int) (w__4 : Bool) (w__5 : Int) : Inn := ⟨[.agg [.d (.int .u8 w__0), .d (.int .u32 w__1), .d (.int .u8 w__2), .d (.int .u8 w__3), .d (.bool w__4), .d (.int .u64 w__5)]], [], [], 0⟩
def f29_opt_Word_Option_out (r : Int × List Int) : Out := ⟨.one (.agg [.d (.int .u8 r.1), .own 1 (.int .u8) r.2]), [(1, ⟨5, 0⟩)], [(0, [.d (.int .u8 r.1), .own 1 (.int .u8) r.2])], 2⟩
def f29_opt_Word_Option (n : Nat) (w__0 : Int) (w__1 : Int) (w__2 : Int) (w__3 : Int) (w__4 : Bool) (w__5 : Int) : Option (Int × List Int) :=
  (f76_pack_W w__1).bind fun r187_0 =>
  (f77_pack_B w__2).bind fun r187_1 =>
  (f77_pack_B w__3).bind fun r187_2 =>
  (f78_pack_Flag w__4).bind fun r187_3 =>
  (f74_pack_Q w__5).bind fun r187_4 =>
  (f73_pack_Put n [] [r187_0, r187_1, r187_2, r187_3, r187_4]).bind fun r187_5 =>
  some (w__0, r187_5)
theorem f29_opt_Word_Option_ok (n : Nat) (w__0 : Int) (w__1 : Int) (w__2 : Int) (w__3 : Int) (w__4 : Bool) (w__5 : Int) (r : Int × List Int) (h : f29_opt_Word_Option n w__0 w__1 w__2 w__3 w__4 w__5 = some r) : FnOK Go.Proofs.Try.prog 29 (f29_opt_Word_Option_in w__0 w__1 w__2 w__3 w__4 w__5) (f29_opt_Word_Option_out r) := by
  unfold f29_opt_Word_Option at h
  refine At.fn (r := 0) Go.Proofs.Try.func29 rfl (by kernel_rfl) rfl rfl (by kernel_rfl) ?_
  show At Go.Proofs.Try.prog Go.Proofs.Try.f29 0 0 ⟨[(0, .one (.agg [.d (.int .u8 w__0), .d (.int .u32 w__1), .d (.int .u8 w__2), .d (.int .u8 w__3), .d (.bool w__4), .d (.int .u64 w__5)]))], [], [], 0⟩ _
  refine At.step hm ht ⟨[], [], [], [1, 2], [0, 1]⟩ 1 ⟨[(1, .one (.c (.ptr 0 0))), (2, .one (.c (.ptr 1 0)))], [], [(0, [.d (.int .u8 w__0), .d (.int .u32 w__1), .d (.int .u8 w__2), .d (.int .u8 w__3), .d (.bool w__4), .d (.int .u64 w__5)]), (1, [.d (.int .u8 0), .d (.sl .unit [])])], 2⟩ [] (by kernel_rfl) trivial ?_
  obtain ⟨r187_0, cr187_0, h⟩ := bindS h
  obtain ⟨r187_1, cr187_1, h⟩ := bindS h
  obtain ⟨r187_2, cr187_2, h⟩ := bindS h
  obtain ⟨r187_3, cr187_3, h⟩ := bindS h
  obtain ⟨r187_4, cr187_4, h⟩ := bindS h
  obtain ⟨r187_5, cr187_5, h⟩ := bindS h
  have h := Option.some.inj h
  subst h
  exact At.fin hm ht ⟨[(4, .call [] [] (f76_pack_W_out r187_0)), (7, .call [] [] (f77_pack_B_out r187_1)), (10, .call [] [] (f77_pack_B_out r187_2)), (13, .call [] [] (f78_pack_Flag_out r187_3)), (17, .call [] [] (f74_pack_Q_out r187_4)), (19, .call [] [(0, 0, (.int .u8))] (f73_pack_Put_out r187_5))], [], [], [2], [1, 21]⟩ [FnOK Go.Proofs.Try.prog 76 (f76_pack_W_in w__1) (f76_pack_W_out r187_0), FnOK Go.Proofs.Try.prog 77 (f77_pack_B_in w__2) (f77_pack_B_out r187_1), FnOK Go.Proofs.Try.prog 77 (f77_pack_B_in w__3) (f77_pack_B_out r187_2), FnOK Go.Proofs.Try.prog 78 (f78_pack_Flag_in w__4) (f78_pack_Flag_out r187_3), FnOK Go.Proofs.Try.prog 74 (f74_pack_Q_in w__5) (f74_pack_Q_out r187_4), FnOK Go.Proofs.Try.prog 73 (f73_pack_Put_in [] [r187_0, r187_1, r187_2, r187_3, r187_4]) (f73_pack_Put_out r187_5), 0 + 2 ≤ 2] (by kernel_rfl) ⟨(f76_pack_W_ok w__1 r187_0 cr187_0), (f77_pack_B_ok w__2 r187_1 cr187_1), (f77_pack_B_ok w__3 r187_2 cr187_2), (f78_pack_Flag_ok w__4 r187_3 cr187_3), (f74_pack_Q_ok w__5 r187_4 cr187_4), (f73_pack_Put_ok n [] [r187_0, r187_1, r187_2, r187_3, r187_4] r187_5 cr187_5), (by decide), trivial⟩
/-! brougham/opt.ParseWord -/
def f38_opt_ParseWord_in (o__0 : Int) (o__1 : List Int) : Inn := ⟨[.agg [.d (.int .u8 o__0), .d (.sl (.int .u8) o__1)]], [], [], 0⟩
def f38_opt_ParseWord_out (r : Bool × Int × Int × Int × Int × Bool × Int) : Out := ⟨.tup [.agg [.d (.int .u8 r.2.1), .d (.int .u32 r.2.2.1), .d (.int .u8 r.2.2.2.1), .d (.int .u8 r.2.2.2.2.1), .d (.bool r.2.2.2.2.2.1), .d (.int .u64 r.2.2.2.2.2.2)], .c (.d (.bool r.1))], [], [(0, [.d (.int .u8 r.2.1), .d (.int .u32 r.2.2.1), .d (.int .u8 r.2.2.2.1), .d (.int .u8 r.2.2.2.2.1), .d (.bool r.2.2.2.2.2.1), .d (.int .u64 r.2.2.2.2.2.2)])], 1⟩
def f38_opt_ParseWord (n : Nat) (o__0 : Int) (o__1 : List Int) : Option (Bool × Int × Int × Int × Int × Bool × Int) :=
  (f81_pack_All n o__1 [4, 1, 1, 1, 8]).bind fun r189_0 =>
  if (decide ((o__0 : Int) < 4)) = true then
    some (false, 0, 0, 0, 0, false, 0)
  else
    if (decide ((o__0 : Int) > 7)) = true then
      some (false, 0, 0, 0, 0, false, 0)
    else
      if (!r189_0.2) = true then
        some (false, 0, 0, 0, 0, false, 0)
      else
        if (0 : Int) ≤ 3 ∧ 3 < (((r189_0.1).length : Nat) : Int) then
        if (decide (((r189_0.1.getD 3 0) : Int) > 1)) = true then
          some (false, 0, 0, 0, 0, false, 0)
        else
          if (0 : Int) ≤ 0 ∧ 0 < (((r189_0.1).length : Nat) : Int) then
          if (0 : Int) ≤ 1 ∧ 1 < (((r189_0.1).length : Nat) : Int) then
          if (0 : Int) ≤ 2 ∧ 2 < (((r189_0.1).length : Nat) : Int) then
          if (0 : Int) ≤ 3 ∧ 3 < (((r189_0.1).length : Nat) : Int) then
          if (0 : Int) ≤ 4 ∧ 4 < (((r189_0.1).length : Nat) : Int) then
          some (true, o__0, (IntKind.wrap .u32 (r189_0.1.getD 0 0)), (IntKind.wrap .u8 (r189_0.1.getD 1 0)), (IntKind.wrap .u8 (r189_0.1.getD 2 0)), (((r189_0.1.getD 3 0) : Int) == 1), (r189_0.1.getD 4 0))
          else none
          else none
          else none
          else none
          else none
        else none
theorem f38_opt_ParseWord_ok (n : Nat) (o__0 : Int) (o__1 : List Int) (r : Bool × Int × Int × Int × Int × Bool × Int) (h : f38_opt_ParseWord n o__0 o__1 = some r) : FnOK Go.Proofs.Try.prog 38 (f38_opt_ParseWord_in o__0 o__1) (f38_opt_ParseWord_out r) := by
  unfold f38_opt_ParseWord at h
  refine At.fn (r := 0) Go.Proofs.Try.func38 rfl (by kernel_rfl) rfl rfl (by kernel_rfl) ?_
  show At Go.Proofs.Try.prog Go.Proofs.Try.f38 0 0 ⟨[(0, .one (.agg [.d (.int .u8 o__0), .d (.sl (.int .u8) o__1)]))], [], [], 0⟩ _
  refine At.step hm ht ⟨[], [], [], [1, 2], [0, 1]⟩ 1 ⟨[(1, .one (.c (.ptr 0 0))), (2, .one (.c (.ptr 1 0)))], [], [(0, [.d (.int .u8 o__0), .d (.sl (.int .u8) o__1)]), (1, [.d (.int .u8 0), .d (.int .u32 0), .d (.int .u8 0), .d (.int .u8 0), .d (.bool false), .d (.int .u64 0)])], 2⟩ [] (by kernel_rfl) trivial ?_
  obtain ⟨r189_0, cr189_0, h⟩ := bindS h
  refine At.step hm ht ⟨[(3, .call [] [] (f81_pack_All_out r189_0))], [], [], [1, 2, 4, 5], [0, 1, 5]⟩ 2 ⟨[(1, .one (.c (.ptr 0 0))), (2, .one (.c (.ptr 1 0))), (4, .one (.c (.own 2 (.int .u64) r189_0.1))), (5, .one (.c (.d (.bool r189_0.2))))], [(2, some ⟨36, 0⟩)], [(0, [.d (.int .u8 o__0), .d (.sl (.int .u8) o__1)]), (1, [.d (.int .u8 0), .d (.int .u32 0), .d (.int .u8 0), .d (.int .u8 0), .d (.bool false), .d (.int .u64 0)])], 3⟩ [FnOK Go.Proofs.Try.prog 81 (f81_pack_All_in o__1 [4, 1, 1, 1, 8]) (f81_pack_All_out r189_0)] (by kernel_rfl) ⟨(f81_pack_All_ok n o__1 [4, 1, 1, 1, 8] r189_0 cr189_0), trivial⟩ ?_
  rcases iteS h with ⟨b190_3, h⟩ | ⟨b190_3, h⟩
  · refine At.step hm ht ⟨[(3, .b true)], [true], [], [2], [1]⟩ 3 ⟨[(2, .one (.c (.ptr 0 0)))], [], [(0, [.d (.int .u8 0), .d (.int .u32 0), .d (.int .u8 0), .d (.int .u8 0), .d (.bool false), .d (.int .u64 0)])], 1⟩ [(decide ((o__0 : Int) < 4)) = true, true = true] (by kernel_rfl) ⟨b190_3, rfl, trivial⟩ ?_
    have h := Option.some.inj h
    subst h
    exact At.fin hm ht ⟨[], [], [], [2, 3], [0]⟩ [0 + 6 ≤ 6] (by kernel_rfl) ⟨(by decide), trivial⟩
  · rcases iteS h with ⟨b190_8, h⟩ | ⟨b190_8, h⟩
    · refine At.step hm ht ⟨[(3, .b false), (8, .b true)], [true], [], [2], [1]⟩ 3 ⟨[(2, .one (.c (.ptr 0 0)))], [], [(0, [.d (.int .u8 0), .d (.int .u32 0), .d (.int .u8 0), .d (.int .u8 0), .d (.bool false), .d (.int .u64 0)])], 1⟩ [(decide ((o__0 : Int) < 4)) = false, (decide ((o__0 : Int) > 7)) = true, true = true] (by kernel_rfl) ⟨b190_3, b190_8, rfl, trivial⟩ ?_
      have h := Option.some.inj h
      subst h
      exact At.fin hm ht ⟨[], [], [], [2, 3], [0]⟩ [0 + 6 ≤ 6] (by kernel_rfl) ⟨(by decide), trivial⟩
    · rcases iteS h with ⟨b190_12, h⟩ | ⟨b190_12, h⟩
      · refine At.step hm ht ⟨[(3, .b false), (8, .b false), (12, .b true)], [true], [], [2], [1]⟩ 3 ⟨[(2, .one (.c (.ptr 0 0)))], [], [(0, [.d (.int .u8 0), .d (.int .u32 0), .d (.int .u8 0), .d (.int .u8 0), .d (.bool false), .d (.int .u64 0)])], 1⟩ [(decide ((o__0 : Int) < 4)) = false, (decide ((o__0 : Int) > 7)) = false, (!r189_0.2) = true, true = true] (by kernel_rfl) ⟨b190_3, b190_8, b190_12, rfl, trivial⟩ ?_
        have h := Option.some.inj h
        subst h
        exact At.fin hm ht ⟨[], [], [], [2, 3], [0]⟩ [0 + 6 ≤ 6] (by kernel_rfl) ⟨(by decide), trivial⟩
      · obtain ⟨g190_0, h⟩ := ifS h
        rcases iteS h with ⟨b190_e0, h⟩ | ⟨b190_e0, h⟩
        · refine At.step hm ht ⟨[(3, .b false), (8, .b false), (12, .b false)], [true], [], [2], [1]⟩ 3 ⟨[(2, .one (.c (.ptr 0 0)))], [], [(0, [.d (.int .u8 0), .d (.int .u32 0), .d (.int .u8 0), .d (.int .u8 0), .d (.bool false), .d (.int .u64 0)])], 1⟩ [(decide ((o__0 : Int) < 4)) = false, (decide ((o__0 : Int) > 7)) = false, (!r189_0.2) = false, (0 : Int) ≤ 3 ∧ 3 < (((r189_0.1).length : Nat) : Int), (decide (((r189_0.1.getD 3 0) : Int) > 1)) = true] (by kernel_rfl) ⟨b190_3, b190_8, b190_12, g190_0, b190_e0, trivial⟩ ?_
          have h := Option.some.inj h
          subst h
          exact At.fin hm ht ⟨[], [], [], [2, 3], [0]⟩ [0 + 6 ≤ 6] (by kernel_rfl) ⟨(by decide), trivial⟩
        · refine At.step hm ht ⟨[(3, .b false), (8, .b false), (12, .b false)], [false], [], [1, 2, 4], [0, 1, 2]⟩ 4 ⟨[(1, .one (.c (.ptr 0 0))), (2, .one (.c (.ptr 1 0))), (4, .one (.c (.own 2 (.int .u64) r189_0.1)))], [(2, some ⟨36, 0⟩)], [(0, [.d (.int .u8 o__0), .d (.sl (.int .u8) o__1)]), (1, [.d (.int .u8 0), .d (.int .u32 0), .d (.int .u8 0), .d (.int .u8 0), .d (.bool false), .d (.int .u64 0)])], 3⟩ [(decide ((o__0 : Int) < 4)) = false, (decide ((o__0 : Int) > 7)) = false, (!r189_0.2) = false, (0 : Int) ≤ 3 ∧ 3 < (((r189_0.1).length : Nat) : Int), (decide (((r189_0.1.getD 3 0) : Int) > 1)) = false] (by kernel_rfl) ⟨b190_3, b190_8, b190_12, g190_0, b190_e0, trivial⟩ ?_
          obtain ⟨g195_0, h⟩ := ifS h
          obtain ⟨g195_1, h⟩ := ifS h
          obtain ⟨g195_2, h⟩ := ifS h
          obtain ⟨g195_3, h⟩ := ifS h
          obtain ⟨g195_4, h⟩ := ifS h
          have h := Option.some.inj h
          subst h
          exact At.fin hm ht ⟨[], [], [], [2, 3], [1]⟩ [(0 : Int) ≤ 0 ∧ 0 < (((r189_0.1).length : Nat) : Int), (0 : Int) ≤ 1 ∧ 1 < (((r189_0.1).length : Nat) : Int), (0 : Int) ≤ 2 ∧ 2 < (((r189_0.1).length : Nat) : Int), (0 : Int) ≤ 3 ∧ 3 < (((r189_0.1).length : Nat) : Int), (0 : Int) ≤ 4 ∧ 4 < (((r189_0.1).length : Nat) : Int), 0 + 6 ≤ 6] (by kernel_rfl) ⟨g195_0, g195_1, g195_2, g195_3, g195_4, (by decide), trivial⟩
/-! (*brougham/opt.Tagged).Seal -/
def f72_opt_Tagged_Seal_in (tag : Int) (t_0 : Bool) (t_1 : Bool) (t_2 : Int) (t_3 : Int) (t_4 : Int) (t_5 : Int) : Inn := ⟨[.c (.ptr 0 5), .c (.d (.int .u64 tag))], [], [(0, [.d (.bool t_0), .d (.bool t_1), .d (.int .u64 t_2), .d (.int .u64 t_3), .d (.int .u32 t_4), .d (.int .u64 t_5)])], 1⟩
def f72_opt_Tagged_Seal_out (r : Bool × Bool × Int × Int × Int × Int) : Out := ⟨.tup [], [], [(0, [.d (.bool r.1), .d (.bool r.2.1), .d (.int .u64 r.2.2.1), .d (.int .u64 r.2.2.2.1), .d (.int .u32 r.2.2.2.2.1), .d (.int .u64 r.2.2.2.2.2)])], 1⟩
def f72_opt_Tagged_Seal (tag : Int) (t_0 : Bool) (t_1 : Bool) (t_2 : Int) (t_3 : Int) (t_4 : Int) (t_5 : Int) : Option (Bool × Bool × Int × Int × Int × Int) :=
  some (t_0, t_1, t_2, t_3, t_4, tag)
theorem f72_opt_Tagged_Seal_ok (tag : Int) (t_0 : Bool) (t_1 : Bool) (t_2 : Int) (t_3 : Int) (t_4 : Int) (t_5 : Int) (r : Bool × Bool × Int × Int × Int × Int) (h : f72_opt_Tagged_Seal tag t_0 t_1 t_2 t_3 t_4 t_5 = some r) : FnOK Go.Proofs.Try.prog 72 (f72_opt_Tagged_Seal_in tag t_0 t_1 t_2 t_3 t_4 t_5) (f72_opt_Tagged_Seal_out r) := by
  unfold f72_opt_Tagged_Seal at h
  refine At.fn (r := 0) Go.Proofs.Try.func72 rfl (by kernel_rfl) rfl rfl (by kernel_rfl) ?_
  show At Go.Proofs.Try.prog Go.Proofs.Try.f72 1 0 ⟨[(0, .one (.c (.ptr 0 5))), (1, .one (.c (.d (.int .u64 tag))))], [], [(0, [.d (.bool t_0), .d (.bool t_1), .d (.int .u64 t_2), .d (.int .u64 t_3), .d (.int .u32 t_4), .d (.int .u64 t_5)])], 1⟩ _
  have h := Option.some.inj h
  subst h
  exact At.fin hm ht ⟨[], [], [], [], [0]⟩ [5 + 1 ≤ 6] (by kernel_rfl) ⟨(by decide), trivial⟩
/-! brougham/broughamlaw08.alive -/
def f19_broughamlaw08_alive_in : Inn := ⟨[], [], [], 0⟩
def f19_broughamlaw08_alive_out (r : Bool) : Out := ⟨.one (.c (.d (.bool r))), [], [], 0⟩
def f19_broughamlaw08_alive (n : Nat) : Option (Bool) :=
  (f21_opt_Key_Option n 1 false 0).bind fun r226_0 =>
  (f32_opt_ParseKey n r226_0.1 r226_0.2).bind fun r227_0 =>
  (f72_opt_Tagged_Seal 9 false false 3 0 0 0).bind fun r229_0 =>
  if ((r226_0.1 : Int) == 1) = true then
    if ((strOfNums r226_0.2).toList == (⟨#[0, 0, 0, 0, 0, 0, 0, 1]⟩ : ByteArray).toList) = true then
      if r227_0.1 = true then
        if ((r227_0.2.1 : Int) == 1) = true then
          if (!r227_0.2.2.1) = true then
            if ((r229_0.2.2.2.2.2 : Int) == 9) = true then
              (f26_opt_Data_Option n r229_0.1 r229_0.2.1 r229_0.2.2.1 r229_0.2.2.2.1 r229_0.2.2.2.2.1 r229_0.2.2.2.2.2).bind fun r231_0 =>
              some ((((r231_0.2.length : Nat) : Int) : Int) == 29)
            else
              some false
          else
            some false
        else
          some false
      else
        some false
    else
      some false
  else
    some false
theorem f19_broughamlaw08_alive_ok (n : Nat) (r : Bool) (h : f19_broughamlaw08_alive n = some r) : FnOK Go.Proofs.Try.prog 19 (f19_broughamlaw08_alive_in) (f19_broughamlaw08_alive_out r) := by
  unfold f19_broughamlaw08_alive at h
  refine At.fn (r := 0) Go.Proofs.Try.func19 rfl (by kernel_rfl) rfl rfl (by kernel_rfl) ?_
  show At Go.Proofs.Try.prog Go.Proofs.Try.f19 0 0 ⟨[], [], [], 0⟩ _
  refine At.step hm ht ⟨[], [], [], [], []⟩ 1 ⟨[], [], [], 0⟩ [] (by kernel_rfl) trivial ?_
  obtain ⟨r226_0, cr226_0, h⟩ := bindS h
  refine At.step hm ht ⟨[(1, .call [] [] (f21_opt_Key_Option_out r226_0))], [], [], [1], [3, 2]⟩ 2 ⟨[(1, .one (.c (.ptr 0 0)))], [(1, some ⟨5, 0⟩)], [(0, [.d (.int .u8 r226_0.1), .own 1 (.int .u8) r226_0.2])], 2⟩ [FnOK Go.Proofs.Try.prog 21 (f21_opt_Key_Option_in 1 false 0) (f21_opt_Key_Option_out r226_0), 0 + 2 ≤ 2] (by kernel_rfl) ⟨(f21_opt_Key_Option_ok n 1 false 0 r226_0 cr226_0), (by decide), trivial⟩ ?_
  obtain ⟨r227_0, cr227_0, h⟩ := bindS h
  refine At.step hm ht ⟨[(1, .call [] [] (f32_opt_ParseKey_out r227_0))], [], [], [1, 2, 3], [0, 7, 1]⟩ 3 ⟨[(1, .one (.c (.ptr 0 0))), (2, .one (.c (.ptr 1 0))), (3, .one (.c (.d (.bool r227_0.1))))], [(2, some ⟨5, 0⟩)], [(0, [.d (.int .u8 r226_0.1), .own 2 (.int .u8) r226_0.2]), (1, [.d (.int .u64 r227_0.2.1), .d (.bool r227_0.2.2.1), .d (.int .u64 r227_0.2.2.2)])], 3⟩ [FnOK Go.Proofs.Try.prog 32 (f32_opt_ParseKey_in r226_0.1 r226_0.2) (f32_opt_ParseKey_out r227_0), 0 + 3 ≤ 3] (by kernel_rfl) ⟨(f32_opt_ParseKey_ok n r226_0.1 r226_0.2 r227_0 cr227_0), (by decide), trivial⟩ ?_
  refine At.step hm ht ⟨[], [], [], [1, 2, 3, 4], [0, 1, 4, 2]⟩ 4 ⟨[(1, .one (.c (.ptr 0 0))), (2, .one (.c (.ptr 1 0))), (3, .one (.c (.d (.bool r227_0.1)))), (4, .one (.c (.ptr 2 0)))], [(3, some ⟨5, 0⟩)], [(0, [.d (.int .u8 r226_0.1), .own 3 (.int .u8) r226_0.2]), (1, [.d (.int .u64 r227_0.2.1), .d (.bool r227_0.2.2.1), .d (.int .u64 r227_0.2.2.2)]), (2, [.d (.bool false), .d (.bool false), .d (.int .u64 3), .d (.int .u64 0), .d (.int .u32 0), .d (.int .u64 0)])], 4⟩ [0 + 6 ≤ 6] (by kernel_rfl) ⟨(by decide), trivial⟩ ?_
  obtain ⟨r229_0, cr229_0, h⟩ := bindS h
  refine At.step hm ht ⟨[(1, .call [2] [] (f72_opt_Tagged_Seal_out r229_0))], [], [], [1, 2, 3, 4], [0, 1, 2, 3]⟩ 5 ⟨[(1, .one (.c (.ptr 0 0))), (2, .one (.c (.ptr 1 0))), (3, .one (.c (.d (.bool r227_0.1)))), (4, .one (.c (.ptr 2 0)))], [(3, some ⟨5, 0⟩)], [(0, [.d (.int .u8 r226_0.1), .own 3 (.int .u8) r226_0.2]), (1, [.d (.int .u64 r227_0.2.1), .d (.bool r227_0.2.2.1), .d (.int .u64 r227_0.2.2.2)]), (2, [.d (.bool r229_0.1), .d (.bool r229_0.2.1), .d (.int .u64 r229_0.2.2.1), .d (.int .u64 r229_0.2.2.2.1), .d (.int .u32 r229_0.2.2.2.2.1), .d (.int .u64 r229_0.2.2.2.2.2)])], 4⟩ [FnOK Go.Proofs.Try.prog 72 (f72_opt_Tagged_Seal_in 9 false false 3 0 0 0) (f72_opt_Tagged_Seal_out r229_0)] (by kernel_rfl) ⟨(f72_opt_Tagged_Seal_ok 9 false false 3 0 0 0 r229_0 cr229_0), trivial⟩ ?_
  rcases iteS h with ⟨b231_3, h⟩ | ⟨b231_3, h⟩
  · rcases iteS h with ⟨b231_9, h⟩ | ⟨b231_9, h⟩
    · rcases iteS h with ⟨b231_12, h⟩ | ⟨b231_12, h⟩
      · rcases iteS h with ⟨b231_17, h⟩ | ⟨b231_17, h⟩
        · rcases iteS h with ⟨b231_22, h⟩ | ⟨b231_22, h⟩
          · rcases iteS h with ⟨b231_28, h⟩ | ⟨b231_28, h⟩
            · obtain ⟨r231_0, cr231_0, h⟩ := bindS h
              have h := Option.some.inj h
              subst h
              exact At.fin hm ht ⟨[(3, .b true), (9, .b true), (12, .b true), (17, .b true), (22, .b true), (28, .b true), (30, .call [] [] (f26_opt_Data_Option_out r231_0))], [], [], [0], []⟩ [((r226_0.1 : Int) == 1) = true, ((strOfNums r226_0.2).toList == (⟨#[0, 0, 0, 0, 0, 0, 0, 1]⟩ : ByteArray).toList) = true, r227_0.1 = true, ((r227_0.2.1 : Int) == 1) = true, (!r227_0.2.2.1) = true, ((r229_0.2.2.2.2.2 : Int) == 9) = true, FnOK Go.Proofs.Try.prog 26 (f26_opt_Data_Option_in r229_0.1 r229_0.2.1 r229_0.2.2.1 r229_0.2.2.2.1 r229_0.2.2.2.2.1 r229_0.2.2.2.2.2) (f26_opt_Data_Option_out r231_0)] (by kernel_rfl) ⟨b231_3, b231_9, b231_12, b231_17, b231_22, b231_28, (f26_opt_Data_Option_ok n r229_0.1 r229_0.2.1 r229_0.2.2.1 r229_0.2.2.2.1 r229_0.2.2.2.2.1 r229_0.2.2.2.2.2 r231_0 cr231_0), trivial⟩
            · have h := Option.some.inj h
              subst h
              exact At.fin hm ht ⟨[(3, .b true), (9, .b true), (12, .b true), (17, .b true), (22, .b true), (28, .b false)], [], [], [0], []⟩ [((r226_0.1 : Int) == 1) = true, ((strOfNums r226_0.2).toList == (⟨#[0, 0, 0, 0, 0, 0, 0, 1]⟩ : ByteArray).toList) = true, r227_0.1 = true, ((r227_0.2.1 : Int) == 1) = true, (!r227_0.2.2.1) = true, ((r229_0.2.2.2.2.2 : Int) == 9) = false] (by kernel_rfl) ⟨b231_3, b231_9, b231_12, b231_17, b231_22, b231_28, trivial⟩
          · have h := Option.some.inj h
            subst h
            exact At.fin hm ht ⟨[(3, .b true), (9, .b true), (12, .b true), (17, .b true), (22, .b false)], [], [], [0], []⟩ [((r226_0.1 : Int) == 1) = true, ((strOfNums r226_0.2).toList == (⟨#[0, 0, 0, 0, 0, 0, 0, 1]⟩ : ByteArray).toList) = true, r227_0.1 = true, ((r227_0.2.1 : Int) == 1) = true, (!r227_0.2.2.1) = false] (by kernel_rfl) ⟨b231_3, b231_9, b231_12, b231_17, b231_22, trivial⟩
        · have h := Option.some.inj h
          subst h
          exact At.fin hm ht ⟨[(3, .b true), (9, .b true), (12, .b true), (17, .b false)], [], [], [0], []⟩ [((r226_0.1 : Int) == 1) = true, ((strOfNums r226_0.2).toList == (⟨#[0, 0, 0, 0, 0, 0, 0, 1]⟩ : ByteArray).toList) = true, r227_0.1 = true, ((r227_0.2.1 : Int) == 1) = false] (by kernel_rfl) ⟨b231_3, b231_9, b231_12, b231_17, trivial⟩
      · have h := Option.some.inj h
        subst h
        exact At.fin hm ht ⟨[(3, .b true), (9, .b true), (12, .b false)], [], [], [0], []⟩ [((r226_0.1 : Int) == 1) = true, ((strOfNums r226_0.2).toList == (⟨#[0, 0, 0, 0, 0, 0, 0, 1]⟩ : ByteArray).toList) = true, r227_0.1 = false] (by kernel_rfl) ⟨b231_3, b231_9, b231_12, trivial⟩
    · have h := Option.some.inj h
      subst h
      exact At.fin hm ht ⟨[(3, .b true), (9, .b false)], [], [], [0], []⟩ [((r226_0.1 : Int) == 1) = true, ((strOfNums r226_0.2).toList == (⟨#[0, 0, 0, 0, 0, 0, 0, 1]⟩ : ByteArray).toList) = false] (by kernel_rfl) ⟨b231_3, b231_9, trivial⟩
  · have h := Option.some.inj h
    subst h
    exact At.fin hm ht ⟨[(3, .b false)], [], [], [0], []⟩ [((r226_0.1 : Int) == 1) = false] (by kernel_rfl) ⟨b231_3, trivial⟩
/-! brougham/broughamref07.SameOption -/
def f18_broughamref07_SameOption_in (a_0 : Int) (a_1 : List Int) (b_0 : Int) (b_1 : List Int) : Inn := ⟨[.agg [.d (.int .u8 a_0), .d (.sl (.int .u8) a_1)], .agg [.d (.int .u8 b_0), .d (.sl (.int .u8) b_1)]], [], [], 0⟩
def f18_broughamref07_SameOption_out (r : Bool) : Out := ⟨.one (.c (.d (.bool r))), [], [], 0⟩
def f18_broughamref07_SameOption (a_0 : Int) (a_1 : List Int) (b_0 : Int) (b_1 : List Int) : Option (Bool) :=
  if ((a_0 : Int) == b_0) = true then
    some ((strOfNums a_1).toList == (strOfNums b_1).toList)
  else
    some false
theorem f18_broughamref07_SameOption_ok (a_0 : Int) (a_1 : List Int) (b_0 : Int) (b_1 : List Int) (r : Bool) (h : f18_broughamref07_SameOption a_0 a_1 b_0 b_1 = some r) : FnOK Go.Proofs.Try.prog 18 (f18_broughamref07_SameOption_in a_0 a_1 b_0 b_1) (f18_broughamref07_SameOption_out r) := by
  unfold f18_broughamref07_SameOption at h
  refine At.fn (r := 0) Go.Proofs.Try.func18 rfl (by kernel_rfl) rfl rfl (by kernel_rfl) ?_
  show At Go.Proofs.Try.prog Go.Proofs.Try.f18 0 0 ⟨[(0, .one (.agg [.d (.int .u8 a_0), .d (.sl (.int .u8) a_1)])), (1, .one (.agg [.d (.int .u8 b_0), .d (.sl (.int .u8) b_1)]))], [], [], 0⟩ _
  refine At.step hm ht ⟨[], [], [], [2, 3], [0, 1]⟩ 1 ⟨[(2, .one (.c (.ptr 0 0))), (3, .one (.c (.ptr 1 0)))], [], [(0, [.d (.int .u8 a_0), .d (.sl (.int .u8) a_1)]), (1, [.d (.int .u8 b_0), .d (.sl (.int .u8) b_1)])], 2⟩ [] (by kernel_rfl) trivial ?_
  rcases iteS h with ⟨b233_5, h⟩ | ⟨b233_5, h⟩
  · have h := Option.some.inj h
    subst h
    exact At.fin hm ht ⟨[(5, .b true)], [], [], [4], []⟩ [((a_0 : Int) == b_0) = true] (by kernel_rfl) ⟨b233_5, trivial⟩
  · have h := Option.some.inj h
    subst h
    exact At.fin hm ht ⟨[(5, .b false)], [], [], [4], []⟩ [((a_0 : Int) == b_0) = false] (by kernel_rfl) ⟨b233_5, trivial⟩
/-! brougham/broughamlaw08.OptBack -/
def f9_broughamlaw08_OptBack_in (x_0 : Int) (x_1 : Bool) (x_2 : Int) (x_3 : Int) (x_4 : Int) (x_5 : Int) (x_6 : Bool) (x_7 : Bool) (x_8 : Int) (x_9 : Bool) (x_10 : Bool) (x_11 : Int) (x_12 : Int) (x_13 : Int) (x_14 : Int) (x_15 : Int) (x_16 : Int) (x_17 : Int) (x_18 : Int) (x_19 : Bool) (x_20 : Int) (o__0 : Int) (o__1 : List Int) : Inn := ⟨[.agg [.d (.int .u64 x_0), .d (.bool x_1), .d (.int .u64 x_2), .d (.int .u32 x_3), .d (.int .u32 x_4), .d (.int .u8 x_5), .d (.bool x_6), .d (.bool x_7), .d (.int .u64 x_8), .d (.bool x_9), .d (.bool x_10), .d (.int .u64 x_11), .d (.int .u64 x_12), .d (.int .u32 x_13), .d (.int .u64 x_14), .d (.int .u8 x_15), .d (.int .u32 x_16), .d (.int .u8 x_17), .d (.int .u8 x_18), .d (.bool x_19), .d (.int .u64 x_20)], .agg [.d (.int .u8 o__0), .d (.sl (.int .u8) o__1)]], [], [], 0⟩
def f9_broughamlaw08_OptBack_out (r : Bool) : Out := ⟨.one (.c (.d (.bool r))), [], [], 0⟩
def f9_broughamlaw08_OptBack_L2 : Nat → Option (Bool)
  | 0 => none
  | n + 1 =>
    some (true)
def f9_broughamlaw08_OptBack_L2_k (e : Bool) (o : Out) : Prop := o = f9_broughamlaw08_OptBack_out e
theorem f9_broughamlaw08_OptBack_L2_ok (n : Nat) : ∀ (w : Bool) (h : f9_broughamlaw08_OptBack_L2 n = some w) (o : Out) (hk : f9_broughamlaw08_OptBack_L2_k w o), At Go.Proofs.Try.prog Go.Proofs.Try.f9 0 2 ⟨[], [], [], 0⟩ o := by
  induction n with
  | zero => intro w h; rw [f9_broughamlaw08_OptBack_L2] at h; cases h
  | succ n ih =>
    intro w h o hk
    rw [f9_broughamlaw08_OptBack_L2] at h
    have h := Option.some.inj h
    subst h
    have hk : o = f9_broughamlaw08_OptBack_out true := hk
    subst hk
    exact At.fin hm ht ⟨[], [], [], [4], []⟩ [] (by kernel_rfl) trivial
def f9_broughamlaw08_OptBack_L8 : Nat → Option (Bool)
  | 0 => none
  | n + 1 =>
    some (false)
def f9_broughamlaw08_OptBack_L8_k (e : Bool) (o : Out) : Prop := o = f9_broughamlaw08_OptBack_out e
theorem f9_broughamlaw08_OptBack_L8_ok (n : Nat) : ∀ (w : Bool) (h : f9_broughamlaw08_OptBack_L8 n = some w) (o : Out) (hk : f9_broughamlaw08_OptBack_L8_k w o), At Go.Proofs.Try.prog Go.Proofs.Try.f9 0 8 ⟨[], [], [], 0⟩ o := by
  induction n with
  | zero => intro w h; rw [f9_broughamlaw08_OptBack_L8] at h; cases h
  | succ n ih =>
    intro w h o hk
    rw [f9_broughamlaw08_OptBack_L8] at h
    have h := Option.some.inj h
    subst h
    have hk : o = f9_broughamlaw08_OptBack_out false := hk
    subst hk
    exact At.fin hm ht ⟨[], [], [], [4], []⟩ [] (by kernel_rfl) trivial
def f9_broughamlaw08_OptBack_L10 : Nat → Option (Bool)
  | 0 => none
  | n + 1 =>
    some (false)
def f9_broughamlaw08_OptBack_L10_k (e : Bool) (o : Out) : Prop := o = f9_broughamlaw08_OptBack_out e
theorem f9_broughamlaw08_OptBack_L10_ok (n : Nat) : ∀ (w : Bool) (h : f9_broughamlaw08_OptBack_L10 n = some w) (o : Out) (hk : f9_broughamlaw08_OptBack_L10_k w o), At Go.Proofs.Try.prog Go.Proofs.Try.f9 0 10 ⟨[], [], [], 0⟩ o := by
  induction n with
  | zero => intro w h; rw [f9_broughamlaw08_OptBack_L10] at h; cases h
  | succ n ih =>
    intro w h o hk
    rw [f9_broughamlaw08_OptBack_L10] at h
    have h := Option.some.inj h
    subst h
    have hk : o = f9_broughamlaw08_OptBack_out false := hk
    subst hk
    exact At.fin hm ht ⟨[], [], [], [4], []⟩ [] (by kernel_rfl) trivial
def f9_broughamlaw08_OptBack_L15 : Nat → Bool → Bool → Bool → Bool → Int → (List Int) → Int → Bool → Int → Int → Int → Int → Bool → Bool → Int → Bool → Bool → Int → Int → Int → Int → Int → Int → Int → Int → Bool → Int → Option (Bool)
  | 0, _, _, _, _, _, _, _, _, _, _, _, _, _, _, _, _, _, _, _, _, _, _, _, _, _, _, _ => none
  | n + 1, a, b, c, e_, o__0, o__1, k_0, k_1, k_2, j_0, j_1, j_2, j_3, j_4, j_5, d_0, d_1, d_2, d_3, d_4, d_5, w__0, w__1, w__2, w__3, w__4, w__5 =>
    if (!a) = true then
      if (!b) = true then
        if (!c) = true then
          if (!e_) = true then
            (f19_broughamlaw08_alive n).bind fun r224_0 =>
            some (r224_0)
          else
            (f29_opt_Word_Option n w__0 w__1 w__2 w__3 w__4 w__5).bind fun r224_0 =>
            (f18_broughamref07_SameOption r224_0.1 r224_0.2 o__0 o__1).bind fun r224_1 =>
            if r224_1 = true then
              (f19_broughamlaw08_alive n).bind fun r224_2 =>
              some (r224_2)
            else
              some (false)
        else
          (f26_opt_Data_Option n d_0 d_1 d_2 d_3 d_4 d_5).bind fun r224_0 =>
          (f18_broughamref07_SameOption r224_0.1 r224_0.2 o__0 o__1).bind fun r224_1 =>
          if r224_1 = true then
            if (!e_) = true then
              (f19_broughamlaw08_alive n).bind fun r224_2 =>
              some (r224_2)
            else
              (f29_opt_Word_Option n w__0 w__1 w__2 w__3 w__4 w__5).bind fun r224_2 =>
              (f18_broughamref07_SameOption r224_2.1 r224_2.2 o__0 o__1).bind fun r224_3 =>
              if r224_3 = true then
                (f19_broughamlaw08_alive n).bind fun r224_4 =>
                some (r224_4)
              else
                some (false)
          else
            some (false)
      else
        (f23_opt_Join_Option n j_0 j_1 j_2 j_3 j_4 j_5).bind fun r224_0 =>
        (f18_broughamref07_SameOption r224_0.1 r224_0.2 o__0 o__1).bind fun r224_1 =>
        if r224_1 = true then
          if (!c) = true then
            if (!e_) = true then
              (f19_broughamlaw08_alive n).bind fun r224_2 =>
              some (r224_2)
            else
              (f29_opt_Word_Option n w__0 w__1 w__2 w__3 w__4 w__5).bind fun r224_2 =>
              (f18_broughamref07_SameOption r224_2.1 r224_2.2 o__0 o__1).bind fun r224_3 =>
              if r224_3 = true then
                (f19_broughamlaw08_alive n).bind fun r224_4 =>
                some (r224_4)
              else
                some (false)
          else
            (f26_opt_Data_Option n d_0 d_1 d_2 d_3 d_4 d_5).bind fun r224_2 =>
            (f18_broughamref07_SameOption r224_2.1 r224_2.2 o__0 o__1).bind fun r224_3 =>
            if r224_3 = true then
              if (!e_) = true then
                (f19_broughamlaw08_alive n).bind fun r224_4 =>
                some (r224_4)
              else
                (f29_opt_Word_Option n w__0 w__1 w__2 w__3 w__4 w__5).bind fun r224_4 =>
                (f18_broughamref07_SameOption r224_4.1 r224_4.2 o__0 o__1).bind fun r224_5 =>
                if r224_5 = true then
                  (f19_broughamlaw08_alive n).bind fun r224_6 =>
                  some (r224_6)
                else
                  some (false)
            else
              some (false)
        else
          some (false)
    else
      (f21_opt_Key_Option n k_0 k_1 k_2).bind fun r224_0 =>
      (f18_broughamref07_SameOption r224_0.1 r224_0.2 o__0 o__1).bind fun r224_1 =>
      if r224_1 = true then
        if (!b) = true then
          if (!c) = true then
            if (!e_) = true then
              (f19_broughamlaw08_alive n).bind fun r224_2 =>
              some (r224_2)
            else
              (f29_opt_Word_Option n w__0 w__1 w__2 w__3 w__4 w__5).bind fun r224_2 =>
              (f18_broughamref07_SameOption r224_2.1 r224_2.2 o__0 o__1).bind fun r224_3 =>
              if r224_3 = true then
                (f19_broughamlaw08_alive n).bind fun r224_4 =>
                some (r224_4)
              else
                some (false)
          else
            (f26_opt_Data_Option n d_0 d_1 d_2 d_3 d_4 d_5).bind fun r224_2 =>
            (f18_broughamref07_SameOption r224_2.1 r224_2.2 o__0 o__1).bind fun r224_3 =>
            if r224_3 = true then
              if (!e_) = true then
                (f19_broughamlaw08_alive n).bind fun r224_4 =>
                some (r224_4)
              else
                (f29_opt_Word_Option n w__0 w__1 w__2 w__3 w__4 w__5).bind fun r224_4 =>
                (f18_broughamref07_SameOption r224_4.1 r224_4.2 o__0 o__1).bind fun r224_5 =>
                if r224_5 = true then
                  (f19_broughamlaw08_alive n).bind fun r224_6 =>
                  some (r224_6)
                else
                  some (false)
            else
              some (false)
        else
          (f23_opt_Join_Option n j_0 j_1 j_2 j_3 j_4 j_5).bind fun r224_2 =>
          (f18_broughamref07_SameOption r224_2.1 r224_2.2 o__0 o__1).bind fun r224_3 =>
          if r224_3 = true then
            if (!c) = true then
              if (!e_) = true then
                (f19_broughamlaw08_alive n).bind fun r224_4 =>
                some (r224_4)
              else
                (f29_opt_Word_Option n w__0 w__1 w__2 w__3 w__4 w__5).bind fun r224_4 =>
                (f18_broughamref07_SameOption r224_4.1 r224_4.2 o__0 o__1).bind fun r224_5 =>
                if r224_5 = true then
                  (f19_broughamlaw08_alive n).bind fun r224_6 =>
                  some (r224_6)
                else
                  some (false)
            else
              (f26_opt_Data_Option n d_0 d_1 d_2 d_3 d_4 d_5).bind fun r224_4 =>
              (f18_broughamref07_SameOption r224_4.1 r224_4.2 o__0 o__1).bind fun r224_5 =>
              if r224_5 = true then
                if (!e_) = true then
                  (f19_broughamlaw08_alive n).bind fun r224_6 =>
                  some (r224_6)
                else
                  (f29_opt_Word_Option n w__0 w__1 w__2 w__3 w__4 w__5).bind fun r224_6 =>
                  (f18_broughamref07_SameOption r224_6.1 r224_6.2 o__0 o__1).bind fun r224_7 =>
                  if r224_7 = true then
                    (f19_broughamlaw08_alive n).bind fun r224_8 =>
                    some (r224_8)
                  else
                    some (false)
              else
                some (false)
          else
            some (false)
      else
        some (false)
def f9_broughamlaw08_OptBack_L15_k (e : Bool) (o : Out) : Prop := o = f9_broughamlaw08_OptBack_out e
theorem f9_broughamlaw08_OptBack_L15_ok (n : Nat) : ∀ (a : Bool) (b : Bool) (c : Bool) (e_ : Bool) (o__0 : Int) (o__1 : List Int) (k_0 : Int) (k_1 : Bool) (k_2 : Int) (j_0 : Int) (j_1 : Int) (j_2 : Int) (j_3 : Bool) (j_4 : Bool) (j_5 : Int) (d_0 : Bool) (d_1 : Bool) (d_2 : Int) (d_3 : Int) (d_4 : Int) (d_5 : Int) (w__0 : Int) (w__1 : Int) (w__2 : Int) (w__3 : Int) (w__4 : Bool) (w__5 : Int) (w : Bool) (h : f9_broughamlaw08_OptBack_L15 n a b c e_ o__0 o__1 k_0 k_1 k_2 j_0 j_1 j_2 j_3 j_4 j_5 d_0 d_1 d_2 d_3 d_4 d_5 w__0 w__1 w__2 w__3 w__4 w__5 = some w) (o : Out) (hk : f9_broughamlaw08_OptBack_L15_k w o), At Go.Proofs.Try.prog Go.Proofs.Try.f9 0 15 ⟨[(3, .one (.c (.ptr 0 0))), (5, .one (.c (.ptr 1 0))), (6, .one (.c (.d (.bool a)))), (7, .one (.c (.ptr 2 0))), (8, .one (.c (.d (.bool b)))), (9, .one (.c (.ptr 3 0))), (10, .one (.c (.d (.bool c)))), (11, .one (.c (.ptr 4 0))), (12, .one (.c (.d (.bool e_))))], [], [(0, [.d (.int .u8 o__0), .d (.sl (.int .u8) o__1)]), (1, [.d (.int .u64 k_0), .d (.bool k_1), .d (.int .u64 k_2)]), (2, [.d (.int .u32 j_0), .d (.int .u32 j_1), .d (.int .u8 j_2), .d (.bool j_3), .d (.bool j_4), .d (.int .u64 j_5)]), (3, [.d (.bool d_0), .d (.bool d_1), .d (.int .u64 d_2), .d (.int .u64 d_3), .d (.int .u32 d_4), .d (.int .u64 d_5)]), (4, [.d (.int .u8 w__0), .d (.int .u32 w__1), .d (.int .u8 w__2), .d (.int .u8 w__3), .d (.bool w__4), .d (.int .u64 w__5)])], 5⟩ o := by
  induction n with
  | zero => intro a b c e_ o__0 o__1 k_0 k_1 k_2 j_0 j_1 j_2 j_3 j_4 j_5 d_0 d_1 d_2 d_3 d_4 d_5 w__0 w__1 w__2 w__3 w__4 w__5 w h; rw [f9_broughamlaw08_OptBack_L15] at h; cases h
  | succ n ih =>
    intro a b c e_ o__0 o__1 k_0 k_1 k_2 j_0 j_1 j_2 j_3 j_4 j_5 d_0 d_1 d_2 d_3 d_4 d_5 w__0 w__1 w__2 w__3 w__4 w__5 w h o hk
    rw [f9_broughamlaw08_OptBack_L15] at h
    rcases iteS h with ⟨b224_2, h⟩ | ⟨b224_2, h⟩
    · rcases iteS h with ⟨b224_11, h⟩ | ⟨b224_11, h⟩
      · rcases iteS h with ⟨b224_21, h⟩ | ⟨b224_21, h⟩
        · rcases iteS h with ⟨b224_31, h⟩ | ⟨b224_31, h⟩
          · obtain ⟨r224_0, cr224_0, h⟩ := bindS h
            have h := Option.some.inj h
            subst h
            have hk : o = f9_broughamlaw08_OptBack_out r224_0 := hk
            subst hk
            exact At.fin hm ht ⟨[(2, .b true), (11, .b true), (21, .b true), (31, .b true), (39, .call [] [] (f19_broughamlaw08_alive_out r224_0))], [], [], [4], []⟩ [(!a) = true, (!b) = true, (!c) = true, (!e_) = true, FnOK Go.Proofs.Try.prog 19 (f19_broughamlaw08_alive_in) (f19_broughamlaw08_alive_out r224_0)] (by kernel_rfl) ⟨b224_2, b224_11, b224_21, b224_31, (f19_broughamlaw08_alive_ok n r224_0 cr224_0), trivial⟩
          · obtain ⟨r224_0, cr224_0, h⟩ := bindS h
            obtain ⟨r224_1, cr224_1, h⟩ := bindS h
            rcases iteS h with ⟨b224_38, h⟩ | ⟨b224_38, h⟩
            · obtain ⟨r224_2, cr224_2, h⟩ := bindS h
              have h := Option.some.inj h
              subst h
              have hk : o = f9_broughamlaw08_OptBack_out r224_2 := hk
              subst hk
              exact At.fin hm ht ⟨[(2, .b true), (11, .b true), (21, .b true), (31, .b false), (33, .call [] [] (f29_opt_Word_Option_out r224_0)), (35, .call [] [] (f18_broughamref07_SameOption_out r224_1)), (38, .b true), (39, .call [] [] (f19_broughamlaw08_alive_out r224_2))], [], [], [4], []⟩ [(!a) = true, (!b) = true, (!c) = true, (!e_) = false, FnOK Go.Proofs.Try.prog 29 (f29_opt_Word_Option_in w__0 w__1 w__2 w__3 w__4 w__5) (f29_opt_Word_Option_out r224_0), FnOK Go.Proofs.Try.prog 18 (f18_broughamref07_SameOption_in r224_0.1 r224_0.2 o__0 o__1) (f18_broughamref07_SameOption_out r224_1), r224_1 = true, FnOK Go.Proofs.Try.prog 19 (f19_broughamlaw08_alive_in) (f19_broughamlaw08_alive_out r224_2)] (by kernel_rfl) ⟨b224_2, b224_11, b224_21, b224_31, (f29_opt_Word_Option_ok n w__0 w__1 w__2 w__3 w__4 w__5 r224_0 cr224_0), (f18_broughamref07_SameOption_ok r224_0.1 r224_0.2 o__0 o__1 r224_1 cr224_1), b224_38, (f19_broughamlaw08_alive_ok n r224_2 cr224_2), trivial⟩
            · have h := Option.some.inj h
              subst h
              have hk : o = f9_broughamlaw08_OptBack_out false := hk
              subst hk
              exact At.fin hm ht ⟨[(2, .b true), (11, .b true), (21, .b true), (31, .b false), (33, .call [] [] (f29_opt_Word_Option_out r224_0)), (35, .call [] [] (f18_broughamref07_SameOption_out r224_1)), (38, .b false)], [], [], [4], []⟩ [(!a) = true, (!b) = true, (!c) = true, (!e_) = false, FnOK Go.Proofs.Try.prog 29 (f29_opt_Word_Option_in w__0 w__1 w__2 w__3 w__4 w__5) (f29_opt_Word_Option_out r224_0), FnOK Go.Proofs.Try.prog 18 (f18_broughamref07_SameOption_in r224_0.1 r224_0.2 o__0 o__1) (f18_broughamref07_SameOption_out r224_1), r224_1 = false] (by kernel_rfl) ⟨b224_2, b224_11, b224_21, b224_31, (f29_opt_Word_Option_ok n w__0 w__1 w__2 w__3 w__4 w__5 r224_0 cr224_0), (f18_broughamref07_SameOption_ok r224_0.1 r224_0.2 o__0 o__1 r224_1 cr224_1), b224_38, trivial⟩
        · obtain ⟨r224_0, cr224_0, h⟩ := bindS h
          obtain ⟨r224_1, cr224_1, h⟩ := bindS h
          rcases iteS h with ⟨b224_28, h⟩ | ⟨b224_28, h⟩
          · rcases iteS h with ⟨b224_31, h⟩ | ⟨b224_31, h⟩
            · obtain ⟨r224_2, cr224_2, h⟩ := bindS h
              have h := Option.some.inj h
              subst h
              have hk : o = f9_broughamlaw08_OptBack_out r224_2 := hk
              subst hk
              exact At.fin hm ht ⟨[(2, .b true), (11, .b true), (21, .b false), (23, .call [] [] (f26_opt_Data_Option_out r224_0)), (25, .call [] [] (f18_broughamref07_SameOption_out r224_1)), (28, .b true), (31, .b true), (39, .call [] [] (f19_broughamlaw08_alive_out r224_2))], [], [], [4], []⟩ [(!a) = true, (!b) = true, (!c) = false, FnOK Go.Proofs.Try.prog 26 (f26_opt_Data_Option_in d_0 d_1 d_2 d_3 d_4 d_5) (f26_opt_Data_Option_out r224_0), FnOK Go.Proofs.Try.prog 18 (f18_broughamref07_SameOption_in r224_0.1 r224_0.2 o__0 o__1) (f18_broughamref07_SameOption_out r224_1), r224_1 = true, (!e_) = true, FnOK Go.Proofs.Try.prog 19 (f19_broughamlaw08_alive_in) (f19_broughamlaw08_alive_out r224_2)] (by kernel_rfl) ⟨b224_2, b224_11, b224_21, (f26_opt_Data_Option_ok n d_0 d_1 d_2 d_3 d_4 d_5 r224_0 cr224_0), (f18_broughamref07_SameOption_ok r224_0.1 r224_0.2 o__0 o__1 r224_1 cr224_1), b224_28, b224_31, (f19_broughamlaw08_alive_ok n r224_2 cr224_2), trivial⟩
            · obtain ⟨r224_2, cr224_2, h⟩ := bindS h
              obtain ⟨r224_3, cr224_3, h⟩ := bindS h
              rcases iteS h with ⟨b224_38, h⟩ | ⟨b224_38, h⟩
              · obtain ⟨r224_4, cr224_4, h⟩ := bindS h
                have h := Option.some.inj h
                subst h
                have hk : o = f9_broughamlaw08_OptBack_out r224_4 := hk
                subst hk
                exact At.fin hm ht ⟨[(2, .b true), (11, .b true), (21, .b false), (23, .call [] [] (f26_opt_Data_Option_out r224_0)), (25, .call [] [] (f18_broughamref07_SameOption_out r224_1)), (28, .b true), (31, .b false), (33, .call [] [] (f29_opt_Word_Option_out r224_2)), (35, .call [] [] (f18_broughamref07_SameOption_out r224_3)), (38, .b true), (39, .call [] [] (f19_broughamlaw08_alive_out r224_4))], [], [], [4], []⟩ [(!a) = true, (!b) = true, (!c) = false, FnOK Go.Proofs.Try.prog 26 (f26_opt_Data_Option_in d_0 d_1 d_2 d_3 d_4 d_5) (f26_opt_Data_Option_out r224_0), FnOK Go.Proofs.Try.prog 18 (f18_broughamref07_SameOption_in r224_0.1 r224_0.2 o__0 o__1) (f18_broughamref07_SameOption_out r224_1), r224_1 = true, (!e_) = false, FnOK Go.Proofs.Try.prog 29 (f29_opt_Word_Option_in w__0 w__1 w__2 w__3 w__4 w__5) (f29_opt_Word_Option_out r224_2), FnOK Go.Proofs.Try.prog 18 (f18_broughamref07_SameOption_in r224_2.1 r224_2.2 o__0 o__1) (f18_broughamref07_SameOption_out r224_3), r224_3 = true, FnOK Go.Proofs.Try.prog 19 (f19_broughamlaw08_alive_in) (f19_broughamlaw08_alive_out r224_4)] (by kernel_rfl) ⟨b224_2, b224_11, b224_21, (f26_opt_Data_Option_ok n d_0 d_1 d_2 d_3 d_4 d_5 r224_0 cr224_0), (f18_broughamref07_SameOption_ok r224_0.1 r224_0.2 o__0 o__1 r224_1 cr224_1), b224_28, b224_31, (f29_opt_Word_Option_ok n w__0 w__1 w__2 w__3 w__4 w__5 r224_2 cr224_2), (f18_broughamref07_SameOption_ok r224_2.1 r224_2.2 o__0 o__1 r224_3 cr224_3), b224_38, (f19_broughamlaw08_alive_ok n r224_4 cr224_4), trivial⟩
              · have h := Option.some.inj h
                subst h
                have hk : o = f9_broughamlaw08_OptBack_out false := hk
                subst hk
                exact At.fin hm ht ⟨[(2, .b true), (11, .b true), (21, .b false), (23, .call [] [] (f26_opt_Data_Option_out r224_0)), (25, .call [] [] (f18_broughamref07_SameOption_out r224_1)), (28, .b true), (31, .b false), (33, .call [] [] (f29_opt_Word_Option_out r224_2)), (35, .call [] [] (f18_broughamref07_SameOption_out r224_3)), (38, .b false)], [], [], [4], []⟩ [(!a) = true, (!b) = true, (!c) = false, FnOK Go.Proofs.Try.prog 26 (f26_opt_Data_Option_in d_0 d_1 d_2 d_3 d_4 d_5) (f26_opt_Data_Option_out r224_0), FnOK Go.Proofs.Try.prog 18 (f18_broughamref07_SameOption_in r224_0.1 r224_0.2 o__0 o__1) (f18_broughamref07_SameOption_out r224_1), r224_1 = true, (!e_) = false, FnOK Go.Proofs.Try.prog 29 (f29_opt_Word_Option_in w__0 w__1 w__2 w__3 w__4 w__5) (f29_opt_Word_Option_out r224_2), FnOK Go.Proofs.Try.prog 18 (f18_broughamref07_SameOption_in r224_2.1 r224_2.2 o__0 o__1) (f18_broughamref07_SameOption_out r224_3), r224_3 = false] (by kernel_rfl) ⟨b224_2, b224_11, b224_21, (f26_opt_Data_Option_ok n d_0 d_1 d_2 d_3 d_4 d_5 r224_0 cr224_0), (f18_broughamref07_SameOption_ok r224_0.1 r224_0.2 o__0 o__1 r224_1 cr224_1), b224_28, b224_31, (f29_opt_Word_Option_ok n w__0 w__1 w__2 w__3 w__4 w__5 r224_2 cr224_2), (f18_broughamref07_SameOption_ok r224_2.1 r224_2.2 o__0 o__1 r224_3 cr224_3), b224_38, trivial⟩
          · have h := Option.some.inj h
            subst h
            have hk : o = f9_broughamlaw08_OptBack_out false := hk
            subst hk
            exact At.fin hm ht ⟨[(2, .b true), (11, .b true), (21, .b false), (23, .call [] [] (f26_opt_Data_Option_out r224_0)), (25, .call [] [] (f18_broughamref07_SameOption_out r224_1)), (28, .b false)], [], [], [4], []⟩ [(!a) = true, (!b) = true, (!c) = false, FnOK Go.Proofs.Try.prog 26 (f26_opt_Data_Option_in d_0 d_1 d_2 d_3 d_4 d_5) (f26_opt_Data_Option_out r224_0), FnOK Go.Proofs.Try.prog 18 (f18_broughamref07_SameOption_in r224_0.1 r224_0.2 o__0 o__1) (f18_broughamref07_SameOption_out r224_1), r224_1 = false] (by kernel_rfl) ⟨b224_2, b224_11, b224_21, (f26_opt_Data_Option_ok n d_0 d_1 d_2 d_3 d_4 d_5 r224_0 cr224_0), (f18_broughamref07_SameOption_ok r224_0.1 r224_0.2 o__0 o__1 r224_1 cr224_1), b224_28, trivial⟩
      · obtain ⟨r224_0, cr224_0, h⟩ := bindS h
        obtain ⟨r224_1, cr224_1, h⟩ := bindS h
        rcases iteS h with ⟨b224_18, h⟩ | ⟨b224_18, h⟩
        · rcases iteS h with ⟨b224_21, h⟩ | ⟨b224_21, h⟩
          · rcases iteS h with ⟨b224_31, h⟩ | ⟨b224_31, h⟩
            · obtain ⟨r224_2, cr224_2, h⟩ := bindS h
              have h := Option.some.inj h
              subst h
              have hk : o = f9_broughamlaw08_OptBack_out r224_2 := hk
              subst hk
              exact At.fin hm ht ⟨[(2, .b true), (11, .b false), (13, .call [] [] (f23_opt_Join_Option_out r224_0)), (15, .call [] [] (f18_broughamref07_SameOption_out r224_1)), (18, .b true), (21, .b true), (31, .b true), (39, .call [] [] (f19_broughamlaw08_alive_out r224_2))], [], [], [4], []⟩ [(!a) = true, (!b) = false, FnOK Go.Proofs.Try.prog 23 (f23_opt_Join_Option_in j_0 j_1 j_2 j_3 j_4 j_5) (f23_opt_Join_Option_out r224_0), FnOK Go.Proofs.Try.prog 18 (f18_broughamref07_SameOption_in r224_0.1 r224_0.2 o__0 o__1) (f18_broughamref07_SameOption_out r224_1), r224_1 = true, (!c) = true, (!e_) = true, FnOK Go.Proofs.Try.prog 19 (f19_broughamlaw08_alive_in) (f19_broughamlaw08_alive_out r224_2)] (by kernel_rfl) ⟨b224_2, b224_11, (f23_opt_Join_Option_ok n j_0 j_1 j_2 j_3 j_4 j_5 r224_0 cr224_0), (f18_broughamref07_SameOption_ok r224_0.1 r224_0.2 o__0 o__1 r224_1 cr224_1), b224_18, b224_21, b224_31, (f19_broughamlaw08_alive_ok n r224_2 cr224_2), trivial⟩
            · obtain ⟨r224_2, cr224_2, h⟩ := bindS h
              obtain ⟨r224_3, cr224_3, h⟩ := bindS h
              rcases iteS h with ⟨b224_38, h⟩ | ⟨b224_38, h⟩
              · obtain ⟨r224_4, cr224_4, h⟩ := bindS h
                have h := Option.some.inj h
                subst h
                have hk : o = f9_broughamlaw08_OptBack_out r224_4 := hk
                subst hk
                exact At.fin hm ht ⟨[(2, .b true), (11, .b false), (13, .call [] [] (f23_opt_Join_Option_out r224_0)), (15, .call [] [] (f18_broughamref07_SameOption_out r224_1)), (18, .b true), (21, .b true), (31, .b false), (33, .call [] [] (f29_opt_Word_Option_out r224_2)), (35, .call [] [] (f18_broughamref07_SameOption_out r224_3)), (38, .b true), (39, .call [] [] (f19_broughamlaw08_alive_out r224_4))], [], [], [4], []⟩ [(!a) = true, (!b) = false, FnOK Go.Proofs.Try.prog 23 (f23_opt_Join_Option_in j_0 j_1 j_2 j_3 j_4 j_5) (f23_opt_Join_Option_out r224_0), FnOK Go.Proofs.Try.prog 18 (f18_broughamref07_SameOption_in r224_0.1 r224_0.2 o__0 o__1) (f18_broughamref07_SameOption_out r224_1), r224_1 = true, (!c) = true, (!e_) = false, FnOK Go.Proofs.Try.prog 29 (f29_opt_Word_Option_in w__0 w__1 w__2 w__3 w__4 w__5) (f29_opt_Word_Option_out r224_2), FnOK Go.Proofs.Try.prog 18 (f18_broughamref07_SameOption_in r224_2.1 r224_2.2 o__0 o__1) (f18_broughamref07_SameOption_out r224_3), r224_3 = true, FnOK Go.Proofs.Try.prog 19 (f19_broughamlaw08_alive_in) (f19_broughamlaw08_alive_out r224_4)] (by kernel_rfl) ⟨b224_2, b224_11, (f23_opt_Join_Option_ok n j_0 j_1 j_2 j_3 j_4 j_5 r224_0 cr224_0), (f18_broughamref07_SameOption_ok r224_0.1 r224_0.2 o__0 o__1 r224_1 cr224_1), b224_18, b224_21, b224_31, (f29_opt_Word_Option_ok n w__0 w__1 w__2 w__3 w__4 w__5 r224_2 cr224_2), (f18_broughamref07_SameOption_ok r224_2.1 r224_2.2 o__0 o__1 r224_3 cr224_3), b224_38, (f19_broughamlaw08_alive_ok n r224_4 cr224_4), trivial⟩
              · have h := Option.some.inj h
                subst h
                have hk : o = f9_broughamlaw08_OptBack_out false := hk
                subst hk
                exact At.fin hm ht ⟨[(2, .b true), (11, .b false), (13, .call [] [] (f23_opt_Join_Option_out r224_0)), (15, .call [] [] (f18_broughamref07_SameOption_out r224_1)), (18, .b true), (21, .b true), (31, .b false), (33, .call [] [] (f29_opt_Word_Option_out r224_2)), (35, .call [] [] (f18_broughamref07_SameOption_out r224_3)), (38, .b false)], [], [], [4], []⟩ [(!a) = true, (!b) = false, FnOK Go.Proofs.Try.prog 23 (f23_opt_Join_Option_in j_0 j_1 j_2 j_3 j_4 j_5) (f23_opt_Join_Option_out r224_0), FnOK Go.Proofs.Try.prog 18 (f18_broughamref07_SameOption_in r224_0.1 r224_0.2 o__0 o__1) (f18_broughamref07_SameOption_out r224_1), r224_1 = true, (!c) = true, (!e_) = false, FnOK Go.Proofs.Try.prog 29 (f29_opt_Word_Option_in w__0 w__1 w__2 w__3 w__4 w__5) (f29_opt_Word_Option_out r224_2), FnOK Go.Proofs.Try.prog 18 (f18_broughamref07_SameOption_in r224_2.1 r224_2.2 o__0 o__1) (f18_broughamref07_SameOption_out r224_3), r224_3 = false] (by kernel_rfl) ⟨b224_2, b224_11, (f23_opt_Join_Option_ok n j_0 j_1 j_2 j_3 j_4 j_5 r224_0 cr224_0), (f18_broughamref07_SameOption_ok r224_0.1 r224_0.2 o__0 o__1 r224_1 cr224_1), b224_18, b224_21, b224_31, (f29_opt_Word_Option_ok n w__0 w__1 w__2 w__3 w__4 w__5 r224_2 cr224_2), (f18_broughamref07_SameOption_ok r224_2.1 r224_2.2 o__0 o__1 r224_3 cr224_3), b224_38, trivial⟩
          · obtain ⟨r224_2, cr224_2, h⟩ := bindS h
            obtain ⟨r224_3, cr224_3, h⟩ := bindS h
            rcases iteS h with ⟨b224_28, h⟩ | ⟨b224_28, h⟩
            · rcases iteS h with ⟨b224_31, h⟩ | ⟨b224_31, h⟩
              · obtain ⟨r224_4, cr224_4, h⟩ := bindS h
                have h := Option.some.inj h
                subst h
                have hk : o = f9_broughamlaw08_OptBack_out r224_4 := hk
                subst hk
                exact At.fin hm ht ⟨[(2, .b true), (11, .b false), (13, .call [] [] (f23_opt_Join_Option_out r224_0)), (15, .call [] [] (f18_broughamref07_SameOption_out r224_1)), (18, .b true), (21, .b false), (23, .call [] [] (f26_opt_Data_Option_out r224_2)), (25, .call [] [] (f18_broughamref07_SameOption_out r224_3)), (28, .b true), (31, .b true), (39, .call [] [] (f19_broughamlaw08_alive_out r224_4))], [], [], [4], []⟩ [(!a) = true, (!b) = false, FnOK Go.Proofs.Try.prog 23 (f23_opt_Join_Option_in j_0 j_1 j_2 j_3 j_4 j_5) (f23_opt_Join_Option_out r224_0), FnOK Go.Proofs.Try.prog 18 (f18_broughamref07_SameOption_in r224_0.1 r224_0.2 o__0 o__1) (f18_broughamref07_SameOption_out r224_1), r224_1 = true, (!c) = false, FnOK Go.Proofs.Try.prog 26 (f26_opt_Data_Option_in d_0 d_1 d_2 d_3 d_4 d_5) (f26_opt_Data_Option_out r224_2), FnOK Go.Proofs.Try.prog 18 (f18_broughamref07_SameOption_in r224_2.1 r224_2.2 o__0 o__1) (f18_broughamref07_SameOption_out r224_3), r224_3 = true, (!e_) = true, FnOK Go.Proofs.Try.prog 19 (f19_broughamlaw08_alive_in) (f19_broughamlaw08_alive_out r224_4)] (by kernel_rfl) ⟨b224_2, b224_11, (f23_opt_Join_Option_ok n j_0 j_1 j_2 j_3 j_4 j_5 r224_0 cr224_0), (f18_broughamref07_SameOption_ok r224_0.1 r224_0.2 o__0 o__1 r224_1 cr224_1), b224_18, b224_21, (f26_opt_Data_Option_ok n d_0 d_1 d_2 d_3 d_4 d_5 r224_2 cr224_2), (f18_broughamref07_SameOption_ok r224_2.1 r224_2.2 o__0 o__1 r224_3 cr224_3), b224_28, b224_31, (f19_broughamlaw08_alive_ok n r224_4 cr224_4), trivial⟩
              · obtain ⟨r224_4, cr224_4, h⟩ := bindS h
                obtain ⟨r224_5, cr224_5, h⟩ := bindS h
                rcases iteS h with ⟨b224_38, h⟩ | ⟨b224_38, h⟩
                · obtain ⟨r224_6, cr224_6, h⟩ := bindS h
                  have h := Option.some.inj h
                  subst h
                  have hk : o = f9_broughamlaw08_OptBack_out r224_6 := hk
                  subst hk
                  exact At.fin hm ht ⟨[(2, .b true), (11, .b false), (13, .call [] [] (f23_opt_Join_Option_out r224_0)), (15, .call [] [] (f18_broughamref07_SameOption_out r224_1)), (18, .b true), (21, .b false), (23, .call [] [] (f26_opt_Data_Option_out r224_2)), (25, .call [] [] (f18_broughamref07_SameOption_out r224_3)), (28, .b true), (31, .b false), (33, .call [] [] (f29_opt_Word_Option_out r224_4)), (35, .call [] [] (f18_broughamref07_SameOption_out r224_5)), (38, .b true), (39, .call [] [] (f19_broughamlaw08_alive_out r224_6))], [], [], [4], []⟩ [(!a) = true, (!b) = false, FnOK Go.Proofs.Try.prog 23 (f23_opt_Join_Option_in j_0 j_1 j_2 j_3 j_4 j_5) (f23_opt_Join_Option_out r224_0), FnOK Go.Proofs.Try.prog 18 (f18_broughamref07_SameOption_in r224_0.1 r224_0.2 o__0 o__1) (f18_broughamref07_SameOption_out r224_1), r224_1 = true, (!c) = false, FnOK Go.Proofs.Try.prog 26 (f26_opt_Data_Option_in d_0 d_1 d_2 d_3 d_4 d_5) (f26_opt_Data_Option_out r224_2), FnOK Go.Proofs.Try.prog 18 (f18_broughamref07_SameOption_in r224_2.1 r224_2.2 o__0 o__1) (f18_broughamref07_SameOption_out r224_3), r224_3 = true, (!e_) = false, FnOK Go.Proofs.Try.prog 29 (f29_opt_Word_Option_in w__0 w__1 w__2 w__3 w__4 w__5) (f29_opt_Word_Option_out r224_4), FnOK Go.Proofs.Try.prog 18 (f18_broughamref07_SameOption_in r224_4.1 r224_4.2 o__0 o__1) (f18_broughamref07_SameOption_out r224_5), r224_5 = true, FnOK Go.Proofs.Try.prog 19 (f19_broughamlaw08_alive_in) (f19_broughamlaw08_alive_out r224_6)] (by kernel_rfl) ⟨b224_2, b224_11, (f23_opt_Join_Option_ok n j_0 j_1 j_2 j_3 j_4 j_5 r224_0 cr224_0), (f18_broughamref07_SameOption_ok r224_0.1 r224_0.2 o__0 o__1 r224_1 cr224_1), b224_18, b224_21, (f26_opt_Data_Option_ok n d_0 d_1 d_2 d_3 d_4 d_5 r224_2 cr224_2), (f18_broughamref07_SameOption_ok r224_2.1 r224_2.2 o__0 o__1 r224_3 cr224_3), b224_28, b224_31, (f29_opt_Word_Option_ok n w__0 w__1 w__2 w__3 w__4 w__5 r224_4 cr224_4), (f18_broughamref07_SameOption_ok r224_4.1 r224_4.2 o__0 o__1 r224_5 cr224_5), b224_38, (f19_broughamlaw08_alive_ok n r224_6 cr224_6), trivial⟩
                · have h := Option.some.inj h
                  subst h
                  have hk : o = f9_broughamlaw08_OptBack_out false := hk
                  subst hk
                  exact At.fin hm ht ⟨[(2, .b true), (11, .b false), (13, .call [] [] (f23_opt_Join_Option_out r224_0)), (15, .call [] [] (f18_broughamref07_SameOption_out r224_1)), (18, .b true), (21, .b false), (23, .call [] [] (f26_opt_Data_Option_out r224_2)), (25, .call [] [] (f18_broughamref07_SameOption_out r224_3)), (28, .b true), (31, .b false), (33, .call [] [] (f29_opt_Word_Option_out r224_4)), (35, .call [] [] (f18_broughamref07_SameOption_out r224_5)), (38, .b false)], [], [], [4], []⟩ [(!a) = true, (!b) = false, FnOK Go.Proofs.Try.prog 23 (f23_opt_Join_Option_in j_0 j_1 j_2 j_3 j_4 j_5) (f23_opt_Join_Option_out r224_0), FnOK Go.Proofs.Try.prog 18 (f18_broughamref07_SameOption_in r224_0.1 r224_0.2 o__0 o__1) (f18_broughamref07_SameOption_out r224_1), r224_1 = true, (!c) = false, FnOK Go.Proofs.Try.prog 26 (f26_opt_Data_Option_in d_0 d_1 d_2 d_3 d_4 d_5) (f26_opt_Data_Option_out r224_2), FnOK Go.Proofs.Try.prog 18 (f18_broughamref07_SameOption_in r224_2.1 r224_2.2 o__0 o__1) (f18_broughamref07_SameOption_out r224_3), r224_3 = true, (!e_) = false, FnOK Go.Proofs.Try.prog 29 (f29_opt_Word_Option_in w__0 w__1 w__2 w__3 w__4 w__5) (f29_opt_Word_Option_out r224_4), FnOK Go.Proofs.Try.prog 18 (f18_broughamref07_SameOption_in r224_4.1 r224_4.2 o__0 o__1) (f18_broughamref07_SameOption_out r224_5), r224_5 = false] (by kernel_rfl) ⟨b224_2, b224_11, (f23_opt_Join_Option_ok n j_0 j_1 j_2 j_3 j_4 j_5 r224_0 cr224_0), (f18_broughamref07_SameOption_ok r224_0.1 r224_0.2 o__0 o__1 r224_1 cr224_1), b224_18, b224_21, (f26_opt_Data_Option_ok n d_0 d_1 d_2 d_3 d_4 d_5 r224_2 cr224_2), (f18_broughamref07_SameOption_ok r224_2.1 r224_2.2 o__0 o__1 r224_3 cr224_3), b224_28, b224_31, (f29_opt_Word_Option_ok n w__0 w__1 w__2 w__3 w__4 w__5 r224_4 cr224_4), (f18_broughamref07_SameOption_ok r224_4.1 r224_4.2 o__0 o__1 r224_5 cr224_5), b224_38, trivial⟩
            · have h := Option.some.inj h
              subst h
              have hk : o = f9_broughamlaw08_OptBack_out false := hk
              subst hk
              exact At.fin hm ht ⟨[(2, .b true), (11, .b false), (13, .call [] [] (f23_opt_Join_Option_out r224_0)), (15, .call [] [] (f18_broughamref07_SameOption_out r224_1)), (18, .b true), (21, .b false), (23, .call [] [] (f26_opt_Data_Option_out r224_2)), (25, .call [] [] (f18_broughamref07_SameOption_out r224_3)), (28, .b false)], [], [], [4], []⟩ [(!a) = true, (!b) = false, FnOK Go.Proofs.Try.prog 23 (f23_opt_Join_Option_in j_0 j_1 j_2 j_3 j_4 j_5) (f23_opt_Join_Option_out r224_0), FnOK Go.Proofs.Try.prog 18 (f18_broughamref07_SameOption_in r224_0.1 r224_0.2 o__0 o__1) (f18_broughamref07_SameOption_out r224_1), r224_1 = true, (!c) = false, FnOK Go.Proofs.Try.prog 26 (f26_opt_Data_Option_in d_0 d_1 d_2 d_3 d_4 d_5) (f26_opt_Data_Option_out r224_2), FnOK Go.Proofs.Try.prog 18 (f18_broughamref07_SameOption_in r224_2.1 r224_2.2 o__0 o__1) (f18_broughamref07_SameOption_out r224_3), r224_3 = false] (by kernel_rfl) ⟨b224_2, b224_11, (f23_opt_Join_Option_ok n j_0 j_1 j_2 j_3 j_4 j_5 r224_0 cr224_0), (f18_broughamref07_SameOption_ok r224_0.1 r224_0.2 o__0 o__1 r224_1 cr224_1), b224_18, b224_21, (f26_opt_Data_Option_ok n d_0 d_1 d_2 d_3 d_4 d_5 r224_2 cr224_2), (f18_broughamref07_SameOption_ok r224_2.1 r224_2.2 o__0 o__1 r224_3 cr224_3), b224_28, trivial⟩
        · have h := Option.some.inj h
          subst h
          have hk : o = f9_broughamlaw08_OptBack_out false := hk
          subst hk
          exact At.fin hm ht ⟨[(2, .b true), (11, .b false), (13, .call [] [] (f23_opt_Join_Option_out r224_0)), (15, .call [] [] (f18_broughamref07_SameOption_out r224_1)), (18, .b false)], [], [], [4], []⟩ [(!a) = true, (!b) = false, FnOK Go.Proofs.Try.prog 23 (f23_opt_Join_Option_in j_0 j_1 j_2 j_3 j_4 j_5) (f23_opt_Join_Option_out r224_0), FnOK Go.Proofs.Try.prog 18 (f18_broughamref07_SameOption_in r224_0.1 r224_0.2 o__0 o__1) (f18_broughamref07_SameOption_out r224_1), r224_1 = false] (by kernel_rfl) ⟨b224_2, b224_11, (f23_opt_Join_Option_ok n j_0 j_1 j_2 j_3 j_4 j_5 r224_0 cr224_0), (f18_broughamref07_SameOption_ok r224_0.1 r224_0.2 o__0 o__1 r224_1 cr224_1), b224_18, trivial⟩
    · obtain ⟨r224_0, cr224_0, h⟩ := bindS h
      obtain ⟨r224_1, cr224_1, h⟩ := bindS h
      rcases iteS h with ⟨b224_8, h⟩ | ⟨b224_8, h⟩
      · rcases iteS h with ⟨b224_11, h⟩ | ⟨b224_11, h⟩
        · rcases iteS h with ⟨b224_21, h⟩ | ⟨b224_21, h⟩
          · rcases iteS h with ⟨b224_31, h⟩ | ⟨b224_31, h⟩
            · obtain ⟨r224_2, cr224_2, h⟩ := bindS h
              have h := Option.some.inj h
              subst h
              have hk : o = f9_broughamlaw08_OptBack_out r224_2 := hk
              subst hk
              exact At.fin hm ht ⟨[(2, .b false), (4, .call [] [] (f21_opt_Key_Option_out r224_0)), (6, .call [] [] (f18_broughamref07_SameOption_out r224_1)), (8, .b true), (11, .b true), (21, .b true), (31, .b true), (39, .call [] [] (f19_broughamlaw08_alive_out r224_2))], [], [], [4], []⟩ [(!a) = false, FnOK Go.Proofs.Try.prog 21 (f21_opt_Key_Option_in k_0 k_1 k_2) (f21_opt_Key_Option_out r224_0), FnOK Go.Proofs.Try.prog 18 (f18_broughamref07_SameOption_in r224_0.1 r224_0.2 o__0 o__1) (f18_broughamref07_SameOption_out r224_1), r224_1 = true, (!b) = true, (!c) = true, (!e_) = true, FnOK Go.Proofs.Try.prog 19 (f19_broughamlaw08_alive_in) (f19_broughamlaw08_alive_out r224_2)] (by kernel_rfl) ⟨b224_2, (f21_opt_Key_Option_ok n k_0 k_1 k_2 r224_0 cr224_0), (f18_broughamref07_SameOption_ok r224_0.1 r224_0.2 o__0 o__1 r224_1 cr224_1), b224_8, b224_11, b224_21, b224_31, (f19_broughamlaw08_alive_ok n r224_2 cr224_2), trivial⟩
            · obtain ⟨r224_2, cr224_2, h⟩ := bindS h
              obtain ⟨r224_3, cr224_3, h⟩ := bindS h
              rcases iteS h with ⟨b224_38, h⟩ | ⟨b224_38, h⟩
              · obtain ⟨r224_4, cr224_4, h⟩ := bindS h
                have h := Option.some.inj h
                subst h
                have hk : o = f9_broughamlaw08_OptBack_out r224_4 := hk
                subst hk
                exact At.fin hm ht ⟨[(2, .b false), (4, .call [] [] (f21_opt_Key_Option_out r224_0)), (6, .call [] [] (f18_broughamref07_SameOption_out r224_1)), (8, .b true), (11, .b true), (21, .b true), (31, .b false), (33, .call [] [] (f29_opt_Word_Option_out r224_2)), (35, .call [] [] (f18_broughamref07_SameOption_out r224_3)), (38, .b true), (39, .call [] [] (f19_broughamlaw08_alive_out r224_4))], [], [], [4], []⟩ [(!a) = false, FnOK Go.Proofs.Try.prog 21 (f21_opt_Key_Option_in k_0 k_1 k_2) (f21_opt_Key_Option_out r224_0), FnOK Go.Proofs.Try.prog 18 (f18_broughamref07_SameOption_in r224_0.1 r224_0.2 o__0 o__1) (f18_broughamref07_SameOption_out r224_1), r224_1 = true, (!b) = true, (!c) = true, (!e_) = false, FnOK Go.Proofs.Try.prog 29 (f29_opt_Word_Option_in w__0 w__1 w__2 w__3 w__4 w__5) (f29_opt_Word_Option_out r224_2), FnOK Go.Proofs.Try.prog 18 (f18_broughamref07_SameOption_in r224_2.1 r224_2.2 o__0 o__1) (f18_broughamref07_SameOption_out r224_3), r224_3 = true, FnOK Go.Proofs.Try.prog 19 (f19_broughamlaw08_alive_in) (f19_broughamlaw08_alive_out r224_4)] (by kernel_rfl) ⟨b224_2, (f21_opt_Key_Option_ok n k_0 k_1 k_2 r224_0 cr224_0), (f18_broughamref07_SameOption_ok r224_0.1 r224_0.2 o__0 o__1 r224_1 cr224_1), b224_8, b224_11, b224_21, b224_31, (f29_opt_Word_Option_ok n w__0 w__1 w__2 w__3 w__4 w__5 r224_2 cr224_2), (f18_broughamref07_SameOption_ok r224_2.1 r224_2.2 o__0 o__1 r224_3 cr224_3), b224_38, (f19_broughamlaw08_alive_ok n r224_4 cr224_4), trivial⟩
              · have h := Option.some.inj h
                subst h
                have hk : o = f9_broughamlaw08_OptBack_out false := hk
                subst hk
                exact At.fin hm ht ⟨[(2, .b false), (4, .call [] [] (f21_opt_Key_Option_out r224_0)), (6, .call [] [] (f18_broughamref07_SameOption_out r224_1)), (8, .b true), (11, .b true), (21, .b true), (31, .b false), (33, .call [] [] (f29_opt_Word_Option_out r224_2)), (35, .call [] [] (f18_broughamref07_SameOption_out r224_3)), (38, .b false)], [], [], [4], []⟩ [(!a) = false, FnOK Go.Proofs.Try.prog 21 (f21_opt_Key_Option_in k_0 k_1 k_2) (f21_opt_Key_Option_out r224_0), FnOK Go.Proofs.Try.prog 18 (f18_broughamref07_SameOption_in r224_0.1 r224_0.2 o__0 o__1) (f18_broughamref07_SameOption_out r224_1), r224_1 = true, (!b) = true, (!c) = true, (!e_) = false, FnOK Go.Proofs.Try.prog 29 (f29_opt_Word_Option_in w__0 w__1 w__2 w__3 w__4 w__5) (f29_opt_Word_Option_out r224_2), FnOK Go.Proofs.Try.prog 18 (f18_broughamref07_SameOption_in r224_2.1 r224_2.2 o__0 o__1) (f18_broughamref07_SameOption_out r224_3), r224_3 = false] (by kernel_rfl) ⟨b224_2, (f21_opt_Key_Option_ok n k_0 k_1 k_2 r224_0 cr224_0), (f18_broughamref07_SameOption_ok r224_0.1 r224_0.2 o__0 o__1 r224_1 cr224_1), b224_8, b224_11, b224_21, b224_31, (f29_opt_Word_Option_ok n w__0 w__1 w__2 w__3 w__4 w__5 r224_2 cr224_2), (f18_broughamref07_SameOption_ok r224_2.1 r224_2.2 o__0 o__1 r224_3 cr224_3), b224_38, trivial⟩
          · obtain ⟨r224_2, cr224_2, h⟩ := bindS h
            obtain ⟨r224_3, cr224_3, h⟩ := bindS h
            rcases iteS h with ⟨b224_28, h⟩ | ⟨b224_28, h⟩
            · rcases iteS h with ⟨b224_31, h⟩ | ⟨b224_31, h⟩
              · obtain ⟨r224_4, cr224_4, h⟩ := bindS h
                have h := Option.some.inj h
                subst h
                have hk : o = f9_broughamlaw08_OptBack_out r224_4 := hk
                subst hk
                exact At.fin hm ht ⟨[(2, .b false), (4, .call [] [] (f21_opt_Key_Option_out r224_0)), (6, .call [] [] (f18_broughamref07_SameOption_out r224_1)), (8, .b true), (11, .b true), (21, .b false), (23, .call [] [] (f26_opt_Data_Option_out r224_2)), (25, .call [] [] (f18_broughamref07_SameOption_out r224_3)), (28, .b true), (31, .b true), (39, .call [] [] (f19_broughamlaw08_alive_out r224_4))], [], [], [4], []⟩ [(!a) = false, FnOK Go.Proofs.Try.prog 21 (f21_opt_Key_Option_in k_0 k_1 k_2) (f21_opt_Key_Option_out r224_0), FnOK Go.Proofs.Try.prog 18 (f18_broughamref07_SameOption_in r224_0.1 r224_0.2 o__0 o__1) (f18_broughamref07_SameOption_out r224_1), r224_1 = true, (!b) = true, (!c) = false, FnOK Go.Proofs.Try.prog 26 (f26_opt_Data_Option_in d_0 d_1 d_2 d_3 d_4 d_5) (f26_opt_Data_Option_out r224_2), FnOK Go.Proofs.Try.prog 18 (f18_broughamref07_SameOption_in r224_2.1 r224_2.2 o__0 o__1) (f18_broughamref07_SameOption_out r224_3), r224_3 = true, (!e_) = true, FnOK Go.Proofs.Try.prog 19 (f19_broughamlaw08_alive_in) (f19_broughamlaw08_alive_out r224_4)] (by kernel_rfl) ⟨b224_2, (f21_opt_Key_Option_ok n k_0 k_1 k_2 r224_0 cr224_0), (f18_broughamref07_SameOption_ok r224_0.1 r224_0.2 o__0 o__1 r224_1 cr224_1), b224_8, b224_11, b224_21, (f26_opt_Data_Option_ok n d_0 d_1 d_2 d_3 d_4 d_5 r224_2 cr224_2), (f18_broughamref07_SameOption_ok r224_2.1 r224_2.2 o__0 o__1 r224_3 cr224_3), b224_28, b224_31, (f19_broughamlaw08_alive_ok n r224_4 cr224_4), trivial⟩
              · obtain ⟨r224_4, cr224_4, h⟩ := bindS h
                obtain ⟨r224_5, cr224_5, h⟩ := bindS h
                rcases iteS h with ⟨b224_38, h⟩ | ⟨b224_38, h⟩
                · obtain ⟨r224_6, cr224_6, h⟩ := bindS h
                  have h := Option.some.inj h
                  subst h
                  have hk : o = f9_broughamlaw08_OptBack_out r224_6 := hk
                  subst hk
                  exact At.fin hm ht ⟨[(2, .b false), (4, .call [] [] (f21_opt_Key_Option_out r224_0)), (6, .call [] [] (f18_broughamref07_SameOption_out r224_1)), (8, .b true), (11, .b true), (21, .b false), (23, .call [] [] (f26_opt_Data_Option_out r224_2)), (25, .call [] [] (f18_broughamref07_SameOption_out r224_3)), (28, .b true), (31, .b false), (33, .call [] [] (f29_opt_Word_Option_out r224_4)), (35, .call [] [] (f18_broughamref07_SameOption_out r224_5)), (38, .b true), (39, .call [] [] (f19_broughamlaw08_alive_out r224_6))], [], [], [4], []⟩ [(!a) = false, FnOK Go.Proofs.Try.prog 21 (f21_opt_Key_Option_in k_0 k_1 k_2) (f21_opt_Key_Option_out r224_0), FnOK Go.Proofs.Try.prog 18 (f18_broughamref07_SameOption_in r224_0.1 r224_0.2 o__0 o__1) (f18_broughamref07_SameOption_out r224_1), r224_1 = true, (!b) = true, (!c) = false, FnOK Go.Proofs.Try.prog 26 (f26_opt_Data_Option_in d_0 d_1 d_2 d_3 d_4 d_5) (f26_opt_Data_Option_out r224_2), FnOK Go.Proofs.Try.prog 18 (f18_broughamref07_SameOption_in r224_2.1 r224_2.2 o__0 o__1) (f18_broughamref07_SameOption_out r224_3), r224_3 = true, (!e_) = false, FnOK Go.Proofs.Try.prog 29 (f29_opt_Word_Option_in w__0 w__1 w__2 w__3 w__4 w__5) (f29_opt_Word_Option_out r224_4), FnOK Go.Proofs.Try.prog 18 (f18_broughamref07_SameOption_in r224_4.1 r224_4.2 o__0 o__1) (f18_broughamref07_SameOption_out r224_5), r224_5 = true, FnOK Go.Proofs.Try.prog 19 (f19_broughamlaw08_alive_in) (f19_broughamlaw08_alive_out r224_6)] (by kernel_rfl) ⟨b224_2, (f21_opt_Key_Option_ok n k_0 k_1 k_2 r224_0 cr224_0), (f18_broughamref07_SameOption_ok r224_0.1 r224_0.2 o__0 o__1 r224_1 cr224_1), b224_8, b224_11, b224_21, (f26_opt_Data_Option_ok n d_0 d_1 d_2 d_3 d_4 d_5 r224_2 cr224_2), (f18_broughamref07_SameOption_ok r224_2.1 r224_2.2 o__0 o__1 r224_3 cr224_3), b224_28, b224_31, (f29_opt_Word_Option_ok n w__0 w__1 w__2 w__3 w__4 w__5 r224_4 cr224_4), (f18_broughamref07_SameOption_ok r224_4.1 r224_4.2 o__0 o__1 r224_5 cr224_5), b224_38, (f19_broughamlaw08_alive_ok n r224_6 cr224_6), trivial⟩
                · have h := Option.some.inj h
                  subst h
                  have hk : o = f9_broughamlaw08_OptBack_out false := hk
                  subst hk
                  exact At.fin hm ht ⟨[(2, .b false), (4, .call [] [] (f21_opt_Key_Option_out r224_0)), (6, .call [] [] (f18_broughamref07_SameOption_out r224_1)), (8, .b true), (11, .b true), (21, .b false), (23, .call [] [] (f26_opt_Data_Option_out r224_2)), (25, .call [] [] (f18_broughamref07_SameOption_out r224_3)), (28, .b true), (31, .b false), (33, .call [] [] (f29_opt_Word_Option_out r224_4)), (35, .call [] [] (f18_broughamref07_SameOption_out r224_5)), (38, .b false)], [], [], [4], []⟩ [(!a) = false, FnOK Go.Proofs.Try.prog 21 (f21_opt_Key_Option_in k_0 k_1 k_2) (f21_opt_Key_Option_out r224_0), FnOK Go.Proofs.Try.prog 18 (f18_broughamref07_SameOption_in r224_0.1 r224_0.2 o__0 o__1) (f18_broughamref07_SameOption_out r224_1), r224_1 = true, (!b) = true, (!c) = false, FnOK Go.Proofs.Try.prog 26 (f26_opt_Data_Option_in d_0 d_1 d_2 d_3 d_4 d_5) (f26_opt_Data_Option_out r224_2), FnOK Go.Proofs.Try.prog 18 (f18_broughamref07_SameOption_in r224_2.1 r224_2.2 o__0 o__1) (f18_broughamref07_SameOption_out r224_3), r224_3 = true, (!e_) = false, FnOK Go.Proofs.Try.prog 29 (f29_opt_Word_Option_in w__0 w__1 w__2 w__3 w__4 w__5) (f29_opt_Word_Option_out r224_4), FnOK Go.Proofs.Try.prog 18 (f18_broughamref07_SameOption_in r224_4.1 r224_4.2 o__0 o__1) (f18_broughamref07_SameOption_out r224_5), r224_5 = false] (by kernel_rfl) ⟨b224_2, (f21_opt_Key_Option_ok n k_0 k_1 k_2 r224_0 cr224_0), (f18_broughamref07_SameOption_ok r224_0.1 r224_0.2 o__0 o__1 r224_1 cr224_1), b224_8, b224_11, b224_21, (f26_opt_Data_Option_ok n d_0 d_1 d_2 d_3 d_4 d_5 r224_2 cr224_2), (f18_broughamref07_SameOption_ok r224_2.1 r224_2.2 o__0 o__1 r224_3 cr224_3), b224_28, b224_31, (f29_opt_Word_Option_ok n w__0 w__1 w__2 w__3 w__4 w__5 r224_4 cr224_4), (f18_broughamref07_SameOption_ok r224_4.1 r224_4.2 o__0 o__1 r224_5 cr224_5), b224_38, trivial⟩
            · have h := Option.some.inj h
              subst h
              have hk : o = f9_broughamlaw08_OptBack_out false := hk
              subst hk
              exact At.fin hm ht ⟨[(2, .b false), (4, .call [] [] (f21_opt_Key_Option_out r224_0)), (6, .call [] [] (f18_broughamref07_SameOption_out r224_1)), (8, .b true), (11, .b true), (21, .b false), (23, .call [] [] (f26_opt_Data_Option_out r224_2)), (25, .call [] [] (f18_broughamref07_SameOption_out r224_3)), (28, .b false)], [], [], [4], []⟩ [(!a) = false, FnOK Go.Proofs.Try.prog 21 (f21_opt_Key_Option_in k_0 k_1 k_2) (f21_opt_Key_Option_out r224_0), FnOK Go.Proofs.Try.prog 18 (f18_broughamref07_SameOption_in r224_0.1 r224_0.2 o__0 o__1) (f18_broughamref07_SameOption_out r224_1), r224_1 = true, (!b) = true, (!c) = false, FnOK Go.Proofs.Try.prog 26 (f26_opt_Data_Option_in d_0 d_1 d_2 d_3 d_4 d_5) (f26_opt_Data_Option_out r224_2), FnOK Go.Proofs.Try.prog 18 (f18_broughamref07_SameOption_in r224_2.1 r224_2.2 o__0 o__1) (f18_broughamref07_SameOption_out r224_3), r224_3 = false] (by kernel_rfl) ⟨b224_2, (f21_opt_Key_Option_ok n k_0 k_1 k_2 r224_0 cr224_0), (f18_broughamref07_SameOption_ok r224_0.1 r224_0.2 o__0 o__1 r224_1 cr224_1), b224_8, b224_11, b224_21, (f26_opt_Data_Option_ok n d_0 d_1 d_2 d_3 d_4 d_5 r224_2 cr224_2), (f18_broughamref07_SameOption_ok r224_2.1 r224_2.2 o__0 o__1 r224_3 cr224_3), b224_28, trivial⟩
        · obtain ⟨r224_2, cr224_2, h⟩ := bindS h
          obtain ⟨r224_3, cr224_3, h⟩ := bindS h
          rcases iteS h with ⟨b224_18, h⟩ | ⟨b224_18, h⟩
          · rcases iteS h with ⟨b224_21, h⟩ | ⟨b224_21, h⟩
            · rcases iteS h with ⟨b224_31, h⟩ | ⟨b224_31, h⟩
              · obtain ⟨r224_4, cr224_4, h⟩ := bindS h
                have h := Option.some.inj h
                subst h
                have hk : o = f9_broughamlaw08_OptBack_out r224_4 := hk
                subst hk
                exact At.fin hm ht ⟨[(2, .b false), (4, .call [] [] (f21_opt_Key_Option_out r224_0)), (6, .call [] [] (f18_broughamref07_SameOption_out r224_1)), (8, .b true), (11, .b false), (13, .call [] [] (f23_opt_Join_Option_out r224_2)), (15, .call [] [] (f18_broughamref07_SameOption_out r224_3)), (18, .b true), (21, .b true), (31, .b true), (39, .call [] [] (f19_broughamlaw08_alive_out r224_4))], [], [], [4], []⟩ [(!a) = false, FnOK Go.Proofs.Try.prog 21 (f21_opt_Key_Option_in k_0 k_1 k_2) (f21_opt_Key_Option_out r224_0), FnOK Go.Proofs.Try.prog 18 (f18_broughamref07_SameOption_in r224_0.1 r224_0.2 o__0 o__1) (f18_broughamref07_SameOption_out r224_1), r224_1 = true, (!b) = false, FnOK Go.Proofs.Try.prog 23 (f23_opt_Join_Option_in j_0 j_1 j_2 j_3 j_4 j_5) (f23_opt_Join_Option_out r224_2), FnOK Go.Proofs.Try.prog 18 (f18_broughamref07_SameOption_in r224_2.1 r224_2.2 o__0 o__1) (f18_broughamref07_SameOption_out r224_3), r224_3 = true, (!c) = true, (!e_) = true, FnOK Go.Proofs.Try.prog 19 (f19_broughamlaw08_alive_in) (f19_broughamlaw08_alive_out r224_4)] (by kernel_rfl) ⟨b224_2, (f21_opt_Key_Option_ok n k_0 k_1 k_2 r224_0 cr224_0), (f18_broughamref07_SameOption_ok r224_0.1 r224_0.2 o__0 o__1 r224_1 cr224_1), b224_8, b224_11, (f23_opt_Join_Option_ok n j_0 j_1 j_2 j_3 j_4 j_5 r224_2 cr224_2), (f18_broughamref07_SameOption_ok r224_2.1 r224_2.2 o__0 o__1 r224_3 cr224_3), b224_18, b224_21, b224_31, (f19_broughamlaw08_alive_ok n r224_4 cr224_4), trivial⟩
              · obtain ⟨r224_4, cr224_4, h⟩ := bindS h
                obtain ⟨r224_5, cr224_5, h⟩ := bindS h
                rcases iteS h with ⟨b224_38, h⟩ | ⟨b224_38, h⟩
                · obtain ⟨r224_6, cr224_6, h⟩ := bindS h
                  have h := Option.some.inj h
                  subst h
                  have hk : o = f9_broughamlaw08_OptBack_out r224_6 := hk
                  subst hk
                  exact At.fin hm ht ⟨[(2, .b false), (4, .call [] [] (f21_opt_Key_Option_out r224_0)), (6, .call [] [] (f18_broughamref07_SameOption_out r224_1)), (8, .b true), (11, .b false), (13, .call [] [] (f23_opt_Join_Option_out r224_2)), (15, .call [] [] (f18_broughamref07_SameOption_out r224_3)), (18, .b true), (21, .b true), (31, .b false), (33, .call [] [] (f29_opt_Word_Option_out r224_4)), (35, .call [] [] (f18_broughamref07_SameOption_out r224_5)), (38, .b true), (39, .call [] [] (f19_broughamlaw08_alive_out r224_6))], [], [], [4], []⟩ [(!a) = false, FnOK Go.Proofs.Try.prog 21 (f21_opt_Key_Option_in k_0 k_1 k_2) (f21_opt_Key_Option_out r224_0), FnOK Go.Proofs.Try.prog 18 (f18_broughamref07_SameOption_in r224_0.1 r224_0.2 o__0 o__1) (f18_broughamref07_SameOption_out r224_1), r224_1 = true, (!b) = false, FnOK Go.Proofs.Try.prog 23 (f23_opt_Join_Option_in j_0 j_1 j_2 j_3 j_4 j_5) (f23_opt_Join_Option_out r224_2), FnOK Go.Proofs.Try.prog 18 (f18_broughamref07_SameOption_in r224_2.1 r224_2.2 o__0 o__1) (f18_broughamref07_SameOption_out r224_3), r224_3 = true, (!c) = true, (!e_) = false, FnOK Go.Proofs.Try.prog 29 (f29_opt_Word_Option_in w__0 w__1 w__2 w__3 w__4 w__5) (f29_opt_Word_Option_out r224_4), FnOK Go.Proofs.Try.prog 18 (f18_broughamref07_SameOption_in r224_4.1 r224_4.2 o__0 o__1) (f18_broughamref07_SameOption_out r224_5), r224_5 = true, FnOK Go.Proofs.Try.prog 19 (f19_broughamlaw08_alive_in) (f19_broughamlaw08_alive_out r224_6)] (by kernel_rfl) ⟨b224_2, (f21_opt_Key_Option_ok n k_0 k_1 k_2 r224_0 cr224_0), (f18_broughamref07_SameOption_ok r224_0.1 r224_0.2 o__0 o__1 r224_1 cr224_1), b224_8, b224_11, (f23_opt_Join_Option_ok n j_0 j_1 j_2 j_3 j_4 j_5 r224_2 cr224_2), (f18_broughamref07_SameOption_ok r224_2.1 r224_2.2 o__0 o__1 r224_3 cr224_3), b224_18, b224_21, b224_31, (f29_opt_Word_Option_ok n w__0 w__1 w__2 w__3 w__4 w__5 r224_4 cr224_4), (f18_broughamref07_SameOption_ok r224_4.1 r224_4.2 o__0 o__1 r224_5 cr224_5), b224_38, (f19_broughamlaw08_alive_ok n r224_6 cr224_6), trivial⟩
                · have h := Option.some.inj h
                  subst h
                  have hk : o = f9_broughamlaw08_OptBack_out false := hk
                  subst hk
                  exact At.fin hm ht ⟨[(2, .b false), (4, .call [] [] (f21_opt_Key_Option_out r224_0)), (6, .call [] [] (f18_broughamref07_SameOption_out r224_1)), (8, .b true), (11, .b false), (13, .call [] [] (f23_opt_Join_Option_out r224_2)), (15, .call [] [] (f18_broughamref07_SameOption_out r224_3)), (18, .b true), (21, .b true), (31, .b false), (33, .call [] [] (f29_opt_Word_Option_out r224_4)), (35, .call [] [] (f18_broughamref07_SameOption_out r224_5)), (38, .b false)], [], [], [4], []⟩ [(!a) = false, FnOK Go.Proofs.Try.prog 21 (f21_opt_Key_Option_in k_0 k_1 k_2) (f21_opt_Key_Option_out r224_0), FnOK Go.Proofs.Try.prog 18 (f18_broughamref07_SameOption_in r224_0.1 r224_0.2 o__0 o__1) (f18_broughamref07_SameOption_out r224_1), r224_1 = true, (!b) = false, FnOK Go.Proofs.Try.prog 23 (f23_opt_Join_Option_in j_0 j_1 j_2 j_3 j_4 j_5) (f23_opt_Join_Option_out r224_2), FnOK Go.Proofs.Try.prog 18 (f18_broughamref07_SameOption_in r224_2.1 r224_2.2 o__0 o__1) (f18_broughamref07_SameOption_out r224_3), r224_3 = true, (!c) = true, (!e_) = false, FnOK Go.Proofs.Try.prog 29 (f29_opt_Word_Option_in w__0 w__1 w__2 w__3 w__4 w__5) (f29_opt_Word_Option_out r224_4), FnOK Go.Proofs.Try.prog 18 (f18_broughamref07_SameOption_in r224_4.1 r224_4.2 o__0 o__1) (f18_broughamref07_SameOption_out r224_5), r224_5 = false] (by kernel_rfl) ⟨b224_2, (f21_opt_Key_Option_ok n k_0 k_1 k_2 r224_0 cr224_0), (f18_broughamref07_SameOption_ok r224_0.1 r224_0.2 o__0 o__1 r224_1 cr224_1), b224_8, b224_11, (f23_opt_Join_Option_ok n j_0 j_1 j_2 j_3 j_4 j_5 r224_2 cr224_2), (f18_broughamref07_SameOption_ok r224_2.1 r224_2.2 o__0 o__1 r224_3 cr224_3), b224_18, b224_21, b224_31, (f29_opt_Word_Option_ok n w__0 w__1 w__2 w__3 w__4 w__5 r224_4 cr224_4), (f18_broughamref07_SameOption_ok r224_4.1 r224_4.2 o__0 o__1 r224_5 cr224_5), b224_38, trivial⟩
            · obtain ⟨r224_4, cr224_4, h⟩ := bindS h
              obtain ⟨r224_5, cr224_5, h⟩ := bindS h
              rcases iteS h with ⟨b224_28, h⟩ | ⟨b224_28, h⟩
              · rcases iteS h with ⟨b224_31, h⟩ | ⟨b224_31, h⟩
                · obtain ⟨r224_6, cr224_6, h⟩ := bindS h
                  have h := Option.some.inj h
                  subst h
                  have hk : o = f9_broughamlaw08_OptBack_out r224_6 := hk
                  subst hk
                  exact At.fin hm ht ⟨[(2, .b false), (4, .call [] [] (f21_opt_Key_Option_out r224_0)), (6, .call [] [] (f18_broughamref07_SameOption_out r224_1)), (8, .b true), (11, .b false), (13, .call [] [] (f23_opt_Join_Option_out r224_2)), (15, .call [] [] (f18_broughamref07_SameOption_out r224_3)), (18, .b true), (21, .b false), (23, .call [] [] (f26_opt_Data_Option_out r224_4)), (25, .call [] [] (f18_broughamref07_SameOption_out r224_5)), (28, .b true), (31, .b true), (39, .call [] [] (f19_broughamlaw08_alive_out r224_6))], [], [], [4], []⟩ [(!a) = false, FnOK Go.Proofs.Try.prog 21 (f21_opt_Key_Option_in k_0 k_1 k_2) (f21_opt_Key_Option_out r224_0), FnOK Go.Proofs.Try.prog 18 (f18_broughamref07_SameOption_in r224_0.1 r224_0.2 o__0 o__1) (f18_broughamref07_SameOption_out r224_1), r224_1 = true, (!b) = false, FnOK Go.Proofs.Try.prog 23 (f23_opt_Join_Option_in j_0 j_1 j_2 j_3 j_4 j_5) (f23_opt_Join_Option_out r224_2), FnOK Go.Proofs.Try.prog 18 (f18_broughamref07_SameOption_in r224_2.1 r224_2.2 o__0 o__1) (f18_broughamref07_SameOption_out r224_3), r224_3 = true, (!c) = false, FnOK Go.Proofs.Try.prog 26 (f26_opt_Data_Option_in d_0 d_1 d_2 d_3 d_4 d_5) (f26_opt_Data_Option_out r224_4), FnOK Go.Proofs.Try.prog 18 (f18_broughamref07_SameOption_in r224_4.1 r224_4.2 o__0 o__1) (f18_broughamref07_SameOption_out r224_5), r224_5 = true, (!e_) = true, FnOK Go.Proofs.Try.prog 19 (f19_broughamlaw08_alive_in) (f19_broughamlaw08_alive_out r224_6)] (by kernel_rfl) ⟨b224_2, (f21_opt_Key_Option_ok n k_0 k_1 k_2 r224_0 cr224_0), (f18_broughamref07_SameOption_ok r224_0.1 r224_0.2 o__0 o__1 r224_1 cr224_1), b224_8, b224_11, (f23_opt_Join_Option_ok n j_0 j_1 j_2 j_3 j_4 j_5 r224_2 cr224_2), (f18_broughamref07_SameOption_ok r224_2.1 r224_2.2 o__0 o__1 r224_3 cr224_3), b224_18, b224_21, (f26_opt_Data_Option_ok n d_0 d_1 d_2 d_3 d_4 d_5 r224_4 cr224_4), (f18_broughamref07_SameOption_ok r224_4.1 r224_4.2 o__0 o__1 r224_5 cr224_5), b224_28, b224_31, (f19_broughamlaw08_alive_ok n r224_6 cr224_6), trivial⟩
                · obtain ⟨r224_6, cr224_6, h⟩ := bindS h
                  obtain ⟨r224_7, cr224_7, h⟩ := bindS h
                  rcases iteS h with ⟨b224_38, h⟩ | ⟨b224_38, h⟩
                  · obtain ⟨r224_8, cr224_8, h⟩ := bindS h
                    have h := Option.some.inj h
                    subst h
                    have hk : o = f9_broughamlaw08_OptBack_out r224_8 := hk
                    subst hk
                    exact At.fin hm ht ⟨[(2, .b false), (4, .call [] [] (f21_opt_Key_Option_out r224_0)), (6, .call [] [] (f18_broughamref07_SameOption_out r224_1)), (8, .b true), (11, .b false), (13, .call [] [] (f23_opt_Join_Option_out r224_2)), (15, .call [] [] (f18_broughamref07_SameOption_out r224_3)), (18, .b true), (21, .b false), (23, .call [] [] (f26_opt_Data_Option_out r224_4)), (25, .call [] [] (f18_broughamref07_SameOption_out r224_5)), (28, .b true), (31, .b false), (33, .call [] [] (f29_opt_Word_Option_out r224_6)), (35, .call [] [] (f18_broughamref07_SameOption_out r224_7)), (38, .b true), (39, .call [] [] (f19_broughamlaw08_alive_out r224_8))], [], [], [4], []⟩ [(!a) = false, FnOK Go.Proofs.Try.prog 21 (f21_opt_Key_Option_in k_0 k_1 k_2) (f21_opt_Key_Option_out r224_0), FnOK Go.Proofs.Try.prog 18 (f18_broughamref07_SameOption_in r224_0.1 r224_0.2 o__0 o__1) (f18_broughamref07_SameOption_out r224_1), r224_1 = true, (!b) = false, FnOK Go.Proofs.Try.prog 23 (f23_opt_Join_Option_in j_0 j_1 j_2 j_3 j_4 j_5) (f23_opt_Join_Option_out r224_2), FnOK Go.Proofs.Try.prog 18 (f18_broughamref07_SameOption_in r224_2.1 r224_2.2 o__0 o__1) (f18_broughamref07_SameOption_out r224_3), r224_3 = true, (!c) = false, FnOK Go.Proofs.Try.prog 26 (f26_opt_Data_Option_in d_0 d_1 d_2 d_3 d_4 d_5) (f26_opt_Data_Option_out r224_4), FnOK Go.Proofs.Try.prog 18 (f18_broughamref07_SameOption_in r224_4.1 r224_4.2 o__0 o__1) (f18_broughamref07_SameOption_out r224_5), r224_5 = true, (!e_) = false, FnOK Go.Proofs.Try.prog 29 (f29_opt_Word_Option_in w__0 w__1 w__2 w__3 w__4 w__5) (f29_opt_Word_Option_out r224_6), FnOK Go.Proofs.Try.prog 18 (f18_broughamref07_SameOption_in r224_6.1 r224_6.2 o__0 o__1) (f18_broughamref07_SameOption_out r224_7), r224_7 = true, FnOK Go.Proofs.Try.prog 19 (f19_broughamlaw08_alive_in) (f19_broughamlaw08_alive_out r224_8)] (by kernel_rfl) ⟨b224_2, (f21_opt_Key_Option_ok n k_0 k_1 k_2 r224_0 cr224_0), (f18_broughamref07_SameOption_ok r224_0.1 r224_0.2 o__0 o__1 r224_1 cr224_1), b224_8, b224_11, (f23_opt_Join_Option_ok n j_0 j_1 j_2 j_3 j_4 j_5 r224_2 cr224_2), (f18_broughamref07_SameOption_ok r224_2.1 r224_2.2 o__0 o__1 r224_3 cr224_3), b224_18, b224_21, (f26_opt_Data_Option_ok n d_0 d_1 d_2 d_3 d_4 d_5 r224_4 cr224_4), (f18_broughamref07_SameOption_ok r224_4.1 r224_4.2 o__0 o__1 r224_5 cr224_5), b224_28, b224_31, (f29_opt_Word_Option_ok n w__0 w__1 w__2 w__3 w__4 w__5 r224_6 cr224_6), (f18_broughamref07_SameOption_ok r224_6.1 r224_6.2 o__0 o__1 r224_7 cr224_7), b224_38, (f19_broughamlaw08_alive_ok n r224_8 cr224_8), trivial⟩
                  · have h := Option.some.inj h
                    subst h
                    have hk : o = f9_broughamlaw08_OptBack_out false := hk
                    subst hk
                    exact At.fin hm ht ⟨[(2, .b false), (4, .call [] [] (f21_opt_Key_Option_out r224_0)), (6, .call [] [] (f18_broughamref07_SameOption_out r224_1)), (8, .b true), (11, .b false), (13, .call [] [] (f23_opt_Join_Option_out r224_2)), (15, .call [] [] (f18_broughamref07_SameOption_out r224_3)), (18, .b true), (21, .b false), (23, .call [] [] (f26_opt_Data_Option_out r224_4)), (25, .call [] [] (f18_broughamref07_SameOption_out r224_5)), (28, .b true), (31, .b false), (33, .call [] [] (f29_opt_Word_Option_out r224_6)), (35, .call [] [] (f18_broughamref07_SameOption_out r224_7)), (38, .b false)], [], [], [4], []⟩ [(!a) = false, FnOK Go.Proofs.Try.prog 21 (f21_opt_Key_Option_in k_0 k_1 k_2) (f21_opt_Key_Option_out r224_0), FnOK Go.Proofs.Try.prog 18 (f18_broughamref07_SameOption_in r224_0.1 r224_0.2 o__0 o__1) (f18_broughamref07_SameOption_out r224_1), r224_1 = true, (!b) = false, FnOK Go.Proofs.Try.prog 23 (f23_opt_Join_Option_in j_0 j_1 j_2 j_3 j_4 j_5) (f23_opt_Join_Option_out r224_2), FnOK Go.Proofs.Try.prog 18 (f18_broughamref07_SameOption_in r224_2.1 r224_2.2 o__0 o__1) (f18_broughamref07_SameOption_out r224_3), r224_3 = true, (!c) = false, FnOK Go.Proofs.Try.prog 26 (f26_opt_Data_Option_in d_0 d_1 d_2 d_3 d_4 d_5) (f26_opt_Data_Option_out r224_4), FnOK Go.Proofs.Try.prog 18 (f18_broughamref07_SameOption_in r224_4.1 r224_4.2 o__0 o__1) (f18_broughamref07_SameOption_out r224_5), r224_5 = true, (!e_) = false, FnOK Go.Proofs.Try.prog 29 (f29_opt_Word_Option_in w__0 w__1 w__2 w__3 w__4 w__5) (f29_opt_Word_Option_out r224_6), FnOK Go.Proofs.Try.prog 18 (f18_broughamref07_SameOption_in r224_6.1 r224_6.2 o__0 o__1) (f18_broughamref07_SameOption_out r224_7), r224_7 = false] (by kernel_rfl) ⟨b224_2, (f21_opt_Key_Option_ok n k_0 k_1 k_2 r224_0 cr224_0), (f18_broughamref07_SameOption_ok r224_0.1 r224_0.2 o__0 o__1 r224_1 cr224_1), b224_8, b224_11, (f23_opt_Join_Option_ok n j_0 j_1 j_2 j_3 j_4 j_5 r224_2 cr224_2), (f18_broughamref07_SameOption_ok r224_2.1 r224_2.2 o__0 o__1 r224_3 cr224_3), b224_18, b224_21, (f26_opt_Data_Option_ok n d_0 d_1 d_2 d_3 d_4 d_5 r224_4 cr224_4), (f18_broughamref07_SameOption_ok r224_4.1 r224_4.2 o__0 o__1 r224_5 cr224_5), b224_28, b224_31, (f29_opt_Word_Option_ok n w__0 w__1 w__2 w__3 w__4 w__5 r224_6 cr224_6), (f18_broughamref07_SameOption_ok r224_6.1 r224_6.2 o__0 o__1 r224_7 cr224_7), b224_38, trivial⟩
              · have h := Option.some.inj h
                subst h
                have hk : o = f9_broughamlaw08_OptBack_out false := hk
                subst hk
                exact At.fin hm ht ⟨[(2, .b false), (4, .call [] [] (f21_opt_Key_Option_out r224_0)), (6, .call [] [] (f18_broughamref07_SameOption_out r224_1)), (8, .b true), (11, .b false), (13, .call [] [] (f23_opt_Join_Option_out r224_2)), (15, .call [] [] (f18_broughamref07_SameOption_out r224_3)), (18, .b true), (21, .b false), (23, .call [] [] (f26_opt_Data_Option_out r224_4)), (25, .call [] [] (f18_broughamref07_SameOption_out r224_5)), (28, .b false)], [], [], [4], []⟩ [(!a) = false, FnOK Go.Proofs.Try.prog 21 (f21_opt_Key_Option_in k_0 k_1 k_2) (f21_opt_Key_Option_out r224_0), FnOK Go.Proofs.Try.prog 18 (f18_broughamref07_SameOption_in r224_0.1 r224_0.2 o__0 o__1) (f18_broughamref07_SameOption_out r224_1), r224_1 = true, (!b) = false, FnOK Go.Proofs.Try.prog 23 (f23_opt_Join_Option_in j_0 j_1 j_2 j_3 j_4 j_5) (f23_opt_Join_Option_out r224_2), FnOK Go.Proofs.Try.prog 18 (f18_broughamref07_SameOption_in r224_2.1 r224_2.2 o__0 o__1) (f18_broughamref07_SameOption_out r224_3), r224_3 = true, (!c) = false, FnOK Go.Proofs.Try.prog 26 (f26_opt_Data_Option_in d_0 d_1 d_2 d_3 d_4 d_5) (f26_opt_Data_Option_out r224_4), FnOK Go.Proofs.Try.prog 18 (f18_broughamref07_SameOption_in r224_4.1 r224_4.2 o__0 o__1) (f18_broughamref07_SameOption_out r224_5), r224_5 = false] (by kernel_rfl) ⟨b224_2, (f21_opt_Key_Option_ok n k_0 k_1 k_2 r224_0 cr224_0), (f18_broughamref07_SameOption_ok r224_0.1 r224_0.2 o__0 o__1 r224_1 cr224_1), b224_8, b224_11, (f23_opt_Join_Option_ok n j_0 j_1 j_2 j_3 j_4 j_5 r224_2 cr224_2), (f18_broughamref07_SameOption_ok r224_2.1 r224_2.2 o__0 o__1 r224_3 cr224_3), b224_18, b224_21, (f26_opt_Data_Option_ok n d_0 d_1 d_2 d_3 d_4 d_5 r224_4 cr224_4), (f18_broughamref07_SameOption_ok r224_4.1 r224_4.2 o__0 o__1 r224_5 cr224_5), b224_28, trivial⟩
          · have h := Option.some.inj h
            subst h
            have hk : o = f9_broughamlaw08_OptBack_out false := hk
            subst hk
            exact At.fin hm ht ⟨[(2, .b false), (4, .call [] [] (f21_opt_Key_Option_out r224_0)), (6, .call [] [] (f18_broughamref07_SameOption_out r224_1)), (8, .b true), (11, .b false), (13, .call [] [] (f23_opt_Join_Option_out r224_2)), (15, .call [] [] (f18_broughamref07_SameOption_out r224_3)), (18, .b false)], [], [], [4], []⟩ [(!a) = false, FnOK Go.Proofs.Try.prog 21 (f21_opt_Key_Option_in k_0 k_1 k_2) (f21_opt_Key_Option_out r224_0), FnOK Go.Proofs.Try.prog 18 (f18_broughamref07_SameOption_in r224_0.1 r224_0.2 o__0 o__1) (f18_broughamref07_SameOption_out r224_1), r224_1 = true, (!b) = false, FnOK Go.Proofs.Try.prog 23 (f23_opt_Join_Option_in j_0 j_1 j_2 j_3 j_4 j_5) (f23_opt_Join_Option_out r224_2), FnOK Go.Proofs.Try.prog 18 (f18_broughamref07_SameOption_in r224_2.1 r224_2.2 o__0 o__1) (f18_broughamref07_SameOption_out r224_3), r224_3 = false] (by kernel_rfl) ⟨b224_2, (f21_opt_Key_Option_ok n k_0 k_1 k_2 r224_0 cr224_0), (f18_broughamref07_SameOption_ok r224_0.1 r224_0.2 o__0 o__1 r224_1 cr224_1), b224_8, b224_11, (f23_opt_Join_Option_ok n j_0 j_1 j_2 j_3 j_4 j_5 r224_2 cr224_2), (f18_broughamref07_SameOption_ok r224_2.1 r224_2.2 o__0 o__1 r224_3 cr224_3), b224_18, trivial⟩
      · have h := Option.some.inj h
        subst h
        have hk : o = f9_broughamlaw08_OptBack_out false := hk
        subst hk
        exact At.fin hm ht ⟨[(2, .b false), (4, .call [] [] (f21_opt_Key_Option_out r224_0)), (6, .call [] [] (f18_broughamref07_SameOption_out r224_1)), (8, .b false)], [], [], [4], []⟩ [(!a) = false, FnOK Go.Proofs.Try.prog 21 (f21_opt_Key_Option_in k_0 k_1 k_2) (f21_opt_Key_Option_out r224_0), FnOK Go.Proofs.Try.prog 18 (f18_broughamref07_SameOption_in r224_0.1 r224_0.2 o__0 o__1) (f18_broughamref07_SameOption_out r224_1), r224_1 = false] (by kernel_rfl) ⟨b224_2, (f21_opt_Key_Option_ok n k_0 k_1 k_2 r224_0 cr224_0), (f18_broughamref07_SameOption_ok r224_0.1 r224_0.2 o__0 o__1 r224_1 cr224_1), b224_8, trivial⟩
def f9_broughamlaw08_OptBack_L14 : Nat → Bool → Bool → Bool → Int → (List Int) → Int → Bool → Int → Int → Int → Int → Bool → Bool → Int → Bool → Bool → Int → Int → Int → Int → Int → Int → Int → Int → Bool → Int → Option (Bool)
  | 0, _, _, _, _, _, _, _, _, _, _, _, _, _, _, _, _, _, _, _, _, _, _, _, _, _, _ => none
  | n + 1, a, b, c, o__0, o__1, k_0, k_1, k_2, j_0, j_1, j_2, j_3, j_4, j_5, d_0, d_1, d_2, d_3, d_4, d_5, w__0, w__1, w__2, w__3, w__4, w__5 =>
    (f38_opt_ParseWord n o__0 o__1).bind fun r223_0 =>
    (f9_broughamlaw08_OptBack_L15 n a b c r223_0.1 o__0 o__1 k_0 k_1 k_2 j_0 j_1 j_2 j_3 j_4 j_5 d_0 d_1 d_2 d_3 d_4 d_5 r223_0.2.1 r223_0.2.2.1 r223_0.2.2.2.1 r223_0.2.2.2.2.1 r223_0.2.2.2.2.2.1 r223_0.2.2.2.2.2.2).bind fun w234 =>
    some (w234)
def f9_broughamlaw08_OptBack_L14_k (e : Bool) (o : Out) : Prop := o = f9_broughamlaw08_OptBack_out e
theorem f9_broughamlaw08_OptBack_L14_ok (n : Nat) : ∀ (a : Bool) (b : Bool) (c : Bool) (o__0 : Int) (o__1 : List Int) (k_0 : Int) (k_1 : Bool) (k_2 : Int) (j_0 : Int) (j_1 : Int) (j_2 : Int) (j_3 : Bool) (j_4 : Bool) (j_5 : Int) (d_0 : Bool) (d_1 : Bool) (d_2 : Int) (d_3 : Int) (d_4 : Int) (d_5 : Int) (w__0 : Int) (w__1 : Int) (w__2 : Int) (w__3 : Int) (w__4 : Bool) (w__5 : Int) (w : Bool) (h : f9_broughamlaw08_OptBack_L14 n a b c o__0 o__1 k_0 k_1 k_2 j_0 j_1 j_2 j_3 j_4 j_5 d_0 d_1 d_2 d_3 d_4 d_5 w__0 w__1 w__2 w__3 w__4 w__5 = some w) (o : Out) (hk : f9_broughamlaw08_OptBack_L14_k w o), At Go.Proofs.Try.prog Go.Proofs.Try.f9 0 14 ⟨[(3, .one (.c (.ptr 0 0))), (5, .one (.c (.ptr 1 0))), (6, .one (.c (.d (.bool a)))), (7, .one (.c (.ptr 2 0))), (8, .one (.c (.d (.bool b)))), (9, .one (.c (.ptr 3 0))), (10, .one (.c (.d (.bool c)))), (11, .one (.c (.ptr 4 0)))], [], [(0, [.d (.int .u8 o__0), .d (.sl (.int .u8) o__1)]), (1, [.d (.int .u64 k_0), .d (.bool k_1), .d (.int .u64 k_2)]), (2, [.d (.int .u32 j_0), .d (.int .u32 j_1), .d (.int .u8 j_2), .d (.bool j_3), .d (.bool j_4), .d (.int .u64 j_5)]), (3, [.d (.bool d_0), .d (.bool d_1), .d (.int .u64 d_2), .d (.int .u64 d_3), .d (.int .u32 d_4), .d (.int .u64 d_5)]), (4, [.d (.int .u8 w__0), .d (.int .u32 w__1), .d (.int .u8 w__2), .d (.int .u8 w__3), .d (.bool w__4), .d (.int .u64 w__5)])], 5⟩ o := by
  induction n with
  | zero => intro a b c o__0 o__1 k_0 k_1 k_2 j_0 j_1 j_2 j_3 j_4 j_5 d_0 d_1 d_2 d_3 d_4 d_5 w__0 w__1 w__2 w__3 w__4 w__5 w h; rw [f9_broughamlaw08_OptBack_L14] at h; cases h
  | succ n ih =>
    intro a b c o__0 o__1 k_0 k_1 k_2 j_0 j_1 j_2 j_3 j_4 j_5 d_0 d_1 d_2 d_3 d_4 d_5 w__0 w__1 w__2 w__3 w__4 w__5 w h o hk
    rw [f9_broughamlaw08_OptBack_L14] at h
    obtain ⟨r223_0, cr223_0, h⟩ := bindS h
    refine At.step hm ht ⟨[(1, .call [] [] (f38_opt_ParseWord_out r223_0))], [], [], [3, 5, 6, 7, 8, 9, 10, 11, 12], [0, 1, 2, 3, 4]⟩ 15 ⟨[(3, .one (.c (.ptr 0 0))), (5, .one (.c (.ptr 1 0))), (6, .one (.c (.d (.bool a)))), (7, .one (.c (.ptr 2 0))), (8, .one (.c (.d (.bool b)))), (9, .one (.c (.ptr 3 0))), (10, .one (.c (.d (.bool c)))), (11, .one (.c (.ptr 4 0))), (12, .one (.c (.d (.bool r223_0.1))))], [], [(0, [.d (.int .u8 o__0), .d (.sl (.int .u8) o__1)]), (1, [.d (.int .u64 k_0), .d (.bool k_1), .d (.int .u64 k_2)]), (2, [.d (.int .u32 j_0), .d (.int .u32 j_1), .d (.int .u8 j_2), .d (.bool j_3), .d (.bool j_4), .d (.int .u64 j_5)]), (3, [.d (.bool d_0), .d (.bool d_1), .d (.int .u64 d_2), .d (.int .u64 d_3), .d (.int .u32 d_4), .d (.int .u64 d_5)]), (4, [.d (.int .u8 r223_0.2.1), .d (.int .u32 r223_0.2.2.1), .d (.int .u8 r223_0.2.2.2.1), .d (.int .u8 r223_0.2.2.2.2.1), .d (.bool r223_0.2.2.2.2.2.1), .d (.int .u64 r223_0.2.2.2.2.2.2)])], 5⟩ [FnOK Go.Proofs.Try.prog 38 (f38_opt_ParseWord_in o__0 o__1) (f38_opt_ParseWord_out r223_0), 0 + 6 ≤ 6] (by kernel_rfl) ⟨(f38_opt_ParseWord_ok n o__0 o__1 r223_0 cr223_0), (by decide), trivial⟩ ?_
    obtain ⟨w234, cw234, h⟩ := bindS h
    refine f9_broughamlaw08_OptBack_L15_ok n a b c r223_0.1 o__0 o__1 k_0 k_1 k_2 j_0 j_1 j_2 j_3 j_4 j_5 d_0 d_1 d_2 d_3 d_4 d_5 r223_0.2.1 r223_0.2.2.1 r223_0.2.2.2.1 r223_0.2.2.2.2.1 r223_0.2.2.2.2.2.1 r223_0.2.2.2.2.2.2 w234 cw234 _ ?_
    have h := Option.some.inj h
    subst h
    exact hk
def f9_broughamlaw08_OptBack_L13 : Nat → Bool → Bool → Int → (List Int) → Int → Bool → Int → Int → Int → Int → Bool → Bool → Int → Bool → Bool → Int → Int → Int → Int → Int → Int → Int → Int → Bool → Int → Option (Bool)
  | 0, _, _, _, _, _, _, _, _, _, _, _, _, _, _, _, _, _, _, _, _, _, _, _, _, _ => none
  | n + 1, a, b, o__0, o__1, k_0, k_1, k_2, j_0, j_1, j_2, j_3, j_4, j_5, d_0, d_1, d_2, d_3, d_4, d_5, w__0, w__1, w__2, w__3, w__4, w__5 =>
    (f36_opt_ParseData n o__0 o__1).bind fun r222_0 =>
    (f9_broughamlaw08_OptBack_L14 n a b r222_0.1 o__0 o__1 k_0 k_1 k_2 j_0 j_1 j_2 j_3 j_4 j_5 r222_0.2.1 r222_0.2.2.1 r222_0.2.2.2.1 r222_0.2.2.2.2.1 r222_0.2.2.2.2.2.1 r222_0.2.2.2.2.2.2 w__0 w__1 w__2 w__3 w__4 w__5).bind fun w236 =>
    some (w236)
def f9_broughamlaw08_OptBack_L13_k (e : Bool) (o : Out) : Prop := o = f9_broughamlaw08_OptBack_out e
theorem f9_broughamlaw08_OptBack_L13_ok (n : Nat) : ∀ (a : Bool) (b : Bool) (o__0 : Int) (o__1 : List Int) (k_0 : Int) (k_1 : Bool) (k_2 : Int) (j_0 : Int) (j_1 : Int) (j_2 : Int) (j_3 : Bool) (j_4 : Bool) (j_5 : Int) (d_0 : Bool) (d_1 : Bool) (d_2 : Int) (d_3 : Int) (d_4 : Int) (d_5 : Int) (w__0 : Int) (w__1 : Int) (w__2 : Int) (w__3 : Int) (w__4 : Bool) (w__5 : Int) (w : Bool) (h : f9_broughamlaw08_OptBack_L13 n a b o__0 o__1 k_0 k_1 k_2 j_0 j_1 j_2 j_3 j_4 j_5 d_0 d_1 d_2 d_3 d_4 d_5 w__0 w__1 w__2 w__3 w__4 w__5 = some w) (o : Out) (hk : f9_broughamlaw08_OptBack_L13_k w o), At Go.Proofs.Try.prog Go.Proofs.Try.f9 0 13 ⟨[(3, .one (.c (.ptr 0 0))), (5, .one (.c (.ptr 1 0))), (6, .one (.c (.d (.bool a)))), (7, .one (.c (.ptr 2 0))), (8, .one (.c (.d (.bool b)))), (9, .one (.c (.ptr 3 0))), (11, .one (.c (.ptr 4 0)))], [], [(0, [.d (.int .u8 o__0), .d (.sl (.int .u8) o__1)]), (1, [.d (.int .u64 k_0), .d (.bool k_1), .d (.int .u64 k_2)]), (2, [.d (.int .u32 j_0), .d (.int .u32 j_1), .d (.int .u8 j_2), .d (.bool j_3), .d (.bool j_4), .d (.int .u64 j_5)]), (3, [.d (.bool d_0), .d (.bool d_1), .d (.int .u64 d_2), .d (.int .u64 d_3), .d (.int .u32 d_4), .d (.int .u64 d_5)]), (4, [.d (.int .u8 w__0), .d (.int .u32 w__1), .d (.int .u8 w__2), .d (.int .u8 w__3), .d (.bool w__4), .d (.int .u64 w__5)])], 5⟩ o := by
  induction n with
  | zero => intro a b o__0 o__1 k_0 k_1 k_2 j_0 j_1 j_2 j_3 j_4 j_5 d_0 d_1 d_2 d_3 d_4 d_5 w__0 w__1 w__2 w__3 w__4 w__5 w h; rw [f9_broughamlaw08_OptBack_L13] at h; cases h
  | succ n ih =>
    intro a b o__0 o__1 k_0 k_1 k_2 j_0 j_1 j_2 j_3 j_4 j_5 d_0 d_1 d_2 d_3 d_4 d_5 w__0 w__1 w__2 w__3 w__4 w__5 w h o hk
    rw [f9_broughamlaw08_OptBack_L13] at h
    obtain ⟨r222_0, cr222_0, h⟩ := bindS h
    refine At.step hm ht ⟨[(1, .call [] [] (f36_opt_ParseData_out r222_0))], [], [], [3, 5, 6, 7, 8, 9, 10, 11], [0, 1, 2, 3, 4]⟩ 14 ⟨[(3, .one (.c (.ptr 0 0))), (5, .one (.c (.ptr 1 0))), (6, .one (.c (.d (.bool a)))), (7, .one (.c (.ptr 2 0))), (8, .one (.c (.d (.bool b)))), (9, .one (.c (.ptr 3 0))), (10, .one (.c (.d (.bool r222_0.1)))), (11, .one (.c (.ptr 4 0)))], [], [(0, [.d (.int .u8 o__0), .d (.sl (.int .u8) o__1)]), (1, [.d (.int .u64 k_0), .d (.bool k_1), .d (.int .u64 k_2)]), (2, [.d (.int .u32 j_0), .d (.int .u32 j_1), .d (.int .u8 j_2), .d (.bool j_3), .d (.bool j_4), .d (.int .u64 j_5)]), (3, [.d (.bool r222_0.2.1), .d (.bool r222_0.2.2.1), .d (.int .u64 r222_0.2.2.2.1), .d (.int .u64 r222_0.2.2.2.2.1), .d (.int .u32 r222_0.2.2.2.2.2.1), .d (.int .u64 r222_0.2.2.2.2.2.2)]), (4, [.d (.int .u8 w__0), .d (.int .u32 w__1), .d (.int .u8 w__2), .d (.int .u8 w__3), .d (.bool w__4), .d (.int .u64 w__5)])], 5⟩ [FnOK Go.Proofs.Try.prog 36 (f36_opt_ParseData_in o__0 o__1) (f36_opt_ParseData_out r222_0), 0 + 6 ≤ 6] (by kernel_rfl) ⟨(f36_opt_ParseData_ok n o__0 o__1 r222_0 cr222_0), (by decide), trivial⟩ ?_
    obtain ⟨w236, cw236, h⟩ := bindS h
    refine f9_broughamlaw08_OptBack_L14_ok n a b r222_0.1 o__0 o__1 k_0 k_1 k_2 j_0 j_1 j_2 j_3 j_4 j_5 r222_0.2.1 r222_0.2.2.1 r222_0.2.2.2.1 r222_0.2.2.2.2.1 r222_0.2.2.2.2.2.1 r222_0.2.2.2.2.2.2 w__0 w__1 w__2 w__3 w__4 w__5 w236 cw236 _ ?_
    have h := Option.some.inj h
    subst h
    exact hk
def f9_broughamlaw08_OptBack_L12 : Nat → Bool → Int → (List Int) → Int → Bool → Int → Int → Int → Int → Bool → Bool → Int → Bool → Bool → Int → Int → Int → Int → Int → Int → Int → Int → Bool → Int → Option (Bool)
  | 0, _, _, _, _, _, _, _, _, _, _, _, _, _, _, _, _, _, _, _, _, _, _, _, _ => none
  | n + 1, a, o__0, o__1, k_0, k_1, k_2, j_0, j_1, j_2, j_3, j_4, j_5, d_0, d_1, d_2, d_3, d_4, d_5, w__0, w__1, w__2, w__3, w__4, w__5 =>
    (f34_opt_ParseJoin n o__0 o__1).bind fun r221_0 =>
    (f9_broughamlaw08_OptBack_L13 n a r221_0.1 o__0 o__1 k_0 k_1 k_2 r221_0.2.1 r221_0.2.2.1 r221_0.2.2.2.1 r221_0.2.2.2.2.1 r221_0.2.2.2.2.2.1 r221_0.2.2.2.2.2.2 d_0 d_1 d_2 d_3 d_4 d_5 w__0 w__1 w__2 w__3 w__4 w__5).bind fun w238 =>
    some (w238)
def f9_broughamlaw08_OptBack_L12_k (e : Bool) (o : Out) : Prop := o = f9_broughamlaw08_OptBack_out e
theorem f9_broughamlaw08_OptBack_L12_ok (n : Nat) : ∀ (a : Bool) (o__0 : Int) (o__1 : List Int) (k_0 : Int) (k_1 : Bool) (k_2 : Int) (j_0 : Int) (j_1 : Int) (j_2 : Int) (j_3 : Bool) (j_4 : Bool) (j_5 : Int) (d_0 : Bool) (d_1 : Bool) (d_2 : Int) (d_3 : Int) (d_4 : Int) (d_5 : Int) (w__0 : Int) (w__1 : Int) (w__2 : Int) (w__3 : Int) (w__4 : Bool) (w__5 : Int) (w : Bool) (h : f9_broughamlaw08_OptBack_L12 n a o__0 o__1 k_0 k_1 k_2 j_0 j_1 j_2 j_3 j_4 j_5 d_0 d_1 d_2 d_3 d_4 d_5 w__0 w__1 w__2 w__3 w__4 w__5 = some w) (o : Out) (hk : f9_broughamlaw08_OptBack_L12_k w o), At Go.Proofs.Try.prog Go.Proofs.Try.f9 0 12 ⟨[(3, .one (.c (.ptr 0 0))), (5, .one (.c (.ptr 1 0))), (6, .one (.c (.d (.bool a)))), (7, .one (.c (.ptr 2 0))), (9, .one (.c (.ptr 3 0))), (11, .one (.c (.ptr 4 0)))], [], [(0, [.d (.int .u8 o__0), .d (.sl (.int .u8) o__1)]), (1, [.d (.int .u64 k_0), .d (.bool k_1), .d (.int .u64 k_2)]), (2, [.d (.int .u32 j_0), .d (.int .u32 j_1), .d (.int .u8 j_2), .d (.bool j_3), .d (.bool j_4), .d (.int .u64 j_5)]), (3, [.d (.bool d_0), .d (.bool d_1), .d (.int .u64 d_2), .d (.int .u64 d_3), .d (.int .u32 d_4), .d (.int .u64 d_5)]), (4, [.d (.int .u8 w__0), .d (.int .u32 w__1), .d (.int .u8 w__2), .d (.int .u8 w__3), .d (.bool w__4), .d (.int .u64 w__5)])], 5⟩ o := by
  induction n with
  | zero => intro a o__0 o__1 k_0 k_1 k_2 j_0 j_1 j_2 j_3 j_4 j_5 d_0 d_1 d_2 d_3 d_4 d_5 w__0 w__1 w__2 w__3 w__4 w__5 w h; rw [f9_broughamlaw08_OptBack_L12] at h; cases h
  | succ n ih =>
    intro a o__0 o__1 k_0 k_1 k_2 j_0 j_1 j_2 j_3 j_4 j_5 d_0 d_1 d_2 d_3 d_4 d_5 w__0 w__1 w__2 w__3 w__4 w__5 w h o hk
    rw [f9_broughamlaw08_OptBack_L12] at h
    obtain ⟨r221_0, cr221_0, h⟩ := bindS h
    refine At.step hm ht ⟨[(1, .call [] [] (f34_opt_ParseJoin_out r221_0))], [], [], [3, 5, 6, 7, 8, 9, 11], [0, 1, 2, 3, 4]⟩ 13 ⟨[(3, .one (.c (.ptr 0 0))), (5, .one (.c (.ptr 1 0))), (6, .one (.c (.d (.bool a)))), (7, .one (.c (.ptr 2 0))), (8, .one (.c (.d (.bool r221_0.1)))), (9, .one (.c (.ptr 3 0))), (11, .one (.c (.ptr 4 0)))], [], [(0, [.d (.int .u8 o__0), .d (.sl (.int .u8) o__1)]), (1, [.d (.int .u64 k_0), .d (.bool k_1), .d (.int .u64 k_2)]), (2, [.d (.int .u32 r221_0.2.1), .d (.int .u32 r221_0.2.2.1), .d (.int .u8 r221_0.2.2.2.1), .d (.bool r221_0.2.2.2.2.1), .d (.bool r221_0.2.2.2.2.2.1), .d (.int .u64 r221_0.2.2.2.2.2.2)]), (3, [.d (.bool d_0), .d (.bool d_1), .d (.int .u64 d_2), .d (.int .u64 d_3), .d (.int .u32 d_4), .d (.int .u64 d_5)]), (4, [.d (.int .u8 w__0), .d (.int .u32 w__1), .d (.int .u8 w__2), .d (.int .u8 w__3), .d (.bool w__4), .d (.int .u64 w__5)])], 5⟩ [FnOK Go.Proofs.Try.prog 34 (f34_opt_ParseJoin_in o__0 o__1) (f34_opt_ParseJoin_out r221_0), 0 + 6 ≤ 6] (by kernel_rfl) ⟨(f34_opt_ParseJoin_ok n o__0 o__1 r221_0 cr221_0), (by decide), trivial⟩ ?_
    obtain ⟨w238, cw238, h⟩ := bindS h
    refine f9_broughamlaw08_OptBack_L13_ok n a r221_0.1 o__0 o__1 k_0 k_1 k_2 r221_0.2.1 r221_0.2.2.1 r221_0.2.2.2.1 r221_0.2.2.2.2.1 r221_0.2.2.2.2.2.1 r221_0.2.2.2.2.2.2 d_0 d_1 d_2 d_3 d_4 d_5 w__0 w__1 w__2 w__3 w__4 w__5 w238 cw238 _ ?_
    have h := Option.some.inj h
    subst h
    exact hk
def f9_broughamlaw08_OptBack_L11 : Nat → Int → (List Int) → Int → Bool → Int → Int → Int → Int → Bool → Bool → Int → Bool → Bool → Int → Int → Int → Int → Int → Int → Int → Int → Bool → Int → Option (Bool)
  | 0, _, _, _, _, _, _, _, _, _, _, _, _, _, _, _, _, _, _, _, _, _, _, _ => none
  | n + 1, o__0, o__1, k_0, k_1, k_2, j_0, j_1, j_2, j_3, j_4, j_5, d_0, d_1, d_2, d_3, d_4, d_5, w__0, w__1, w__2, w__3, w__4, w__5 =>
    (f32_opt_ParseKey n o__0 o__1).bind fun r220_0 =>
    (f9_broughamlaw08_OptBack_L12 n r220_0.1 o__0 o__1 r220_0.2.1 r220_0.2.2.1 r220_0.2.2.2 j_0 j_1 j_2 j_3 j_4 j_5 d_0 d_1 d_2 d_3 d_4 d_5 w__0 w__1 w__2 w__3 w__4 w__5).bind fun w240 =>
    some (w240)
def f9_broughamlaw08_OptBack_L11_k (e : Bool) (o : Out) : Prop := o = f9_broughamlaw08_OptBack_out e
theorem f9_broughamlaw08_OptBack_L11_ok (n : Nat) : ∀ (o__0 : Int) (o__1 : List Int) (k_0 : Int) (k_1 : Bool) (k_2 : Int) (j_0 : Int) (j_1 : Int) (j_2 : Int) (j_3 : Bool) (j_4 : Bool) (j_5 : Int) (d_0 : Bool) (d_1 : Bool) (d_2 : Int) (d_3 : Int) (d_4 : Int) (d_5 : Int) (w__0 : Int) (w__1 : Int) (w__2 : Int) (w__3 : Int) (w__4 : Bool) (w__5 : Int) (w : Bool) (h : f9_broughamlaw08_OptBack_L11 n o__0 o__1 k_0 k_1 k_2 j_0 j_1 j_2 j_3 j_4 j_5 d_0 d_1 d_2 d_3 d_4 d_5 w__0 w__1 w__2 w__3 w__4 w__5 = some w) (o : Out) (hk : f9_broughamlaw08_OptBack_L11_k w o), At Go.Proofs.Try.prog Go.Proofs.Try.f9 0 11 ⟨[(3, .one (.c (.ptr 0 0))), (5, .one (.c (.ptr 1 0))), (7, .one (.c (.ptr 2 0))), (9, .one (.c (.ptr 3 0))), (11, .one (.c (.ptr 4 0)))], [], [(0, [.d (.int .u8 o__0), .d (.sl (.int .u8) o__1)]), (1, [.d (.int .u64 k_0), .d (.bool k_1), .d (.int .u64 k_2)]), (2, [.d (.int .u32 j_0), .d (.int .u32 j_1), .d (.int .u8 j_2), .d (.bool j_3), .d (.bool j_4), .d (.int .u64 j_5)]), (3, [.d (.bool d_0), .d (.bool d_1), .d (.int .u64 d_2), .d (.int .u64 d_3), .d (.int .u32 d_4), .d (.int .u64 d_5)]), (4, [.d (.int .u8 w__0), .d (.int .u32 w__1), .d (.int .u8 w__2), .d (.int .u8 w__3), .d (.bool w__4), .d (.int .u64 w__5)])], 5⟩ o := by
  induction n with
  | zero => intro o__0 o__1 k_0 k_1 k_2 j_0 j_1 j_2 j_3 j_4 j_5 d_0 d_1 d_2 d_3 d_4 d_5 w__0 w__1 w__2 w__3 w__4 w__5 w h; rw [f9_broughamlaw08_OptBack_L11] at h; cases h
  | succ n ih =>
    intro o__0 o__1 k_0 k_1 k_2 j_0 j_1 j_2 j_3 j_4 j_5 d_0 d_1 d_2 d_3 d_4 d_5 w__0 w__1 w__2 w__3 w__4 w__5 w h o hk
    rw [f9_broughamlaw08_OptBack_L11] at h
    obtain ⟨r220_0, cr220_0, h⟩ := bindS h
    refine At.step hm ht ⟨[(1, .call [] [] (f32_opt_ParseKey_out r220_0))], [], [], [3, 5, 6, 7, 9, 11], [0, 1, 2, 3, 4]⟩ 12 ⟨[(3, .one (.c (.ptr 0 0))), (5, .one (.c (.ptr 1 0))), (6, .one (.c (.d (.bool r220_0.1)))), (7, .one (.c (.ptr 2 0))), (9, .one (.c (.ptr 3 0))), (11, .one (.c (.ptr 4 0)))], [], [(0, [.d (.int .u8 o__0), .d (.sl (.int .u8) o__1)]), (1, [.d (.int .u64 r220_0.2.1), .d (.bool r220_0.2.2.1), .d (.int .u64 r220_0.2.2.2)]), (2, [.d (.int .u32 j_0), .d (.int .u32 j_1), .d (.int .u8 j_2), .d (.bool j_3), .d (.bool j_4), .d (.int .u64 j_5)]), (3, [.d (.bool d_0), .d (.bool d_1), .d (.int .u64 d_2), .d (.int .u64 d_3), .d (.int .u32 d_4), .d (.int .u64 d_5)]), (4, [.d (.int .u8 w__0), .d (.int .u32 w__1), .d (.int .u8 w__2), .d (.int .u8 w__3), .d (.bool w__4), .d (.int .u64 w__5)])], 5⟩ [FnOK Go.Proofs.Try.prog 32 (f32_opt_ParseKey_in o__0 o__1) (f32_opt_ParseKey_out r220_0), 0 + 3 ≤ 3] (by kernel_rfl) ⟨(f32_opt_ParseKey_ok n o__0 o__1 r220_0 cr220_0), (by decide), trivial⟩ ?_
    obtain ⟨w240, cw240, h⟩ := bindS h
    refine f9_broughamlaw08_OptBack_L12_ok n r220_0.1 o__0 o__1 r220_0.2.1 r220_0.2.2.1 r220_0.2.2.2 j_0 j_1 j_2 j_3 j_4 j_5 d_0 d_1 d_2 d_3 d_4 d_5 w__0 w__1 w__2 w__3 w__4 w__5 w240 cw240 _ ?_
    have h := Option.some.inj h
    subst h
    exact hk
def f9_broughamlaw08_OptBack_L9 : Nat → Bool → Int → Bool → Int → Int → Int → Int → Bool → Bool → Int → Bool → Bool → Int → Int → Int → Int → Int → Int → Int → Int → Bool → Int → Int → (List Int) → Int → Bool → Int → Int → Int → Int → Bool → Bool → Int → Bool → Bool → Int → Int → Int → Int → Int → Int → Int → Int → Bool → Int → Option (Bool)
  | 0, _, _, _, _, _, _, _, _, _, _, _, _, _, _, _, _, _, _, _, _, _, _, _, _, _, _, _, _, _, _, _, _, _, _, _, _, _, _, _, _, _, _, _, _, _ => none
  | n + 1, e_, x_0, x_1, x_2, x_3, x_4, x_5, x_6, x_7, x_8, x_9, x_10, x_11, x_12, x_13, x_14, x_15, x_16, x_17, x_18, x_19, x_20, o__0, o__1, k_0, k_1, k_2, j_0, j_1, j_2, j_3, j_4, j_5, d_0, d_1, d_2, d_3, d_4, d_5, w__0, w__1, w__2, w__3, w__4, w__5 =>
    if (decide ((x_15 : Int) ≥ 4)) = true then
      if (decide ((x_15 : Int) ≤ 7)) = true then
        if (!e_) = true then
          (f9_broughamlaw08_OptBack_L10 n).bind fun w216 =>
          some (w216)
        else
          if (!(((w__0 : Int) == x_15) && (((w__1 : Int) == x_16) && (((w__2 : Int) == x_17) && (((w__3 : Int) == x_18) && ((w__4 == x_19) && ((w__5 : Int) == x_20))))))) = true then
            (f9_broughamlaw08_OptBack_L10 n).bind fun w218 =>
            some (w218)
          else
            (f9_broughamlaw08_OptBack_L11 n o__0 o__1 k_0 k_1 k_2 j_0 j_1 j_2 j_3 j_4 j_5 d_0 d_1 d_2 d_3 d_4 d_5 w__0 w__1 w__2 w__3 w__4 w__5).bind fun w242 =>
            some (w242)
      else
        (f9_broughamlaw08_OptBack_L11 n o__0 o__1 k_0 k_1 k_2 j_0 j_1 j_2 j_3 j_4 j_5 d_0 d_1 d_2 d_3 d_4 d_5 w__0 w__1 w__2 w__3 w__4 w__5).bind fun w244 =>
        some (w244)
    else
      (f9_broughamlaw08_OptBack_L11 n o__0 o__1 k_0 k_1 k_2 j_0 j_1 j_2 j_3 j_4 j_5 d_0 d_1 d_2 d_3 d_4 d_5 w__0 w__1 w__2 w__3 w__4 w__5).bind fun w246 =>
      some (w246)
def f9_broughamlaw08_OptBack_L9_k (e : Bool) (o : Out) : Prop := o = f9_broughamlaw08_OptBack_out e
theorem f9_broughamlaw08_OptBack_L9_ok (n : Nat) : ∀ (e_ : Bool) (x_0 : Int) (x_1 : Bool) (x_2 : Int) (x_3 : Int) (x_4 : Int) (x_5 : Int) (x_6 : Bool) (x_7 : Bool) (x_8 : Int) (x_9 : Bool) (x_10 : Bool) (x_11 : Int) (x_12 : Int) (x_13 : Int) (x_14 : Int) (x_15 : Int) (x_16 : Int) (x_17 : Int) (x_18 : Int) (x_19 : Bool) (x_20 : Int) (o__0 : Int) (o__1 : List Int) (k_0 : Int) (k_1 : Bool) (k_2 : Int) (j_0 : Int) (j_1 : Int) (j_2 : Int) (j_3 : Bool) (j_4 : Bool) (j_5 : Int) (d_0 : Bool) (d_1 : Bool) (d_2 : Int) (d_3 : Int) (d_4 : Int) (d_5 : Int) (w__0 : Int) (w__1 : Int) (w__2 : Int) (w__3 : Int) (w__4 : Bool) (w__5 : Int) (w : Bool) (h : f9_broughamlaw08_OptBack_L9 n e_ x_0 x_1 x_2 x_3 x_4 x_5 x_6 x_7 x_8 x_9 x_10 x_11 x_12 x_13 x_14 x_15 x_16 x_17 x_18 x_19 x_20 o__0 o__1 k_0 k_1 k_2 j_0 j_1 j_2 j_3 j_4 j_5 d_0 d_1 d_2 d_3 d_4 d_5 w__0 w__1 w__2 w__3 w__4 w__5 = some w) (o : Out) (hk : f9_broughamlaw08_OptBack_L9_k w o), At Go.Proofs.Try.prog Go.Proofs.Try.f9 0 9 ⟨[(2, .one (.c (.ptr 0 0))), (3, .one (.c (.ptr 1 0))), (5, .one (.c (.ptr 2 0))), (7, .one (.c (.ptr 3 0))), (9, .one (.c (.ptr 4 0))), (11, .one (.c (.ptr 5 0))), (12, .one (.c (.d (.bool e_))))], [], [(0, [.d (.int .u64 x_0), .d (.bool x_1), .d (.int .u64 x_2), .d (.int .u32 x_3), .d (.int .u32 x_4), .d (.int .u8 x_5), .d (.bool x_6), .d (.bool x_7), .d (.int .u64 x_8), .d (.bool x_9), .d (.bool x_10), .d (.int .u64 x_11), .d (.int .u64 x_12), .d (.int .u32 x_13), .d (.int .u64 x_14), .d (.int .u8 x_15), .d (.int .u32 x_16), .d (.int .u8 x_17), .d (.int .u8 x_18), .d (.bool x_19), .d (.int .u64 x_20)]), (1, [.d (.int .u8 o__0), .d (.sl (.int .u8) o__1)]), (2, [.d (.int .u64 k_0), .d (.bool k_1), .d (.int .u64 k_2)]), (3, [.d (.int .u32 j_0), .d (.int .u32 j_1), .d (.int .u8 j_2), .d (.bool j_3), .d (.bool j_4), .d (.int .u64 j_5)]), (4, [.d (.bool d_0), .d (.bool d_1), .d (.int .u64 d_2), .d (.int .u64 d_3), .d (.int .u32 d_4), .d (.int .u64 d_5)]), (5, [.d (.int .u8 w__0), .d (.int .u32 w__1), .d (.int .u8 w__2), .d (.int .u8 w__3), .d (.bool w__4), .d (.int .u64 w__5)])], 6⟩ o := by
  induction n with
  | zero => intro e_ x_0 x_1 x_2 x_3 x_4 x_5 x_6 x_7 x_8 x_9 x_10 x_11 x_12 x_13 x_14 x_15 x_16 x_17 x_18 x_19 x_20 o__0 o__1 k_0 k_1 k_2 j_0 j_1 j_2 j_3 j_4 j_5 d_0 d_1 d_2 d_3 d_4 d_5 w__0 w__1 w__2 w__3 w__4 w__5 w h; rw [f9_broughamlaw08_OptBack_L9] at h; cases h
  | succ n ih =>
    intro e_ x_0 x_1 x_2 x_3 x_4 x_5 x_6 x_7 x_8 x_9 x_10 x_11 x_12 x_13 x_14 x_15 x_16 x_17 x_18 x_19 x_20 o__0 o__1 k_0 k_1 k_2 j_0 j_1 j_2 j_3 j_4 j_5 d_0 d_1 d_2 d_3 d_4 d_5 w__0 w__1 w__2 w__3 w__4 w__5 w h o hk
    rw [f9_broughamlaw08_OptBack_L9] at h
    rcases iteS h with ⟨b214_4, h⟩ | ⟨b214_4, h⟩
    · rcases iteS h with ⟨b214_10, h⟩ | ⟨b214_10, h⟩
      · rcases iteS h with ⟨b214_13, h⟩ | ⟨b214_13, h⟩
        · refine At.step hm ht ⟨[(4, .b true), (10, .b true), (13, .b true)], [true], [], [], []⟩ 10 ⟨[], [], [], 0⟩ [(decide ((x_15 : Int) ≥ 4)) = true, (decide ((x_15 : Int) ≤ 7)) = true, (!e_) = true, true = true] (by kernel_rfl) ⟨b214_4, b214_10, b214_13, rfl, trivial⟩ ?_
          obtain ⟨w216, cw216, h⟩ := bindS h
          refine f9_broughamlaw08_OptBack_L10_ok n w216 cw216 _ ?_
          have h := Option.some.inj h
          subst h
          exact hk
        · rcases iteS h with ⟨b214_e0, h⟩ | ⟨b214_e0, h⟩
          · refine At.step hm ht ⟨[(4, .b true), (10, .b true), (13, .b false)], [true], [], [], []⟩ 10 ⟨[], [], [], 0⟩ [(decide ((x_15 : Int) ≥ 4)) = true, (decide ((x_15 : Int) ≤ 7)) = true, (!e_) = false, (!(((w__0 : Int) == x_15) && (((w__1 : Int) == x_16) && (((w__2 : Int) == x_17) && (((w__3 : Int) == x_18) && ((w__4 == x_19) && ((w__5 : Int) == x_20))))))) = true] (by kernel_rfl) ⟨b214_4, b214_10, b214_13, b214_e0, trivial⟩ ?_
            obtain ⟨w218, cw218, h⟩ := bindS h
            refine f9_broughamlaw08_OptBack_L10_ok n w218 cw218 _ ?_
            have h := Option.some.inj h
            subst h
            exact hk
          · refine At.step hm ht ⟨[(4, .b true), (10, .b true), (13, .b false)], [false], [], [3, 5, 7, 9, 11], [1, 2, 3, 4, 5]⟩ 11 ⟨[(3, .one (.c (.ptr 0 0))), (5, .one (.c (.ptr 1 0))), (7, .one (.c (.ptr 2 0))), (9, .one (.c (.ptr 3 0))), (11, .one (.c (.ptr 4 0)))], [], [(0, [.d (.int .u8 o__0), .d (.sl (.int .u8) o__1)]), (1, [.d (.int .u64 k_0), .d (.bool k_1), .d (.int .u64 k_2)]), (2, [.d (.int .u32 j_0), .d (.int .u32 j_1), .d (.int .u8 j_2), .d (.bool j_3), .d (.bool j_4), .d (.int .u64 j_5)]), (3, [.d (.bool d_0), .d (.bool d_1), .d (.int .u64 d_2), .d (.int .u64 d_3), .d (.int .u32 d_4), .d (.int .u64 d_5)]), (4, [.d (.int .u8 w__0), .d (.int .u32 w__1), .d (.int .u8 w__2), .d (.int .u8 w__3), .d (.bool w__4), .d (.int .u64 w__5)])], 5⟩ [(decide ((x_15 : Int) ≥ 4)) = true, (decide ((x_15 : Int) ≤ 7)) = true, (!e_) = false, (!(((w__0 : Int) == x_15) && (((w__1 : Int) == x_16) && (((w__2 : Int) == x_17) && (((w__3 : Int) == x_18) && ((w__4 == x_19) && ((w__5 : Int) == x_20))))))) = false] (by kernel_rfl) ⟨b214_4, b214_10, b214_13, b214_e0, trivial⟩ ?_
            obtain ⟨w242, cw242, h⟩ := bindS h
            refine f9_broughamlaw08_OptBack_L11_ok n o__0 o__1 k_0 k_1 k_2 j_0 j_1 j_2 j_3 j_4 j_5 d_0 d_1 d_2 d_3 d_4 d_5 w__0 w__1 w__2 w__3 w__4 w__5 w242 cw242 _ ?_
            have h := Option.some.inj h
            subst h
            exact hk
      · refine At.step hm ht ⟨[(4, .b true), (10, .b false)], [false], [], [3, 5, 7, 9, 11], [1, 2, 3, 4, 5]⟩ 11 ⟨[(3, .one (.c (.ptr 0 0))), (5, .one (.c (.ptr 1 0))), (7, .one (.c (.ptr 2 0))), (9, .one (.c (.ptr 3 0))), (11, .one (.c (.ptr 4 0)))], [], [(0, [.d (.int .u8 o__0), .d (.sl (.int .u8) o__1)]), (1, [.d (.int .u64 k_0), .d (.bool k_1), .d (.int .u64 k_2)]), (2, [.d (.int .u32 j_0), .d (.int .u32 j_1), .d (.int .u8 j_2), .d (.bool j_3), .d (.bool j_4), .d (.int .u64 j_5)]), (3, [.d (.bool d_0), .d (.bool d_1), .d (.int .u64 d_2), .d (.int .u64 d_3), .d (.int .u32 d_4), .d (.int .u64 d_5)]), (4, [.d (.int .u8 w__0), .d (.int .u32 w__1), .d (.int .u8 w__2), .d (.int .u8 w__3), .d (.bool w__4), .d (.int .u64 w__5)])], 5⟩ [(decide ((x_15 : Int) ≥ 4)) = true, (decide ((x_15 : Int) ≤ 7)) = false, false = false] (by kernel_rfl) ⟨b214_4, b214_10, rfl, trivial⟩ ?_
        obtain ⟨w244, cw244, h⟩ := bindS h
        refine f9_broughamlaw08_OptBack_L11_ok n o__0 o__1 k_0 k_1 k_2 j_0 j_1 j_2 j_3 j_4 j_5 d_0 d_1 d_2 d_3 d_4 d_5 w__0 w__1 w__2 w__3 w__4 w__5 w244 cw244 _ ?_
        have h := Option.some.inj h
        subst h
        exact hk
    · refine At.step hm ht ⟨[(4, .b false)], [false], [], [3, 5, 7, 9, 11], [1, 2, 3, 4, 5]⟩ 11 ⟨[(3, .one (.c (.ptr 0 0))), (5, .one (.c (.ptr 1 0))), (7, .one (.c (.ptr 2 0))), (9, .one (.c (.ptr 3 0))), (11, .one (.c (.ptr 4 0)))], [], [(0, [.d (.int .u8 o__0), .d (.sl (.int .u8) o__1)]), (1, [.d (.int .u64 k_0), .d (.bool k_1), .d (.int .u64 k_2)]), (2, [.d (.int .u32 j_0), .d (.int .u32 j_1), .d (.int .u8 j_2), .d (.bool j_3), .d (.bool j_4), .d (.int .u64 j_5)]), (3, [.d (.bool d_0), .d (.bool d_1), .d (.int .u64 d_2), .d (.int .u64 d_3), .d (.int .u32 d_4), .d (.int .u64 d_5)]), (4, [.d (.int .u8 w__0), .d (.int .u32 w__1), .d (.int .u8 w__2), .d (.int .u8 w__3), .d (.bool w__4), .d (.int .u64 w__5)])], 5⟩ [(decide ((x_15 : Int) ≥ 4)) = false, false = false] (by kernel_rfl) ⟨b214_4, rfl, trivial⟩ ?_
      obtain ⟨w246, cw246, h⟩ := bindS h
      refine f9_broughamlaw08_OptBack_L11_ok n o__0 o__1 k_0 k_1 k_2 j_0 j_1 j_2 j_3 j_4 j_5 d_0 d_1 d_2 d_3 d_4 d_5 w__0 w__1 w__2 w__3 w__4 w__5 w246 cw246 _ ?_
      have h := Option.some.inj h
      subst h
      exact hk
def f9_broughamlaw08_OptBack_L7 : Nat → Bool → Bool → Bool → Bool → Int → Bool → Int → Int → Int → Int → Bool → Bool → Int → Bool → Bool → Int → Int → Int → Int → Int → Int → Int → Int → Bool → Int → Int → (List Int) → Int → Bool → Int → Int → Int → Int → Bool → Bool → Int → Bool → Bool → Int → Int → Int → Int → Int → Int → Int → Int → Bool → Int → Option (Bool)
  | 0, _, _, _, _, _, _, _, _, _, _, _, _, _, _, _, _, _, _, _, _, _, _, _, _, _, _, _, _, _, _, _, _, _, _, _, _, _, _, _, _, _, _, _, _, _, _, _, _ => none
  | n + 1, a, b, c, e_, x_0, x_1, x_2, x_3, x_4, x_5, x_6, x_7, x_8, x_9, x_10, x_11, x_12, x_13, x_14, x_15, x_16, x_17, x_18, x_19, x_20, o__0, o__1, k_0, k_1, k_2, j_0, j_1, j_2, j_3, j_4, j_5, d_0, d_1, d_2, d_3, d_4, d_5, w__0, w__1, w__2, w__3, w__4, w__5 =>
    if (!a) = true then
      (f9_broughamlaw08_OptBack_L8 n).bind fun w198 =>
      some (w198)
    else
      if (!b) = true then
        (f9_broughamlaw08_OptBack_L8 n).bind fun w200 =>
        some (w200)
      else
        if (!c) = true then
          (f9_broughamlaw08_OptBack_L8 n).bind fun w202 =>
          some (w202)
        else
          if (!((d_0 == x_9) && ((d_1 == x_10) && (((d_2 : Int) == x_11) && (((d_3 : Int) == x_12) && (((d_4 : Int) == x_13) && ((d_5 : Int) == x_14))))))) = true then
            (f9_broughamlaw08_OptBack_L8 n).bind fun w204 =>
            some (w204)
          else
            if x_1 = true then
              if (!(((k_0 : Int) == x_0) && ((k_1 == x_1) && ((k_2 : Int) == x_2)))) = true then
                (f9_broughamlaw08_OptBack_L8 n).bind fun w206 =>
                some (w206)
              else
                if x_7 = true then
                  if (!(((j_0 : Int) == x_3) && (((j_1 : Int) == x_4) && (((j_2 : Int) == x_5) && ((j_3 == x_6) && ((j_4 == x_7) && ((j_5 : Int) == x_8))))))) = true then
                    (f9_broughamlaw08_OptBack_L8 n).bind fun w208 =>
                    some (w208)
                  else
                    if ((k_0 : Int) != x_0) = true then
                      (f9_broughamlaw08_OptBack_L8 n).bind fun w210 =>
                      some (w210)
                    else
                      if ((j_1 : Int) != x_4) = true then
                        (f9_broughamlaw08_OptBack_L8 n).bind fun w212 =>
                        some (w212)
                      else
                        (f9_broughamlaw08_OptBack_L9 n e_ x_0 x_1 x_2 x_3 x_4 x_5 x_6 x_7 x_8 x_9 x_10 x_11 x_12 x_13 x_14 x_15 x_16 x_17 x_18 x_19 x_20 o__0 o__1 k_0 k_1 k_2 j_0 j_1 j_2 j_3 j_4 j_5 d_0 d_1 d_2 d_3 d_4 d_5 w__0 w__1 w__2 w__3 w__4 w__5).bind fun w248 =>
                        some (w248)
                else
                  if ((k_0 : Int) != x_0) = true then
                    (f9_broughamlaw08_OptBack_L8 n).bind fun w250 =>
                    some (w250)
                  else
                    if ((j_1 : Int) != x_4) = true then
                      (f9_broughamlaw08_OptBack_L8 n).bind fun w252 =>
                      some (w252)
                    else
                      (f9_broughamlaw08_OptBack_L9 n e_ x_0 x_1 x_2 x_3 x_4 x_5 x_6 x_7 x_8 x_9 x_10 x_11 x_12 x_13 x_14 x_15 x_16 x_17 x_18 x_19 x_20 o__0 o__1 k_0 k_1 k_2 j_0 j_1 j_2 j_3 j_4 j_5 d_0 d_1 d_2 d_3 d_4 d_5 w__0 w__1 w__2 w__3 w__4 w__5).bind fun w254 =>
                      some (w254)
            else
              if x_7 = true then
                if (!(((j_0 : Int) == x_3) && (((j_1 : Int) == x_4) && (((j_2 : Int) == x_5) && ((j_3 == x_6) && ((j_4 == x_7) && ((j_5 : Int) == x_8))))))) = true then
                  (f9_broughamlaw08_OptBack_L8 n).bind fun w256 =>
                  some (w256)
                else
                  if ((k_0 : Int) != x_0) = true then
                    (f9_broughamlaw08_OptBack_L8 n).bind fun w258 =>
                    some (w258)
                  else
                    if ((j_1 : Int) != x_4) = true then
                      (f9_broughamlaw08_OptBack_L8 n).bind fun w260 =>
                      some (w260)
                    else
                      (f9_broughamlaw08_OptBack_L9 n e_ x_0 x_1 x_2 x_3 x_4 x_5 x_6 x_7 x_8 x_9 x_10 x_11 x_12 x_13 x_14 x_15 x_16 x_17 x_18 x_19 x_20 o__0 o__1 k_0 k_1 k_2 j_0 j_1 j_2 j_3 j_4 j_5 d_0 d_1 d_2 d_3 d_4 d_5 w__0 w__1 w__2 w__3 w__4 w__5).bind fun w262 =>
                      some (w262)
              else
                if ((k_0 : Int) != x_0) = true then
                  (f9_broughamlaw08_OptBack_L8 n).bind fun w264 =>
                  some (w264)
                else
                  if ((j_1 : Int) != x_4) = true then
                    (f9_broughamlaw08_OptBack_L8 n).bind fun w266 =>
                    some (w266)
                  else
                    (f9_broughamlaw08_OptBack_L9 n e_ x_0 x_1 x_2 x_3 x_4 x_5 x_6 x_7 x_8 x_9 x_10 x_11 x_12 x_13 x_14 x_15 x_16 x_17 x_18 x_19 x_20 o__0 o__1 k_0 k_1 k_2 j_0 j_1 j_2 j_3 j_4 j_5 d_0 d_1 d_2 d_3 d_4 d_5 w__0 w__1 w__2 w__3 w__4 w__5).bind fun w268 =>
                    some (w268)
def f9_broughamlaw08_OptBack_L7_k (e : Bool) (o : Out) : Prop := o = f9_broughamlaw08_OptBack_out e
theorem f9_broughamlaw08_OptBack_L7_ok (n : Nat) : ∀ (a : Bool) (b : Bool) (c : Bool) (e_ : Bool) (x_0 : Int) (x_1 : Bool) (x_2 : Int) (x_3 : Int) (x_4 : Int) (x_5 : Int) (x_6 : Bool) (x_7 : Bool) (x_8 : Int) (x_9 : Bool) (x_10 : Bool) (x_11 : Int) (x_12 : Int) (x_13 : Int) (x_14 : Int) (x_15 : Int) (x_16 : Int) (x_17 : Int) (x_18 : Int) (x_19 : Bool) (x_20 : Int) (o__0 : Int) (o__1 : List Int) (k_0 : Int) (k_1 : Bool) (k_2 : Int) (j_0 : Int) (j_1 : Int) (j_2 : Int) (j_3 : Bool) (j_4 : Bool) (j_5 : Int) (d_0 : Bool) (d_1 : Bool) (d_2 : Int) (d_3 : Int) (d_4 : Int) (d_5 : Int) (w__0 : Int) (w__1 : Int) (w__2 : Int) (w__3 : Int) (w__4 : Bool) (w__5 : Int) (w : Bool) (h : f9_broughamlaw08_OptBack_L7 n a b c e_ x_0 x_1 x_2 x_3 x_4 x_5 x_6 x_7 x_8 x_9 x_10 x_11 x_12 x_13 x_14 x_15 x_16 x_17 x_18 x_19 x_20 o__0 o__1 k_0 k_1 k_2 j_0 j_1 j_2 j_3 j_4 j_5 d_0 d_1 d_2 d_3 d_4 d_5 w__0 w__1 w__2 w__3 w__4 w__5 = some w) (o : Out) (hk : f9_broughamlaw08_OptBack_L7_k w o), At Go.Proofs.Try.prog Go.Proofs.Try.f9 0 7 ⟨[(2, .one (.c (.ptr 0 0))), (3, .one (.c (.ptr 1 0))), (5, .one (.c (.ptr 2 0))), (6, .one (.c (.d (.bool a)))), (7, .one (.c (.ptr 3 0))), (8, .one (.c (.d (.bool b)))), (9, .one (.c (.ptr 4 0))), (10, .one (.c (.d (.bool c)))), (11, .one (.c (.ptr 5 0))), (12, .one (.c (.d (.bool e_))))], [], [(0, [.d (.int .u64 x_0), .d (.bool x_1), .d (.int .u64 x_2), .d (.int .u32 x_3), .d (.int .u32 x_4), .d (.int .u8 x_5), .d (.bool x_6), .d (.bool x_7), .d (.int .u64 x_8), .d (.bool x_9), .d (.bool x_10), .d (.int .u64 x_11), .d (.int .u64 x_12), .d (.int .u32 x_13), .d (.int .u64 x_14), .d (.int .u8 x_15), .d (.int .u32 x_16), .d (.int .u8 x_17), .d (.int .u8 x_18), .d (.bool x_19), .d (.int .u64 x_20)]), (1, [.d (.int .u8 o__0), .d (.sl (.int .u8) o__1)]), (2, [.d (.int .u64 k_0), .d (.bool k_1), .d (.int .u64 k_2)]), (3, [.d (.int .u32 j_0), .d (.int .u32 j_1), .d (.int .u8 j_2), .d (.bool j_3), .d (.bool j_4), .d (.int .u64 j_5)]), (4, [.d (.bool d_0), .d (.bool d_1), .d (.int .u64 d_2), .d (.int .u64 d_3), .d (.int .u32 d_4), .d (.int .u64 d_5)]), (5, [.d (.int .u8 w__0), .d (.int .u32 w__1), .d (.int .u8 w__2), .d (.int .u8 w__3), .d (.bool w__4), .d (.int .u64 w__5)])], 6⟩ o := by
  induction n with
  | zero => intro a b c e_ x_0 x_1 x_2 x_3 x_4 x_5 x_6 x_7 x_8 x_9 x_10 x_11 x_12 x_13 x_14 x_15 x_16 x_17 x_18 x_19 x_20 o__0 o__1 k_0 k_1 k_2 j_0 j_1 j_2 j_3 j_4 j_5 d_0 d_1 d_2 d_3 d_4 d_5 w__0 w__1 w__2 w__3 w__4 w__5 w h; rw [f9_broughamlaw08_OptBack_L7] at h; cases h
  | succ n ih =>
    intro a b c e_ x_0 x_1 x_2 x_3 x_4 x_5 x_6 x_7 x_8 x_9 x_10 x_11 x_12 x_13 x_14 x_15 x_16 x_17 x_18 x_19 x_20 o__0 o__1 k_0 k_1 k_2 j_0 j_1 j_2 j_3 j_4 j_5 d_0 d_1 d_2 d_3 d_4 d_5 w__0 w__1 w__2 w__3 w__4 w__5 w h o hk
    rw [f9_broughamlaw08_OptBack_L7] at h
    rcases iteS h with ⟨b196_2, h⟩ | ⟨b196_2, h⟩
    · refine At.step hm ht ⟨[(2, .b true)], [true], [], [], []⟩ 8 ⟨[], [], [], 0⟩ [(!a) = true, true = true] (by kernel_rfl) ⟨b196_2, rfl, trivial⟩ ?_
      obtain ⟨w198, cw198, h⟩ := bindS h
      refine f9_broughamlaw08_OptBack_L8_ok n w198 cw198 _ ?_
      have h := Option.some.inj h
      subst h
      exact hk
    · rcases iteS h with ⟨b196_6, h⟩ | ⟨b196_6, h⟩
      · refine At.step hm ht ⟨[(2, .b false), (6, .b true)], [true], [], [], []⟩ 8 ⟨[], [], [], 0⟩ [(!a) = false, (!b) = true, true = true] (by kernel_rfl) ⟨b196_2, b196_6, rfl, trivial⟩ ?_
        obtain ⟨w200, cw200, h⟩ := bindS h
        refine f9_broughamlaw08_OptBack_L8_ok n w200 cw200 _ ?_
        have h := Option.some.inj h
        subst h
        exact hk
      · rcases iteS h with ⟨b196_10, h⟩ | ⟨b196_10, h⟩
        · refine At.step hm ht ⟨[(2, .b false), (6, .b false), (10, .b true)], [true], [], [], []⟩ 8 ⟨[], [], [], 0⟩ [(!a) = false, (!b) = false, (!c) = true, true = true] (by kernel_rfl) ⟨b196_2, b196_6, b196_10, rfl, trivial⟩ ?_
          obtain ⟨w202, cw202, h⟩ := bindS h
          refine f9_broughamlaw08_OptBack_L8_ok n w202 cw202 _ ?_
          have h := Option.some.inj h
          subst h
          exact hk
        · rcases iteS h with ⟨b196_16, h⟩ | ⟨b196_16, h⟩
          · refine At.step hm ht ⟨[(2, .b false), (6, .b false), (10, .b false), (16, .b true)], [true], [], [], []⟩ 8 ⟨[], [], [], 0⟩ [(!a) = false, (!b) = false, (!c) = false, (!((d_0 == x_9) && ((d_1 == x_10) && (((d_2 : Int) == x_11) && (((d_3 : Int) == x_12) && (((d_4 : Int) == x_13) && ((d_5 : Int) == x_14))))))) = true, true = true] (by kernel_rfl) ⟨b196_2, b196_6, b196_10, b196_16, rfl, trivial⟩ ?_
            obtain ⟨w204, cw204, h⟩ := bindS h
            refine f9_broughamlaw08_OptBack_L8_ok n w204 cw204 _ ?_
            have h := Option.some.inj h
            subst h
            exact hk
          · rcases iteS h with ⟨b196_20, h⟩ | ⟨b196_20, h⟩
            · rcases iteS h with ⟨b196_27, h⟩ | ⟨b196_27, h⟩
              · refine At.step hm ht ⟨[(2, .b false), (6, .b false), (10, .b false), (16, .b false), (20, .b true), (27, .b true)], [true], [], [], []⟩ 8 ⟨[], [], [], 0⟩ [(!a) = false, (!b) = false, (!c) = false, (!((d_0 == x_9) && ((d_1 == x_10) && (((d_2 : Int) == x_11) && (((d_3 : Int) == x_12) && (((d_4 : Int) == x_13) && ((d_5 : Int) == x_14))))))) = false, x_1 = true, (!(((k_0 : Int) == x_0) && ((k_1 == x_1) && ((k_2 : Int) == x_2)))) = true, true = true] (by kernel_rfl) ⟨b196_2, b196_6, b196_10, b196_16, b196_20, b196_27, rfl, trivial⟩ ?_
                obtain ⟨w206, cw206, h⟩ := bindS h
                refine f9_broughamlaw08_OptBack_L8_ok n w206 cw206 _ ?_
                have h := Option.some.inj h
                subst h
                exact hk
              · rcases iteS h with ⟨b196_31, h⟩ | ⟨b196_31, h⟩
                · rcases iteS h with ⟨b196_38, h⟩ | ⟨b196_38, h⟩
                  · refine At.step hm ht ⟨[(2, .b false), (6, .b false), (10, .b false), (16, .b false), (20, .b true), (27, .b false), (31, .b true), (38, .b true)], [true], [], [], []⟩ 8 ⟨[], [], [], 0⟩ [(!a) = false, (!b) = false, (!c) = false, (!((d_0 == x_9) && ((d_1 == x_10) && (((d_2 : Int) == x_11) && (((d_3 : Int) == x_12) && (((d_4 : Int) == x_13) && ((d_5 : Int) == x_14))))))) = false, x_1 = true, (!(((k_0 : Int) == x_0) && ((k_1 == x_1) && ((k_2 : Int) == x_2)))) = false, x_7 = true, (!(((j_0 : Int) == x_3) && (((j_1 : Int) == x_4) && (((j_2 : Int) == x_5) && ((j_3 == x_6) && ((j_4 == x_7) && ((j_5 : Int) == x_8))))))) = true, true = true] (by kernel_rfl) ⟨b196_2, b196_6, b196_10, b196_16, b196_20, b196_27, b196_31, b196_38, rfl, trivial⟩ ?_
                    obtain ⟨w208, cw208, h⟩ := bindS h
                    refine f9_broughamlaw08_OptBack_L8_ok n w208 cw208 _ ?_
                    have h := Option.some.inj h
                    subst h
                    exact hk
                  · rcases iteS h with ⟨b196_46, h⟩ | ⟨b196_46, h⟩
                    · refine At.step hm ht ⟨[(2, .b false), (6, .b false), (10, .b false), (16, .b false), (20, .b true), (27, .b false), (31, .b true), (38, .b false), (46, .b true)], [true], [], [], []⟩ 8 ⟨[], [], [], 0⟩ [(!a) = false, (!b) = false, (!c) = false, (!((d_0 == x_9) && ((d_1 == x_10) && (((d_2 : Int) == x_11) && (((d_3 : Int) == x_12) && (((d_4 : Int) == x_13) && ((d_5 : Int) == x_14))))))) = false, x_1 = true, (!(((k_0 : Int) == x_0) && ((k_1 == x_1) && ((k_2 : Int) == x_2)))) = false, x_7 = true, (!(((j_0 : Int) == x_3) && (((j_1 : Int) == x_4) && (((j_2 : Int) == x_5) && ((j_3 == x_6) && ((j_4 == x_7) && ((j_5 : Int) == x_8))))))) = false, ((k_0 : Int) != x_0) = true, true = true] (by kernel_rfl) ⟨b196_2, b196_6, b196_10, b196_16, b196_20, b196_27, b196_31, b196_38, b196_46, rfl, trivial⟩ ?_
                      obtain ⟨w210, cw210, h⟩ := bindS h
                      refine f9_broughamlaw08_OptBack_L8_ok n w210 cw210 _ ?_
                      have h := Option.some.inj h
                      subst h
                      exact hk
                    · rcases iteS h with ⟨b196_e0, h⟩ | ⟨b196_e0, h⟩
                      · refine At.step hm ht ⟨[(2, .b false), (6, .b false), (10, .b false), (16, .b false), (20, .b true), (27, .b false), (31, .b true), (38, .b false), (46, .b false)], [true], [], [], []⟩ 8 ⟨[], [], [], 0⟩ [(!a) = false, (!b) = false, (!c) = false, (!((d_0 == x_9) && ((d_1 == x_10) && (((d_2 : Int) == x_11) && (((d_3 : Int) == x_12) && (((d_4 : Int) == x_13) && ((d_5 : Int) == x_14))))))) = false, x_1 = true, (!(((k_0 : Int) == x_0) && ((k_1 == x_1) && ((k_2 : Int) == x_2)))) = false, x_7 = true, (!(((j_0 : Int) == x_3) && (((j_1 : Int) == x_4) && (((j_2 : Int) == x_5) && ((j_3 == x_6) && ((j_4 == x_7) && ((j_5 : Int) == x_8))))))) = false, ((k_0 : Int) != x_0) = false, ((j_1 : Int) != x_4) = true] (by kernel_rfl) ⟨b196_2, b196_6, b196_10, b196_16, b196_20, b196_27, b196_31, b196_38, b196_46, b196_e0, trivial⟩ ?_
                        obtain ⟨w212, cw212, h⟩ := bindS h
                        refine f9_broughamlaw08_OptBack_L8_ok n w212 cw212 _ ?_
                        have h := Option.some.inj h
                        subst h
                        exact hk
                      · refine At.step hm ht ⟨[(2, .b false), (6, .b false), (10, .b false), (16, .b false), (20, .b true), (27, .b false), (31, .b true), (38, .b false), (46, .b false)], [false], [], [2, 3, 5, 7, 9, 11, 12], [0, 1, 2, 3, 4, 5]⟩ 9 ⟨[(2, .one (.c (.ptr 0 0))), (3, .one (.c (.ptr 1 0))), (5, .one (.c (.ptr 2 0))), (7, .one (.c (.ptr 3 0))), (9, .one (.c (.ptr 4 0))), (11, .one (.c (.ptr 5 0))), (12, .one (.c (.d (.bool e_))))], [], [(0, [.d (.int .u64 x_0), .d (.bool x_1), .d (.int .u64 x_2), .d (.int .u32 x_3), .d (.int .u32 x_4), .d (.int .u8 x_5), .d (.bool x_6), .d (.bool x_7), .d (.int .u64 x_8), .d (.bool x_9), .d (.bool x_10), .d (.int .u64 x_11), .d (.int .u64 x_12), .d (.int .u32 x_13), .d (.int .u64 x_14), .d (.int .u8 x_15), .d (.int .u32 x_16), .d (.int .u8 x_17), .d (.int .u8 x_18), .d (.bool x_19), .d (.int .u64 x_20)]), (1, [.d (.int .u8 o__0), .d (.sl (.int .u8) o__1)]), (2, [.d (.int .u64 k_0), .d (.bool k_1), .d (.int .u64 k_2)]), (3, [.d (.int .u32 j_0), .d (.int .u32 j_1), .d (.int .u8 j_2), .d (.bool j_3), .d (.bool j_4), .d (.int .u64 j_5)]), (4, [.d (.bool d_0), .d (.bool d_1), .d (.int .u64 d_2), .d (.int .u64 d_3), .d (.int .u32 d_4), .d (.int .u64 d_5)]), (5, [.d (.int .u8 w__0), .d (.int .u32 w__1), .d (.int .u8 w__2), .d (.int .u8 w__3), .d (.bool w__4), .d (.int .u64 w__5)])], 6⟩ [(!a) = false, (!b) = false, (!c) = false, (!((d_0 == x_9) && ((d_1 == x_10) && (((d_2 : Int) == x_11) && (((d_3 : Int) == x_12) && (((d_4 : Int) == x_13) && ((d_5 : Int) == x_14))))))) = false, x_1 = true, (!(((k_0 : Int) == x_0) && ((k_1 == x_1) && ((k_2 : Int) == x_2)))) = false, x_7 = true, (!(((j_0 : Int) == x_3) && (((j_1 : Int) == x_4) && (((j_2 : Int) == x_5) && ((j_3 == x_6) && ((j_4 == x_7) && ((j_5 : Int) == x_8))))))) = false, ((k_0 : Int) != x_0) = false, ((j_1 : Int) != x_4) = false] (by kernel_rfl) ⟨b196_2, b196_6, b196_10, b196_16, b196_20, b196_27, b196_31, b196_38, b196_46, b196_e0, trivial⟩ ?_
                        obtain ⟨w248, cw248, h⟩ := bindS h
                        refine f9_broughamlaw08_OptBack_L9_ok n e_ x_0 x_1 x_2 x_3 x_4 x_5 x_6 x_7 x_8 x_9 x_10 x_11 x_12 x_13 x_14 x_15 x_16 x_17 x_18 x_19 x_20 o__0 o__1 k_0 k_1 k_2 j_0 j_1 j_2 j_3 j_4 j_5 d_0 d_1 d_2 d_3 d_4 d_5 w__0 w__1 w__2 w__3 w__4 w__5 w248 cw248 _ ?_
                        have h := Option.some.inj h
                        subst h
                        exact hk
                · rcases iteS h with ⟨b196_46, h⟩ | ⟨b196_46, h⟩
                  · refine At.step hm ht ⟨[(2, .b false), (6, .b false), (10, .b false), (16, .b false), (20, .b true), (27, .b false), (31, .b false), (46, .b true)], [true], [], [], []⟩ 8 ⟨[], [], [], 0⟩ [(!a) = false, (!b) = false, (!c) = false, (!((d_0 == x_9) && ((d_1 == x_10) && (((d_2 : Int) == x_11) && (((d_3 : Int) == x_12) && (((d_4 : Int) == x_13) && ((d_5 : Int) == x_14))))))) = false, x_1 = true, (!(((k_0 : Int) == x_0) && ((k_1 == x_1) && ((k_2 : Int) == x_2)))) = false, x_7 = false, ((k_0 : Int) != x_0) = true, true = true] (by kernel_rfl) ⟨b196_2, b196_6, b196_10, b196_16, b196_20, b196_27, b196_31, b196_46, rfl, trivial⟩ ?_
                    obtain ⟨w250, cw250, h⟩ := bindS h
                    refine f9_broughamlaw08_OptBack_L8_ok n w250 cw250 _ ?_
                    have h := Option.some.inj h
                    subst h
                    exact hk
                  · rcases iteS h with ⟨b196_e0, h⟩ | ⟨b196_e0, h⟩
                    · refine At.step hm ht ⟨[(2, .b false), (6, .b false), (10, .b false), (16, .b false), (20, .b true), (27, .b false), (31, .b false), (46, .b false)], [true], [], [], []⟩ 8 ⟨[], [], [], 0⟩ [(!a) = false, (!b) = false, (!c) = false, (!((d_0 == x_9) && ((d_1 == x_10) && (((d_2 : Int) == x_11) && (((d_3 : Int) == x_12) && (((d_4 : Int) == x_13) && ((d_5 : Int) == x_14))))))) = false, x_1 = true, (!(((k_0 : Int) == x_0) && ((k_1 == x_1) && ((k_2 : Int) == x_2)))) = false, x_7 = false, ((k_0 : Int) != x_0) = false, ((j_1 : Int) != x_4) = true] (by kernel_rfl) ⟨b196_2, b196_6, b196_10, b196_16, b196_20, b196_27, b196_31, b196_46, b196_e0, trivial⟩ ?_
                      obtain ⟨w252, cw252, h⟩ := bindS h
                      refine f9_broughamlaw08_OptBack_L8_ok n w252 cw252 _ ?_
                      have h := Option.some.inj h
                      subst h
                      exact hk
                    · refine At.step hm ht ⟨[(2, .b false), (6, .b false), (10, .b false), (16, .b false), (20, .b true), (27, .b false), (31, .b false), (46, .b false)], [false], [], [2, 3, 5, 7, 9, 11, 12], [0, 1, 2, 3, 4, 5]⟩ 9 ⟨[(2, .one (.c (.ptr 0 0))), (3, .one (.c (.ptr 1 0))), (5, .one (.c (.ptr 2 0))), (7, .one (.c (.ptr 3 0))), (9, .one (.c (.ptr 4 0))), (11, .one (.c (.ptr 5 0))), (12, .one (.c (.d (.bool e_))))], [], [(0, [.d (.int .u64 x_0), .d (.bool x_1), .d (.int .u64 x_2), .d (.int .u32 x_3), .d (.int .u32 x_4), .d (.int .u8 x_5), .d (.bool x_6), .d (.bool x_7), .d (.int .u64 x_8), .d (.bool x_9), .d (.bool x_10), .d (.int .u64 x_11), .d (.int .u64 x_12), .d (.int .u32 x_13), .d (.int .u64 x_14), .d (.int .u8 x_15), .d (.int .u32 x_16), .d (.int .u8 x_17), .d (.int .u8 x_18), .d (.bool x_19), .d (.int .u64 x_20)]), (1, [.d (.int .u8 o__0), .d (.sl (.int .u8) o__1)]), (2, [.d (.int .u64 k_0), .d (.bool k_1), .d (.int .u64 k_2)]), (3, [.d (.int .u32 j_0), .d (.int .u32 j_1), .d (.int .u8 j_2), .d (.bool j_3), .d (.bool j_4), .d (.int .u64 j_5)]), (4, [.d (.bool d_0), .d (.bool d_1), .d (.int .u64 d_2), .d (.int .u64 d_3), .d (.int .u32 d_4), .d (.int .u64 d_5)]), (5, [.d (.int .u8 w__0), .d (.int .u32 w__1), .d (.int .u8 w__2), .d (.int .u8 w__3), .d (.bool w__4), .d (.int .u64 w__5)])], 6⟩ [(!a) = false, (!b) = false, (!c) = false, (!((d_0 == x_9) && ((d_1 == x_10) && (((d_2 : Int) == x_11) && (((d_3 : Int) == x_12) && (((d_4 : Int) == x_13) && ((d_5 : Int) == x_14))))))) = false, x_1 = true, (!(((k_0 : Int) == x_0) && ((k_1 == x_1) && ((k_2 : Int) == x_2)))) = false, x_7 = false, ((k_0 : Int) != x_0) = false, ((j_1 : Int) != x_4) = false] (by kernel_rfl) ⟨b196_2, b196_6, b196_10, b196_16, b196_20, b196_27, b196_31, b196_46, b196_e0, trivial⟩ ?_
                      obtain ⟨w254, cw254, h⟩ := bindS h
                      refine f9_broughamlaw08_OptBack_L9_ok n e_ x_0 x_1 x_2 x_3 x_4 x_5 x_6 x_7 x_8 x_9 x_10 x_11 x_12 x_13 x_14 x_15 x_16 x_17 x_18 x_19 x_20 o__0 o__1 k_0 k_1 k_2 j_0 j_1 j_2 j_3 j_4 j_5 d_0 d_1 d_2 d_3 d_4 d_5 w__0 w__1 w__2 w__3 w__4 w__5 w254 cw254 _ ?_
                      have h := Option.some.inj h
                      subst h
                      exact hk
            · rcases iteS h with ⟨b196_31, h⟩ | ⟨b196_31, h⟩
              · rcases iteS h with ⟨b196_38, h⟩ | ⟨b196_38, h⟩
                · refine At.step hm ht ⟨[(2, .b false), (6, .b false), (10, .b false), (16, .b false), (20, .b false), (31, .b true), (38, .b true)], [true], [], [], []⟩ 8 ⟨[], [], [], 0⟩ [(!a) = false, (!b) = false, (!c) = false, (!((d_0 == x_9) && ((d_1 == x_10) && (((d_2 : Int) == x_11) && (((d_3 : Int) == x_12) && (((d_4 : Int) == x_13) && ((d_5 : Int) == x_14))))))) = false, x_1 = false, x_7 = true, (!(((j_0 : Int) == x_3) && (((j_1 : Int) == x_4) && (((j_2 : Int) == x_5) && ((j_3 == x_6) && ((j_4 == x_7) && ((j_5 : Int) == x_8))))))) = true, true = true] (by kernel_rfl) ⟨b196_2, b196_6, b196_10, b196_16, b196_20, b196_31, b196_38, rfl, trivial⟩ ?_
                  obtain ⟨w256, cw256, h⟩ := bindS h
                  refine f9_broughamlaw08_OptBack_L8_ok n w256 cw256 _ ?_
                  have h := Option.some.inj h
                  subst h
                  exact hk
                · rcases iteS h with ⟨b196_46, h⟩ | ⟨b196_46, h⟩
                  · refine At.step hm ht ⟨[(2, .b false), (6, .b false), (10, .b false), (16, .b false), (20, .b false), (31, .b true), (38, .b false), (46, .b true)], [true], [], [], []⟩ 8 ⟨[], [], [], 0⟩ [(!a) = false, (!b) = false, (!c) = false, (!((d_0 == x_9) && ((d_1 == x_10) && (((d_2 : Int) == x_11) && (((d_3 : Int) == x_12) && (((d_4 : Int) == x_13) && ((d_5 : Int) == x_14))))))) = false, x_1 = false, x_7 = true, (!(((j_0 : Int) == x_3) && (((j_1 : Int) == x_4) && (((j_2 : Int) == x_5) && ((j_3 == x_6) && ((j_4 == x_7) && ((j_5 : Int) == x_8))))))) = false, ((k_0 : Int) != x_0) = true, true = true] (by kernel_rfl) ⟨b196_2, b196_6, b196_10, b196_16, b196_20, b196_31, b196_38, b196_46, rfl, trivial⟩ ?_
                    obtain ⟨w258, cw258, h⟩ := bindS h
                    refine f9_broughamlaw08_OptBack_L8_ok n w258 cw258 _ ?_
                    have h := Option.some.inj h
                    subst h
                    exact hk
                  · rcases iteS h with ⟨b196_e0, h⟩ | ⟨b196_e0, h⟩
                    · refine At.step hm ht ⟨[(2, .b false), (6, .b false), (10, .b false), (16, .b false), (20, .b false), (31, .b true), (38, .b false), (46, .b false)], [true], [], [], []⟩ 8 ⟨[], [], [], 0⟩ [(!a) = false, (!b) = false, (!c) = false, (!((d_0 == x_9) && ((d_1 == x_10) && (((d_2 : Int) == x_11) && (((d_3 : Int) == x_12) && (((d_4 : Int) == x_13) && ((d_5 : Int) == x_14))))))) = false, x_1 = false, x_7 = true, (!(((j_0 : Int) == x_3) && (((j_1 : Int) == x_4) && (((j_2 : Int) == x_5) && ((j_3 == x_6) && ((j_4 == x_7) && ((j_5 : Int) == x_8))))))) = false, ((k_0 : Int) != x_0) = false, ((j_1 : Int) != x_4) = true] (by kernel_rfl) ⟨b196_2, b196_6, b196_10, b196_16, b196_20, b196_31, b196_38, b196_46, b196_e0, trivial⟩ ?_
                      obtain ⟨w260, cw260, h⟩ := bindS h
                      refine f9_broughamlaw08_OptBack_L8_ok n w260 cw260 _ ?_
                      have h := Option.some.inj h
                      subst h
                      exact hk
                    · refine At.step hm ht ⟨[(2, .b false), (6, .b false), (10, .b false), (16, .b false), (20, .b false), (31, .b true), (38, .b false), (46, .b false)], [false], [], [2, 3, 5, 7, 9, 11, 12], [0, 1, 2, 3, 4, 5]⟩ 9 ⟨[(2, .one (.c (.ptr 0 0))), (3, .one (.c (.ptr 1 0))), (5, .one (.c (.ptr 2 0))), (7, .one (.c (.ptr 3 0))), (9, .one (.c (.ptr 4 0))), (11, .one (.c (.ptr 5 0))), (12, .one (.c (.d (.bool e_))))], [], [(0, [.d (.int .u64 x_0), .d (.bool x_1), .d (.int .u64 x_2), .d (.int .u32 x_3), .d (.int .u32 x_4), .d (.int .u8 x_5), .d (.bool x_6), .d (.bool x_7), .d (.int .u64 x_8), .d (.bool x_9), .d (.bool x_10), .d (.int .u64 x_11), .d (.int .u64 x_12), .d (.int .u32 x_13), .d (.int .u64 x_14), .d (.int .u8 x_15), .d (.int .u32 x_16), .d (.int .u8 x_17), .d (.int .u8 x_18), .d (.bool x_19), .d (.int .u64 x_20)]), (1, [.d (.int .u8 o__0), .d (.sl (.int .u8) o__1)]), (2, [.d (.int .u64 k_0), .d (.bool k_1), .d (.int .u64 k_2)]), (3, [.d (.int .u32 j_0), .d (.int .u32 j_1), .d (.int .u8 j_2), .d (.bool j_3), .d (.bool j_4), .d (.int .u64 j_5)]), (4, [.d (.bool d_0), .d (.bool d_1), .d (.int .u64 d_2), .d (.int .u64 d_3), .d (.int .u32 d_4), .d (.int .u64 d_5)]), (5, [.d (.int .u8 w__0), .d (.int .u32 w__1), .d (.int .u8 w__2), .d (.int .u8 w__3), .d (.bool w__4), .d (.int .u64 w__5)])], 6⟩ [(!a) = false, (!b) = false, (!c) = false, (!((d_0 == x_9) && ((d_1 == x_10) && (((d_2 : Int) == x_11) && (((d_3 : Int) == x_12) && (((d_4 : Int) == x_13) && ((d_5 : Int) == x_14))))))) = false, x_1 = false, x_7 = true, (!(((j_0 : Int) == x_3) && (((j_1 : Int) == x_4) && (((j_2 : Int) == x_5) && ((j_3 == x_6) && ((j_4 == x_7) && ((j_5 : Int) == x_8))))))) = false, ((k_0 : Int) != x_0) = false, ((j_1 : Int) != x_4) = false] (by kernel_rfl) ⟨b196_2, b196_6, b196_10, b196_16, b196_20, b196_31, b196_38, b196_46, b196_e0, trivial⟩ ?_
                      obtain ⟨w262, cw262, h⟩ := bindS h
                      refine f9_broughamlaw08_OptBack_L9_ok n e_ x_0 x_1 x_2 x_3 x_4 x_5 x_6 x_7 x_8 x_9 x_10 x_11 x_12 x_13 x_14 x_15 x_16 x_17 x_18 x_19 x_20 o__0 o__1 k_0 k_1 k_2 j_0 j_1 j_2 j_3 j_4 j_5 d_0 d_1 d_2 d_3 d_4 d_5 w__0 w__1 w__2 w__3 w__4 w__5 w262 cw262 _ ?_
                      have h := Option.some.inj h
                      subst h
                      exact hk
              · rcases iteS h with ⟨b196_46, h⟩ | ⟨b196_46, h⟩
                · refine At.step hm ht ⟨[(2, .b false), (6, .b false), (10, .b false), (16, .b false), (20, .b false), (31, .b false), (46, .b true)], [true], [], [], []⟩ 8 ⟨[], [], [], 0⟩ [(!a) = false, (!b) = false, (!c) = false, (!((d_0 == x_9) && ((d_1 == x_10) && (((d_2 : Int) == x_11) && (((d_3 : Int) == x_12) && (((d_4 : Int) == x_13) && ((d_5 : Int) == x_14))))))) = false, x_1 = false, x_7 = false, ((k_0 : Int) != x_0) = true, true = true] (by kernel_rfl) ⟨b196_2, b196_6, b196_10, b196_16, b196_20, b196_31, b196_46, rfl, trivial⟩ ?_
                  obtain ⟨w264, cw264, h⟩ := bindS h
                  refine f9_broughamlaw08_OptBack_L8_ok n w264 cw264 _ ?_
                  have h := Option.some.inj h
                  subst h
                  exact hk
                · rcases iteS h with ⟨b196_e0, h⟩ | ⟨b196_e0, h⟩
                  · refine At.step hm ht ⟨[(2, .b false), (6, .b false), (10, .b false), (16, .b false), (20, .b false), (31, .b false), (46, .b false)], [true], [], [], []⟩ 8 ⟨[], [], [], 0⟩ [(!a) = false, (!b) = false, (!c) = false, (!((d_0 == x_9) && ((d_1 == x_10) && (((d_2 : Int) == x_11) && (((d_3 : Int) == x_12) && (((d_4 : Int) == x_13) && ((d_5 : Int) == x_14))))))) = false, x_1 = false, x_7 = false, ((k_0 : Int) != x_0) = false, ((j_1 : Int) != x_4) = true] (by kernel_rfl) ⟨b196_2, b196_6, b196_10, b196_16, b196_20, b196_31, b196_46, b196_e0, trivial⟩ ?_
                    obtain ⟨w266, cw266, h⟩ := bindS h
                    refine f9_broughamlaw08_OptBack_L8_ok n w266 cw266 _ ?_
                    have h := Option.some.inj h
                    subst h
                    exact hk
                  · refine At.step hm ht ⟨[(2, .b false), (6, .b false), (10, .b false), (16, .b false), (20, .b false), (31, .b false), (46, .b false)], [false], [], [2, 3, 5, 7, 9, 11, 12], [0, 1, 2, 3, 4, 5]⟩ 9 ⟨[(2, .one (.c (.ptr 0 0))), (3, .one (.c (.ptr 1 0))), (5, .one (.c (.ptr 2 0))), (7, .one (.c (.ptr 3 0))), (9, .one (.c (.ptr 4 0))), (11, .one (.c (.ptr 5 0))), (12, .one (.c (.d (.bool e_))))], [], [(0, [.d (.int .u64 x_0), .d (.bool x_1), .d (.int .u64 x_2), .d (.int .u32 x_3), .d (.int .u32 x_4), .d (.int .u8 x_5), .d (.bool x_6), .d (.bool x_7), .d (.int .u64 x_8), .d (.bool x_9), .d (.bool x_10), .d (.int .u64 x_11), .d (.int .u64 x_12), .d (.int .u32 x_13), .d (.int .u64 x_14), .d (.int .u8 x_15), .d (.int .u32 x_16), .d (.int .u8 x_17), .d (.int .u8 x_18), .d (.bool x_19), .d (.int .u64 x_20)]), (1, [.d (.int .u8 o__0), .d (.sl (.int .u8) o__1)]), (2, [.d (.int .u64 k_0), .d (.bool k_1), .d (.int .u64 k_2)]), (3, [.d (.int .u32 j_0), .d (.int .u32 j_1), .d (.int .u8 j_2), .d (.bool j_3), .d (.bool j_4), .d (.int .u64 j_5)]), (4, [.d (.bool d_0), .d (.bool d_1), .d (.int .u64 d_2), .d (.int .u64 d_3), .d (.int .u32 d_4), .d (.int .u64 d_5)]), (5, [.d (.int .u8 w__0), .d (.int .u32 w__1), .d (.int .u8 w__2), .d (.int .u8 w__3), .d (.bool w__4), .d (.int .u64 w__5)])], 6⟩ [(!a) = false, (!b) = false, (!c) = false, (!((d_0 == x_9) && ((d_1 == x_10) && (((d_2 : Int) == x_11) && (((d_3 : Int) == x_12) && (((d_4 : Int) == x_13) && ((d_5 : Int) == x_14))))))) = false, x_1 = false, x_7 = false, ((k_0 : Int) != x_0) = false, ((j_1 : Int) != x_4) = false] (by kernel_rfl) ⟨b196_2, b196_6, b196_10, b196_16, b196_20, b196_31, b196_46, b196_e0, trivial⟩ ?_
                    obtain ⟨w268, cw268, h⟩ := bindS h
                    refine f9_broughamlaw08_OptBack_L9_ok n e_ x_0 x_1 x_2 x_3 x_4 x_5 x_6 x_7 x_8 x_9 x_10 x_11 x_12 x_13 x_14 x_15 x_16 x_17 x_18 x_19 x_20 o__0 o__1 k_0 k_1 k_2 j_0 j_1 j_2 j_3 j_4 j_5 d_0 d_1 d_2 d_3 d_4 d_5 w__0 w__1 w__2 w__3 w__4 w__5 w268 cw268 _ ?_
                    have h := Option.some.inj h
                    subst h
                    exact hk
def f9_broughamlaw08_OptBack_L6 : Nat → Bool → Bool → Bool → Int → Bool → Int → Int → Int → Int → Bool → Bool → Int → Bool → Bool → Int → Int → Int → Int → Int → Int → Int → Int → Bool → Int → Int → (List Int) → Int → Bool → Int → Int → Int → Int → Bool → Bool → Int → Bool → Bool → Int → Int → Int → Int → Option (Bool)
  | 0, _, _, _, _, _, _, _, _, _, _, _, _, _, _, _, _, _, _, _, _, _, _, _, _, _, _, _, _, _, _, _, _, _, _, _, _, _, _, _, _, _ => none
  | n + 1, a, b, c, x_0, x_1, x_2, x_3, x_4, x_5, x_6, x_7, x_8, x_9, x_10, x_11, x_12, x_13, x_14, x_15, x_16, x_17, x_18, x_19, x_20, o__0, o__1, k_0, k_1, k_2, j_0, j_1, j_2, j_3, j_4, j_5, d_0, d_1, d_2, d_3, d_4, d_5 =>
    (f29_opt_Word_Option n x_15 x_16 x_17 x_18 x_19 x_20).bind fun r185_0 =>
    (f38_opt_ParseWord n r185_0.1 r185_0.2).bind fun r185_1 =>
    (f9_broughamlaw08_OptBack_L7 n a b c r185_1.1 x_0 x_1 x_2 x_3 x_4 x_5 x_6 x_7 x_8 x_9 x_10 x_11 x_12 x_13 x_14 x_15 x_16 x_17 x_18 x_19 x_20 o__0 o__1 k_0 k_1 k_2 j_0 j_1 j_2 j_3 j_4 j_5 d_0 d_1 d_2 d_3 d_4 d_5 r185_1.2.1 r185_1.2.2.1 r185_1.2.2.2.1 r185_1.2.2.2.2.1 r185_1.2.2.2.2.2.1 r185_1.2.2.2.2.2.2).bind fun w270 =>
    some (w270)
def f9_broughamlaw08_OptBack_L6_k (e : Bool) (o : Out) : Prop := o = f9_broughamlaw08_OptBack_out e
theorem f9_broughamlaw08_OptBack_L6_ok (n : Nat) : ∀ (a : Bool) (b : Bool) (c : Bool) (x_0 : Int) (x_1 : Bool) (x_2 : Int) (x_3 : Int) (x_4 : Int) (x_5 : Int) (x_6 : Bool) (x_7 : Bool) (x_8 : Int) (x_9 : Bool) (x_10 : Bool) (x_11 : Int) (x_12 : Int) (x_13 : Int) (x_14 : Int) (x_15 : Int) (x_16 : Int) (x_17 : Int) (x_18 : Int) (x_19 : Bool) (x_20 : Int) (o__0 : Int) (o__1 : List Int) (k_0 : Int) (k_1 : Bool) (k_2 : Int) (j_0 : Int) (j_1 : Int) (j_2 : Int) (j_3 : Bool) (j_4 : Bool) (j_5 : Int) (d_0 : Bool) (d_1 : Bool) (d_2 : Int) (d_3 : Int) (d_4 : Int) (d_5 : Int) (w : Bool) (h : f9_broughamlaw08_OptBack_L6 n a b c x_0 x_1 x_2 x_3 x_4 x_5 x_6 x_7 x_8 x_9 x_10 x_11 x_12 x_13 x_14 x_15 x_16 x_17 x_18 x_19 x_20 o__0 o__1 k_0 k_1 k_2 j_0 j_1 j_2 j_3 j_4 j_5 d_0 d_1 d_2 d_3 d_4 d_5 = some w) (o : Out) (hk : f9_broughamlaw08_OptBack_L6_k w o), At Go.Proofs.Try.prog Go.Proofs.Try.f9 0 6 ⟨[(2, .one (.c (.ptr 0 0))), (3, .one (.c (.ptr 1 0))), (5, .one (.c (.ptr 2 0))), (6, .one (.c (.d (.bool a)))), (7, .one (.c (.ptr 3 0))), (8, .one (.c (.d (.bool b)))), (9, .one (.c (.ptr 4 0))), (10, .one (.c (.d (.bool c))))], [], [(0, [.d (.int .u64 x_0), .d (.bool x_1), .d (.int .u64 x_2), .d (.int .u32 x_3), .d (.int .u32 x_4), .d (.int .u8 x_5), .d (.bool x_6), .d (.bool x_7), .d (.int .u64 x_8), .d (.bool x_9), .d (.bool x_10), .d (.int .u64 x_11), .d (.int .u64 x_12), .d (.int .u32 x_13), .d (.int .u64 x_14), .d (.int .u8 x_15), .d (.int .u32 x_16), .d (.int .u8 x_17), .d (.int .u8 x_18), .d (.bool x_19), .d (.int .u64 x_20)]), (1, [.d (.int .u8 o__0), .d (.sl (.int .u8) o__1)]), (2, [.d (.int .u64 k_0), .d (.bool k_1), .d (.int .u64 k_2)]), (3, [.d (.int .u32 j_0), .d (.int .u32 j_1), .d (.int .u8 j_2), .d (.bool j_3), .d (.bool j_4), .d (.int .u64 j_5)]), (4, [.d (.bool d_0), .d (.bool d_1), .d (.int .u64 d_2), .d (.int .u64 d_3), .d (.int .u32 d_4), .d (.int .u64 d_5)])], 5⟩ o := by
  induction n with
  | zero => intro a b c x_0 x_1 x_2 x_3 x_4 x_5 x_6 x_7 x_8 x_9 x_10 x_11 x_12 x_13 x_14 x_15 x_16 x_17 x_18 x_19 x_20 o__0 o__1 k_0 k_1 k_2 j_0 j_1 j_2 j_3 j_4 j_5 d_0 d_1 d_2 d_3 d_4 d_5 w h; rw [f9_broughamlaw08_OptBack_L6] at h; cases h
  | succ n ih =>
    intro a b c x_0 x_1 x_2 x_3 x_4 x_5 x_6 x_7 x_8 x_9 x_10 x_11 x_12 x_13 x_14 x_15 x_16 x_17 x_18 x_19 x_20 o__0 o__1 k_0 k_1 k_2 j_0 j_1 j_2 j_3 j_4 j_5 d_0 d_1 d_2 d_3 d_4 d_5 w h o hk
    rw [f9_broughamlaw08_OptBack_L6] at h
    obtain ⟨r185_0, cr185_0, h⟩ := bindS h
    obtain ⟨r185_1, cr185_1, h⟩ := bindS h
    refine At.step hm ht ⟨[(2, .call [] [] (f29_opt_Word_Option_out r185_0)), (3, .call [] [] (f38_opt_ParseWord_out r185_1))], [], [], [2, 3, 5, 6, 7, 8, 9, 10, 11, 12], [0, 1, 2, 3, 4, 13]⟩ 7 ⟨[(2, .one (.c (.ptr 0 0))), (3, .one (.c (.ptr 1 0))), (5, .one (.c (.ptr 2 0))), (6, .one (.c (.d (.bool a)))), (7, .one (.c (.ptr 3 0))), (8, .one (.c (.d (.bool b)))), (9, .one (.c (.ptr 4 0))), (10, .one (.c (.d (.bool c)))), (11, .one (.c (.ptr 5 0))), (12, .one (.c (.d (.bool r185_1.1))))], [], [(0, [.d (.int .u64 x_0), .d (.bool x_1), .d (.int .u64 x_2), .d (.int .u32 x_3), .d (.int .u32 x_4), .d (.int .u8 x_5), .d (.bool x_6), .d (.bool x_7), .d (.int .u64 x_8), .d (.bool x_9), .d (.bool x_10), .d (.int .u64 x_11), .d (.int .u64 x_12), .d (.int .u32 x_13), .d (.int .u64 x_14), .d (.int .u8 x_15), .d (.int .u32 x_16), .d (.int .u8 x_17), .d (.int .u8 x_18), .d (.bool x_19), .d (.int .u64 x_20)]), (1, [.d (.int .u8 o__0), .d (.sl (.int .u8) o__1)]), (2, [.d (.int .u64 k_0), .d (.bool k_1), .d (.int .u64 k_2)]), (3, [.d (.int .u32 j_0), .d (.int .u32 j_1), .d (.int .u8 j_2), .d (.bool j_3), .d (.bool j_4), .d (.int .u64 j_5)]), (4, [.d (.bool d_0), .d (.bool d_1), .d (.int .u64 d_2), .d (.int .u64 d_3), .d (.int .u32 d_4), .d (.int .u64 d_5)]), (5, [.d (.int .u8 r185_1.2.1), .d (.int .u32 r185_1.2.2.1), .d (.int .u8 r185_1.2.2.2.1), .d (.int .u8 r185_1.2.2.2.2.1), .d (.bool r185_1.2.2.2.2.2.1), .d (.int .u64 r185_1.2.2.2.2.2.2)])], 6⟩ [FnOK Go.Proofs.Try.prog 29 (f29_opt_Word_Option_in x_15 x_16 x_17 x_18 x_19 x_20) (f29_opt_Word_Option_out r185_0), FnOK Go.Proofs.Try.prog 38 (f38_opt_ParseWord_in r185_0.1 r185_0.2) (f38_opt_ParseWord_out r185_1), 0 + 6 ≤ 6] (by kernel_rfl) ⟨(f29_opt_Word_Option_ok n x_15 x_16 x_17 x_18 x_19 x_20 r185_0 cr185_0), (f38_opt_ParseWord_ok n r185_0.1 r185_0.2 r185_1 cr185_1), (by decide), trivial⟩ ?_
    obtain ⟨w270, cw270, h⟩ := bindS h
    refine f9_broughamlaw08_OptBack_L7_ok n a b c r185_1.1 x_0 x_1 x_2 x_3 x_4 x_5 x_6 x_7 x_8 x_9 x_10 x_11 x_12 x_13 x_14 x_15 x_16 x_17 x_18 x_19 x_20 o__0 o__1 k_0 k_1 k_2 j_0 j_1 j_2 j_3 j_4 j_5 d_0 d_1 d_2 d_3 d_4 d_5 r185_1.2.1 r185_1.2.2.1 r185_1.2.2.2.1 r185_1.2.2.2.2.1 r185_1.2.2.2.2.2.1 r185_1.2.2.2.2.2.2 w270 cw270 _ ?_
    have h := Option.some.inj h
    subst h
    exact hk
def f9_broughamlaw08_OptBack_L5 : Nat → Bool → Bool → Int → Bool → Int → Int → Int → Int → Bool → Bool → Int → Bool → Bool → Int → Int → Int → Int → Int → Int → Int → Int → Bool → Int → Int → (List Int) → Int → Bool → Int → Int → Int → Int → Bool → Bool → Int → Option (Bool)
  | 0, _, _, _, _, _, _, _, _, _, _, _, _, _, _, _, _, _, _, _, _, _, _, _, _, _, _, _, _, _, _, _, _, _, _ => none
  | n + 1, a, b, x_0, x_1, x_2, x_3, x_4, x_5, x_6, x_7, x_8, x_9, x_10, x_11, x_12, x_13, x_14, x_15, x_16, x_17, x_18, x_19, x_20, o__0, o__1, k_0, k_1, k_2, j_0, j_1, j_2, j_3, j_4, j_5 =>
    (f26_opt_Data_Option n x_9 x_10 x_11 x_12 x_13 x_14).bind fun r163_0 =>
    (f36_opt_ParseData n r163_0.1 r163_0.2).bind fun r163_1 =>
    (f9_broughamlaw08_OptBack_L6 n a b r163_1.1 x_0 x_1 x_2 x_3 x_4 x_5 x_6 x_7 x_8 x_9 x_10 x_11 x_12 x_13 x_14 x_15 x_16 x_17 x_18 x_19 x_20 o__0 o__1 k_0 k_1 k_2 j_0 j_1 j_2 j_3 j_4 j_5 r163_1.2.1 r163_1.2.2.1 r163_1.2.2.2.1 r163_1.2.2.2.2.1 r163_1.2.2.2.2.2.1 r163_1.2.2.2.2.2.2).bind fun w272 =>
    some (w272)
def f9_broughamlaw08_OptBack_L5_k (e : Bool) (o : Out) : Prop := o = f9_broughamlaw08_OptBack_out e
theorem f9_broughamlaw08_OptBack_L5_ok (n : Nat) : ∀ (a : Bool) (b : Bool) (x_0 : Int) (x_1 : Bool) (x_2 : Int) (x_3 : Int) (x_4 : Int) (x_5 : Int) (x_6 : Bool) (x_7 : Bool) (x_8 : Int) (x_9 : Bool) (x_10 : Bool) (x_11 : Int) (x_12 : Int) (x_13 : Int) (x_14 : Int) (x_15 : Int) (x_16 : Int) (x_17 : Int) (x_18 : Int) (x_19 : Bool) (x_20 : Int) (o__0 : Int) (o__1 : List Int) (k_0 : Int) (k_1 : Bool) (k_2 : Int) (j_0 : Int) (j_1 : Int) (j_2 : Int) (j_3 : Bool) (j_4 : Bool) (j_5 : Int) (w : Bool) (h : f9_broughamlaw08_OptBack_L5 n a b x_0 x_1 x_2 x_3 x_4 x_5 x_6 x_7 x_8 x_9 x_10 x_11 x_12 x_13 x_14 x_15 x_16 x_17 x_18 x_19 x_20 o__0 o__1 k_0 k_1 k_2 j_0 j_1 j_2 j_3 j_4 j_5 = some w) (o : Out) (hk : f9_broughamlaw08_OptBack_L5_k w o), At Go.Proofs.Try.prog Go.Proofs.Try.f9 0 5 ⟨[(2, .one (.c (.ptr 0 0))), (3, .one (.c (.ptr 1 0))), (5, .one (.c (.ptr 2 0))), (6, .one (.c (.d (.bool a)))), (7, .one (.c (.ptr 3 0))), (8, .one (.c (.d (.bool b))))], [], [(0, [.d (.int .u64 x_0), .d (.bool x_1), .d (.int .u64 x_2), .d (.int .u32 x_3), .d (.int .u32 x_4), .d (.int .u8 x_5), .d (.bool x_6), .d (.bool x_7), .d (.int .u64 x_8), .d (.bool x_9), .d (.bool x_10), .d (.int .u64 x_11), .d (.int .u64 x_12), .d (.int .u32 x_13), .d (.int .u64 x_14), .d (.int .u8 x_15), .d (.int .u32 x_16), .d (.int .u8 x_17), .d (.int .u8 x_18), .d (.bool x_19), .d (.int .u64 x_20)]), (1, [.d (.int .u8 o__0), .d (.sl (.int .u8) o__1)]), (2, [.d (.int .u64 k_0), .d (.bool k_1), .d (.int .u64 k_2)]), (3, [.d (.int .u32 j_0), .d (.int .u32 j_1), .d (.int .u8 j_2), .d (.bool j_3), .d (.bool j_4), .d (.int .u64 j_5)])], 4⟩ o := by
  induction n with
  | zero => intro a b x_0 x_1 x_2 x_3 x_4 x_5 x_6 x_7 x_8 x_9 x_10 x_11 x_12 x_13 x_14 x_15 x_16 x_17 x_18 x_19 x_20 o__0 o__1 k_0 k_1 k_2 j_0 j_1 j_2 j_3 j_4 j_5 w h; rw [f9_broughamlaw08_OptBack_L5] at h; cases h
  | succ n ih =>
    intro a b x_0 x_1 x_2 x_3 x_4 x_5 x_6 x_7 x_8 x_9 x_10 x_11 x_12 x_13 x_14 x_15 x_16 x_17 x_18 x_19 x_20 o__0 o__1 k_0 k_1 k_2 j_0 j_1 j_2 j_3 j_4 j_5 w h o hk
    rw [f9_broughamlaw08_OptBack_L5] at h
    obtain ⟨r163_0, cr163_0, h⟩ := bindS h
    obtain ⟨r163_1, cr163_1, h⟩ := bindS h
    refine At.step hm ht ⟨[(2, .call [] [] (f26_opt_Data_Option_out r163_0)), (3, .call [] [] (f36_opt_ParseData_out r163_1))], [], [], [2, 3, 5, 6, 7, 8, 9, 10], [0, 1, 2, 3, 12]⟩ 6 ⟨[(2, .one (.c (.ptr 0 0))), (3, .one (.c (.ptr 1 0))), (5, .one (.c (.ptr 2 0))), (6, .one (.c (.d (.bool a)))), (7, .one (.c (.ptr 3 0))), (8, .one (.c (.d (.bool b)))), (9, .one (.c (.ptr 4 0))), (10, .one (.c (.d (.bool r163_1.1))))], [], [(0, [.d (.int .u64 x_0), .d (.bool x_1), .d (.int .u64 x_2), .d (.int .u32 x_3), .d (.int .u32 x_4), .d (.int .u8 x_5), .d (.bool x_6), .d (.bool x_7), .d (.int .u64 x_8), .d (.bool x_9), .d (.bool x_10), .d (.int .u64 x_11), .d (.int .u64 x_12), .d (.int .u32 x_13), .d (.int .u64 x_14), .d (.int .u8 x_15), .d (.int .u32 x_16), .d (.int .u8 x_17), .d (.int .u8 x_18), .d (.bool x_19), .d (.int .u64 x_20)]), (1, [.d (.int .u8 o__0), .d (.sl (.int .u8) o__1)]), (2, [.d (.int .u64 k_0), .d (.bool k_1), .d (.int .u64 k_2)]), (3, [.d (.int .u32 j_0), .d (.int .u32 j_1), .d (.int .u8 j_2), .d (.bool j_3), .d (.bool j_4), .d (.int .u64 j_5)]), (4, [.d (.bool r163_1.2.1), .d (.bool r163_1.2.2.1), .d (.int .u64 r163_1.2.2.2.1), .d (.int .u64 r163_1.2.2.2.2.1), .d (.int .u32 r163_1.2.2.2.2.2.1), .d (.int .u64 r163_1.2.2.2.2.2.2)])], 5⟩ [FnOK Go.Proofs.Try.prog 26 (f26_opt_Data_Option_in x_9 x_10 x_11 x_12 x_13 x_14) (f26_opt_Data_Option_out r163_0), FnOK Go.Proofs.Try.prog 36 (f36_opt_ParseData_in r163_0.1 r163_0.2) (f36_opt_ParseData_out r163_1), 0 + 6 ≤ 6] (by kernel_rfl) ⟨(f26_opt_Data_Option_ok n x_9 x_10 x_11 x_12 x_13 x_14 r163_0 cr163_0), (f36_opt_ParseData_ok n r163_0.1 r163_0.2 r163_1 cr163_1), (by decide), trivial⟩ ?_
    obtain ⟨w272, cw272, h⟩ := bindS h
    refine f9_broughamlaw08_OptBack_L6_ok n a b r163_1.1 x_0 x_1 x_2 x_3 x_4 x_5 x_6 x_7 x_8 x_9 x_10 x_11 x_12 x_13 x_14 x_15 x_16 x_17 x_18 x_19 x_20 o__0 o__1 k_0 k_1 k_2 j_0 j_1 j_2 j_3 j_4 j_5 r163_1.2.1 r163_1.2.2.1 r163_1.2.2.2.1 r163_1.2.2.2.2.1 r163_1.2.2.2.2.2.1 r163_1.2.2.2.2.2.2 w272 cw272 _ ?_
    have h := Option.some.inj h
    subst h
    exact hk
def f9_broughamlaw08_OptBack_L4 : Nat → Bool → Int → Bool → Int → Int → Int → Int → Bool → Bool → Int → Bool → Bool → Int → Int → Int → Int → Int → Int → Int → Int → Bool → Int → Int → (List Int) → Int → Bool → Int → Option (Bool)
  | 0, _, _, _, _, _, _, _, _, _, _, _, _, _, _, _, _, _, _, _, _, _, _, _, _, _, _, _ => none
  | n + 1, a, x_0, x_1, x_2, x_3, x_4, x_5, x_6, x_7, x_8, x_9, x_10, x_11, x_12, x_13, x_14, x_15, x_16, x_17, x_18, x_19, x_20, o__0, o__1, k_0, k_1, k_2 =>
    (f23_opt_Join_Option n x_3 x_4 x_5 x_6 x_7 x_8).bind fun r134_0 =>
    (f34_opt_ParseJoin n r134_0.1 r134_0.2).bind fun r134_1 =>
    (f9_broughamlaw08_OptBack_L5 n a r134_1.1 x_0 x_1 x_2 x_3 x_4 x_5 x_6 x_7 x_8 x_9 x_10 x_11 x_12 x_13 x_14 x_15 x_16 x_17 x_18 x_19 x_20 o__0 o__1 k_0 k_1 k_2 r134_1.2.1 r134_1.2.2.1 r134_1.2.2.2.1 r134_1.2.2.2.2.1 r134_1.2.2.2.2.2.1 r134_1.2.2.2.2.2.2).bind fun w274 =>
    some (w274)
def f9_broughamlaw08_OptBack_L4_k (e : Bool) (o : Out) : Prop := o = f9_broughamlaw08_OptBack_out e
theorem f9_broughamlaw08_OptBack_L4_ok (n : Nat) : ∀ (a : Bool) (x_0 : Int) (x_1 : Bool) (x_2 : Int) (x_3 : Int) (x_4 : Int) (x_5 : Int) (x_6 : Bool) (x_7 : Bool) (x_8 : Int) (x_9 : Bool) (x_10 : Bool) (x_11 : Int) (x_12 : Int) (x_13 : Int) (x_14 : Int) (x_15 : Int) (x_16 : Int) (x_17 : Int) (x_18 : Int) (x_19 : Bool) (x_20 : Int) (o__0 : Int) (o__1 : List Int) (k_0 : Int) (k_1 : Bool) (k_2 : Int) (w : Bool) (h : f9_broughamlaw08_OptBack_L4 n a x_0 x_1 x_2 x_3 x_4 x_5 x_6 x_7 x_8 x_9 x_10 x_11 x_12 x_13 x_14 x_15 x_16 x_17 x_18 x_19 x_20 o__0 o__1 k_0 k_1 k_2 = some w) (o : Out) (hk : f9_broughamlaw08_OptBack_L4_k w o), At Go.Proofs.Try.prog Go.Proofs.Try.f9 0 4 ⟨[(2, .one (.c (.ptr 0 0))), (3, .one (.c (.ptr 1 0))), (5, .one (.c (.ptr 2 0))), (6, .one (.c (.d (.bool a))))], [], [(0, [.d (.int .u64 x_0), .d (.bool x_1), .d (.int .u64 x_2), .d (.int .u32 x_3), .d (.int .u32 x_4), .d (.int .u8 x_5), .d (.bool x_6), .d (.bool x_7), .d (.int .u64 x_8), .d (.bool x_9), .d (.bool x_10), .d (.int .u64 x_11), .d (.int .u64 x_12), .d (.int .u32 x_13), .d (.int .u64 x_14), .d (.int .u8 x_15), .d (.int .u32 x_16), .d (.int .u8 x_17), .d (.int .u8 x_18), .d (.bool x_19), .d (.int .u64 x_20)]), (1, [.d (.int .u8 o__0), .d (.sl (.int .u8) o__1)]), (2, [.d (.int .u64 k_0), .d (.bool k_1), .d (.int .u64 k_2)])], 3⟩ o := by
  induction n with
  | zero => intro a x_0 x_1 x_2 x_3 x_4 x_5 x_6 x_7 x_8 x_9 x_10 x_11 x_12 x_13 x_14 x_15 x_16 x_17 x_18 x_19 x_20 o__0 o__1 k_0 k_1 k_2 w h; rw [f9_broughamlaw08_OptBack_L4] at h; cases h
  | succ n ih =>
    intro a x_0 x_1 x_2 x_3 x_4 x_5 x_6 x_7 x_8 x_9 x_10 x_11 x_12 x_13 x_14 x_15 x_16 x_17 x_18 x_19 x_20 o__0 o__1 k_0 k_1 k_2 w h o hk
    rw [f9_broughamlaw08_OptBack_L4] at h
    obtain ⟨r134_0, cr134_0, h⟩ := bindS h
    obtain ⟨r134_1, cr134_1, h⟩ := bindS h
    refine At.step hm ht ⟨[(2, .call [] [] (f23_opt_Join_Option_out r134_0)), (3, .call [] [] (f34_opt_ParseJoin_out r134_1))], [], [], [2, 3, 5, 6, 7, 8], [0, 1, 2, 11]⟩ 5 ⟨[(2, .one (.c (.ptr 0 0))), (3, .one (.c (.ptr 1 0))), (5, .one (.c (.ptr 2 0))), (6, .one (.c (.d (.bool a)))), (7, .one (.c (.ptr 3 0))), (8, .one (.c (.d (.bool r134_1.1))))], [], [(0, [.d (.int .u64 x_0), .d (.bool x_1), .d (.int .u64 x_2), .d (.int .u32 x_3), .d (.int .u32 x_4), .d (.int .u8 x_5), .d (.bool x_6), .d (.bool x_7), .d (.int .u64 x_8), .d (.bool x_9), .d (.bool x_10), .d (.int .u64 x_11), .d (.int .u64 x_12), .d (.int .u32 x_13), .d (.int .u64 x_14), .d (.int .u8 x_15), .d (.int .u32 x_16), .d (.int .u8 x_17), .d (.int .u8 x_18), .d (.bool x_19), .d (.int .u64 x_20)]), (1, [.d (.int .u8 o__0), .d (.sl (.int .u8) o__1)]), (2, [.d (.int .u64 k_0), .d (.bool k_1), .d (.int .u64 k_2)]), (3, [.d (.int .u32 r134_1.2.1), .d (.int .u32 r134_1.2.2.1), .d (.int .u8 r134_1.2.2.2.1), .d (.bool r134_1.2.2.2.2.1), .d (.bool r134_1.2.2.2.2.2.1), .d (.int .u64 r134_1.2.2.2.2.2.2)])], 4⟩ [FnOK Go.Proofs.Try.prog 23 (f23_opt_Join_Option_in x_3 x_4 x_5 x_6 x_7 x_8) (f23_opt_Join_Option_out r134_0), FnOK Go.Proofs.Try.prog 34 (f34_opt_ParseJoin_in r134_0.1 r134_0.2) (f34_opt_ParseJoin_out r134_1), 0 + 6 ≤ 6] (by kernel_rfl) ⟨(f23_opt_Join_Option_ok n x_3 x_4 x_5 x_6 x_7 x_8 r134_0 cr134_0), (f34_opt_ParseJoin_ok n r134_0.1 r134_0.2 r134_1 cr134_1), (by decide), trivial⟩ ?_
    obtain ⟨w274, cw274, h⟩ := bindS h
    refine f9_broughamlaw08_OptBack_L5_ok n a r134_1.1 x_0 x_1 x_2 x_3 x_4 x_5 x_6 x_7 x_8 x_9 x_10 x_11 x_12 x_13 x_14 x_15 x_16 x_17 x_18 x_19 x_20 o__0 o__1 k_0 k_1 k_2 r134_1.2.1 r134_1.2.2.1 r134_1.2.2.2.1 r134_1.2.2.2.2.1 r134_1.2.2.2.2.2.1 r134_1.2.2.2.2.2.2 w274 cw274 _ ?_
    have h := Option.some.inj h
    subst h
    exact hk
def f9_broughamlaw08_OptBack_L3 : Nat → Int → Bool → Int → Int → Int → Int → Bool → Bool → Int → Bool → Bool → Int → Int → Int → Int → Int → Int → Int → Int → Bool → Int → Int → (List Int) → Option (Bool)
  | 0, _, _, _, _, _, _, _, _, _, _, _, _, _, _, _, _, _, _, _, _, _, _, _ => none
  | n + 1, x_0, x_1, x_2, x_3, x_4, x_5, x_6, x_7, x_8, x_9, x_10, x_11, x_12, x_13, x_14, x_15, x_16, x_17, x_18, x_19, x_20, o__0, o__1 =>
    (f21_opt_Key_Option n x_0 x_1 x_2).bind fun r6_0 =>
    (f32_opt_ParseKey n r6_0.1 r6_0.2).bind fun r6_1 =>
    (f9_broughamlaw08_OptBack_L4 n r6_1.1 x_0 x_1 x_2 x_3 x_4 x_5 x_6 x_7 x_8 x_9 x_10 x_11 x_12 x_13 x_14 x_15 x_16 x_17 x_18 x_19 x_20 o__0 o__1 r6_1.2.1 r6_1.2.2.1 r6_1.2.2.2).bind fun w276 =>
    some (w276)
def f9_broughamlaw08_OptBack_L3_k (e : Bool) (o : Out) : Prop := o = f9_broughamlaw08_OptBack_out e
theorem f9_broughamlaw08_OptBack_L3_ok (n : Nat) : ∀ (x_0 : Int) (x_1 : Bool) (x_2 : Int) (x_3 : Int) (x_4 : Int) (x_5 : Int) (x_6 : Bool) (x_7 : Bool) (x_8 : Int) (x_9 : Bool) (x_10 : Bool) (x_11 : Int) (x_12 : Int) (x_13 : Int) (x_14 : Int) (x_15 : Int) (x_16 : Int) (x_17 : Int) (x_18 : Int) (x_19 : Bool) (x_20 : Int) (o__0 : Int) (o__1 : List Int) (w : Bool) (h : f9_broughamlaw08_OptBack_L3 n x_0 x_1 x_2 x_3 x_4 x_5 x_6 x_7 x_8 x_9 x_10 x_11 x_12 x_13 x_14 x_15 x_16 x_17 x_18 x_19 x_20 o__0 o__1 = some w) (o : Out) (hk : f9_broughamlaw08_OptBack_L3_k w o), At Go.Proofs.Try.prog Go.Proofs.Try.f9 0 3 ⟨[(2, .one (.c (.ptr 0 0))), (3, .one (.c (.ptr 1 0)))], [], [(0, [.d (.int .u64 x_0), .d (.bool x_1), .d (.int .u64 x_2), .d (.int .u32 x_3), .d (.int .u32 x_4), .d (.int .u8 x_5), .d (.bool x_6), .d (.bool x_7), .d (.int .u64 x_8), .d (.bool x_9), .d (.bool x_10), .d (.int .u64 x_11), .d (.int .u64 x_12), .d (.int .u32 x_13), .d (.int .u64 x_14), .d (.int .u8 x_15), .d (.int .u32 x_16), .d (.int .u8 x_17), .d (.int .u8 x_18), .d (.bool x_19), .d (.int .u64 x_20)]), (1, [.d (.int .u8 o__0), .d (.sl (.int .u8) o__1)])], 2⟩ o := by
  induction n with
  | zero => intro x_0 x_1 x_2 x_3 x_4 x_5 x_6 x_7 x_8 x_9 x_10 x_11 x_12 x_13 x_14 x_15 x_16 x_17 x_18 x_19 x_20 o__0 o__1 w h; rw [f9_broughamlaw08_OptBack_L3] at h; cases h
  | succ n ih =>
    intro x_0 x_1 x_2 x_3 x_4 x_5 x_6 x_7 x_8 x_9 x_10 x_11 x_12 x_13 x_14 x_15 x_16 x_17 x_18 x_19 x_20 o__0 o__1 w h o hk
    rw [f9_broughamlaw08_OptBack_L3] at h
    obtain ⟨r6_0, cr6_0, h⟩ := bindS h
    obtain ⟨r6_1, cr6_1, h⟩ := bindS h
    refine At.step hm ht ⟨[(2, .call [] [] (f21_opt_Key_Option_out r6_0)), (3, .call [] [] (f32_opt_ParseKey_out r6_1))], [], [], [2, 3, 5, 6], [0, 1, 10]⟩ 4 ⟨[(2, .one (.c (.ptr 0 0))), (3, .one (.c (.ptr 1 0))), (5, .one (.c (.ptr 2 0))), (6, .one (.c (.d (.bool r6_1.1))))], [], [(0, [.d (.int .u64 x_0), .d (.bool x_1), .d (.int .u64 x_2), .d (.int .u32 x_3), .d (.int .u32 x_4), .d (.int .u8 x_5), .d (.bool x_6), .d (.bool x_7), .d (.int .u64 x_8), .d (.bool x_9), .d (.bool x_10), .d (.int .u64 x_11), .d (.int .u64 x_12), .d (.int .u32 x_13), .d (.int .u64 x_14), .d (.int .u8 x_15), .d (.int .u32 x_16), .d (.int .u8 x_17), .d (.int .u8 x_18), .d (.bool x_19), .d (.int .u64 x_20)]), (1, [.d (.int .u8 o__0), .d (.sl (.int .u8) o__1)]), (2, [.d (.int .u64 r6_1.2.1), .d (.bool r6_1.2.2.1), .d (.int .u64 r6_1.2.2.2)])], 3⟩ [FnOK Go.Proofs.Try.prog 21 (f21_opt_Key_Option_in x_0 x_1 x_2) (f21_opt_Key_Option_out r6_0), FnOK Go.Proofs.Try.prog 32 (f32_opt_ParseKey_in r6_0.1 r6_0.2) (f32_opt_ParseKey_out r6_1), 0 + 3 ≤ 3] (by kernel_rfl) ⟨(f21_opt_Key_Option_ok n x_0 x_1 x_2 r6_0 cr6_0), (f32_opt_ParseKey_ok n r6_0.1 r6_0.2 r6_1 cr6_1), (by decide), trivial⟩ ?_
    obtain ⟨w276, cw276, h⟩ := bindS h
    refine f9_broughamlaw08_OptBack_L4_ok n r6_1.1 x_0 x_1 x_2 x_3 x_4 x_5 x_6 x_7 x_8 x_9 x_10 x_11 x_12 x_13 x_14 x_15 x_16 x_17 x_18 x_19 x_20 o__0 o__1 r6_1.2.1 r6_1.2.2.1 r6_1.2.2.2 w276 cw276 _ ?_
    have h := Option.some.inj h
    subst h
    exact hk
def f9_broughamlaw08_OptBack_L1 : Nat → Int → Bool → Int → Int → Int → Int → Bool → Bool → Int → Bool → Bool → Int → Int → Int → Int → Int → Int → Int → Int → Bool → Int → Int → (List Int) → Option (Bool)
  | 0, _, _, _, _, _, _, _, _, _, _, _, _, _, _, _, _, _, _, _, _, _, _, _ => none
  | n + 1, x_0, x_1, x_2, x_3, x_4, x_5, x_6, x_7, x_8, x_9, x_10, x_11, x_12, x_13, x_14, x_15, x_16, x_17, x_18, x_19, x_20, o__0, o__1 =>
    if (decide ((((o__1.length : Nat) : Int) : Int) > 300)) = true then
      (f9_broughamlaw08_OptBack_L2 n).bind fun w4 =>
      some (w4)
    else
      (f9_broughamlaw08_OptBack_L3 n x_0 x_1 x_2 x_3 x_4 x_5 x_6 x_7 x_8 x_9 x_10 x_11 x_12 x_13 x_14 x_15 x_16 x_17 x_18 x_19 x_20 o__0 o__1).bind fun w278 =>
      some (w278)
def f9_broughamlaw08_OptBack_L1_k (e : Bool) (o : Out) : Prop := o = f9_broughamlaw08_OptBack_out e
theorem f9_broughamlaw08_OptBack_L1_ok (n : Nat) : ∀ (x_0 : Int) (x_1 : Bool) (x_2 : Int) (x_3 : Int) (x_4 : Int) (x_5 : Int) (x_6 : Bool) (x_7 : Bool) (x_8 : Int) (x_9 : Bool) (x_10 : Bool) (x_11 : Int) (x_12 : Int) (x_13 : Int) (x_14 : Int) (x_15 : Int) (x_16 : Int) (x_17 : Int) (x_18 : Int) (x_19 : Bool) (x_20 : Int) (o__0 : Int) (o__1 : List Int) (w : Bool) (h : f9_broughamlaw08_OptBack_L1 n x_0 x_1 x_2 x_3 x_4 x_5 x_6 x_7 x_8 x_9 x_10 x_11 x_12 x_13 x_14 x_15 x_16 x_17 x_18 x_19 x_20 o__0 o__1 = some w) (o : Out) (hk : f9_broughamlaw08_OptBack_L1_k w o), At Go.Proofs.Try.prog Go.Proofs.Try.f9 0 1 ⟨[(2, .one (.c (.ptr 0 0))), (3, .one (.c (.ptr 1 0)))], [], [(0, [.d (.int .u64 x_0), .d (.bool x_1), .d (.int .u64 x_2), .d (.int .u32 x_3), .d (.int .u32 x_4), .d (.int .u8 x_5), .d (.bool x_6), .d (.bool x_7), .d (.int .u64 x_8), .d (.bool x_9), .d (.bool x_10), .d (.int .u64 x_11), .d (.int .u64 x_12), .d (.int .u32 x_13), .d (.int .u64 x_14), .d (.int .u8 x_15), .d (.int .u32 x_16), .d (.int .u8 x_17), .d (.int .u8 x_18), .d (.bool x_19), .d (.int .u64 x_20)]), (1, [.d (.int .u8 o__0), .d (.sl (.int .u8) o__1)])], 2⟩ o := by
  induction n with
  | zero => intro x_0 x_1 x_2 x_3 x_4 x_5 x_6 x_7 x_8 x_9 x_10 x_11 x_12 x_13 x_14 x_15 x_16 x_17 x_18 x_19 x_20 o__0 o__1 w h; rw [f9_broughamlaw08_OptBack_L1] at h; cases h
  | succ n ih =>
    intro x_0 x_1 x_2 x_3 x_4 x_5 x_6 x_7 x_8 x_9 x_10 x_11 x_12 x_13 x_14 x_15 x_16 x_17 x_18 x_19 x_20 o__0 o__1 w h o hk
    rw [f9_broughamlaw08_OptBack_L1] at h
    rcases iteS h with ⟨b2_e0, h⟩ | ⟨b2_e0, h⟩
    · refine At.step hm ht ⟨[], [true], [], [], []⟩ 2 ⟨[], [], [], 0⟩ [(decide ((((o__1.length : Nat) : Int) : Int) > 300)) = true] (by kernel_rfl) ⟨b2_e0, trivial⟩ ?_
      obtain ⟨w4, cw4, h⟩ := bindS h
      refine f9_broughamlaw08_OptBack_L2_ok n w4 cw4 _ ?_
      have h := Option.some.inj h
      subst h
      exact hk
    · refine At.step hm ht ⟨[], [false], [], [2, 3], [0, 1]⟩ 3 ⟨[(2, .one (.c (.ptr 0 0))), (3, .one (.c (.ptr 1 0)))], [], [(0, [.d (.int .u64 x_0), .d (.bool x_1), .d (.int .u64 x_2), .d (.int .u32 x_3), .d (.int .u32 x_4), .d (.int .u8 x_5), .d (.bool x_6), .d (.bool x_7), .d (.int .u64 x_8), .d (.bool x_9), .d (.bool x_10), .d (.int .u64 x_11), .d (.int .u64 x_12), .d (.int .u32 x_13), .d (.int .u64 x_14), .d (.int .u8 x_15), .d (.int .u32 x_16), .d (.int .u8 x_17), .d (.int .u8 x_18), .d (.bool x_19), .d (.int .u64 x_20)]), (1, [.d (.int .u8 o__0), .d (.sl (.int .u8) o__1)])], 2⟩ [(decide ((((o__1.length : Nat) : Int) : Int) > 300)) = false] (by kernel_rfl) ⟨b2_e0, trivial⟩ ?_
      obtain ⟨w278, cw278, h⟩ := bindS h
      refine f9_broughamlaw08_OptBack_L3_ok n x_0 x_1 x_2 x_3 x_4 x_5 x_6 x_7 x_8 x_9 x_10 x_11 x_12 x_13 x_14 x_15 x_16 x_17 x_18 x_19 x_20 o__0 o__1 w278 cw278 _ ?_
      have h := Option.some.inj h
      subst h
      exact hk
def f9_broughamlaw08_OptBack (n : Nat) (x_0 : Int) (x_1 : Bool) (x_2 : Int) (x_3 : Int) (x_4 : Int) (x_5 : Int) (x_6 : Bool) (x_7 : Bool) (x_8 : Int) (x_9 : Bool) (x_10 : Bool) (x_11 : Int) (x_12 : Int) (x_13 : Int) (x_14 : Int) (x_15 : Int) (x_16 : Int) (x_17 : Int) (x_18 : Int) (x_19 : Bool) (x_20 : Int) (o__0 : Int) (o__1 : List Int) : Option (Bool) :=
  (f9_broughamlaw08_OptBack_L1 n x_0 x_1 x_2 x_3 x_4 x_5 x_6 x_7 x_8 x_9 x_10 x_11 x_12 x_13 x_14 x_15 x_16 x_17 x_18 x_19 x_20 o__0 o__1).bind fun w280 =>
  some w280
theorem f9_broughamlaw08_OptBack_ok (n : Nat) (x_0 : Int) (x_1 : Bool) (x_2 : Int) (x_3 : Int) (x_4 : Int) (x_5 : Int) (x_6 : Bool) (x_7 : Bool) (x_8 : Int) (x_9 : Bool) (x_10 : Bool) (x_11 : Int) (x_12 : Int) (x_13 : Int) (x_14 : Int) (x_15 : Int) (x_16 : Int) (x_17 : Int) (x_18 : Int) (x_19 : Bool) (x_20 : Int) (o__0 : Int) (o__1 : List Int) (r : Bool) (h : f9_broughamlaw08_OptBack n x_0 x_1 x_2 x_3 x_4 x_5 x_6 x_7 x_8 x_9 x_10 x_11 x_12 x_13 x_14 x_15 x_16 x_17 x_18 x_19 x_20 o__0 o__1 = some r) : FnOK Go.Proofs.Try.prog 9 (f9_broughamlaw08_OptBack_in x_0 x_1 x_2 x_3 x_4 x_5 x_6 x_7 x_8 x_9 x_10 x_11 x_12 x_13 x_14 x_15 x_16 x_17 x_18 x_19 x_20 o__0 o__1) (f9_broughamlaw08_OptBack_out r) := by
  unfold f9_broughamlaw08_OptBack at h
  refine At.fn (r := 0) Go.Proofs.Try.func9 rfl (by kernel_rfl) rfl rfl (by kernel_rfl) ?_
  show At Go.Proofs.Try.prog Go.Proofs.Try.f9 0 0 ⟨[(0, .one (.agg [.d (.int .u64 x_0), .d (.bool x_1), .d (.int .u64 x_2), .d (.int .u32 x_3), .d (.int .u32 x_4), .d (.int .u8 x_5), .d (.bool x_6), .d (.bool x_7), .d (.int .u64 x_8), .d (.bool x_9), .d (.bool x_10), .d (.int .u64 x_11), .d (.int .u64 x_12), .d (.int .u32 x_13), .d (.int .u64 x_14), .d (.int .u8 x_15), .d (.int .u32 x_16), .d (.int .u8 x_17), .d (.int .u8 x_18), .d (.bool x_19), .d (.int .u64 x_20)])), (1, .one (.agg [.d (.int .u8 o__0), .d (.sl (.int .u8) o__1)]))], [], [], 0⟩ _
  refine At.step hm ht ⟨[], [], [], [2, 3], [0, 1]⟩ 1 ⟨[(2, .one (.c (.ptr 0 0))), (3, .one (.c (.ptr 1 0)))], [], [(0, [.d (.int .u64 x_0), .d (.bool x_1), .d (.int .u64 x_2), .d (.int .u32 x_3), .d (.int .u32 x_4), .d (.int .u8 x_5), .d (.bool x_6), .d (.bool x_7), .d (.int .u64 x_8), .d (.bool x_9), .d (.bool x_10), .d (.int .u64 x_11), .d (.int .u64 x_12), .d (.int .u32 x_13), .d (.int .u64 x_14), .d (.int .u8 x_15), .d (.int .u32 x_16), .d (.int .u8 x_17), .d (.int .u8 x_18), .d (.bool x_19), .d (.int .u64 x_20)]), (1, [.d (.int .u8 o__0), .d (.sl (.int .u8) o__1)])], 2⟩ [] (by kernel_rfl) trivial ?_
  obtain ⟨w280, cw280, h⟩ := bindS h
  refine f9_broughamlaw08_OptBack_L1_ok n x_0 x_1 x_2 x_3 x_4 x_5 x_6 x_7 x_8 x_9 x_10 x_11 x_12 x_13 x_14 x_15 x_16 x_17 x_18 x_19 x_20 o__0 o__1 w280 cw280 _ ?_
  have h := Option.some.inj h
  subst h
  rfl
end Go.Proofs.YtddglebabaaghaaF08b
