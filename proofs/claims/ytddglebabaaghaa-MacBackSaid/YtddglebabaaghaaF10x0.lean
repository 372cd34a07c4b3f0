/- What the functions compute, and that they do: printed by a program of this session (zgen.py), proved by Zed. -/
import Derived.Test.YtddglebabaaghaaProg
import Derived.Test.YtddglebabaaghaaZedY
namespace Go.Proofs.YtddglebabaaghaaF10
open Go Zed
set_option maxRecDepth 100000
set_option linter.unusedVariables false
def tab : Tab := [(3, ⟨.int .i64, 1, 8, [.int .i64 0], some (.int .i64), none⟩), (4, ⟨.bool, 1, 1, [.bool false], some .bool, none⟩), (5, ⟨.int .u8, 1, 1, [.int .u8 0], some (.int .u8), none⟩), (9, ⟨.str, 1, 16, [.str (⟨#[]⟩ : ByteArray)], some .str, none⟩), (22, ⟨.int .u16, 1, 2, [.int .u16 0], some (.int .u16), none⟩), (23, ⟨.int .u32, 1, 4, [.int .u32 0], some (.int .u32), none⟩), (24, ⟨.slice 30, 1, 24, [.sl .unit []], some (.slice (.pair (.int .u8) (.slice (.int .u8)))), none⟩), (25, ⟨.slice 5, 1, 24, [.sl .unit []], some (.slice (.int .u8)), none⟩), (27, ⟨.struct [(0, 22), (1, 22), (2, 23), (3, 23), (4, 5), (5, 24), (6, 25)], 7, 64, [.int .u16 0, .int .u16 0, .int .u32 0, .int .u32 0, .int .u8 0, .sl .unit [], .sl .unit []], some (.pair (.int .u16) (.pair (.int .u16) (.pair (.int .u32) (.pair (.int .u32) (.pair (.int .u8) (.pair (.slice (.pair (.int .u8) (.slice (.int .u8)))) (.slice (.int .u8)))))))), some [(0, 22), (1, 22), (2, 23), (3, 23), (4, 5), (5, 24), (6, 25)]⟩), (30, ⟨.struct [(0, 5), (1, 25)], 2, 32, [.int .u8 0, .sl .unit []], some (.pair (.int .u8) (.slice (.int .u8))), some [(0, 5), (1, 25)]⟩), (36, ⟨.int .u64, 1, 8, [.int .u64 0], some (.int .u64), none⟩), (38, ⟨.struct [(0, 36)], 1, 8, [.int .u64 0], some (.int .u64), some [(0, 36)]⟩), (40, ⟨.struct [(0, 36), (1, 4), (2, 38)], 3, 24, [.int .u64 0, .bool false, .int .u64 0], some (.pair (.int .u64) (.pair .bool (.int .u64))), some [(0, 36), (1, 4), (2, 38)]⟩), (42, ⟨.struct [(0, 23), (1, 23), (2, 5), (3, 4), (4, 4), (5, 38)], 6, 24, [.int .u32 0, .int .u32 0, .int .u8 0, .bool false, .bool false, .int .u64 0], some (.pair (.int .u32) (.pair (.int .u32) (.pair (.int .u8) (.pair .bool (.pair .bool (.int .u64)))))), some [(0, 23), (1, 23), (2, 5), (3, 4), (4, 4), (5, 38)]⟩), (44, ⟨.struct [(0, 4), (1, 4), (2, 36), (3, 36), (4, 23), (5, 38)], 6, 40, [.bool false, .bool false, .int .u64 0, .int .u64 0, .int .u32 0, .int .u64 0], some (.pair .bool (.pair .bool (.pair (.int .u64) (.pair (.int .u64) (.pair (.int .u32) (.int .u64)))))), some [(0, 4), (1, 4), (2, 36), (3, 36), (4, 23), (5, 38)]⟩), (46, ⟨.struct [(0, 5), (1, 23), (2, 5), (3, 5), (4, 4), (5, 38)], 6, 24, [.int .u8 0, .int .u32 0, .int .u8 0, .int .u8 0, .bool false, .int .u64 0], some (.pair (.int .u8) (.pair (.int .u32) (.pair (.int .u8) (.pair (.int .u8) (.pair .bool (.int .u64)))))), some [(0, 5), (1, 23), (2, 5), (3, 5), (4, 4), (5, 38)]⟩), (54, ⟨.struct [(0, 23), (1, 23), (2, 5), (3, 4), (4, 4), (5, 36)], 6, 24, [.int .u32 0, .int .u32 0, .int .u8 0, .bool false, .bool false, .int .u64 0], some (.pair (.int .u32) (.pair (.int .u32) (.pair (.int .u8) (.pair .bool (.pair .bool (.int .u64)))))), some [(0, 23), (1, 23), (2, 5), (3, 4), (4, 4), (5, 36)]⟩), (58, ⟨.struct [(0, 4), (1, 4), (2, 36), (3, 36), (4, 23), (5, 36)], 6, 40, [.bool false, .bool false, .int .u64 0, .int .u64 0, .int .u32 0, .int .u64 0], some (.pair .bool (.pair .bool (.pair (.int .u64) (.pair (.int .u64) (.pair (.int .u32) (.int .u64)))))), some [(0, 4), (1, 4), (2, 36), (3, 36), (4, 23), (5, 36)]⟩), (62, ⟨.struct [(0, 23), (1, 5), (2, 5), (3, 4), (4, 36)], 5, 16, [.int .u32 0, .int .u8 0, .int .u8 0, .bool false, .int .u64 0], some (.pair (.int .u32) (.pair (.int .u8) (.pair (.int .u8) (.pair .bool (.int .u64))))), some [(0, 23), (1, 5), (2, 5), (3, 4), (4, 36)]⟩), (103, ⟨.struct [(0, 30), (2, 30)], 4, 64, [.int .u8 0, .sl .unit [], .int .u8 0, .sl .unit []], some (.pair (.pair (.int .u8) (.slice (.int .u8))) (.pair (.int .u8) (.slice (.int .u8)))), some [(0, 30), (2, 30)]⟩), (107, ⟨.struct [(0, 36), (1, 36)], 2, 16, [.int .u64 0, .int .u64 0], some (.pair (.int .u64) (.int .u64)), some [(0, 36), (1, 36)]⟩), (110, ⟨.slice 46, 1, 24, [.sl .unit []], some (.slice (.pair (.int .u8) (.pair (.int .u32) (.pair (.int .u8) (.pair (.int .u8) (.pair .bool (.int .u64))))))), none⟩), (114, ⟨.struct [(0, 40), (3, 42), (9, 44), (15, 46)], 21, 112, [.int .u64 0, .bool false, .int .u64 0, .int .u32 0, .int .u32 0, .int .u8 0, .bool false, .bool false, .int .u64 0, .bool false, .bool false, .int .u64 0, .int .u64 0, .int .u32 0, .int .u64 0, .int .u8 0, .int .u32 0, .int .u8 0, .int .u8 0, .bool false, .int .u64 0], some (.pair (.pair (.int .u64) (.pair .bool (.int .u64))) (.pair (.pair (.int .u32) (.pair (.int .u32) (.pair (.int .u8) (.pair .bool (.pair .bool (.int .u64)))))) (.pair (.pair .bool (.pair .bool (.pair (.int .u64) (.pair (.int .u64) (.pair (.int .u32) (.int .u64)))))) (.pair (.int .u8) (.pair (.int .u32) (.pair (.int .u8) (.pair (.int .u8) (.pair .bool (.int .u64))))))))), some [(0, 40), (3, 42), (9, 44), (15, 46)]⟩), (128, ⟨.struct [(0, 3), (1, 36)], 2, 16, [.int .i64 0, .int .u64 0], some (.pair (.int .i64) (.int .u64)), some [(0, 3), (1, 36)]⟩), (136, ⟨.slice 36, 1, 24, [.sl .unit []], some (.slice (.int .u64)), none⟩), (144, ⟨.slice 3, 1, 24, [.sl .unit []], some (.slice (.int .i64)), none⟩), (151, ⟨.slice 128, 1, 24, [.sl .unit []], some (.slice (.pair (.int .i64) (.int .u64))), none⟩), (152, ⟨.int .u64, 1, 8, [.int .u64 0], some (.int .u64), none⟩), (153, ⟨.slice 25, 1, 24, [.sl .unit []], some (.slice (.slice (.int .u8))), none⟩), (159, ⟨.struct [(0, 36), (1, 36), (2, 36), (3, 36)], 4, 32, [.int .u64 0, .int .u64 0, .int .u64 0, .int .u64 0], some (.pair (.int .u64) (.pair (.int .u64) (.pair (.int .u64) (.int .u64)))), some [(0, 36), (1, 36), (2, 36), (3, 36)]⟩), (162, ⟨.arr 4 36, 4, 32, [.int .u64 0, .int .u64 0, .int .u64 0, .int .u64 0], some (.pair (.int .u64) (.pair (.int .u64) (.pair (.int .u64) (.int .u64)))), none⟩), (164, ⟨.struct [(0, 162), (4, 36), (5, 3)], 6, 48, [.int .u64 0, .int .u64 0, .int .u64 0, .int .u64 0, .int .u64 0, .int .i64 0], some (.pair (.pair (.int .u64) (.pair (.int .u64) (.pair (.int .u64) (.int .u64)))) (.pair (.int .u64) (.int .i64))), some [(0, 162), (4, 36), (5, 3)]⟩)]
theorem ht : TabOk Go.Proofs.Try.prog tab := tabOk_of (ts := [3, 4, 5, 9, 22, 23, 24, 25, 27, 30, 36, 38, 40, 42, 44, 46, 54, 58, 62, 103, 107, 110, 114, 128, 136, 144, 151, 152, 153, 159, 162, 164]) (by kernel_rfl)
theorem hm : Go.Proofs.Try.prog.follows .mixedOrders = true := by kernel_rfl
/-! brougham/pack.H -/
def f85_pack_H_in (n_ : Int) : Inn := ⟨[.c (.d (.int .u16 n_))], [], [], 0⟩
def f85_pack_H_out (r : Int × Int) : Out := ⟨.one (.agg [.d (.int .i64 r.1), .d (.int .u64 r.2)]), [], [(0, [.d (.int .i64 r.1), .d (.int .u64 r.2)])], 1⟩
def f85_pack_H (n_ : Int) : Option (Int × Int) :=
  some (2, (IntKind.wrap .u64 n_))
theorem f85_pack_H_ok (n_ : Int) (r : Int × Int) (h : f85_pack_H n_ = some r) : FnOK Go.Proofs.Try.prog 85 (f85_pack_H_in n_) (f85_pack_H_out r) := by
  unfold f85_pack_H at h
  refine At.fn (r := 0) Go.Proofs.Try.func85 rfl (by kernel_rfl) rfl rfl (by kernel_rfl) ?_
  show At Go.Proofs.Try.prog Go.Proofs.Try.f85 0 0 ⟨[(0, .one (.c (.d (.int .u16 n_))))], [], [], 0⟩ _
  refine At.step hm ht ⟨[], [], [], [0, 2], [0]⟩ 1 ⟨[(0, .one (.c (.d (.int .u16 n_)))), (2, .one (.c (.ptr 0 0)))], [], [(0, [.d (.int .i64 0), .d (.int .u64 0)])], 1⟩ [] (by kernel_rfl) trivial ?_
  have h := Option.some.inj h
  subst h
  exact At.fin hm ht ⟨[], [], [], [2], [0]⟩ [0 + 2 ≤ 2] (by kernel_rfl) ⟨(by decide), trivial⟩
/-! brougham/pack.W -/
def f76_pack_W_in (n_ : Int) : Inn := ⟨[.c (.d (.int .u32 n_))], [], [], 0⟩
def f76_pack_W_out (r : Int × Int) : Out := ⟨.one (.agg [.d (.int .i64 r.1), .d (.int .u64 r.2)]), [], [(0, [.d (.int .i64 r.1), .d (.int .u64 r.2)])], 1⟩
def f76_pack_W (n_ : Int) : Option (Int × Int) :=
  some (4, (IntKind.wrap .u64 n_))
theorem f76_pack_W_ok (n_ : Int) (r : Int × Int) (h : f76_pack_W n_ = some r) : FnOK Go.Proofs.Try.prog 76 (f76_pack_W_in n_) (f76_pack_W_out r) := by
  unfold f76_pack_W at h
  refine At.fn (r := 0) Go.Proofs.Try.func76 rfl (by kernel_rfl) rfl rfl (by kernel_rfl) ?_
  show At Go.Proofs.Try.prog Go.Proofs.Try.f76 0 0 ⟨[(0, .one (.c (.d (.int .u32 n_))))], [], [], 0⟩ _
  refine At.step hm ht ⟨[], [], [], [0, 2], [0]⟩ 1 ⟨[(0, .one (.c (.d (.int .u32 n_)))), (2, .one (.c (.ptr 0 0)))], [], [(0, [.d (.int .i64 0), .d (.int .u64 0)])], 1⟩ [] (by kernel_rfl) trivial ?_
  have h := Option.some.inj h
  subst h
  exact At.fin hm ht ⟨[], [], [], [2], [0]⟩ [0 + 2 ≤ 2] (by kernel_rfl) ⟨(by decide), trivial⟩
/-! brougham/pack.B -/
def f77_pack_B_in (n_ : Int) : Inn := ⟨[.c (.d (.int .u8 n_))], [], [], 0⟩
def f77_pack_B_out (r : Int × Int) : Out := ⟨.one (.agg [.d (.int .i64 r.1), .d (.int .u64 r.2)]), [], [(0, [.d (.int .i64 r.1), .d (.int .u64 r.2)])], 1⟩
def f77_pack_B (n_ : Int) : Option (Int × Int) :=
  some (1, (IntKind.wrap .u64 n_))
theorem f77_pack_B_ok (n_ : Int) (r : Int × Int) (h : f77_pack_B n_ = some r) : FnOK Go.Proofs.Try.prog 77 (f77_pack_B_in n_) (f77_pack_B_out r) := by
  unfold f77_pack_B at h
  refine At.fn (r := 0) Go.Proofs.Try.func77 rfl (by kernel_rfl) rfl rfl (by kernel_rfl) ?_
  show At Go.Proofs.Try.prog Go.Proofs.Try.f77 0 0 ⟨[(0, .one (.c (.d (.int .u8 n_))))], [], [], 0⟩ _
  refine At.step hm ht ⟨[], [], [], [0, 2], [0]⟩ 1 ⟨[(0, .one (.c (.d (.int .u8 n_)))), (2, .one (.c (.ptr 0 0)))], [], [(0, [.d (.int .i64 0), .d (.int .u64 0)])], 1⟩ [] (by kernel_rfl) trivial ?_
  have h := Option.some.inj h
  subst h
  exact At.fin hm ht ⟨[], [], [], [2], [0]⟩ [0 + 2 ≤ 2] (by kernel_rfl) ⟨(by decide), trivial⟩
/-! brougham/pack.Put -/
def f73_pack_Put_in (b : List Int) (l : List (Int × Int)) : Inn := ⟨[.c (.d (.sl (.int .u8) b)), .c (.d (.sl (.pair (.int .i64) (.int .u64)) l))], [], [], 0⟩
def f73_pack_Put_out (r : List Int) : Out := ⟨.one (.c (.own 0 (.int .u8) r)), [(0, ⟨5, 0⟩)], [], 1⟩
def f73_pack_Put_L7 : Nat → (List Int) → Int → (List (Int × Int)) → Int → Int → Int → Int → Option (List Int × (List (Int × Int)) × Int × Int)
  | 0, _, _, _, _, _, _, _ => none
  | n + 1, out, i, t11, t12, t13, f_0, f_1 =>
    if (decide ((i : Int) ≥ 0)) = true then
      if (0 : Int) ≤ (IntKind.wrap .i64 (8 * i)) then
      if out.length + [(IntKind.wrap .u8 (Int.fdiv f_1 (2 ^ (min (IntKind.wrap .i64 (8 * i)).toNat (IntKind.bits .u64)))))].length ≤ maxLen ∧ (out.length + [(IntKind.wrap .u8 (Int.fdiv f_1 (2 ^ (min (IntKind.wrap .i64 (8 * i)).toNat (IntKind.bits .u64)))))].length) * 1 ≤ 140737488355328 then
      f73_pack_Put_L7 n (out ++ [(IntKind.wrap .u8 (Int.fdiv f_1 (2 ^ (min (IntKind.wrap .i64 (8 * i)).toNat (IntKind.bits .u64)))))]) (IntKind.wrap .i64 (i - 1)) t11 t12 t13 f_0 f_1
      else none
      else none
    else
      some ((out, t11, t12, t13))
def f73_pack_Put_L7_k (e : List Int × (List (Int × Int)) × Int × Int) (o : Out) : Prop := At Go.Proofs.Try.prog Go.Proofs.Try.f73 0 10 ⟨[(5, .one (.c (.own 0 (.int .u8) e.1))), (11, .one (.c (.d (.sl (.pair (.int .i64) (.int .u64)) e.2.1)))), (12, .one (.c (.d (.int .i64 e.2.2.1)))), (13, .one (.c (.d (.int .i64 e.2.2.2))))], [(0, some ⟨5, 0⟩)], [], 1⟩ o
theorem f73_pack_Put_L7_ok (n : Nat) : ∀ (out : List Int) (i : Int) (t11 : List (Int × Int)) (t12 : Int) (t13 : Int) (f_0 : Int) (f_1 : Int) (w : List Int × (List (Int × Int)) × Int × Int) (h : f73_pack_Put_L7 n out i t11 t12 t13 f_0 f_1 = some w) (o : Out) (hk : f73_pack_Put_L7_k w o), At Go.Proofs.Try.prog Go.Proofs.Try.f73 0 7 ⟨[(5, .one (.c (.own 0 (.int .u8) out))), (7, .one (.c (.ptr 1 0))), (8, .one (.c (.d (.int .i64 i)))), (11, .one (.c (.d (.sl (.pair (.int .i64) (.int .u64)) t11)))), (12, .one (.c (.d (.int .i64 t12)))), (13, .one (.c (.d (.int .i64 t13))))], [(0, some ⟨5, 0⟩)], [(1, [.d (.int .i64 f_0), .d (.int .u64 f_1)])], 2⟩ o := by
  induction n with
  | zero => intro out i t11 t12 t13 f_0 f_1 w h; rw [f73_pack_Put_L7] at h; cases h
  | succ n ih =>
    intro out i t11 t12 t13 f_0 f_1 w h o hk
    rw [f73_pack_Put_L7] at h
    rcases iteS h with ⟨b34_e0, h⟩ | ⟨b34_e0, h⟩
    · refine At.step hm ht ⟨[], [true], [], [5, 7, 8, 11, 12, 13], [0, 1]⟩ 9 ⟨[(5, .one (.c (.own 0 (.int .u8) out))), (7, .one (.c (.ptr 1 0))), (8, .one (.c (.d (.int .i64 i)))), (11, .one (.c (.d (.sl (.pair (.int .i64) (.int .u64)) t11)))), (12, .one (.c (.d (.int .i64 t12)))), (13, .one (.c (.d (.int .i64 t13))))], [(0, some ⟨5, 0⟩)], [(1, [.d (.int .i64 f_0), .d (.int .u64 f_1)])], 2⟩ [(decide ((i : Int) ≥ 0)) = true] (by kernel_rfl) ⟨b34_e0, trivial⟩ ?_
      obtain ⟨g35_0, h⟩ := ifS h
      obtain ⟨g35_1, h⟩ := ifS h
      refine At.step hm ht ⟨[], [], [], [5, 7, 8, 11, 12, 13], [10, 1]⟩ 8 ⟨[(5, .one (.c (.own 0 (.int .u8) (out ++ [(IntKind.wrap .u8 (Int.fdiv f_1 (2 ^ (min (IntKind.wrap .i64 (8 * i)).toNat (IntKind.bits .u64)))))])))), (7, .one (.c (.ptr 1 0))), (8, .one (.c (.d (.int .i64 i)))), (11, .one (.c (.d (.sl (.pair (.int .i64) (.int .u64)) t11)))), (12, .one (.c (.d (.int .i64 t12)))), (13, .one (.c (.d (.int .i64 t13))))], [(0, some ⟨5, 0⟩)], [(1, [.d (.int .i64 f_0), .d (.int .u64 f_1)])], 2⟩ [(0 : Int) ≤ (IntKind.wrap .i64 (8 * i)), out.length + [(IntKind.wrap .u8 (Int.fdiv f_1 (2 ^ (min (IntKind.wrap .i64 (8 * i)).toNat (IntKind.bits .u64)))))].length ≤ maxLen ∧ (out.length + [(IntKind.wrap .u8 (Int.fdiv f_1 (2 ^ (min (IntKind.wrap .i64 (8 * i)).toNat (IntKind.bits .u64)))))].length) * 1 ≤ 140737488355328] (by kernel_rfl) ⟨g35_0, g35_1, trivial⟩ ?_
      refine At.step hm ht ⟨[], [], [], [5, 7, 8, 11, 12, 13], [0, 1]⟩ 7 ⟨[(5, .one (.c (.own 0 (.int .u8) (out ++ [(IntKind.wrap .u8 (Int.fdiv f_1 (2 ^ (min (IntKind.wrap .i64 (8 * i)).toNat (IntKind.bits .u64)))))])))), (7, .one (.c (.ptr 1 0))), (8, .one (.c (.d (.int .i64 (IntKind.wrap .i64 (i - 1)))))), (11, .one (.c (.d (.sl (.pair (.int .i64) (.int .u64)) t11)))), (12, .one (.c (.d (.int .i64 t12)))), (13, .one (.c (.d (.int .i64 t13))))], [(0, some ⟨5, 0⟩)], [(1, [.d (.int .i64 f_0), .d (.int .u64 f_1)])], 2⟩ [] (by kernel_rfl) trivial ?_
      exact ih (out ++ [(IntKind.wrap .u8 (Int.fdiv f_1 (2 ^ (min (IntKind.wrap .i64 (8 * i)).toNat (IntKind.bits .u64)))))]) (IntKind.wrap .i64 (i - 1)) t11 t12 t13 f_0 f_1 w h o hk
    · refine At.step hm ht ⟨[], [false], [], [5, 11, 12, 13], [0]⟩ 10 ⟨[(5, .one (.c (.own 0 (.int .u8) out))), (11, .one (.c (.d (.sl (.pair (.int .i64) (.int .u64)) t11)))), (12, .one (.c (.d (.int .i64 t12)))), (13, .one (.c (.d (.int .i64 t13))))], [(0, some ⟨5, 0⟩)], [], 1⟩ [(decide ((i : Int) ≥ 0)) = false] (by kernel_rfl) ⟨b34_e0, trivial⟩ ?_
      have h := Option.some.inj h
      subst h
      exact hk
def f73_pack_Put_L3 : Nat → (List Int) → (List (Int × Int)) → Int → Int → Option (List Int)
  | 0, _, _, _, _ => none
  | n + 1, out, t11, t12, t13 =>
    if (decide ((t13 : Int) < t12)) = true then
      if (0 : Int) ≤ t13 ∧ t13 < (((t11).length : Nat) : Int) then
      if (decide ((((t11.getD t13.toNat (0, 0)).1) : Int) < 1)) = true then
        f73_pack_Put_L3 n out t11 t12 (IntKind.wrap .i64 (t13 + 1))
      else
        if (decide ((((t11.getD t13.toNat (0, 0)).1) : Int) > 8)) = true then
          f73_pack_Put_L3 n out t11 t12 (IntKind.wrap .i64 (t13 + 1))
        else
          (f73_pack_Put_L7 n out (IntKind.wrap .i64 (((t11.getD t13.toNat (0, 0)).1) - 1)) t11 t12 t13 ((t11.getD t13.toNat (0, 0)).1) ((t11.getD t13.toNat (0, 0)).2)).bind fun w37 =>
          f73_pack_Put_L3 n w37.1 w37.2.1 w37.2.2.1 (IntKind.wrap .i64 (w37.2.2.2 + 1))
      else none
    else
      some (out)
def f73_pack_Put_L3_k (e : List Int) (o : Out) : Prop := At Go.Proofs.Try.prog Go.Proofs.Try.f73 0 11 ⟨[(5, .one (.c (.own 0 (.int .u8) e)))], [(0, some ⟨5, 0⟩)], [], 1⟩ o
theorem f73_pack_Put_L3_ok (n : Nat) : ∀ (out : List Int) (t11 : List (Int × Int)) (t12 : Int) (t13 : Int) (w : List Int) (h : f73_pack_Put_L3 n out t11 t12 t13 = some w) (o : Out) (hk : f73_pack_Put_L3_k w o), At Go.Proofs.Try.prog Go.Proofs.Try.f73 0 3 ⟨[(5, .one (.c (.own 0 (.int .u8) out))), (11, .one (.c (.d (.sl (.pair (.int .i64) (.int .u64)) t11)))), (12, .one (.c (.d (.int .i64 t12)))), (13, .one (.c (.d (.int .i64 t13))))], [(0, some ⟨5, 0⟩)], [], 1⟩ o := by
  induction n with
  | zero => intro out t11 t12 t13 w h; rw [f73_pack_Put_L3] at h; cases h
  | succ n ih =>
    intro out t11 t12 t13 w h o hk
    rw [f73_pack_Put_L3] at h
    rcases iteS h with ⟨b28_e0, h⟩ | ⟨b28_e0, h⟩
    · refine At.step hm ht ⟨[], [true], [], [5, 11, 12, 13], [0]⟩ 4 ⟨[(5, .one (.c (.own 0 (.int .u8) out))), (11, .one (.c (.d (.sl (.pair (.int .i64) (.int .u64)) t11)))), (12, .one (.c (.d (.int .i64 t12)))), (13, .one (.c (.d (.int .i64 t13))))], [(0, some ⟨5, 0⟩)], [], 1⟩ [(decide ((t13 : Int) < t12)) = true] (by kernel_rfl) ⟨b28_e0, trivial⟩ ?_
      obtain ⟨g29_0, h⟩ := ifS h
      refine At.step hm ht ⟨[], [], [], [5, 7, 11, 12, 13], [0, 3]⟩ 5 ⟨[(5, .one (.c (.own 0 (.int .u8) out))), (7, .one (.c (.ptr 1 0))), (11, .one (.c (.d (.sl (.pair (.int .i64) (.int .u64)) t11)))), (12, .one (.c (.d (.int .i64 t12)))), (13, .one (.c (.d (.int .i64 t13))))], [(0, some ⟨5, 0⟩)], [(1, [.d (.int .i64 ((t11.getD t13.toNat (0, 0)).1)), .d (.int .u64 ((t11.getD t13.toNat (0, 0)).2))])], 2⟩ [(0 : Int) ≤ t13 ∧ t13 < (((t11).length : Nat) : Int), 0 + 2 ≤ 2] (by kernel_rfl) ⟨g29_0, (by decide), trivial⟩ ?_
      rcases iteS h with ⟨b30_3, h⟩ | ⟨b30_3, h⟩
      · refine At.step hm ht ⟨[(3, .b true)], [true], [], [5, 11, 12, 13], [0]⟩ 10 ⟨[(5, .one (.c (.own 0 (.int .u8) out))), (11, .one (.c (.d (.sl (.pair (.int .i64) (.int .u64)) t11)))), (12, .one (.c (.d (.int .i64 t12)))), (13, .one (.c (.d (.int .i64 t13))))], [(0, some ⟨5, 0⟩)], [], 1⟩ [(decide ((((t11.getD t13.toNat (0, 0)).1) : Int) < 1)) = true, true = true] (by kernel_rfl) ⟨b30_3, rfl, trivial⟩ ?_
        refine At.step hm ht ⟨[], [], [], [5, 11, 12, 13], [0]⟩ 3 ⟨[(5, .one (.c (.own 0 (.int .u8) out))), (11, .one (.c (.d (.sl (.pair (.int .i64) (.int .u64)) t11)))), (12, .one (.c (.d (.int .i64 t12)))), (13, .one (.c (.d (.int .i64 (IntKind.wrap .i64 (t13 + 1))))))], [(0, some ⟨5, 0⟩)], [], 1⟩ [] (by kernel_rfl) trivial ?_
        exact ih out t11 t12 (IntKind.wrap .i64 (t13 + 1)) w h o hk
      · rcases iteS h with ⟨b30_e0, h⟩ | ⟨b30_e0, h⟩
        · refine At.step hm ht ⟨[(3, .b false)], [true], [], [5, 11, 12, 13], [0]⟩ 10 ⟨[(5, .one (.c (.own 0 (.int .u8) out))), (11, .one (.c (.d (.sl (.pair (.int .i64) (.int .u64)) t11)))), (12, .one (.c (.d (.int .i64 t12)))), (13, .one (.c (.d (.int .i64 t13))))], [(0, some ⟨5, 0⟩)], [], 1⟩ [(decide ((((t11.getD t13.toNat (0, 0)).1) : Int) < 1)) = false, (decide ((((t11.getD t13.toNat (0, 0)).1) : Int) > 8)) = true] (by kernel_rfl) ⟨b30_3, b30_e0, trivial⟩ ?_
          refine At.step hm ht ⟨[], [], [], [5, 11, 12, 13], [0]⟩ 3 ⟨[(5, .one (.c (.own 0 (.int .u8) out))), (11, .one (.c (.d (.sl (.pair (.int .i64) (.int .u64)) t11)))), (12, .one (.c (.d (.int .i64 t12)))), (13, .one (.c (.d (.int .i64 (IntKind.wrap .i64 (t13 + 1))))))], [(0, some ⟨5, 0⟩)], [], 1⟩ [] (by kernel_rfl) trivial ?_
          exact ih out t11 t12 (IntKind.wrap .i64 (t13 + 1)) w h o hk
        · refine At.step hm ht ⟨[(3, .b false)], [false], [], [5, 7, 11, 12, 13], [0, 1]⟩ 6 ⟨[(5, .one (.c (.own 0 (.int .u8) out))), (7, .one (.c (.ptr 1 0))), (11, .one (.c (.d (.sl (.pair (.int .i64) (.int .u64)) t11)))), (12, .one (.c (.d (.int .i64 t12)))), (13, .one (.c (.d (.int .i64 t13))))], [(0, some ⟨5, 0⟩)], [(1, [.d (.int .i64 ((t11.getD t13.toNat (0, 0)).1)), .d (.int .u64 ((t11.getD t13.toNat (0, 0)).2))])], 2⟩ [(decide ((((t11.getD t13.toNat (0, 0)).1) : Int) < 1)) = false, (decide ((((t11.getD t13.toNat (0, 0)).1) : Int) > 8)) = false] (by kernel_rfl) ⟨b30_3, b30_e0, trivial⟩ ?_
          refine At.step hm ht ⟨[], [], [], [5, 7, 8, 11, 12, 13], [0, 1]⟩ 7 ⟨[(5, .one (.c (.own 0 (.int .u8) out))), (7, .one (.c (.ptr 1 0))), (8, .one (.c (.d (.int .i64 (IntKind.wrap .i64 (((t11.getD t13.toNat (0, 0)).1) - 1)))))), (11, .one (.c (.d (.sl (.pair (.int .i64) (.int .u64)) t11)))), (12, .one (.c (.d (.int .i64 t12)))), (13, .one (.c (.d (.int .i64 t13))))], [(0, some ⟨5, 0⟩)], [(1, [.d (.int .i64 ((t11.getD t13.toNat (0, 0)).1)), .d (.int .u64 ((t11.getD t13.toNat (0, 0)).2))])], 2⟩ [] (by kernel_rfl) trivial ?_
          obtain ⟨w37, cw37, h⟩ := bindS h
          refine f73_pack_Put_L7_ok n out (IntKind.wrap .i64 (((t11.getD t13.toNat (0, 0)).1) - 1)) t11 t12 t13 ((t11.getD t13.toNat (0, 0)).1) ((t11.getD t13.toNat (0, 0)).2) w37 cw37 _ ?_
          show At Go.Proofs.Try.prog Go.Proofs.Try.f73 0 10 ⟨[(5, .one (.c (.own 0 (.int .u8) w37.1))), (11, .one (.c (.d (.sl (.pair (.int .i64) (.int .u64)) w37.2.1)))), (12, .one (.c (.d (.int .i64 w37.2.2.1)))), (13, .one (.c (.d (.int .i64 w37.2.2.2))))], [(0, some ⟨5, 0⟩)], [], 1⟩ _
          refine At.step hm ht ⟨[], [], [], [5, 11, 12, 13], [0]⟩ 3 ⟨[(5, .one (.c (.own 0 (.int .u8) w37.1))), (11, .one (.c (.d (.sl (.pair (.int .i64) (.int .u64)) w37.2.1)))), (12, .one (.c (.d (.int .i64 w37.2.2.1)))), (13, .one (.c (.d (.int .i64 (IntKind.wrap .i64 (w37.2.2.2 + 1))))))], [(0, some ⟨5, 0⟩)], [], 1⟩ [] (by kernel_rfl) trivial ?_
          exact ih w37.1 w37.2.1 w37.2.2.1 (IntKind.wrap .i64 (w37.2.2.2 + 1)) w h o hk
    · refine At.step hm ht ⟨[], [false], [], [5], [0]⟩ 11 ⟨[(5, .one (.c (.own 0 (.int .u8) out)))], [(0, some ⟨5, 0⟩)], [], 1⟩ [(decide ((t13 : Int) < t12)) = false] (by kernel_rfl) ⟨b28_e0, trivial⟩ ?_
      have h := Option.some.inj h
      subst h
      exact hk
def f73_pack_Put (n : Nat) (b : List Int) (l : List (Int × Int)) : Option (List Int) :=
  if b.length ≤ maxLen ∧ b.length * 1 ≤ 140737488355328 then
  (f73_pack_Put_L3 n b l ((l.length : Nat) : Int) 0).bind fun w40 =>
  some w40
  else none
theorem f73_pack_Put_ok (n : Nat) (b : List Int) (l : List (Int × Int)) (r : List Int) (h : f73_pack_Put n b l = some r) : FnOK Go.Proofs.Try.prog 73 (f73_pack_Put_in b l) (f73_pack_Put_out r) := by
  unfold f73_pack_Put at h
  refine At.fn (r := 0) Go.Proofs.Try.func73 rfl (by kernel_rfl) rfl rfl (by kernel_rfl) ?_
  show At Go.Proofs.Try.prog Go.Proofs.Try.f73 0 0 ⟨[(0, .one (.c (.d (.sl (.int .u8) b)))), (1, .one (.c (.d (.sl (.pair (.int .i64) (.int .u64)) l))))], [], [], 0⟩ _
  refine At.step hm ht ⟨[], [], [], [0, 1], []⟩ 1 ⟨[(0, .one (.c (.d (.sl (.int .u8) b)))), (1, .one (.c (.d (.sl (.pair (.int .i64) (.int .u64)) l))))], [], [], 0⟩ [] (by kernel_rfl) trivial ?_
  obtain ⟨g26_0, h⟩ := ifS h
  refine At.step hm ht ⟨[], [], [], [1, 5], [1]⟩ 2 ⟨[(1, .one (.c (.d (.sl (.pair (.int .i64) (.int .u64)) l)))), (5, .one (.c (.own 0 (.int .u8) b)))], [(0, some ⟨5, 0⟩)], [], 1⟩ [b.length ≤ maxLen ∧ b.length * 1 ≤ 140737488355328] (by kernel_rfl) ⟨g26_0, trivial⟩ ?_
  refine At.step hm ht ⟨[], [], [], [5, 11, 12, 13], [0]⟩ 3 ⟨[(5, .one (.c (.own 0 (.int .u8) b))), (11, .one (.c (.d (.sl (.pair (.int .i64) (.int .u64)) l)))), (12, .one (.c (.d (.int .i64 ((l.length : Nat) : Int))))), (13, .one (.c (.d (.int .i64 0))))], [(0, some ⟨5, 0⟩)], [], 1⟩ [] (by kernel_rfl) trivial ?_
  obtain ⟨w40, cw40, h⟩ := bindS h
  refine f73_pack_Put_L3_ok n b l ((l.length : Nat) : Int) 0 w40 cw40 _ ?_
  show At Go.Proofs.Try.prog Go.Proofs.Try.f73 0 11 ⟨[(5, .one (.c (.own 0 (.int .u8) w40)))], [(0, some ⟨5, 0⟩)], [], 1⟩ _
  have h := Option.some.inj h
  subst h
  exact At.fin hm ht ⟨[], [], [], [4], [0]⟩ [] (by kernel_rfl) trivial
/-! brougham/seg.Header -/
def f44_seg_Header_in (s_0 : Int) (s_1 : Int) (s_2 : Int) (s_3 : Int) (s_4 : Int) (s_5 : List (Int × List Int)) (s_6 : List Int) : Inn := ⟨[.agg [.d (.int .u16 s_0), .d (.int .u16 s_1), .d (.int .u32 s_2), .d (.int .u32 s_3), .d (.int .u8 s_4), .d (.sl (.pair (.int .u8) (.slice (.int .u8))) s_5), .d (.sl (.int .u8) s_6)]], [], [], 0⟩
def f44_seg_Header_out (r : List Int) : Out := ⟨.one (.c (.own 0 (.int .u8) r)), [(0, ⟨5, 0⟩)], [], 1⟩
def f44_seg_Header (n : Nat) (s_0 : Int) (s_1 : Int) (s_2 : Int) (s_3 : Int) (s_4 : Int) (s_5 : List (Int × List Int)) (s_6 : List Int) : Option (List Int) :=
  (f85_pack_H s_0).bind fun r18_0 =>
  (f85_pack_H s_1).bind fun r18_1 =>
  (f76_pack_W s_2).bind fun r18_2 =>
  (f76_pack_W s_3).bind fun r18_3 =>
  (f77_pack_B s_4).bind fun r18_4 =>
  (f73_pack_Put n [] [r18_0, r18_1, r18_2, r18_3, r18_4]).bind fun r18_5 =>
  some r18_5
theorem f44_seg_Header_ok (n : Nat) (s_0 : Int) (s_1 : Int) (s_2 : Int) (s_3 : Int) (s_4 : Int) (s_5 : List (Int × List Int)) (s_6 : List Int) (r : List Int) (h : f44_seg_Header n s_0 s_1 s_2 s_3 s_4 s_5 s_6 = some r) : FnOK Go.Proofs.Try.prog 44 (f44_seg_Header_in s_0 s_1 s_2 s_3 s_4 s_5 s_6) (f44_seg_Header_out r) := by
  unfold f44_seg_Header at h
  refine At.fn (r := 0) Go.Proofs.Try.func44 rfl (by kernel_rfl) rfl rfl (by kernel_rfl) ?_
  show At Go.Proofs.Try.prog Go.Proofs.Try.f44 0 0 ⟨[(0, .one (.agg [.d (.int .u16 s_0), .d (.int .u16 s_1), .d (.int .u32 s_2), .d (.int .u32 s_3), .d (.int .u8 s_4), .d (.sl (.pair (.int .u8) (.slice (.int .u8))) s_5), .d (.sl (.int .u8) s_6)]))], [], [], 0⟩ _
  refine At.step hm ht ⟨[], [], [], [1], [0]⟩ 1 ⟨[(1, .one (.c (.ptr 0 0)))], [], [(0, [.d (.int .u16 s_0), .d (.int .u16 s_1), .d (.int .u32 s_2), .d (.int .u32 s_3), .d (.int .u8 s_4), .d (.sl (.pair (.int .u8) (.slice (.int .u8))) s_5), .d (.sl (.int .u8) s_6)])], 1⟩ [] (by kernel_rfl) trivial ?_
  obtain ⟨r18_0, cr18_0, h⟩ := bindS h
  obtain ⟨r18_1, cr18_1, h⟩ := bindS h
  obtain ⟨r18_2, cr18_2, h⟩ := bindS h
  obtain ⟨r18_3, cr18_3, h⟩ := bindS h
  obtain ⟨r18_4, cr18_4, h⟩ := bindS h
  obtain ⟨r18_5, cr18_5, h⟩ := bindS h
  have h := Option.some.inj h
  subst h
  exact At.fin hm ht ⟨[(2, .call [] [] (f85_pack_H_out r18_0)), (5, .call [] [] (f85_pack_H_out r18_1)), (8, .call [] [] (f76_pack_W_out r18_2)), (11, .call [] [] (f76_pack_W_out r18_3)), (14, .call [] [] (f77_pack_B_out r18_4)), (16, .call [] [(0, 0, (.int .u8))] (f73_pack_Put_out r18_5))], [], [], [2], [17]⟩ [FnOK Go.Proofs.Try.prog 85 (f85_pack_H_in s_0) (f85_pack_H_out r18_0), FnOK Go.Proofs.Try.prog 85 (f85_pack_H_in s_1) (f85_pack_H_out r18_1), FnOK Go.Proofs.Try.prog 76 (f76_pack_W_in s_2) (f76_pack_W_out r18_2), FnOK Go.Proofs.Try.prog 76 (f76_pack_W_in s_3) (f76_pack_W_out r18_3), FnOK Go.Proofs.Try.prog 77 (f77_pack_B_in s_4) (f77_pack_B_out r18_4), FnOK Go.Proofs.Try.prog 73 (f73_pack_Put_in [] [r18_0, r18_1, r18_2, r18_3, r18_4]) (f73_pack_Put_out r18_5)] (by kernel_rfl) ⟨(f85_pack_H_ok s_0 r18_0 cr18_0), (f85_pack_H_ok s_1 r18_1 cr18_1), (f76_pack_W_ok s_2 r18_2 cr18_2), (f76_pack_W_ok s_3 r18_3 cr18_3), (f77_pack_B_ok s_4 r18_4 cr18_4), (f73_pack_Put_ok n [] [r18_0, r18_1, r18_2, r18_3, r18_4] r18_5 cr18_5), trivial⟩
/-! brougham/mac.Cover -/
def f56_mac_Cover_in (s_0 : Int) (s_1 : Int) (s_2 : Int) (s_3 : Int) (s_4 : Int) (s_5 : List (Int × List Int)) (s_6 : List Int) (o__0 : Int) (o__1 : List Int) : Inn := ⟨[.agg [.d (.int .u16 s_0), .d (.int .u16 s_1), .d (.int .u32 s_2), .d (.int .u32 s_3), .d (.int .u8 s_4), .d (.sl (.pair (.int .u8) (.slice (.int .u8))) s_5), .d (.sl (.int .u8) s_6)], .agg [.d (.int .u8 o__0), .d (.sl (.int .u8) o__1)]], [], [], 0⟩
def f56_mac_Cover_out (r : List Int) : Out := ⟨.one (.c (.own 0 (.int .u8) r)), [(0, ⟨5, 0⟩)], [], 1⟩
def f56_mac_Cover (n : Nat) (s_0 : Int) (s_1 : Int) (s_2 : Int) (s_3 : Int) (s_4 : Int) (s_5 : List (Int × List Int)) (s_6 : List Int) (o__0 : Int) (o__1 : List Int) : Option (List Int) :=
  if cutOk o__1.length none (some (if (IntKind.wrap .i64 (((o__1.length : Nat) : Int) - 8)) < 0 then 0 else (IntKind.wrap .i64 (((o__1.length : Nat) : Int) - 8)))) none then
  (f44_seg_Header n s_0 s_1 s_2 s_3 s_4 s_5 s_6).bind fun r16_0 =>
  (f77_pack_B o__0).bind fun r16_1 =>
  (f77_pack_B (IntKind.wrap .u8 ((o__1.length : Nat) : Int))).bind fun r16_2 =>
  (f73_pack_Put n r16_0 [r16_1, r16_2]).bind fun r16_3 =>
  if r16_3.length + (o__1.take (if (IntKind.wrap .i64 (((o__1.length : Nat) : Int) - 8)) < 0 then 0 else (IntKind.wrap .i64 (((o__1.length : Nat) : Int) - 8))).toNat).length ≤ maxLen ∧ (r16_3.length + (o__1.take (if (IntKind.wrap .i64 (((o__1.length : Nat) : Int) - 8)) < 0 then 0 else (IntKind.wrap .i64 (((o__1.length : Nat) : Int) - 8))).toNat).length) * 1 ≤ 140737488355328 then
  (f85_pack_H (IntKind.wrap .u16 ((s_6.length : Nat) : Int))).bind fun r44_0 =>
  (f73_pack_Put n (r16_3 ++ (o__1.take (if (IntKind.wrap .i64 (((o__1.length : Nat) : Int) - 8)) < 0 then 0 else (IntKind.wrap .i64 (((o__1.length : Nat) : Int) - 8))).toNat)) [r44_0]).bind fun r44_1 =>
  if r44_1.length + s_6.length ≤ maxLen ∧ (r44_1.length + s_6.length) * 1 ≤ 140737488355328 then
  some (r44_1 ++ s_6)
  else none
  else none
  else none
theorem f56_mac_Cover_ok (n : Nat) (s_0 : Int) (s_1 : Int) (s_2 : Int) (s_3 : Int) (s_4 : Int) (s_5 : List (Int × List Int)) (s_6 : List Int) (o__0 : Int) (o__1 : List Int) (r : List Int) (h : f56_mac_Cover n s_0 s_1 s_2 s_3 s_4 s_5 s_6 o__0 o__1 = some r) : FnOK Go.Proofs.Try.prog 56 (f56_mac_Cover_in s_0 s_1 s_2 s_3 s_4 s_5 s_6 o__0 o__1) (f56_mac_Cover_out r) := by
  unfold f56_mac_Cover at h
  refine At.fn (r := 0) Go.Proofs.Try.func56 rfl (by kernel_rfl) rfl rfl (by kernel_rfl) ?_
  show At Go.Proofs.Try.prog Go.Proofs.Try.f56 0 0 ⟨[(0, .one (.agg [.d (.int .u16 s_0), .d (.int .u16 s_1), .d (.int .u32 s_2), .d (.int .u32 s_3), .d (.int .u8 s_4), .d (.sl (.pair (.int .u8) (.slice (.int .u8))) s_5), .d (.sl (.int .u8) s_6)])), (1, .one (.agg [.d (.int .u8 o__0), .d (.sl (.int .u8) o__1)]))], [], [], 0⟩ _
  refine At.step hm ht ⟨[], [], [], [2, 3], [0, 1]⟩ 1 ⟨[(2, .one (.c (.ptr 0 0))), (3, .one (.c (.ptr 1 0)))], [], [(0, [.d (.int .u16 s_0), .d (.int .u16 s_1), .d (.int .u32 s_2), .d (.int .u32 s_3), .d (.int .u8 s_4), .d (.sl (.pair (.int .u8) (.slice (.int .u8))) s_5), .d (.sl (.int .u8) s_6)]), (1, [.d (.int .u8 o__0), .d (.sl (.int .u8) o__1)])], 2⟩ [] (by kernel_rfl) trivial ?_
  obtain ⟨g15_0, h⟩ := ifS h
  refine At.step hm ht ⟨[], [], [], [2, 3, 5], [0, 1]⟩ 2 ⟨[(2, .one (.c (.ptr 0 0))), (3, .one (.c (.ptr 1 0))), (5, .one (.c (.d (.sl (.int .u8) (o__1.take (if (IntKind.wrap .i64 (((o__1.length : Nat) : Int) - 8)) < 0 then 0 else (IntKind.wrap .i64 (((o__1.length : Nat) : Int) - 8))).toNat)))))], [], [(0, [.d (.int .u16 s_0), .d (.int .u16 s_1), .d (.int .u32 s_2), .d (.int .u32 s_3), .d (.int .u8 s_4), .d (.sl (.pair (.int .u8) (.slice (.int .u8))) s_5), .d (.sl (.int .u8) s_6)]), (1, [.d (.int .u8 o__0), .d (.sl (.int .u8) o__1)])], 2⟩ [cutOk o__1.length none (some (if (IntKind.wrap .i64 (((o__1.length : Nat) : Int) - 8)) < 0 then 0 else (IntKind.wrap .i64 (((o__1.length : Nat) : Int) - 8)))) none] (by kernel_rfl) ⟨g15_0, trivial⟩ ?_
  obtain ⟨r16_0, cr16_0, h⟩ := bindS h
  obtain ⟨r16_1, cr16_1, h⟩ := bindS h
  obtain ⟨r16_2, cr16_2, h⟩ := bindS h
  obtain ⟨r16_3, cr16_3, h⟩ := bindS h
  refine At.step hm ht ⟨[(1, .call [] [] (f44_seg_Header_out r16_0)), (4, .call [] [] (f77_pack_B_out r16_1)), (9, .call [] [] (f77_pack_B_out r16_2)), (11, .call [] [] (f73_pack_Put_out r16_3))], [], [], [2, 5, 6], [0, 13]⟩ 3 ⟨[(2, .one (.c (.ptr 0 0))), (5, .one (.c (.d (.sl (.int .u8) (o__1.take (if (IntKind.wrap .i64 (((o__1.length : Nat) : Int) - 8)) < 0 then 0 else (IntKind.wrap .i64 (((o__1.length : Nat) : Int) - 8))).toNat))))), (6, .one (.c (.own 1 (.int .u8) r16_3)))], [(1, some ⟨5, 0⟩)], [(0, [.d (.int .u16 s_0), .d (.int .u16 s_1), .d (.int .u32 s_2), .d (.int .u32 s_3), .d (.int .u8 s_4), .d (.sl (.pair (.int .u8) (.slice (.int .u8))) s_5), .d (.sl (.int .u8) s_6)])], 2⟩ [FnOK Go.Proofs.Try.prog 44 (f44_seg_Header_in s_0 s_1 s_2 s_3 s_4 s_5 s_6) (f44_seg_Header_out r16_0), FnOK Go.Proofs.Try.prog 77 (f77_pack_B_in o__0) (f77_pack_B_out r16_1), FnOK Go.Proofs.Try.prog 77 (f77_pack_B_in (IntKind.wrap .u8 ((o__1.length : Nat) : Int))) (f77_pack_B_out r16_2), FnOK Go.Proofs.Try.prog 73 (f73_pack_Put_in r16_0 [r16_1, r16_2]) (f73_pack_Put_out r16_3)] (by kernel_rfl) ⟨(f44_seg_Header_ok n s_0 s_1 s_2 s_3 s_4 s_5 s_6 r16_0 cr16_0), (f77_pack_B_ok o__0 r16_1 cr16_1), (f77_pack_B_ok (IntKind.wrap .u8 ((o__1.length : Nat) : Int)) r16_2 cr16_2), (f73_pack_Put_ok n r16_0 [r16_1, r16_2] r16_3 cr16_3), trivial⟩ ?_
  obtain ⟨g43_0, h⟩ := ifS h
  refine At.step hm ht ⟨[], [], [], [2, 6], [0, 4]⟩ 4 ⟨[(2, .one (.c (.ptr 0 0))), (6, .one (.c (.own 1 (.int .u8) (r16_3 ++ (o__1.take (if (IntKind.wrap .i64 (((o__1.length : Nat) : Int) - 8)) < 0 then 0 else (IntKind.wrap .i64 (((o__1.length : Nat) : Int) - 8))).toNat)))))], [(1, some ⟨5, 0⟩)], [(0, [.d (.int .u16 s_0), .d (.int .u16 s_1), .d (.int .u32 s_2), .d (.int .u32 s_3), .d (.int .u8 s_4), .d (.sl (.pair (.int .u8) (.slice (.int .u8))) s_5), .d (.sl (.int .u8) s_6)])], 2⟩ [r16_3.length + (o__1.take (if (IntKind.wrap .i64 (((o__1.length : Nat) : Int) - 8)) < 0 then 0 else (IntKind.wrap .i64 (((o__1.length : Nat) : Int) - 8))).toNat).length ≤ maxLen ∧ (r16_3.length + (o__1.take (if (IntKind.wrap .i64 (((o__1.length : Nat) : Int) - 8)) < 0 then 0 else (IntKind.wrap .i64 (((o__1.length : Nat) : Int) - 8))).toNat).length) * 1 ≤ 140737488355328] (by kernel_rfl) ⟨g43_0, trivial⟩ ?_
  obtain ⟨r44_0, cr44_0, h⟩ := bindS h
  obtain ⟨r44_1, cr44_1, h⟩ := bindS h
  refine At.step hm ht ⟨[(5, .call [] [] (f85_pack_H_out r44_0)), (7, .call [] [] (f73_pack_Put_out r44_1))], [], [], [2, 6], [0, 9]⟩ 5 ⟨[(2, .one (.c (.ptr 0 0))), (6, .one (.c (.own 1 (.int .u8) r44_1)))], [(1, some ⟨5, 0⟩)], [(0, [.d (.int .u16 s_0), .d (.int .u16 s_1), .d (.int .u32 s_2), .d (.int .u32 s_3), .d (.int .u8 s_4), .d (.sl (.pair (.int .u8) (.slice (.int .u8))) s_5), .d (.sl (.int .u8) s_6)])], 2⟩ [FnOK Go.Proofs.Try.prog 85 (f85_pack_H_in (IntKind.wrap .u16 ((s_6.length : Nat) : Int))) (f85_pack_H_out r44_0), FnOK Go.Proofs.Try.prog 73 (f73_pack_Put_in (r16_3 ++ (o__1.take (if (IntKind.wrap .i64 (((o__1.length : Nat) : Int) - 8)) < 0 then 0 else (IntKind.wrap .i64 (((o__1.length : Nat) : Int) - 8))).toNat)) [r44_0]) (f73_pack_Put_out r44_1)] (by kernel_rfl) ⟨(f85_pack_H_ok (IntKind.wrap .u16 ((s_6.length : Nat) : Int)) r44_0 cr44_0), (f73_pack_Put_ok n (r16_3 ++ (o__1.take (if (IntKind.wrap .i64 (((o__1.length : Nat) : Int) - 8)) < 0 then 0 else (IntKind.wrap .i64 (((o__1.length : Nat) : Int) - 8))).toNat)) [r44_0] r44_1 cr44_1), trivial⟩ ?_
  obtain ⟨g45_0, h⟩ := ifS h
  have h := Option.some.inj h
  subst h
  exact At.fin hm ht ⟨[], [], [], [4], [5]⟩ [r44_1.length + s_6.length ≤ maxLen ∧ (r44_1.length + s_6.length) * 1 ≤ 140737488355328] (by kernel_rfl) ⟨g45_0, trivial⟩
/-! brougham/opt.bits -/
def f80_opt_bits_in (a : Bool) (b : Bool) : Inn := ⟨[.c (.d (.bool a)), .c (.d (.bool b))], [], [], 0⟩
def f80_opt_bits_out (r : Int) : Out := ⟨.one (.c (.d (.int .u8 r))), [], [], 0⟩
def f80_opt_bits (a : Bool) (b : Bool) : Option (Int) :=
  if a = true then
    if b = true then
      some (bits .or .u8 (bits .or .u8 0 1) 2)
    else
      some (bits .or .u8 0 1)
  else
    if b = true then
      some (bits .or .u8 0 2)
    else
      some 0
theorem f80_opt_bits_ok (a : Bool) (b : Bool) (r : Int) (h : f80_opt_bits a b = some r) : FnOK Go.Proofs.Try.prog 80 (f80_opt_bits_in a b) (f80_opt_bits_out r) := by
  unfold f80_opt_bits at h
  refine At.fn (r := 0) Go.Proofs.Try.func80 rfl (by kernel_rfl) rfl rfl (by kernel_rfl) ?_
  show At Go.Proofs.Try.prog Go.Proofs.Try.f80 0 0 ⟨[(0, .one (.c (.d (.bool a)))), (1, .one (.c (.d (.bool b))))], [], [], 0⟩ _
  refine At.step hm ht ⟨[], [], [], [0, 1], []⟩ 1 ⟨[(0, .one (.c (.d (.bool a)))), (1, .one (.c (.d (.bool b))))], [], [], 0⟩ [] (by kernel_rfl) trivial ?_
  refine At.step hm ht ⟨[], [], [], [0, 1, 5], []⟩ 2 ⟨[(0, .one (.c (.d (.bool a)))), (1, .one (.c (.d (.bool b)))), (5, .one (.c (.d (.int .u8 0))))], [], [], 0⟩ [] (by kernel_rfl) trivial ?_
  rcases iteS h with ⟨b56_e0, h⟩ | ⟨b56_e0, h⟩
  · refine At.step hm ht ⟨[], [true], [], [1, 5], []⟩ 3 ⟨[(1, .one (.c (.d (.bool b)))), (5, .one (.c (.d (.int .u8 0))))], [], [], 0⟩ [a = true] (by kernel_rfl) ⟨b56_e0, trivial⟩ ?_
    refine At.step hm ht ⟨[], [], [], [1, 5], []⟩ 4 ⟨[(1, .one (.c (.d (.bool b)))), (5, .one (.c (.d (.int .u8 (bits .or .u8 0 1)))))], [], [], 0⟩ [] (by kernel_rfl) trivial ?_
    rcases iteS h with ⟨b58_e0, h⟩ | ⟨b58_e0, h⟩
    · refine At.step hm ht ⟨[], [true], [], [5], []⟩ 5 ⟨[(5, .one (.c (.d (.int .u8 (bits .or .u8 0 1)))))], [], [], 0⟩ [b = true] (by kernel_rfl) ⟨b58_e0, trivial⟩ ?_
      refine At.step hm ht ⟨[], [], [], [5], []⟩ 6 ⟨[(5, .one (.c (.d (.int .u8 (bits .or .u8 (bits .or .u8 0 1) 2)))))], [], [], 0⟩ [] (by kernel_rfl) trivial ?_
      have h := Option.some.inj h
      subst h
      exact At.fin hm ht ⟨[], [], [], [4], []⟩ [] (by kernel_rfl) trivial
    · refine At.step hm ht ⟨[], [false], [], [5], []⟩ 6 ⟨[(5, .one (.c (.d (.int .u8 (bits .or .u8 0 1)))))], [], [], 0⟩ [b = false] (by kernel_rfl) ⟨b58_e0, trivial⟩ ?_
      have h := Option.some.inj h
      subst h
      exact At.fin hm ht ⟨[], [], [], [4], []⟩ [] (by kernel_rfl) trivial
  · refine At.step hm ht ⟨[], [false], [], [1, 5], []⟩ 4 ⟨[(1, .one (.c (.d (.bool b)))), (5, .one (.c (.d (.int .u8 0))))], [], [], 0⟩ [a = false] (by kernel_rfl) ⟨b56_e0, trivial⟩ ?_
    rcases iteS h with ⟨b62_e0, h⟩ | ⟨b62_e0, h⟩
    · refine At.step hm ht ⟨[], [true], [], [5], []⟩ 5 ⟨[(5, .one (.c (.d (.int .u8 0))))], [], [], 0⟩ [b = true] (by kernel_rfl) ⟨b62_e0, trivial⟩ ?_
      refine At.step hm ht ⟨[], [], [], [5], []⟩ 6 ⟨[(5, .one (.c (.d (.int .u8 (bits .or .u8 0 2)))))], [], [], 0⟩ [] (by kernel_rfl) trivial ?_
      have h := Option.some.inj h
      subst h
      exact At.fin hm ht ⟨[], [], [], [4], []⟩ [] (by kernel_rfl) trivial
    · refine At.step hm ht ⟨[], [false], [], [5], []⟩ 6 ⟨[(5, .one (.c (.d (.int .u8 0))))], [], [], 0⟩ [b = false] (by kernel_rfl) ⟨b62_e0, trivial⟩ ?_
      have h := Option.some.inj h
      subst h
      exact At.fin hm ht ⟨[], [], [], [4], []⟩ [] (by kernel_rfl) trivial
/-! brougham/pack.Q -/
def f74_pack_Q_in (n_ : Int) : Inn := ⟨[.c (.d (.int .u64 n_))], [], [], 0⟩
def f74_pack_Q_out (r : Int × Int) : Out := ⟨.one (.agg [.d (.int .i64 r.1), .d (.int .u64 r.2)]), [], [(0, [.d (.int .i64 r.1), .d (.int .u64 r.2)])], 1⟩
def f74_pack_Q (n_ : Int) : Option (Int × Int) :=
  some (8, n_)
theorem f74_pack_Q_ok (n_ : Int) (r : Int × Int) (h : f74_pack_Q n_ = some r) : FnOK Go.Proofs.Try.prog 74 (f74_pack_Q_in n_) (f74_pack_Q_out r) := by
  unfold f74_pack_Q at h
  refine At.fn (r := 0) Go.Proofs.Try.func74 rfl (by kernel_rfl) rfl rfl (by kernel_rfl) ?_
  show At Go.Proofs.Try.prog Go.Proofs.Try.f74 0 0 ⟨[(0, .one (.c (.d (.int .u64 n_))))], [], [], 0⟩ _
  refine At.step hm ht ⟨[], [], [], [0, 2], [0]⟩ 1 ⟨[(0, .one (.c (.d (.int .u64 n_)))), (2, .one (.c (.ptr 0 0)))], [], [(0, [.d (.int .i64 0), .d (.int .u64 0)])], 1⟩ [] (by kernel_rfl) trivial ?_
  have h := Option.some.inj h
  subst h
  exact At.fin hm ht ⟨[], [], [], [2], [0]⟩ [0 + 2 ≤ 2] (by kernel_rfl) ⟨(by decide), trivial⟩
/-! (brougham/opt.Data).Option -/
def f26_opt_Data_Option_in (d_0 : Bool) (d_1 : Bool) (d_2 : Int) (d_3 : Int) (d_4 : Int) (d_5 : Int) : Inn := ⟨[.agg [.d (.bool d_0), .d (.bool d_1), .d (.int .u64 d_2), .d (.int .u64 d_3), .d (.int .u32 d_4), .d (.int .u64 d_5)]], [], [], 0⟩
def f26_opt_Data_Option_out (r : Int × List Int) : Out := ⟨.one (.agg [.d (.int .u8 r.1), .own 1 (.int .u8) r.2]), [(1, ⟨5, 0⟩)], [(0, [.d (.int .u8 r.1), .own 1 (.int .u8) r.2])], 2⟩
def f26_opt_Data_Option (n : Nat) (d_0 : Bool) (d_1 : Bool) (d_2 : Int) (d_3 : Int) (d_4 : Int) (d_5 : Int) : Option (Int × List Int) :=
  (f80_opt_bits d_0 d_1).bind fun r53_0 =>
  (f77_pack_B r53_0).bind fun r53_1 =>
  (f74_pack_Q d_2).bind fun r53_2 =>
  (f74_pack_Q d_3).bind fun r53_3 =>
  (f76_pack_W d_4).bind fun r53_4 =>
  (f74_pack_Q d_5).bind fun r53_5 =>
  (f73_pack_Put n [] [r53_1, r53_2, r53_3, r53_4, r53_5]).bind fun r53_6 =>
  some (3, r53_6)
theorem f26_opt_Data_Option_ok (n : Nat) (d_0 : Bool) (d_1 : Bool) (d_2 : Int) (d_3 : Int) (d_4 : Int) (d_5 : Int) (r : Int × List Int) (h : f26_opt_Data_Option n d_0 d_1 d_2 d_3 d_4 d_5 = some r) : FnOK Go.Proofs.Try.prog 26 (f26_opt_Data_Option_in d_0 d_1 d_2 d_3 d_4 d_5) (f26_opt_Data_Option_out r) := by
  unfold f26_opt_Data_Option at h
  refine At.fn (r := 0) Go.Proofs.Try.func26 rfl (by kernel_rfl) rfl rfl (by kernel_rfl) ?_
  show At Go.Proofs.Try.prog Go.Proofs.Try.f26 0 0 ⟨[(0, .one (.agg [.d (.bool d_0), .d (.bool d_1), .d (.int .u64 d_2), .d (.int .u64 d_3), .d (.int .u32 d_4), .d (.int .u64 d_5)]))], [], [], 0⟩ _
  refine At.step hm ht ⟨[], [], [], [1, 2], [0, 1]⟩ 1 ⟨[(1, .one (.c (.ptr 0 0))), (2, .one (.c (.ptr 1 0)))], [], [(0, [.d (.bool d_0), .d (.bool d_1), .d (.int .u64 d_2), .d (.int .u64 d_3), .d (.int .u32 d_4), .d (.int .u64 d_5)]), (1, [.d (.int .u8 0), .d (.sl .unit [])])], 2⟩ [] (by kernel_rfl) trivial ?_
  obtain ⟨r53_0, cr53_0, h⟩ := bindS h
  obtain ⟨r53_1, cr53_1, h⟩ := bindS h
  obtain ⟨r53_2, cr53_2, h⟩ := bindS h
  obtain ⟨r53_3, cr53_3, h⟩ := bindS h
  obtain ⟨r53_4, cr53_4, h⟩ := bindS h
  obtain ⟨r53_5, cr53_5, h⟩ := bindS h
  obtain ⟨r53_6, cr53_6, h⟩ := bindS h
  have h := Option.some.inj h
  subst h
  exact At.fin hm ht ⟨[(4, .call [] [] (f80_opt_bits_out r53_0)), (5, .call [] [] (f77_pack_B_out r53_1)), (8, .call [] [] (f74_pack_Q_out r53_2)), (11, .call [] [] (f74_pack_Q_out r53_3)), (14, .call [] [] (f76_pack_W_out r53_4)), (18, .call [] [] (f74_pack_Q_out r53_5)), (20, .call [] [(0, 0, (.int .u8))] (f73_pack_Put_out r53_6))], [], [], [2], [1, 21]⟩ [FnOK Go.Proofs.Try.prog 80 (f80_opt_bits_in d_0 d_1) (f80_opt_bits_out r53_0), FnOK Go.Proofs.Try.prog 77 (f77_pack_B_in r53_0) (f77_pack_B_out r53_1), FnOK Go.Proofs.Try.prog 74 (f74_pack_Q_in d_2) (f74_pack_Q_out r53_2), FnOK Go.Proofs.Try.prog 74 (f74_pack_Q_in d_3) (f74_pack_Q_out r53_3), FnOK Go.Proofs.Try.prog 76 (f76_pack_W_in d_4) (f76_pack_W_out r53_4), FnOK Go.Proofs.Try.prog 74 (f74_pack_Q_in d_5) (f74_pack_Q_out r53_5), FnOK Go.Proofs.Try.prog 73 (f73_pack_Put_in [] [r53_1, r53_2, r53_3, r53_4, r53_5]) (f73_pack_Put_out r53_6), 0 + 2 ≤ 2] (by kernel_rfl) ⟨(f80_opt_bits_ok d_0 d_1 r53_0 cr53_0), (f77_pack_B_ok r53_0 r53_1 cr53_1), (f74_pack_Q_ok d_2 r53_2 cr53_2), (f74_pack_Q_ok d_3 r53_3 cr53_3), (f76_pack_W_ok d_4 r53_4 cr53_4), (f74_pack_Q_ok d_5 r53_5 cr53_5), (f73_pack_Put_ok n [] [r53_1, r53_2, r53_3, r53_4, r53_5] r53_6 cr53_6), (by decide), trivial⟩
/-! brougham/sip.begin -/
def f89_sip_begin_in (k_0 : Int) (k_1 : Int) : Inn := ⟨[.agg [.d (.int .u64 k_0), .d (.int .u64 k_1)]], [], [], 0⟩
def f89_sip_begin_out (r : Int × Int × Int × Int × Int × Int) : Out := ⟨.one (.c (.ptr 0 0)), [], [(0, [.d (.int .u64 r.1), .d (.int .u64 r.2.1), .d (.int .u64 r.2.2.1), .d (.int .u64 r.2.2.2.1), .d (.int .u64 r.2.2.2.2.1), .d (.int .i64 r.2.2.2.2.2)])], 1⟩
def f89_sip_begin (k_0 : Int) (k_1 : Int) : Option (Int × Int × Int × Int × Int × Int) :=
  some ((bits .xor .u64 k_0 8317987319222330741), (bits .xor .u64 k_1 7237128888997146477), (bits .xor .u64 k_0 7816392313619706465), (bits .xor .u64 k_1 8387220255154660723), 0, 0)
theorem f89_sip_begin_ok (k_0 : Int) (k_1 : Int) (r : Int × Int × Int × Int × Int × Int) (h : f89_sip_begin k_0 k_1 = some r) : FnOK Go.Proofs.Try.prog 89 (f89_sip_begin_in k_0 k_1) (f89_sip_begin_out r) := by
  unfold f89_sip_begin at h
  refine At.fn (r := 0) Go.Proofs.Try.func89 rfl (by kernel_rfl) rfl rfl (by kernel_rfl) ?_
  show At Go.Proofs.Try.prog Go.Proofs.Try.f89 0 0 ⟨[(0, .one (.agg [.d (.int .u64 k_0), .d (.int .u64 k_1)]))], [], [], 0⟩ _
  refine At.step hm ht ⟨[], [], [], [1], [0]⟩ 1 ⟨[(1, .one (.c (.ptr 0 0)))], [], [(0, [.d (.int .u64 k_0), .d (.int .u64 k_1)])], 1⟩ [] (by kernel_rfl) trivial ?_
  have h := Option.some.inj h
  subst h
  exact At.fin hm ht ⟨[], [], [], [2], [15]⟩ [] (by kernel_rfl) trivial
/-! math/bits.RotateLeft64 -/
def f97_bits_RotateLeft64_in (x : Int) (k : Int) : Inn := ⟨[.c (.d (.int .u64 x)), .c (.d (.int .i64 k))], [], [], 0⟩
def f97_bits_RotateLeft64_out (r : Int) : Out := ⟨.one (.c (.d (.int .u64 r))), [], [], 0⟩
def f97_bits_RotateLeft64 (x : Int) (k : Int) : Option (Int) :=
  if (0 : Int) ≤ (bits .and .u64 (IntKind.wrap .u64 k) 63) then
  if (0 : Int) ≤ (IntKind.wrap .u64 (64 - (bits .and .u64 (IntKind.wrap .u64 k) 63))) then
  some (bits .or .u64 (IntKind.wrap .u64 (x * 2 ^ (min (bits .and .u64 (IntKind.wrap .u64 k) 63).toNat (IntKind.bits .u64)))) (Int.fdiv x (2 ^ (min (IntKind.wrap .u64 (64 - (bits .and .u64 (IntKind.wrap .u64 k) 63))).toNat (IntKind.bits .u64)))))
  else none
  else none
theorem f97_bits_RotateLeft64_ok (x : Int) (k : Int) (r : Int) (h : f97_bits_RotateLeft64 x k = some r) : FnOK Go.Proofs.Try.prog 97 (f97_bits_RotateLeft64_in x k) (f97_bits_RotateLeft64_out r) := by
  unfold f97_bits_RotateLeft64 at h
  refine At.fn (r := 0) Go.Proofs.Try.func97 rfl (by kernel_rfl) rfl rfl (by kernel_rfl) ?_
  show At Go.Proofs.Try.prog Go.Proofs.Try.f97 0 0 ⟨[(0, .one (.c (.d (.int .u64 x)))), (1, .one (.c (.d (.int .i64 k))))], [], [], 0⟩ _
  refine At.step hm ht ⟨[], [], [], [0, 1], []⟩ 1 ⟨[(0, .one (.c (.d (.int .u64 x)))), (1, .one (.c (.d (.int .i64 k))))], [], [], 0⟩ [] (by kernel_rfl) trivial ?_
  refine At.step hm ht ⟨[], [], [], [0, 5], []⟩ 2 ⟨[(0, .one (.c (.d (.int .u64 x)))), (5, .one (.c (.d (.int .u64 (bits .and .u64 (IntKind.wrap .u64 k) 63)))))], [], [], 0⟩ [] (by kernel_rfl) trivial ?_
  obtain ⟨g93_0, h⟩ := ifS h
  obtain ⟨g93_1, h⟩ := ifS h
  have h := Option.some.inj h
  subst h
  exact At.fin hm ht ⟨[], [], [], [4], []⟩ [(0 : Int) ≤ (bits .and .u64 (IntKind.wrap .u64 k) 63), (0 : Int) ≤ (IntKind.wrap .u64 (64 - (bits .and .u64 (IntKind.wrap .u64 k) 63)))] (by kernel_rfl) ⟨g93_0, g93_1, trivial⟩
/-! (*brougham/sip.state).round -/
def f95_sip_state_round_in (s_0 : Int) (s_1 : Int) (s_2 : Int) (s_3 : Int) (s_4 : Int) (s_5 : Int) : Inn := ⟨[.c (.ptr 0 0)], [], [(0, [.d (.int .u64 s_0), .d (.int .u64 s_1), .d (.int .u64 s_2), .d (.int .u64 s_3), .d (.int .u64 s_4), .d (.int .i64 s_5)])], 1⟩
def f95_sip_state_round_out (r : Int × Int × Int × Int × Int × Int) : Out := ⟨.tup [], [], [(0, [.d (.int .u64 r.1), .d (.int .u64 r.2.1), .d (.int .u64 r.2.2.1), .d (.int .u64 r.2.2.2.1), .d (.int .u64 r.2.2.2.2.1), .d (.int .i64 r.2.2.2.2.2)])], 1⟩
def f95_sip_state_round (s_0 : Int) (s_1 : Int) (s_2 : Int) (s_3 : Int) (s_4 : Int) (s_5 : Int) : Option (Int × Int × Int × Int × Int × Int) :=
  (f97_bits_RotateLeft64 s_1 13).bind fun r90_0 =>
  (f97_bits_RotateLeft64 s_3 16).bind fun r94_0 =>
  (f97_bits_RotateLeft64 (IntKind.wrap .u64 (s_0 + s_1)) 32).bind fun r95_0 =>
  (f97_bits_RotateLeft64 (bits .xor .u64 r90_0 (IntKind.wrap .u64 (s_0 + s_1))) 17).bind fun r98_0 =>
  (f97_bits_RotateLeft64 (bits .xor .u64 r94_0 (IntKind.wrap .u64 (s_2 + s_3))) 21).bind fun r99_0 =>
  (f97_bits_RotateLeft64 (IntKind.wrap .u64 ((IntKind.wrap .u64 (s_2 + s_3)) + (bits .xor .u64 r90_0 (IntKind.wrap .u64 (s_0 + s_1))))) 32).bind fun r100_0 =>
  some ((IntKind.wrap .u64 (r95_0 + (bits .xor .u64 r94_0 (IntKind.wrap .u64 (s_2 + s_3))))), (bits .xor .u64 r98_0 (IntKind.wrap .u64 ((IntKind.wrap .u64 (s_2 + s_3)) + (bits .xor .u64 r90_0 (IntKind.wrap .u64 (s_0 + s_1)))))), r100_0, (bits .xor .u64 r99_0 (IntKind.wrap .u64 (r95_0 + (bits .xor .u64 r94_0 (IntKind.wrap .u64 (s_2 + s_3)))))), s_4, s_5)
theorem f95_sip_state_round_ok (s_0 : Int) (s_1 : Int) (s_2 : Int) (s_3 : Int) (s_4 : Int) (s_5 : Int) (r : Int × Int × Int × Int × Int × Int) (h : f95_sip_state_round s_0 s_1 s_2 s_3 s_4 s_5 = some r) : FnOK Go.Proofs.Try.prog 95 (f95_sip_state_round_in s_0 s_1 s_2 s_3 s_4 s_5) (f95_sip_state_round_out r) := by
  unfold f95_sip_state_round at h
  refine At.fn (r := 0) Go.Proofs.Try.func95 rfl (by kernel_rfl) rfl rfl (by kernel_rfl) ?_
  show At Go.Proofs.Try.prog Go.Proofs.Try.f95 1 0 ⟨[(0, .one (.c (.ptr 0 0)))], [], [(0, [.d (.int .u64 s_0), .d (.int .u64 s_1), .d (.int .u64 s_2), .d (.int .u64 s_3), .d (.int .u64 s_4), .d (.int .i64 s_5)])], 1⟩ _
  refine At.step hm ht ⟨[], [], [], [2], [0]⟩ 1 ⟨[(2, .one (.c (.ptr 0 0)))], [], [(0, [.d (.int .u64 s_0), .d (.int .u64 s_1), .d (.int .u64 s_2), .d (.int .u64 s_3), .d (.int .u64 s_4), .d (.int .i64 s_5)])], 1⟩ [] (by kernel_rfl) trivial ?_
  refine At.step hm ht ⟨[], [], [], [2], [0]⟩ 2 ⟨[(2, .one (.c (.ptr 0 0)))], [], [(0, [.d (.int .u64 (IntKind.wrap .u64 (s_0 + s_1))), .d (.int .u64 s_1), .d (.int .u64 s_2), .d (.int .u64 s_3), .d (.int .u64 s_4), .d (.int .i64 s_5)])], 1⟩ [(0 : Int) ≤ (0 : Int) ∧ (0 : Int) < ((4 : Nat) : Int), (0 : Int) ≤ (1 : Int) ∧ (1 : Int) < ((4 : Nat) : Int), (0 : Int) ≤ (0 : Int) ∧ (0 : Int) < ((4 : Nat) : Int), 0 + 1 ≤ 6] (by kernel_rfl) ⟨(by decide), (by decide), (by decide), (by decide), trivial⟩ ?_
  refine At.step hm ht ⟨[], [], [], [2], [0]⟩ 3 ⟨[(2, .one (.c (.ptr 0 0)))], [], [(0, [.d (.int .u64 (IntKind.wrap .u64 (s_0 + s_1))), .d (.int .u64 s_1), .d (.int .u64 (IntKind.wrap .u64 (s_2 + s_3))), .d (.int .u64 s_3), .d (.int .u64 s_4), .d (.int .i64 s_5)])], 1⟩ [(0 : Int) ≤ (2 : Int) ∧ (2 : Int) < ((4 : Nat) : Int), (0 : Int) ≤ (3 : Int) ∧ (3 : Int) < ((4 : Nat) : Int), (0 : Int) ≤ (2 : Int) ∧ (2 : Int) < ((4 : Nat) : Int), 2 + 1 ≤ 6] (by kernel_rfl) ⟨(by decide), (by decide), (by decide), (by decide), trivial⟩ ?_
  obtain ⟨r90_0, cr90_0, h⟩ := bindS h
  refine At.step hm ht ⟨[(5, .call [] [] (f97_bits_RotateLeft64_out r90_0))], [], [], [2], [0]⟩ 4 ⟨[(2, .one (.c (.ptr 0 0)))], [], [(0, [.d (.int .u64 (IntKind.wrap .u64 (s_0 + s_1))), .d (.int .u64 (bits .xor .u64 r90_0 (IntKind.wrap .u64 (s_0 + s_1)))), .d (.int .u64 (IntKind.wrap .u64 (s_2 + s_3))), .d (.int .u64 s_3), .d (.int .u64 s_4), .d (.int .i64 s_5)])], 1⟩ [(0 : Int) ≤ (1 : Int) ∧ (1 : Int) < ((4 : Nat) : Int), FnOK Go.Proofs.Try.prog 97 (f97_bits_RotateLeft64_in s_1 13) (f97_bits_RotateLeft64_out r90_0), (0 : Int) ≤ (0 : Int) ∧ (0 : Int) < ((4 : Nat) : Int), (0 : Int) ≤ (1 : Int) ∧ (1 : Int) < ((4 : Nat) : Int), 1 + 1 ≤ 6] (by kernel_rfl) ⟨(by decide), (f97_bits_RotateLeft64_ok s_1 13 r90_0 cr90_0), (by decide), (by decide), (by decide), trivial⟩ ?_
  obtain ⟨r94_0, cr94_0, h⟩ := bindS h
  refine At.step hm ht ⟨[(5, .call [] [] (f97_bits_RotateLeft64_out r94_0))], [], [], [2], [0]⟩ 5 ⟨[(2, .one (.c (.ptr 0 0)))], [], [(0, [.d (.int .u64 (IntKind.wrap .u64 (s_0 + s_1))), .d (.int .u64 (bits .xor .u64 r90_0 (IntKind.wrap .u64 (s_0 + s_1)))), .d (.int .u64 (IntKind.wrap .u64 (s_2 + s_3))), .d (.int .u64 (bits .xor .u64 r94_0 (IntKind.wrap .u64 (s_2 + s_3)))), .d (.int .u64 s_4), .d (.int .i64 s_5)])], 1⟩ [(0 : Int) ≤ (3 : Int) ∧ (3 : Int) < ((4 : Nat) : Int), FnOK Go.Proofs.Try.prog 97 (f97_bits_RotateLeft64_in s_3 16) (f97_bits_RotateLeft64_out r94_0), (0 : Int) ≤ (2 : Int) ∧ (2 : Int) < ((4 : Nat) : Int), (0 : Int) ≤ (3 : Int) ∧ (3 : Int) < ((4 : Nat) : Int), 3 + 1 ≤ 6] (by kernel_rfl) ⟨(by decide), (f97_bits_RotateLeft64_ok s_3 16 r94_0 cr94_0), (by decide), (by decide), (by decide), trivial⟩ ?_
  obtain ⟨r95_0, cr95_0, h⟩ := bindS h
  refine At.step hm ht ⟨[(5, .call [] [] (f97_bits_RotateLeft64_out r95_0))], [], [], [2], [0]⟩ 6 ⟨[(2, .one (.c (.ptr 0 0)))], [], [(0, [.d (.int .u64 r95_0), .d (.int .u64 (bits .xor .u64 r90_0 (IntKind.wrap .u64 (s_0 + s_1)))), .d (.int .u64 (IntKind.wrap .u64 (s_2 + s_3))), .d (.int .u64 (bits .xor .u64 r94_0 (IntKind.wrap .u64 (s_2 + s_3)))), .d (.int .u64 s_4), .d (.int .i64 s_5)])], 1⟩ [(0 : Int) ≤ (0 : Int) ∧ (0 : Int) < ((4 : Nat) : Int), FnOK Go.Proofs.Try.prog 97 (f97_bits_RotateLeft64_in (IntKind.wrap .u64 (s_0 + s_1)) 32) (f97_bits_RotateLeft64_out r95_0), (0 : Int) ≤ (0 : Int) ∧ (0 : Int) < ((4 : Nat) : Int), 0 + 1 ≤ 6] (by kernel_rfl) ⟨(by decide), (f97_bits_RotateLeft64_ok (IntKind.wrap .u64 (s_0 + s_1)) 32 r95_0 cr95_0), (by decide), (by decide), trivial⟩ ?_
  refine At.step hm ht ⟨[], [], [], [2], [0]⟩ 7 ⟨[(2, .one (.c (.ptr 0 0)))], [], [(0, [.d (.int .u64 r95_0), .d (.int .u64 (bits .xor .u64 r90_0 (IntKind.wrap .u64 (s_0 + s_1)))), .d (.int .u64 (IntKind.wrap .u64 ((IntKind.wrap .u64 (s_2 + s_3)) + (bits .xor .u64 r90_0 (IntKind.wrap .u64 (s_0 + s_1)))))), .d (.int .u64 (bits .xor .u64 r94_0 (IntKind.wrap .u64 (s_2 + s_3)))), .d (.int .u64 s_4), .d (.int .i64 s_5)])], 1⟩ [(0 : Int) ≤ (2 : Int) ∧ (2 : Int) < ((4 : Nat) : Int), (0 : Int) ≤ (1 : Int) ∧ (1 : Int) < ((4 : Nat) : Int), (0 : Int) ≤ (2 : Int) ∧ (2 : Int) < ((4 : Nat) : Int), 2 + 1 ≤ 6] (by kernel_rfl) ⟨(by decide), (by decide), (by decide), (by decide), trivial⟩ ?_
  refine At.step hm ht ⟨[], [], [], [2], [0]⟩ 8 ⟨[(2, .one (.c (.ptr 0 0)))], [], [(0, [.d (.int .u64 (IntKind.wrap .u64 (r95_0 + (bits .xor .u64 r94_0 (IntKind.wrap .u64 (s_2 + s_3)))))), .d (.int .u64 (bits .xor .u64 r90_0 (IntKind.wrap .u64 (s_0 + s_1)))), .d (.int .u64 (IntKind.wrap .u64 ((IntKind.wrap .u64 (s_2 + s_3)) + (bits .xor .u64 r90_0 (IntKind.wrap .u64 (s_0 + s_1)))))), .d (.int .u64 (bits .xor .u64 r94_0 (IntKind.wrap .u64 (s_2 + s_3)))), .d (.int .u64 s_4), .d (.int .i64 s_5)])], 1⟩ [(0 : Int) ≤ (0 : Int) ∧ (0 : Int) < ((4 : Nat) : Int), (0 : Int) ≤ (3 : Int) ∧ (3 : Int) < ((4 : Nat) : Int), (0 : Int) ≤ (0 : Int) ∧ (0 : Int) < ((4 : Nat) : Int), 0 + 1 ≤ 6] (by kernel_rfl) ⟨(by decide), (by decide), (by decide), (by decide), trivial⟩ ?_
  obtain ⟨r98_0, cr98_0, h⟩ := bindS h
  refine At.step hm ht ⟨[(5, .call [] [] (f97_bits_RotateLeft64_out r98_0))], [], [], [2], [0]⟩ 9 ⟨[(2, .one (.c (.ptr 0 0)))], [], [(0, [.d (.int .u64 (IntKind.wrap .u64 (r95_0 + (bits .xor .u64 r94_0 (IntKind.wrap .u64 (s_2 + s_3)))))), .d (.int .u64 (bits .xor .u64 r98_0 (IntKind.wrap .u64 ((IntKind.wrap .u64 (s_2 + s_3)) + (bits .xor .u64 r90_0 (IntKind.wrap .u64 (s_0 + s_1))))))), .d (.int .u64 (IntKind.wrap .u64 ((IntKind.wrap .u64 (s_2 + s_3)) + (bits .xor .u64 r90_0 (IntKind.wrap .u64 (s_0 + s_1)))))), .d (.int .u64 (bits .xor .u64 r94_0 (IntKind.wrap .u64 (s_2 + s_3)))), .d (.int .u64 s_4), .d (.int .i64 s_5)])], 1⟩ [(0 : Int) ≤ (1 : Int) ∧ (1 : Int) < ((4 : Nat) : Int), FnOK Go.Proofs.Try.prog 97 (f97_bits_RotateLeft64_in (bits .xor .u64 r90_0 (IntKind.wrap .u64 (s_0 + s_1))) 17) (f97_bits_RotateLeft64_out r98_0), (0 : Int) ≤ (2 : Int) ∧ (2 : Int) < ((4 : Nat) : Int), (0 : Int) ≤ (1 : Int) ∧ (1 : Int) < ((4 : Nat) : Int), 1 + 1 ≤ 6] (by kernel_rfl) ⟨(by decide), (f97_bits_RotateLeft64_ok (bits .xor .u64 r90_0 (IntKind.wrap .u64 (s_0 + s_1))) 17 r98_0 cr98_0), (by decide), (by decide), (by decide), trivial⟩ ?_
  obtain ⟨r99_0, cr99_0, h⟩ := bindS h
  refine At.step hm ht ⟨[(5, .call [] [] (f97_bits_RotateLeft64_out r99_0))], [], [], [2], [0]⟩ 10 ⟨[(2, .one (.c (.ptr 0 0)))], [], [(0, [.d (.int .u64 (IntKind.wrap .u64 (r95_0 + (bits .xor .u64 r94_0 (IntKind.wrap .u64 (s_2 + s_3)))))), .d (.int .u64 (bits .xor .u64 r98_0 (IntKind.wrap .u64 ((IntKind.wrap .u64 (s_2 + s_3)) + (bits .xor .u64 r90_0 (IntKind.wrap .u64 (s_0 + s_1))))))), .d (.int .u64 (IntKind.wrap .u64 ((IntKind.wrap .u64 (s_2 + s_3)) + (bits .xor .u64 r90_0 (IntKind.wrap .u64 (s_0 + s_1)))))), .d (.int .u64 (bits .xor .u64 r99_0 (IntKind.wrap .u64 (r95_0 + (bits .xor .u64 r94_0 (IntKind.wrap .u64 (s_2 + s_3))))))), .d (.int .u64 s_4), .d (.int .i64 s_5)])], 1⟩ [(0 : Int) ≤ (3 : Int) ∧ (3 : Int) < ((4 : Nat) : Int), FnOK Go.Proofs.Try.prog 97 (f97_bits_RotateLeft64_in (bits .xor .u64 r94_0 (IntKind.wrap .u64 (s_2 + s_3))) 21) (f97_bits_RotateLeft64_out r99_0), (0 : Int) ≤ (0 : Int) ∧ (0 : Int) < ((4 : Nat) : Int), (0 : Int) ≤ (3 : Int) ∧ (3 : Int) < ((4 : Nat) : Int), 3 + 1 ≤ 6] (by kernel_rfl) ⟨(by decide), (f97_bits_RotateLeft64_ok (bits .xor .u64 r94_0 (IntKind.wrap .u64 (s_2 + s_3))) 21 r99_0 cr99_0), (by decide), (by decide), (by decide), trivial⟩ ?_
  obtain ⟨r100_0, cr100_0, h⟩ := bindS h
  have h := Option.some.inj h
  subst h
  exact At.fin hm ht ⟨[(5, .call [] [] (f97_bits_RotateLeft64_out r100_0))], [], [], [], [0]⟩ [(0 : Int) ≤ (2 : Int) ∧ (2 : Int) < ((4 : Nat) : Int), FnOK Go.Proofs.Try.prog 97 (f97_bits_RotateLeft64_in (IntKind.wrap .u64 ((IntKind.wrap .u64 (s_2 + s_3)) + (bits .xor .u64 r90_0 (IntKind.wrap .u64 (s_0 + s_1))))) 32) (f97_bits_RotateLeft64_out r100_0), (0 : Int) ≤ (2 : Int) ∧ (2 : Int) < ((4 : Nat) : Int), 2 + 1 ≤ 6] (by kernel_rfl) ⟨(by decide), (f97_bits_RotateLeft64_ok (IntKind.wrap .u64 ((IntKind.wrap .u64 (s_2 + s_3)) + (bits .xor .u64 r90_0 (IntKind.wrap .u64 (s_0 + s_1))))) 32 r100_0 cr100_0), (by decide), (by decide), trivial⟩
/-! (*brougham/sip.state).take -/
def f94_sip_state_take_in (m : Int) (s_0 : Int) (s_1 : Int) (s_2 : Int) (s_3 : Int) (s_4 : Int) (s_5 : Int) : Inn := ⟨[.c (.ptr 0 0), .c (.d (.int .u64 m))], [], [(0, [.d (.int .u64 s_0), .d (.int .u64 s_1), .d (.int .u64 s_2), .d (.int .u64 s_3), .d (.int .u64 s_4), .d (.int .i64 s_5)])], 1⟩
def f94_sip_state_take_out (r : Int × Int × Int × Int × Int × Int) : Out := ⟨.tup [], [], [(0, [.d (.int .u64 r.1), .d (.int .u64 r.2.1), .d (.int .u64 r.2.2.1), .d (.int .u64 r.2.2.2.1), .d (.int .u64 r.2.2.2.2.1), .d (.int .i64 r.2.2.2.2.2)])], 1⟩
def f94_sip_state_take (m : Int) (s_0 : Int) (s_1 : Int) (s_2 : Int) (s_3 : Int) (s_4 : Int) (s_5 : Int) : Option (Int × Int × Int × Int × Int × Int) :=
  (f95_sip_state_round s_0 s_1 s_2 (bits .xor .u64 s_3 m) s_4 s_5).bind fun r86_0 =>
  (f95_sip_state_round r86_0.1 r86_0.2.1 r86_0.2.2.1 r86_0.2.2.2.1 r86_0.2.2.2.2.1 r86_0.2.2.2.2.2).bind fun r101_0 =>
  some ((bits .xor .u64 r101_0.1 m), r101_0.2.1, r101_0.2.2.1, r101_0.2.2.2.1, r101_0.2.2.2.2.1, r101_0.2.2.2.2.2)
theorem f94_sip_state_take_ok (m : Int) (s_0 : Int) (s_1 : Int) (s_2 : Int) (s_3 : Int) (s_4 : Int) (s_5 : Int) (r : Int × Int × Int × Int × Int × Int) (h : f94_sip_state_take m s_0 s_1 s_2 s_3 s_4 s_5 = some r) : FnOK Go.Proofs.Try.prog 94 (f94_sip_state_take_in m s_0 s_1 s_2 s_3 s_4 s_5) (f94_sip_state_take_out r) := by
  unfold f94_sip_state_take at h
  refine At.fn (r := 0) Go.Proofs.Try.func94 rfl (by kernel_rfl) rfl rfl (by kernel_rfl) ?_
  show At Go.Proofs.Try.prog Go.Proofs.Try.f94 1 0 ⟨[(0, .one (.c (.ptr 0 0))), (1, .one (.c (.d (.int .u64 m))))], [], [(0, [.d (.int .u64 s_0), .d (.int .u64 s_1), .d (.int .u64 s_2), .d (.int .u64 s_3), .d (.int .u64 s_4), .d (.int .i64 s_5)])], 1⟩ _
  refine At.step hm ht ⟨[], [], [], [0, 1], [0]⟩ 1 ⟨[(0, .one (.c (.ptr 0 0))), (1, .one (.c (.d (.int .u64 m))))], [], [(0, [.d (.int .u64 s_0), .d (.int .u64 s_1), .d (.int .u64 s_2), .d (.int .u64 (bits .xor .u64 s_3 m)), .d (.int .u64 s_4), .d (.int .i64 s_5)])], 1⟩ [(0 : Int) ≤ (3 : Int) ∧ (3 : Int) < ((4 : Nat) : Int), (0 : Int) ≤ (3 : Int) ∧ (3 : Int) < ((4 : Nat) : Int), 3 + 1 ≤ 6] (by kernel_rfl) ⟨(by decide), (by decide), (by decide), trivial⟩ ?_
  obtain ⟨r86_0, cr86_0, h⟩ := bindS h
  refine At.step hm ht ⟨[(1, .call [0] [] (f95_sip_state_round_out r86_0))], [], [], [0, 1], [0]⟩ 2 ⟨[(0, .one (.c (.ptr 0 0))), (1, .one (.c (.d (.int .u64 m))))], [], [(0, [.d (.int .u64 r86_0.1), .d (.int .u64 r86_0.2.1), .d (.int .u64 r86_0.2.2.1), .d (.int .u64 r86_0.2.2.2.1), .d (.int .u64 r86_0.2.2.2.2.1), .d (.int .i64 r86_0.2.2.2.2.2)])], 1⟩ [FnOK Go.Proofs.Try.prog 95 (f95_sip_state_round_in s_0 s_1 s_2 (bits .xor .u64 s_3 m) s_4 s_5) (f95_sip_state_round_out r86_0)] (by kernel_rfl) ⟨(f95_sip_state_round_ok s_0 s_1 s_2 (bits .xor .u64 s_3 m) s_4 s_5 r86_0 cr86_0), trivial⟩ ?_
  obtain ⟨r101_0, cr101_0, h⟩ := bindS h
  refine At.step hm ht ⟨[(1, .call [0] [] (f95_sip_state_round_out r101_0))], [], [], [0, 1], [0]⟩ 3 ⟨[(0, .one (.c (.ptr 0 0))), (1, .one (.c (.d (.int .u64 m))))], [], [(0, [.d (.int .u64 r101_0.1), .d (.int .u64 r101_0.2.1), .d (.int .u64 r101_0.2.2.1), .d (.int .u64 r101_0.2.2.2.1), .d (.int .u64 r101_0.2.2.2.2.1), .d (.int .i64 r101_0.2.2.2.2.2)])], 1⟩ [FnOK Go.Proofs.Try.prog 95 (f95_sip_state_round_in r86_0.1 r86_0.2.1 r86_0.2.2.1 r86_0.2.2.2.1 r86_0.2.2.2.2.1 r86_0.2.2.2.2.2) (f95_sip_state_round_out r101_0)] (by kernel_rfl) ⟨(f95_sip_state_round_ok r86_0.1 r86_0.2.1 r86_0.2.2.1 r86_0.2.2.2.1 r86_0.2.2.2.2.1 r86_0.2.2.2.2.2 r101_0 cr101_0), trivial⟩ ?_
  have h := Option.some.inj h
  subst h
  exact At.fin hm ht ⟨[], [], [], [], [0]⟩ [(0 : Int) ≤ (0 : Int) ∧ (0 : Int) < ((4 : Nat) : Int), (0 : Int) ≤ (0 : Int) ∧ (0 : Int) < ((4 : Nat) : Int), 0 + 1 ≤ 6] (by kernel_rfl) ⟨(by decide), (by decide), (by decide), trivial⟩
/-! (*brougham/sip.state).byte -/
def f90_sip_state_byte_in (c : Int) (s_0 : Int) (s_1 : Int) (s_2 : Int) (s_3 : Int) (s_4 : Int) (s_5 : Int) : Inn := ⟨[.c (.ptr 0 0), .c (.d (.int .u8 c))], [], [(0, [.d (.int .u64 s_0), .d (.int .u64 s_1), .d (.int .u64 s_2), .d (.int .u64 s_3), .d (.int .u64 s_4), .d (.int .i64 s_5)])], 1⟩
def f90_sip_state_byte_out (r : Int × Int × Int × Int × Int × Int) : Out := ⟨.tup [], [], [(0, [.d (.int .u64 r.1), .d (.int .u64 r.2.1), .d (.int .u64 r.2.2.1), .d (.int .u64 r.2.2.2.1), .d (.int .u64 r.2.2.2.2.1), .d (.int .i64 r.2.2.2.2.2)])], 1⟩
def f90_sip_state_byte (c : Int) (s_0 : Int) (s_1 : Int) (s_2 : Int) (s_3 : Int) (s_4 : Int) (s_5 : Int) : Option (Int × Int × Int × Int × Int × Int) :=
  if (0 : Int) ≤ (IntKind.wrap .i64 (8 * (Int.tmod s_5 8))) then
  if (((Int.tmod (IntKind.wrap .i64 (s_5 + 1)) 8) : Int) == 0) = true then
    (f94_sip_state_take (bits .or .u64 s_4 (IntKind.wrap .u64 ((IntKind.wrap .u64 c) * 2 ^ (min (IntKind.wrap .i64 (8 * (Int.tmod s_5 8))).toNat (IntKind.bits .u64))))) s_0 s_1 s_2 s_3 (bits .or .u64 s_4 (IntKind.wrap .u64 ((IntKind.wrap .u64 c) * 2 ^ (min (IntKind.wrap .i64 (8 * (Int.tmod s_5 8))).toNat (IntKind.bits .u64))))) (IntKind.wrap .i64 (s_5 + 1))).bind fun r84_0 =>
    some (r84_0.1, r84_0.2.1, r84_0.2.2.1, r84_0.2.2.2.1, 0, r84_0.2.2.2.2.2)
  else
    some (s_0, s_1, s_2, s_3, (bits .or .u64 s_4 (IntKind.wrap .u64 ((IntKind.wrap .u64 c) * 2 ^ (min (IntKind.wrap .i64 (8 * (Int.tmod s_5 8))).toNat (IntKind.bits .u64))))), (IntKind.wrap .i64 (s_5 + 1)))
  else none
theorem f90_sip_state_byte_ok (c : Int) (s_0 : Int) (s_1 : Int) (s_2 : Int) (s_3 : Int) (s_4 : Int) (s_5 : Int) (r : Int × Int × Int × Int × Int × Int) (h : f90_sip_state_byte c s_0 s_1 s_2 s_3 s_4 s_5 = some r) : FnOK Go.Proofs.Try.prog 90 (f90_sip_state_byte_in c s_0 s_1 s_2 s_3 s_4 s_5) (f90_sip_state_byte_out r) := by
  unfold f90_sip_state_byte at h
  refine At.fn (r := 0) Go.Proofs.Try.func90 rfl (by kernel_rfl) rfl rfl (by kernel_rfl) ?_
  show At Go.Proofs.Try.prog Go.Proofs.Try.f90 1 0 ⟨[(0, .one (.c (.ptr 0 0))), (1, .one (.c (.d (.int .u8 c))))], [], [(0, [.d (.int .u64 s_0), .d (.int .u64 s_1), .d (.int .u64 s_2), .d (.int .u64 s_3), .d (.int .u64 s_4), .d (.int .i64 s_5)])], 1⟩ _
  obtain ⟨g81_0, h⟩ := ifS h
  refine At.step hm ht ⟨[], [], [], [0], [0]⟩ 1 ⟨[(0, .one (.c (.ptr 0 0)))], [], [(0, [.d (.int .u64 s_0), .d (.int .u64 s_1), .d (.int .u64 s_2), .d (.int .u64 s_3), .d (.int .u64 (bits .or .u64 s_4 (IntKind.wrap .u64 ((IntKind.wrap .u64 c) * 2 ^ (min (IntKind.wrap .i64 (8 * (Int.tmod s_5 8))).toNat (IntKind.bits .u64)))))), .d (.int .i64 s_5)])], 1⟩ [(8 : Int) ≠ 0, (0 : Int) ≤ (IntKind.wrap .i64 (8 * (Int.tmod s_5 8))), 4 + 1 ≤ 6] (by kernel_rfl) ⟨(by decide), g81_0, (by decide), trivial⟩ ?_
  refine At.step hm ht ⟨[], [], [], [0], [0]⟩ 2 ⟨[(0, .one (.c (.ptr 0 0)))], [], [(0, [.d (.int .u64 s_0), .d (.int .u64 s_1), .d (.int .u64 s_2), .d (.int .u64 s_3), .d (.int .u64 (bits .or .u64 s_4 (IntKind.wrap .u64 ((IntKind.wrap .u64 c) * 2 ^ (min (IntKind.wrap .i64 (8 * (Int.tmod s_5 8))).toNat (IntKind.bits .u64)))))), .d (.int .i64 (IntKind.wrap .i64 (s_5 + 1)))])], 1⟩ [5 + 1 ≤ 6] (by kernel_rfl) ⟨(by decide), trivial⟩ ?_
  rcases iteS h with ⟨b83_e0, h⟩ | ⟨b83_e0, h⟩
  · refine At.step hm ht ⟨[], [true], [], [0], [0]⟩ 3 ⟨[(0, .one (.c (.ptr 0 0)))], [], [(0, [.d (.int .u64 s_0), .d (.int .u64 s_1), .d (.int .u64 s_2), .d (.int .u64 s_3), .d (.int .u64 (bits .or .u64 s_4 (IntKind.wrap .u64 ((IntKind.wrap .u64 c) * 2 ^ (min (IntKind.wrap .i64 (8 * (Int.tmod s_5 8))).toNat (IntKind.bits .u64)))))), .d (.int .i64 (IntKind.wrap .i64 (s_5 + 1)))])], 1⟩ [(8 : Int) ≠ 0, (((Int.tmod (IntKind.wrap .i64 (s_5 + 1)) 8) : Int) == 0) = true] (by kernel_rfl) ⟨(by decide), b83_e0, trivial⟩ ?_
    obtain ⟨r84_0, cr84_0, h⟩ := bindS h
    refine At.step hm ht ⟨[(5, .call [0] [] (f94_sip_state_take_out r84_0))], [], [], [0], [0]⟩ 4 ⟨[(0, .one (.c (.ptr 0 0)))], [], [(0, [.d (.int .u64 r84_0.1), .d (.int .u64 r84_0.2.1), .d (.int .u64 r84_0.2.2.1), .d (.int .u64 r84_0.2.2.2.1), .d (.int .u64 r84_0.2.2.2.2.1), .d (.int .i64 r84_0.2.2.2.2.2)])], 1⟩ [FnOK Go.Proofs.Try.prog 94 (f94_sip_state_take_in (bits .or .u64 s_4 (IntKind.wrap .u64 ((IntKind.wrap .u64 c) * 2 ^ (min (IntKind.wrap .i64 (8 * (Int.tmod s_5 8))).toNat (IntKind.bits .u64))))) s_0 s_1 s_2 s_3 (bits .or .u64 s_4 (IntKind.wrap .u64 ((IntKind.wrap .u64 c) * 2 ^ (min (IntKind.wrap .i64 (8 * (Int.tmod s_5 8))).toNat (IntKind.bits .u64))))) (IntKind.wrap .i64 (s_5 + 1))) (f94_sip_state_take_out r84_0)] (by kernel_rfl) ⟨(f94_sip_state_take_ok (bits .or .u64 s_4 (IntKind.wrap .u64 ((IntKind.wrap .u64 c) * 2 ^ (min (IntKind.wrap .i64 (8 * (Int.tmod s_5 8))).toNat (IntKind.bits .u64))))) s_0 s_1 s_2 s_3 (bits .or .u64 s_4 (IntKind.wrap .u64 ((IntKind.wrap .u64 c) * 2 ^ (min (IntKind.wrap .i64 (8 * (Int.tmod s_5 8))).toNat (IntKind.bits .u64))))) (IntKind.wrap .i64 (s_5 + 1)) r84_0 cr84_0), trivial⟩ ?_
    have h := Option.some.inj h
    subst h
    exact At.fin hm ht ⟨[], [], [], [], [0]⟩ [4 + 1 ≤ 6] (by kernel_rfl) ⟨(by decide), trivial⟩
  · have h := Option.some.inj h
    subst h
    exact At.fin hm ht ⟨[], [false], [], [], [0]⟩ [(8 : Int) ≠ 0, (((Int.tmod (IntKind.wrap .i64 (s_5 + 1)) 8) : Int) == 0) = false] (by kernel_rfl) ⟨(by decide), b83_e0, trivial⟩
/-! (*brougham/sip.state).end -/
def f91_sip_state_end_in (s_0 : Int) (s_1 : Int) (s_2 : Int) (s_3 : Int) (s_4 : Int) (s_5 : Int) : Inn := ⟨[.c (.ptr 0 0)], [], [(0, [.d (.int .u64 s_0), .d (.int .u64 s_1), .d (.int .u64 s_2), .d (.int .u64 s_3), .d (.int .u64 s_4), .d (.int .i64 s_5)])], 1⟩
def f91_sip_state_end_out (r : Int × Int × Int × Int × Int × Int × Int) : Out := ⟨.one (.c (.d (.int .u64 r.1))), [], [(0, [.d (.int .u64 r.2.1), .d (.int .u64 r.2.2.1), .d (.int .u64 r.2.2.2.1), .d (.int .u64 r.2.2.2.2.1), .d (.int .u64 r.2.2.2.2.2.1), .d (.int .i64 r.2.2.2.2.2.2)])], 1⟩
def f91_sip_state_end_L4 : Nat → Int → Int → Int → Int → Int → Int → Int → Option (Int × Int × Int × Int × Int × Int)
  | 0, _, _, _, _, _, _, _ => none
  | n + 1, t26, s_0, s_1, s_2, s_3, s_4, s_5 =>
    if (decide ((t26 : Int) < 4)) = true then
      (f95_sip_state_round s_0 s_1 s_2 s_3 s_4 s_5).bind fun r116_0 =>
      f91_sip_state_end_L4 n (IntKind.wrap .i64 (t26 + 1)) r116_0.1 r116_0.2.1 r116_0.2.2.1 r116_0.2.2.2.1 r116_0.2.2.2.2.1 r116_0.2.2.2.2.2
    else
      some ((s_0, s_1, s_2, s_3, s_4, s_5))
def f91_sip_state_end_L4_k (e : Int × Int × Int × Int × Int × Int) (o : Out) : Prop := At Go.Proofs.Try.prog Go.Proofs.Try.f91 1 7 ⟨[(0, .one (.c (.ptr 0 0)))], [], [(0, [.d (.int .u64 e.1), .d (.int .u64 e.2.1), .d (.int .u64 e.2.2.1), .d (.int .u64 e.2.2.2.1), .d (.int .u64 e.2.2.2.2.1), .d (.int .i64 e.2.2.2.2.2)])], 1⟩ o
theorem f91_sip_state_end_L4_ok (n : Nat) : ∀ (t26 : Int) (s_0 : Int) (s_1 : Int) (s_2 : Int) (s_3 : Int) (s_4 : Int) (s_5 : Int) (w : Int × Int × Int × Int × Int × Int) (h : f91_sip_state_end_L4 n t26 s_0 s_1 s_2 s_3 s_4 s_5 = some w) (o : Out) (hk : f91_sip_state_end_L4_k w o), At Go.Proofs.Try.prog Go.Proofs.Try.f91 1 4 ⟨[(0, .one (.c (.ptr 0 0))), (26, .one (.c (.d (.int .i64 t26))))], [], [(0, [.d (.int .u64 s_0), .d (.int .u64 s_1), .d (.int .u64 s_2), .d (.int .u64 s_3), .d (.int .u64 s_4), .d (.int .i64 s_5)])], 1⟩ o := by
  induction n with
  | zero => intro t26 s_0 s_1 s_2 s_3 s_4 s_5 w h; rw [f91_sip_state_end_L4] at h; cases h
  | succ n ih =>
    intro t26 s_0 s_1 s_2 s_3 s_4 s_5 w h o hk
    rw [f91_sip_state_end_L4] at h
    rcases iteS h with ⟨b115_e0, h⟩ | ⟨b115_e0, h⟩
    · refine At.step hm ht ⟨[], [true], [], [0, 26], [0]⟩ 5 ⟨[(0, .one (.c (.ptr 0 0))), (26, .one (.c (.d (.int .i64 t26))))], [], [(0, [.d (.int .u64 s_0), .d (.int .u64 s_1), .d (.int .u64 s_2), .d (.int .u64 s_3), .d (.int .u64 s_4), .d (.int .i64 s_5)])], 1⟩ [(decide ((t26 : Int) < 4)) = true] (by kernel_rfl) ⟨b115_e0, trivial⟩ ?_
      obtain ⟨r116_0, cr116_0, h⟩ := bindS h
      refine At.step hm ht ⟨[(1, .call [0] [] (f95_sip_state_round_out r116_0))], [], [], [0, 26], [0]⟩ 6 ⟨[(0, .one (.c (.ptr 0 0))), (26, .one (.c (.d (.int .i64 t26))))], [], [(0, [.d (.int .u64 r116_0.1), .d (.int .u64 r116_0.2.1), .d (.int .u64 r116_0.2.2.1), .d (.int .u64 r116_0.2.2.2.1), .d (.int .u64 r116_0.2.2.2.2.1), .d (.int .i64 r116_0.2.2.2.2.2)])], 1⟩ [FnOK Go.Proofs.Try.prog 95 (f95_sip_state_round_in s_0 s_1 s_2 s_3 s_4 s_5) (f95_sip_state_round_out r116_0)] (by kernel_rfl) ⟨(f95_sip_state_round_ok s_0 s_1 s_2 s_3 s_4 s_5 r116_0 cr116_0), trivial⟩ ?_
      refine At.step hm ht ⟨[], [], [], [0, 26], [0]⟩ 4 ⟨[(0, .one (.c (.ptr 0 0))), (26, .one (.c (.d (.int .i64 (IntKind.wrap .i64 (t26 + 1))))))], [], [(0, [.d (.int .u64 r116_0.1), .d (.int .u64 r116_0.2.1), .d (.int .u64 r116_0.2.2.1), .d (.int .u64 r116_0.2.2.2.1), .d (.int .u64 r116_0.2.2.2.2.1), .d (.int .i64 r116_0.2.2.2.2.2)])], 1⟩ [] (by kernel_rfl) trivial ?_
      exact ih (IntKind.wrap .i64 (t26 + 1)) r116_0.1 r116_0.2.1 r116_0.2.2.1 r116_0.2.2.2.1 r116_0.2.2.2.2.1 r116_0.2.2.2.2.2 w h o hk
    · refine At.step hm ht ⟨[], [false], [], [0], [0]⟩ 7 ⟨[(0, .one (.c (.ptr 0 0)))], [], [(0, [.d (.int .u64 s_0), .d (.int .u64 s_1), .d (.int .u64 s_2), .d (.int .u64 s_3), .d (.int .u64 s_4), .d (.int .i64 s_5)])], 1⟩ [(decide ((t26 : Int) < 4)) = false] (by kernel_rfl) ⟨b115_e0, trivial⟩ ?_
      have h := Option.some.inj h
      subst h
      exact hk
def f91_sip_state_end (n : Nat) (s_0 : Int) (s_1 : Int) (s_2 : Int) (s_3 : Int) (s_4 : Int) (s_5 : Int) : Option (Int × Int × Int × Int × Int × Int × Int) :=
  (f94_sip_state_take (bits .or .u64 s_4 (IntKind.wrap .u64 ((IntKind.wrap .u64 (IntKind.wrap .u8 s_5)) * 2 ^ 56))) s_0 s_1 s_2 s_3 s_4 s_5).bind fun r112_0 =>
  (f91_sip_state_end_L4 n 0 r112_0.1 r112_0.2.1 (bits .xor .u64 r112_0.2.2.1 255) r112_0.2.2.2.1 r112_0.2.2.2.2.1 r112_0.2.2.2.2.2).bind fun w118 =>
  some ((bits .xor .u64 (bits .xor .u64 (bits .xor .u64 w118.1 w118.2.1) w118.2.2.1) w118.2.2.2.1), w118.1, w118.2.1, w118.2.2.1, w118.2.2.2.1, w118.2.2.2.2.1, w118.2.2.2.2.2)
theorem f91_sip_state_end_ok (n : Nat) (s_0 : Int) (s_1 : Int) (s_2 : Int) (s_3 : Int) (s_4 : Int) (s_5 : Int) (r : Int × Int × Int × Int × Int × Int × Int) (h : f91_sip_state_end n s_0 s_1 s_2 s_3 s_4 s_5 = some r) : FnOK Go.Proofs.Try.prog 91 (f91_sip_state_end_in s_0 s_1 s_2 s_3 s_4 s_5) (f91_sip_state_end_out r) := by
  unfold f91_sip_state_end at h
  refine At.fn (r := 0) Go.Proofs.Try.func91 rfl (by kernel_rfl) rfl rfl (by kernel_rfl) ?_
  show At Go.Proofs.Try.prog Go.Proofs.Try.f91 1 0 ⟨[(0, .one (.c (.ptr 0 0)))], [], [(0, [.d (.int .u64 s_0), .d (.int .u64 s_1), .d (.int .u64 s_2), .d (.int .u64 s_3), .d (.int .u64 s_4), .d (.int .i64 s_5)])], 1⟩ _
  refine At.step hm ht ⟨[], [], [], [0], [0]⟩ 1 ⟨[(0, .one (.c (.ptr 0 0)))], [], [(0, [.d (.int .u64 s_0), .d (.int .u64 s_1), .d (.int .u64 s_2), .d (.int .u64 s_3), .d (.int .u64 s_4), .d (.int .i64 s_5)])], 1⟩ [] (by kernel_rfl) trivial ?_
  obtain ⟨r112_0, cr112_0, h⟩ := bindS h
  refine At.step hm ht ⟨[(13, .call [0] [] (f94_sip_state_take_out r112_0))], [], [], [0], [0]⟩ 2 ⟨[(0, .one (.c (.ptr 0 0)))], [], [(0, [.d (.int .u64 r112_0.1), .d (.int .u64 r112_0.2.1), .d (.int .u64 r112_0.2.2.1), .d (.int .u64 r112_0.2.2.2.1), .d (.int .u64 r112_0.2.2.2.2.1), .d (.int .i64 r112_0.2.2.2.2.2)])], 1⟩ [(0 : Int) ≤ 56, FnOK Go.Proofs.Try.prog 94 (f94_sip_state_take_in (bits .or .u64 s_4 (IntKind.wrap .u64 ((IntKind.wrap .u64 (IntKind.wrap .u8 s_5)) * 2 ^ 56))) s_0 s_1 s_2 s_3 s_4 s_5) (f94_sip_state_take_out r112_0)] (by kernel_rfl) ⟨(by decide), (f94_sip_state_take_ok (bits .or .u64 s_4 (IntKind.wrap .u64 ((IntKind.wrap .u64 (IntKind.wrap .u8 s_5)) * 2 ^ 56))) s_0 s_1 s_2 s_3 s_4 s_5 r112_0 cr112_0), trivial⟩ ?_
  refine At.step hm ht ⟨[], [], [], [0], [0]⟩ 3 ⟨[(0, .one (.c (.ptr 0 0)))], [], [(0, [.d (.int .u64 r112_0.1), .d (.int .u64 r112_0.2.1), .d (.int .u64 (bits .xor .u64 r112_0.2.2.1 255)), .d (.int .u64 r112_0.2.2.2.1), .d (.int .u64 r112_0.2.2.2.2.1), .d (.int .i64 r112_0.2.2.2.2.2)])], 1⟩ [(0 : Int) ≤ (2 : Int) ∧ (2 : Int) < ((4 : Nat) : Int), (0 : Int) ≤ (2 : Int) ∧ (2 : Int) < ((4 : Nat) : Int), 2 + 1 ≤ 6] (by kernel_rfl) ⟨(by decide), (by decide), (by decide), trivial⟩ ?_
  refine At.step hm ht ⟨[], [], [], [0, 26], [0]⟩ 4 ⟨[(0, .one (.c (.ptr 0 0))), (26, .one (.c (.d (.int .i64 0))))], [], [(0, [.d (.int .u64 r112_0.1), .d (.int .u64 r112_0.2.1), .d (.int .u64 (bits .xor .u64 r112_0.2.2.1 255)), .d (.int .u64 r112_0.2.2.2.1), .d (.int .u64 r112_0.2.2.2.2.1), .d (.int .i64 r112_0.2.2.2.2.2)])], 1⟩ [] (by kernel_rfl) trivial ?_
  obtain ⟨w118, cw118, h⟩ := bindS h
  refine f91_sip_state_end_L4_ok n 0 r112_0.1 r112_0.2.1 (bits .xor .u64 r112_0.2.2.1 255) r112_0.2.2.2.1 r112_0.2.2.2.2.1 r112_0.2.2.2.2.2 w118 cw118 _ ?_
  show At Go.Proofs.Try.prog Go.Proofs.Try.f91 1 7 ⟨[(0, .one (.c (.ptr 0 0)))], [], [(0, [.d (.int .u64 w118.1), .d (.int .u64 w118.2.1), .d (.int .u64 w118.2.2.1), .d (.int .u64 w118.2.2.2.1), .d (.int .u64 w118.2.2.2.2.1), .d (.int .i64 w118.2.2.2.2.2)])], 1⟩ _
  have h := Option.some.inj h
  subst h
  exact At.fin hm ht ⟨[], [], [], [2], [0]⟩ [(0 : Int) ≤ (0 : Int) ∧ (0 : Int) < ((4 : Nat) : Int), (0 : Int) ≤ (1 : Int) ∧ (1 : Int) < ((4 : Nat) : Int), (0 : Int) ≤ (2 : Int) ∧ (2 : Int) < ((4 : Nat) : Int), (0 : Int) ≤ (3 : Int) ∧ (3 : Int) < ((4 : Nat) : Int)] (by kernel_rfl) ⟨(by decide), (by decide), (by decide), (by decide), trivial⟩
/-! brougham/sip.Sum -/
def f87_sip_Sum_in (k_0 : Int) (k_1 : Int) (parts : List (List Int)) : Inn := ⟨[.agg [.d (.int .u64 k_0), .d (.int .u64 k_1)], .c (.d (.sl (.slice (.int .u8)) parts))], [], [], 0⟩
def f87_sip_Sum_out (r : Int) : Out := ⟨.one (.c (.d (.int .u64 r))), [], [], 0⟩
def f87_sip_Sum_L6 : Nat → (List (List Int)) → Int → Int → (List Int) → Int → Int → Int → Int → Int → Int → Int → Int → Option (List (List Int) × Int × Int × Int × Int × Int × Int × Int × Int)
  | 0, _, _, _, _, _, _, _, _, _, _, _, _ => none
  | n + 1, t12, t13, t14, t18, t19, t20, s_0, s_1, s_2, s_3, s_4, s_5 =>
    if (decide ((t20 : Int) < t19)) = true then
      if (0 : Int) ≤ t20 ∧ t20 < (((t18).length : Nat) : Int) then
      (f90_sip_state_byte (t18.getD t20.toNat 0) s_0 s_1 s_2 s_3 s_4 s_5).bind fun r80_0 =>
      f87_sip_Sum_L6 n t12 t13 t14 t18 t19 (IntKind.wrap .i64 (t20 + 1)) r80_0.1 r80_0.2.1 r80_0.2.2.1 r80_0.2.2.2.1 r80_0.2.2.2.2.1 r80_0.2.2.2.2.2
      else none
    else
      some ((t12, t13, t14, s_0, s_1, s_2, s_3, s_4, s_5))
def f87_sip_Sum_L6_k (e : List (List Int) × Int × Int × Int × Int × Int × Int × Int × Int) (o : Out) : Prop := At Go.Proofs.Try.prog Go.Proofs.Try.f87 0 10 ⟨[(5, .one (.c (.ptr 0 0))), (12, .one (.c (.d (.sl (.slice (.int .u8)) e.1)))), (13, .one (.c (.d (.int .i64 e.2.1)))), (14, .one (.c (.d (.int .i64 e.2.2.1))))], [], [(0, [.d (.int .u64 e.2.2.2.1), .d (.int .u64 e.2.2.2.2.1), .d (.int .u64 e.2.2.2.2.2.1), .d (.int .u64 e.2.2.2.2.2.2.1), .d (.int .u64 e.2.2.2.2.2.2.2.1), .d (.int .i64 e.2.2.2.2.2.2.2.2)])], 1⟩ o
theorem f87_sip_Sum_L6_ok (n : Nat) : ∀ (t12 : List (List Int)) (t13 : Int) (t14 : Int) (t18 : List Int) (t19 : Int) (t20 : Int) (s_0 : Int) (s_1 : Int) (s_2 : Int) (s_3 : Int) (s_4 : Int) (s_5 : Int) (w : List (List Int) × Int × Int × Int × Int × Int × Int × Int × Int) (h : f87_sip_Sum_L6 n t12 t13 t14 t18 t19 t20 s_0 s_1 s_2 s_3 s_4 s_5 = some w) (o : Out) (hk : f87_sip_Sum_L6_k w o), At Go.Proofs.Try.prog Go.Proofs.Try.f87 0 6 ⟨[(5, .one (.c (.ptr 0 0))), (12, .one (.c (.d (.sl (.slice (.int .u8)) t12)))), (13, .one (.c (.d (.int .i64 t13)))), (14, .one (.c (.d (.int .i64 t14)))), (18, .one (.c (.d (.sl (.int .u8) t18)))), (19, .one (.c (.d (.int .i64 t19)))), (20, .one (.c (.d (.int .i64 t20))))], [], [(0, [.d (.int .u64 s_0), .d (.int .u64 s_1), .d (.int .u64 s_2), .d (.int .u64 s_3), .d (.int .u64 s_4), .d (.int .i64 s_5)])], 1⟩ o := by
  induction n with
  | zero => intro t12 t13 t14 t18 t19 t20 s_0 s_1 s_2 s_3 s_4 s_5 w h; rw [f87_sip_Sum_L6] at h; cases h
  | succ n ih =>
    intro t12 t13 t14 t18 t19 t20 s_0 s_1 s_2 s_3 s_4 s_5 w h o hk
    rw [f87_sip_Sum_L6] at h
    rcases iteS h with ⟨b78_e0, h⟩ | ⟨b78_e0, h⟩
    · refine At.step hm ht ⟨[], [true], [], [5, 12, 13, 14, 18, 19, 20], [0]⟩ 7 ⟨[(5, .one (.c (.ptr 0 0))), (12, .one (.c (.d (.sl (.slice (.int .u8)) t12)))), (13, .one (.c (.d (.int .i64 t13)))), (14, .one (.c (.d (.int .i64 t14)))), (18, .one (.c (.d (.sl (.int .u8) t18)))), (19, .one (.c (.d (.int .i64 t19)))), (20, .one (.c (.d (.int .i64 t20))))], [], [(0, [.d (.int .u64 s_0), .d (.int .u64 s_1), .d (.int .u64 s_2), .d (.int .u64 s_3), .d (.int .u64 s_4), .d (.int .i64 s_5)])], 1⟩ [(decide ((t20 : Int) < t19)) = true] (by kernel_rfl) ⟨b78_e0, trivial⟩ ?_
      obtain ⟨g79_0, h⟩ := ifS h
      refine At.step hm ht ⟨[], [], [], [5, 9, 12, 13, 14, 18, 19, 20], [0]⟩ 8 ⟨[(5, .one (.c (.ptr 0 0))), (9, .one (.c (.d (.int .u8 (t18.getD t20.toNat 0))))), (12, .one (.c (.d (.sl (.slice (.int .u8)) t12)))), (13, .one (.c (.d (.int .i64 t13)))), (14, .one (.c (.d (.int .i64 t14)))), (18, .one (.c (.d (.sl (.int .u8) t18)))), (19, .one (.c (.d (.int .i64 t19)))), (20, .one (.c (.d (.int .i64 t20))))], [], [(0, [.d (.int .u64 s_0), .d (.int .u64 s_1), .d (.int .u64 s_2), .d (.int .u64 s_3), .d (.int .u64 s_4), .d (.int .i64 s_5)])], 1⟩ [(0 : Int) ≤ t20 ∧ t20 < (((t18).length : Nat) : Int)] (by kernel_rfl) ⟨g79_0, trivial⟩ ?_
      obtain ⟨r80_0, cr80_0, h⟩ := bindS h
      refine At.step hm ht ⟨[(2, .call [0] [] (f90_sip_state_byte_out r80_0))], [], [], [5, 12, 13, 14, 18, 19, 20], [0]⟩ 9 ⟨[(5, .one (.c (.ptr 0 0))), (12, .one (.c (.d (.sl (.slice (.int .u8)) t12)))), (13, .one (.c (.d (.int .i64 t13)))), (14, .one (.c (.d (.int .i64 t14)))), (18, .one (.c (.d (.sl (.int .u8) t18)))), (19, .one (.c (.d (.int .i64 t19)))), (20, .one (.c (.d (.int .i64 t20))))], [], [(0, [.d (.int .u64 r80_0.1), .d (.int .u64 r80_0.2.1), .d (.int .u64 r80_0.2.2.1), .d (.int .u64 r80_0.2.2.2.1), .d (.int .u64 r80_0.2.2.2.2.1), .d (.int .i64 r80_0.2.2.2.2.2)])], 1⟩ [FnOK Go.Proofs.Try.prog 90 (f90_sip_state_byte_in (t18.getD t20.toNat 0) s_0 s_1 s_2 s_3 s_4 s_5) (f90_sip_state_byte_out r80_0)] (by kernel_rfl) ⟨(f90_sip_state_byte_ok (t18.getD t20.toNat 0) s_0 s_1 s_2 s_3 s_4 s_5 r80_0 cr80_0), trivial⟩ ?_
      refine At.step hm ht ⟨[], [], [], [5, 12, 13, 14, 18, 19, 20], [0]⟩ 6 ⟨[(5, .one (.c (.ptr 0 0))), (12, .one (.c (.d (.sl (.slice (.int .u8)) t12)))), (13, .one (.c (.d (.int .i64 t13)))), (14, .one (.c (.d (.int .i64 t14)))), (18, .one (.c (.d (.sl (.int .u8) t18)))), (19, .one (.c (.d (.int .i64 t19)))), (20, .one (.c (.d (.int .i64 (IntKind.wrap .i64 (t20 + 1))))))], [], [(0, [.d (.int .u64 r80_0.1), .d (.int .u64 r80_0.2.1), .d (.int .u64 r80_0.2.2.1), .d (.int .u64 r80_0.2.2.2.1), .d (.int .u64 r80_0.2.2.2.2.1), .d (.int .i64 r80_0.2.2.2.2.2)])], 1⟩ [] (by kernel_rfl) trivial ?_
      exact ih t12 t13 t14 t18 t19 (IntKind.wrap .i64 (t20 + 1)) r80_0.1 r80_0.2.1 r80_0.2.2.1 r80_0.2.2.2.1 r80_0.2.2.2.2.1 r80_0.2.2.2.2.2 w h o hk
    · refine At.step hm ht ⟨[], [false], [], [5, 12, 13, 14], [0]⟩ 10 ⟨[(5, .one (.c (.ptr 0 0))), (12, .one (.c (.d (.sl (.slice (.int .u8)) t12)))), (13, .one (.c (.d (.int .i64 t13)))), (14, .one (.c (.d (.int .i64 t14))))], [], [(0, [.d (.int .u64 s_0), .d (.int .u64 s_1), .d (.int .u64 s_2), .d (.int .u64 s_3), .d (.int .u64 s_4), .d (.int .i64 s_5)])], 1⟩ [(decide ((t20 : Int) < t19)) = false] (by kernel_rfl) ⟨b78_e0, trivial⟩ ?_
      have h := Option.some.inj h
      subst h
      exact hk
def f87_sip_Sum_L3 : Nat → (List (List Int)) → Int → Int → Int → Int → Int → Int → Int → Int → Option (Int × Int × Int × Int × Int × Int)
  | 0, _, _, _, _, _, _, _, _, _ => none
  | n + 1, t12, t13, t14, s_0, s_1, s_2, s_3, s_4, s_5 =>
    if (decide ((t14 : Int) < t13)) = true then
      if (0 : Int) ≤ t14 ∧ t14 < (((t12).length : Nat) : Int) then
      (f87_sip_Sum_L6 n t12 t13 t14 (t12.getD t14.toNat []) (((t12.getD t14.toNat []).length : Nat) : Int) 0 s_0 s_1 s_2 s_3 s_4 s_5).bind fun w105 =>
      f87_sip_Sum_L3 n w105.1 w105.2.1 (IntKind.wrap .i64 (w105.2.2.1 + 1)) w105.2.2.2.1 w105.2.2.2.2.1 w105.2.2.2.2.2.1 w105.2.2.2.2.2.2.1 w105.2.2.2.2.2.2.2.1 w105.2.2.2.2.2.2.2.2
      else none
    else
      some ((s_0, s_1, s_2, s_3, s_4, s_5))
def f87_sip_Sum_L3_k (e : Int × Int × Int × Int × Int × Int) (o : Out) : Prop := At Go.Proofs.Try.prog Go.Proofs.Try.f87 0 11 ⟨[(5, .one (.c (.ptr 0 0)))], [], [(0, [.d (.int .u64 e.1), .d (.int .u64 e.2.1), .d (.int .u64 e.2.2.1), .d (.int .u64 e.2.2.2.1), .d (.int .u64 e.2.2.2.2.1), .d (.int .i64 e.2.2.2.2.2)])], 1⟩ o
theorem f87_sip_Sum_L3_ok (n : Nat) : ∀ (t12 : List (List Int)) (t13 : Int) (t14 : Int) (s_0 : Int) (s_1 : Int) (s_2 : Int) (s_3 : Int) (s_4 : Int) (s_5 : Int) (w : Int × Int × Int × Int × Int × Int) (h : f87_sip_Sum_L3 n t12 t13 t14 s_0 s_1 s_2 s_3 s_4 s_5 = some w) (o : Out) (hk : f87_sip_Sum_L3_k w o), At Go.Proofs.Try.prog Go.Proofs.Try.f87 0 3 ⟨[(5, .one (.c (.ptr 0 0))), (12, .one (.c (.d (.sl (.slice (.int .u8)) t12)))), (13, .one (.c (.d (.int .i64 t13)))), (14, .one (.c (.d (.int .i64 t14))))], [], [(0, [.d (.int .u64 s_0), .d (.int .u64 s_1), .d (.int .u64 s_2), .d (.int .u64 s_3), .d (.int .u64 s_4), .d (.int .i64 s_5)])], 1⟩ o := by
  induction n with
  | zero => intro t12 t13 t14 s_0 s_1 s_2 s_3 s_4 s_5 w h; rw [f87_sip_Sum_L3] at h; cases h
  | succ n ih =>
    intro t12 t13 t14 s_0 s_1 s_2 s_3 s_4 s_5 w h o hk
    rw [f87_sip_Sum_L3] at h
    rcases iteS h with ⟨b75_e0, h⟩ | ⟨b75_e0, h⟩
    · refine At.step hm ht ⟨[], [true], [], [5, 12, 13, 14], [0]⟩ 4 ⟨[(5, .one (.c (.ptr 0 0))), (12, .one (.c (.d (.sl (.slice (.int .u8)) t12)))), (13, .one (.c (.d (.int .i64 t13)))), (14, .one (.c (.d (.int .i64 t14))))], [], [(0, [.d (.int .u64 s_0), .d (.int .u64 s_1), .d (.int .u64 s_2), .d (.int .u64 s_3), .d (.int .u64 s_4), .d (.int .i64 s_5)])], 1⟩ [(decide ((t14 : Int) < t13)) = true] (by kernel_rfl) ⟨b75_e0, trivial⟩ ?_
      obtain ⟨g76_0, h⟩ := ifS h
      refine At.step hm ht ⟨[], [], [], [5, 7, 12, 13, 14], [0]⟩ 5 ⟨[(5, .one (.c (.ptr 0 0))), (7, .one (.c (.d (.sl (.int .u8) (t12.getD t14.toNat []))))), (12, .one (.c (.d (.sl (.slice (.int .u8)) t12)))), (13, .one (.c (.d (.int .i64 t13)))), (14, .one (.c (.d (.int .i64 t14))))], [], [(0, [.d (.int .u64 s_0), .d (.int .u64 s_1), .d (.int .u64 s_2), .d (.int .u64 s_3), .d (.int .u64 s_4), .d (.int .i64 s_5)])], 1⟩ [(0 : Int) ≤ t14 ∧ t14 < (((t12).length : Nat) : Int)] (by kernel_rfl) ⟨g76_0, trivial⟩ ?_
      refine At.step hm ht ⟨[], [], [], [5, 12, 13, 14, 18, 19, 20], [0]⟩ 6 ⟨[(5, .one (.c (.ptr 0 0))), (12, .one (.c (.d (.sl (.slice (.int .u8)) t12)))), (13, .one (.c (.d (.int .i64 t13)))), (14, .one (.c (.d (.int .i64 t14)))), (18, .one (.c (.d (.sl (.int .u8) (t12.getD t14.toNat []))))), (19, .one (.c (.d (.int .i64 (((t12.getD t14.toNat []).length : Nat) : Int))))), (20, .one (.c (.d (.int .i64 0))))], [], [(0, [.d (.int .u64 s_0), .d (.int .u64 s_1), .d (.int .u64 s_2), .d (.int .u64 s_3), .d (.int .u64 s_4), .d (.int .i64 s_5)])], 1⟩ [] (by kernel_rfl) trivial ?_
      obtain ⟨w105, cw105, h⟩ := bindS h
      refine f87_sip_Sum_L6_ok n t12 t13 t14 (t12.getD t14.toNat []) (((t12.getD t14.toNat []).length : Nat) : Int) 0 s_0 s_1 s_2 s_3 s_4 s_5 w105 cw105 _ ?_
      show At Go.Proofs.Try.prog Go.Proofs.Try.f87 0 10 ⟨[(5, .one (.c (.ptr 0 0))), (12, .one (.c (.d (.sl (.slice (.int .u8)) w105.1)))), (13, .one (.c (.d (.int .i64 w105.2.1)))), (14, .one (.c (.d (.int .i64 w105.2.2.1))))], [], [(0, [.d (.int .u64 w105.2.2.2.1), .d (.int .u64 w105.2.2.2.2.1), .d (.int .u64 w105.2.2.2.2.2.1), .d (.int .u64 w105.2.2.2.2.2.2.1), .d (.int .u64 w105.2.2.2.2.2.2.2.1), .d (.int .i64 w105.2.2.2.2.2.2.2.2)])], 1⟩ _
      refine At.step hm ht ⟨[], [], [], [5, 12, 13, 14], [0]⟩ 3 ⟨[(5, .one (.c (.ptr 0 0))), (12, .one (.c (.d (.sl (.slice (.int .u8)) w105.1)))), (13, .one (.c (.d (.int .i64 w105.2.1)))), (14, .one (.c (.d (.int .i64 (IntKind.wrap .i64 (w105.2.2.1 + 1))))))], [], [(0, [.d (.int .u64 w105.2.2.2.1), .d (.int .u64 w105.2.2.2.2.1), .d (.int .u64 w105.2.2.2.2.2.1), .d (.int .u64 w105.2.2.2.2.2.2.1), .d (.int .u64 w105.2.2.2.2.2.2.2.1), .d (.int .i64 w105.2.2.2.2.2.2.2.2)])], 1⟩ [] (by kernel_rfl) trivial ?_
      exact ih w105.1 w105.2.1 (IntKind.wrap .i64 (w105.2.2.1 + 1)) w105.2.2.2.1 w105.2.2.2.2.1 w105.2.2.2.2.2.1 w105.2.2.2.2.2.2.1 w105.2.2.2.2.2.2.2.1 w105.2.2.2.2.2.2.2.2 w h o hk
    · refine At.step hm ht ⟨[], [false], [], [5], [0]⟩ 11 ⟨[(5, .one (.c (.ptr 0 0)))], [], [(0, [.d (.int .u64 s_0), .d (.int .u64 s_1), .d (.int .u64 s_2), .d (.int .u64 s_3), .d (.int .u64 s_4), .d (.int .i64 s_5)])], 1⟩ [(decide ((t14 : Int) < t13)) = false] (by kernel_rfl) ⟨b75_e0, trivial⟩ ?_
      have h := Option.some.inj h
      subst h
      exact hk
def f87_sip_Sum (n : Nat) (k_0 : Int) (k_1 : Int) (parts : List (List Int)) : Option (Int) :=
  (f89_sip_begin k_0 k_1).bind fun r71_0 =>
  (f87_sip_Sum_L3 n parts ((parts.length : Nat) : Int) 0 r71_0.1 r71_0.2.1 r71_0.2.2.1 r71_0.2.2.2.1 r71_0.2.2.2.2.1 r71_0.2.2.2.2.2).bind fun w108 =>
  (f91_sip_state_end n w108.1 w108.2.1 w108.2.2.1 w108.2.2.2.1 w108.2.2.2.2.1 w108.2.2.2.2.2).bind fun r110_0 =>
  some r110_0.1
theorem f87_sip_Sum_ok (n : Nat) (k_0 : Int) (k_1 : Int) (parts : List (List Int)) (r : Int) (h : f87_sip_Sum n k_0 k_1 parts = some r) : FnOK Go.Proofs.Try.prog 87 (f87_sip_Sum_in k_0 k_1 parts) (f87_sip_Sum_out r) := by
  unfold f87_sip_Sum at h
  refine At.fn (r := 0) Go.Proofs.Try.func87 rfl (by kernel_rfl) rfl rfl (by kernel_rfl) ?_
  show At Go.Proofs.Try.prog Go.Proofs.Try.f87 0 0 ⟨[(0, .one (.agg [.d (.int .u64 k_0), .d (.int .u64 k_1)])), (1, .one (.c (.d (.sl (.slice (.int .u8)) parts))))], [], [], 0⟩ _
  refine At.step hm ht ⟨[], [], [], [1, 2], [0]⟩ 1 ⟨[(1, .one (.c (.d (.sl (.slice (.int .u8)) parts)))), (2, .one (.c (.ptr 0 0)))], [], [(0, [.d (.int .u64 k_0), .d (.int .u64 k_1)])], 1⟩ [] (by kernel_rfl) trivial ?_
  obtain ⟨r71_0, cr71_0, h⟩ := bindS h
  refine At.step hm ht ⟨[(1, .call [] [] (f89_sip_begin_out r71_0))], [], [], [1, 5], [2]⟩ 2 ⟨[(1, .one (.c (.d (.sl (.slice (.int .u8)) parts)))), (5, .one (.c (.ptr 0 0)))], [], [(0, [.d (.int .u64 r71_0.1), .d (.int .u64 r71_0.2.1), .d (.int .u64 r71_0.2.2.1), .d (.int .u64 r71_0.2.2.2.1), .d (.int .u64 r71_0.2.2.2.2.1), .d (.int .i64 r71_0.2.2.2.2.2)])], 1⟩ [FnOK Go.Proofs.Try.prog 89 (f89_sip_begin_in k_0 k_1) (f89_sip_begin_out r71_0)] (by kernel_rfl) ⟨(f89_sip_begin_ok k_0 k_1 r71_0 cr71_0), trivial⟩ ?_
  refine At.step hm ht ⟨[], [], [], [5, 12, 13, 14], [0]⟩ 3 ⟨[(5, .one (.c (.ptr 0 0))), (12, .one (.c (.d (.sl (.slice (.int .u8)) parts)))), (13, .one (.c (.d (.int .i64 ((parts.length : Nat) : Int))))), (14, .one (.c (.d (.int .i64 0))))], [], [(0, [.d (.int .u64 r71_0.1), .d (.int .u64 r71_0.2.1), .d (.int .u64 r71_0.2.2.1), .d (.int .u64 r71_0.2.2.2.1), .d (.int .u64 r71_0.2.2.2.2.1), .d (.int .i64 r71_0.2.2.2.2.2)])], 1⟩ [] (by kernel_rfl) trivial ?_
  obtain ⟨w108, cw108, h⟩ := bindS h
  refine f87_sip_Sum_L3_ok n parts ((parts.length : Nat) : Int) 0 r71_0.1 r71_0.2.1 r71_0.2.2.1 r71_0.2.2.2.1 r71_0.2.2.2.2.1 r71_0.2.2.2.2.2 w108 cw108 _ ?_
  show At Go.Proofs.Try.prog Go.Proofs.Try.f87 0 11 ⟨[(5, .one (.c (.ptr 0 0)))], [], [(0, [.d (.int .u64 w108.1), .d (.int .u64 w108.2.1), .d (.int .u64 w108.2.2.1), .d (.int .u64 w108.2.2.2.1), .d (.int .u64 w108.2.2.2.2.1), .d (.int .i64 w108.2.2.2.2.2)])], 1⟩ _
  obtain ⟨r110_0, cr110_0, h⟩ := bindS h
  have h := Option.some.inj h
  subst h
  exact At.fin hm ht ⟨[(1, .call [0] [] (f91_sip_state_end_out r110_0))], [], [], [4], []⟩ [FnOK Go.Proofs.Try.prog 91 (f91_sip_state_end_in w108.1 w108.2.1 w108.2.2.1 w108.2.2.2.1 w108.2.2.2.2.1 w108.2.2.2.2.2) (f91_sip_state_end_out r110_0)] (by kernel_rfl) ⟨(f91_sip_state_end_ok n w108.1 w108.2.1 w108.2.2.1 w108.2.2.2.1 w108.2.2.2.2.1 w108.2.2.2.2.2 r110_0 cr110_0), trivial⟩
/-! brougham/mac.Tag -/
def f65_mac_Tag_in (k_0 : Int) (k_1 : Int) (s_0 : Int) (s_1 : Int) (s_2 : Int) (s_3 : Int) (s_4 : Int) (s_5 : List (Int × List Int)) (s_6 : List Int) (o__0 : Int) (o__1 : List Int) : Inn := ⟨[.agg [.d (.int .u64 k_0), .d (.int .u64 k_1)], .agg [.d (.int .u16 s_0), .d (.int .u16 s_1), .d (.int .u32 s_2), .d (.int .u32 s_3), .d (.int .u8 s_4), .d (.sl (.pair (.int .u8) (.slice (.int .u8))) s_5), .d (.sl (.int .u8) s_6)], .agg [.d (.int .u8 o__0), .d (.sl (.int .u8) o__1)]], [], [], 0⟩
def f65_mac_Tag_out (r : Int) : Out := ⟨.one (.c (.d (.int .u64 r))), [], [], 0⟩
def f65_mac_Tag (n : Nat) (k_0 : Int) (k_1 : Int) (s_0 : Int) (s_1 : Int) (s_2 : Int) (s_3 : Int) (s_4 : Int) (s_5 : List (Int × List Int)) (s_6 : List Int) (o__0 : Int) (o__1 : List Int) : Option (Int) :=
  (f56_mac_Cover n s_0 s_1 s_2 s_3 s_4 s_5 s_6 o__0 o__1).bind fun r69_0 =>
  (f87_sip_Sum n k_0 k_1 [r69_0]).bind fun r69_1 =>
  some r69_1
theorem f65_mac_Tag_ok (n : Nat) (k_0 : Int) (k_1 : Int) (s_0 : Int) (s_1 : Int) (s_2 : Int) (s_3 : Int) (s_4 : Int) (s_5 : List (Int × List Int)) (s_6 : List Int) (o__0 : Int) (o__1 : List Int) (r : Int) (h : f65_mac_Tag n k_0 k_1 s_0 s_1 s_2 s_3 s_4 s_5 s_6 o__0 o__1 = some r) : FnOK Go.Proofs.Try.prog 65 (f65_mac_Tag_in k_0 k_1 s_0 s_1 s_2 s_3 s_4 s_5 s_6 o__0 o__1) (f65_mac_Tag_out r) := by
  unfold f65_mac_Tag at h
  refine At.fn (r := 0) Go.Proofs.Try.func65 rfl (by kernel_rfl) rfl rfl (by kernel_rfl) ?_
  show At Go.Proofs.Try.prog Go.Proofs.Try.f65 0 0 ⟨[(0, .one (.agg [.d (.int .u64 k_0), .d (.int .u64 k_1)])), (1, .one (.agg [.d (.int .u16 s_0), .d (.int .u16 s_1), .d (.int .u32 s_2), .d (.int .u32 s_3), .d (.int .u8 s_4), .d (.sl (.pair (.int .u8) (.slice (.int .u8))) s_5), .d (.sl (.int .u8) s_6)])), (2, .one (.agg [.d (.int .u8 o__0), .d (.sl (.int .u8) o__1)]))], [], [], 0⟩ _
  refine At.step hm ht ⟨[], [], [], [3, 4, 5], [0, 1, 2]⟩ 1 ⟨[(3, .one (.c (.ptr 0 0))), (4, .one (.c (.ptr 1 0))), (5, .one (.c (.ptr 2 0)))], [], [(0, [.d (.int .u64 k_0), .d (.int .u64 k_1)]), (1, [.d (.int .u16 s_0), .d (.int .u16 s_1), .d (.int .u32 s_2), .d (.int .u32 s_3), .d (.int .u8 s_4), .d (.sl (.pair (.int .u8) (.slice (.int .u8))) s_5), .d (.sl (.int .u8) s_6)]), (2, [.d (.int .u8 o__0), .d (.sl (.int .u8) o__1)])], 3⟩ [] (by kernel_rfl) trivial ?_
  obtain ⟨r69_0, cr69_0, h⟩ := bindS h
  obtain ⟨r69_1, cr69_1, h⟩ := bindS h
  have h := Option.some.inj h
  subst h
  exact At.fin hm ht ⟨[(3, .call [] [] (f56_mac_Cover_out r69_0)), (5, .call [] [] (f87_sip_Sum_out r69_1))], [], [], [6], []⟩ [FnOK Go.Proofs.Try.prog 56 (f56_mac_Cover_in s_0 s_1 s_2 s_3 s_4 s_5 s_6 o__0 o__1) (f56_mac_Cover_out r69_0), FnOK Go.Proofs.Try.prog 87 (f87_sip_Sum_in k_0 k_1 [r69_0]) (f87_sip_Sum_out r69_1)] (by kernel_rfl) ⟨(f56_mac_Cover_ok n s_0 s_1 s_2 s_3 s_4 s_5 s_6 o__0 o__1 r69_0 cr69_0), (f87_sip_Sum_ok n k_0 k_1 [r69_0] r69_1 cr69_1), trivial⟩
/-! (*brougham/opt.Tagged).Seal -/
def f72_opt_Tagged_Seal_in (tag : Int) (t_0 : Bool) (t_1 : Bool) (t_2 : Int) (t_3 : Int) (t_4 : Int) (t_5 : Int) : Inn := ⟨[.c (.ptr 0 5), .c (.d (.int .u64 tag))], [], [(0, [.d (.bool t_0), .d (.bool t_1), .d (.int .u64 t_2), .d (.int .u64 t_3), .d (.int .u32 t_4), .d (.int .u64 t_5)])], 1⟩
def f72_opt_Tagged_Seal_out (r : Bool × Bool × Int × Int × Int × Int) : Out := ⟨.tup [], [], [(0, [.d (.bool r.1), .d (.bool r.2.1), .d (.int .u64 r.2.2.1), .d (.int .u64 r.2.2.2.1), .d (.int .u32 r.2.2.2.2.1), .d (.int .u64 r.2.2.2.2.2)])], 1⟩
def f72_opt_Tagged_Seal (tag : Int) (t_0 : Bool) (t_1 : Bool) (t_2 : Int) (t_3 : Int) (t_4 : Int) (t_5 : Int) : Option (Bool × Bool × Int × Int × Int × Int) :=
  some (t_0, t_1, t_2, t_3, t_4, tag)
theorem f72_opt_Tagged_Seal_ok (tag : Int) (t_0 : Bool) (t_1 : Bool) (t_2 : Int) (t_3 : Int) (t_4 : Int) (t_5 : Int) (r : Bool × Bool × Int × Int × Int × Int) (h : f72_opt_Tagged_Seal tag t_0 t_1 t_2 t_3 t_4 t_5 = some r) : FnOK Go.Proofs.Try.prog 72 (f72_opt_Tagged_Seal_in tag t_0 t_1 t_2 t_3 t_4 t_5) (f72_opt_Tagged_Seal_out r) := by
  unfold f72_opt_Tagged_Seal at h
  refine At.fn (r := 0) Go.Proofs.Try.func72 rfl (by kernel_rfl) rfl rfl (by kernel_rfl) ?_
  show At Go.Proofs.Try.prog Go.Proofs.Try.f72 1 0 ⟨[(0, .one (.c (.ptr 0 5))), (1, .one (.c (.d (.int .u64 tag))))], [], [(0, [.d (.bool t_0), .d (.bool t_1), .d (.int .u64 t_2), .d (.int .u64 t_3), .d (.int .u32 t_4), .d (.int .u64 t_5)])], 1⟩ _
  have h := Option.some.inj h
  subst h
  exact At.fin hm ht ⟨[], [], [], [], [0]⟩ [5 + 1 ≤ 6] (by kernel_rfl) ⟨(by decide), trivial⟩
/-! brougham/mac.Data -/
def f63_mac_Data_in (k_0 : Int) (k_1 : Int) (s_0 : Int) (s_1 : Int) (s_2 : Int) (s_3 : Int) (s_4 : Int) (s_5 : List (Int × List Int)) (s_6 : List Int) (x_0 : Bool) (x_1 : Bool) (x_2 : Int) (x_3 : Int) (x_4 : Int) (x_5 : Int) : Inn := ⟨[.agg [.d (.int .u64 k_0), .d (.int .u64 k_1)], .agg [.d (.int .u16 s_0), .d (.int .u16 s_1), .d (.int .u32 s_2), .d (.int .u32 s_3), .d (.int .u8 s_4), .d (.sl (.pair (.int .u8) (.slice (.int .u8))) s_5), .d (.sl (.int .u8) s_6)], .agg [.d (.bool x_0), .d (.bool x_1), .d (.int .u64 x_2), .d (.int .u64 x_3), .d (.int .u32 x_4), .d (.int .u64 x_5)]], [], [], 0⟩
def f63_mac_Data_out (r : Int × List Int) : Out := ⟨.one (.agg [.d (.int .u8 r.1), .own 1 (.int .u8) r.2]), [(1, ⟨5, 0⟩)], [(0, [.d (.int .u8 r.1), .own 1 (.int .u8) r.2])], 2⟩
def f63_mac_Data (n : Nat) (k_0 : Int) (k_1 : Int) (s_0 : Int) (s_1 : Int) (s_2 : Int) (s_3 : Int) (s_4 : Int) (s_5 : List (Int × List Int)) (s_6 : List Int) (x_0 : Bool) (x_1 : Bool) (x_2 : Int) (x_3 : Int) (x_4 : Int) (x_5 : Int) : Option (Int × List Int) :=
  (f26_opt_Data_Option n x_0 x_1 x_2 x_3 x_4 x_5).bind fun r51_0 =>
  (f65_mac_Tag n k_0 k_1 s_0 s_1 s_2 s_3 s_4 s_5 s_6 r51_0.1 r51_0.2).bind fun r51_1 =>
  (f72_opt_Tagged_Seal r51_1 x_0 x_1 x_2 x_3 x_4 x_5).bind fun r51_2 =>
  (f26_opt_Data_Option n r51_2.1 r51_2.2.1 r51_2.2.2.1 r51_2.2.2.2.1 r51_2.2.2.2.2.1 r51_2.2.2.2.2.2).bind fun r122_0 =>
  some (r122_0.1, r122_0.2)
theorem f63_mac_Data_ok (n : Nat) (k_0 : Int) (k_1 : Int) (s_0 : Int) (s_1 : Int) (s_2 : Int) (s_3 : Int) (s_4 : Int) (s_5 : List (Int × List Int)) (s_6 : List Int) (x_0 : Bool) (x_1 : Bool) (x_2 : Int) (x_3 : Int) (x_4 : Int) (x_5 : Int) (r : Int × List Int) (h : f63_mac_Data n k_0 k_1 s_0 s_1 s_2 s_3 s_4 s_5 s_6 x_0 x_1 x_2 x_3 x_4 x_5 = some r) : FnOK Go.Proofs.Try.prog 63 (f63_mac_Data_in k_0 k_1 s_0 s_1 s_2 s_3 s_4 s_5 s_6 x_0 x_1 x_2 x_3 x_4 x_5) (f63_mac_Data_out r) := by
  unfold f63_mac_Data at h
  refine At.fn (r := 0) Go.Proofs.Try.func63 rfl (by kernel_rfl) rfl rfl (by kernel_rfl) ?_
  show At Go.Proofs.Try.prog Go.Proofs.Try.f63 0 0 ⟨[(0, .one (.agg [.d (.int .u64 k_0), .d (.int .u64 k_1)])), (1, .one (.agg [.d (.int .u16 s_0), .d (.int .u16 s_1), .d (.int .u32 s_2), .d (.int .u32 s_3), .d (.int .u8 s_4), .d (.sl (.pair (.int .u8) (.slice (.int .u8))) s_5), .d (.sl (.int .u8) s_6)])), (2, .one (.agg [.d (.bool x_0), .d (.bool x_1), .d (.int .u64 x_2), .d (.int .u64 x_3), .d (.int .u32 x_4), .d (.int .u64 x_5)]))], [], [], 0⟩ _
  refine At.step hm ht ⟨[], [], [], [3, 4, 5, 6], [0, 1, 2, 3]⟩ 1 ⟨[(3, .one (.c (.ptr 0 0))), (4, .one (.c (.ptr 1 0))), (5, .one (.c (.ptr 2 0))), (6, .one (.c (.ptr 3 0)))], [], [(0, [.d (.int .u64 k_0), .d (.int .u64 k_1)]), (1, [.d (.int .u16 s_0), .d (.int .u16 s_1), .d (.int .u32 s_2), .d (.int .u32 s_3), .d (.int .u8 s_4), .d (.sl (.pair (.int .u8) (.slice (.int .u8))) s_5), .d (.sl (.int .u8) s_6)]), (2, [.d (.bool x_0), .d (.bool x_1), .d (.int .u64 x_2), .d (.int .u64 x_3), .d (.int .u32 x_4), .d (.int .u64 x_5)]), (3, [.d (.int .u8 0), .d (.sl .unit [])])], 4⟩ [] (by kernel_rfl) trivial ?_
  obtain ⟨r51_0, cr51_0, h⟩ := bindS h
  obtain ⟨r51_1, cr51_1, h⟩ := bindS h
  obtain ⟨r51_2, cr51_2, h⟩ := bindS h
  refine At.step hm ht ⟨[(4, .call [] [] (f26_opt_Data_Option_out r51_0)), (5, .call [] [] (f65_mac_Tag_out r51_1)), (6, .call [2] [] (f72_opt_Tagged_Seal_out r51_2))], [], [], [5, 6], [2, 3]⟩ 2 ⟨[(5, .one (.c (.ptr 0 0))), (6, .one (.c (.ptr 1 0)))], [], [(0, [.d (.bool r51_2.1), .d (.bool r51_2.2.1), .d (.int .u64 r51_2.2.2.1), .d (.int .u64 r51_2.2.2.2.1), .d (.int .u32 r51_2.2.2.2.2.1), .d (.int .u64 r51_2.2.2.2.2.2)]), (1, [.d (.int .u8 0), .d (.sl .unit [])])], 2⟩ [FnOK Go.Proofs.Try.prog 26 (f26_opt_Data_Option_in x_0 x_1 x_2 x_3 x_4 x_5) (f26_opt_Data_Option_out r51_0), FnOK Go.Proofs.Try.prog 65 (f65_mac_Tag_in k_0 k_1 s_0 s_1 s_2 s_3 s_4 s_5 s_6 r51_0.1 r51_0.2) (f65_mac_Tag_out r51_1), FnOK Go.Proofs.Try.prog 72 (f72_opt_Tagged_Seal_in r51_1 x_0 x_1 x_2 x_3 x_4 x_5) (f72_opt_Tagged_Seal_out r51_2)] (by kernel_rfl) ⟨(f26_opt_Data_Option_ok n x_0 x_1 x_2 x_3 x_4 x_5 r51_0 cr51_0), (f65_mac_Tag_ok n k_0 k_1 s_0 s_1 s_2 s_3 s_4 s_5 s_6 r51_0.1 r51_0.2 r51_1 cr51_1), (f72_opt_Tagged_Seal_ok r51_1 x_0 x_1 x_2 x_3 x_4 x_5 r51_2 cr51_2), trivial⟩ ?_
  obtain ⟨r122_0, cr122_0, h⟩ := bindS h
  have h := Option.some.inj h
  subst h
  exact At.fin hm ht ⟨[(1, .call [] [] (f26_opt_Data_Option_out r122_0))], [], [], [6], [1, 4]⟩ [FnOK Go.Proofs.Try.prog 26 (f26_opt_Data_Option_in r51_2.1 r51_2.2.1 r51_2.2.2.1 r51_2.2.2.2.1 r51_2.2.2.2.2.1 r51_2.2.2.2.2.2) (f26_opt_Data_Option_out r122_0), 0 + 2 ≤ 2] (by kernel_rfl) ⟨(f26_opt_Data_Option_ok n r51_2.1 r51_2.2.1 r51_2.2.2.1 r51_2.2.2.2.1 r51_2.2.2.2.2.1 r51_2.2.2.2.2.2 r122_0 cr122_0), (by decide), trivial⟩
/-! brougham/seg.Of -/
def f55_seg_Of_in (s_0 : Int) (s_1 : Int) (s_2 : Int) (s_3 : Int) (s_4 : Int) (s_5 : List (Int × List Int)) (s_6 : List Int) (l : List (Int × List Int)) : Inn := ⟨[.agg [.d (.int .u16 s_0), .d (.int .u16 s_1), .d (.int .u32 s_2), .d (.int .u32 s_3), .d (.int .u8 s_4), .d (.sl (.pair (.int .u8) (.slice (.int .u8))) s_5), .d (.sl (.int .u8) s_6)], .c (.d (.sl (.pair (.int .u8) (.slice (.int .u8))) l))], [], [], 0⟩
def f55_seg_Of_out (r : Int × Int × Int × Int × Int × (List (Int × List Int)) × List Int) : Out := ⟨.one (.agg [.d (.int .u16 r.1), .d (.int .u16 r.2.1), .d (.int .u32 r.2.2.1), .d (.int .u32 r.2.2.2.1), .d (.int .u8 r.2.2.2.2.1), .own 1 (.pair (.int .u8) (.slice (.int .u8))) r.2.2.2.2.2.1, .d (.sl (.int .u8) r.2.2.2.2.2.2)]), [(1, ⟨30, 0⟩)], [(0, [.d (.int .u16 r.1), .d (.int .u16 r.2.1), .d (.int .u32 r.2.2.1), .d (.int .u32 r.2.2.2.1), .d (.int .u8 r.2.2.2.2.1), .own 1 (.pair (.int .u8) (.slice (.int .u8))) r.2.2.2.2.2.1, .d (.sl (.int .u8) r.2.2.2.2.2.2)])], 2⟩
def f55_seg_Of (s_0 : Int) (s_1 : Int) (s_2 : Int) (s_3 : Int) (s_4 : Int) (s_5 : List (Int × List Int)) (s_6 : List Int) (l : List (Int × List Int)) : Option (Int × Int × Int × Int × Int × (List (Int × List Int)) × List Int) :=
  if l.length ≤ maxLen ∧ l.length * 32 ≤ 140737488355328 then
  some (s_0, s_1, s_2, s_3, s_4, l, s_6)
  else none
theorem f55_seg_Of_ok (s_0 : Int) (s_1 : Int) (s_2 : Int) (s_3 : Int) (s_4 : Int) (s_5 : List (Int × List Int)) (s_6 : List Int) (l : List (Int × List Int)) (r : Int × Int × Int × Int × Int × (List (Int × List Int)) × List Int) (h : f55_seg_Of s_0 s_1 s_2 s_3 s_4 s_5 s_6 l = some r) : FnOK Go.Proofs.Try.prog 55 (f55_seg_Of_in s_0 s_1 s_2 s_3 s_4 s_5 s_6 l) (f55_seg_Of_out r) := by
  unfold f55_seg_Of at h
  refine At.fn (r := 0) Go.Proofs.Try.func55 rfl (by kernel_rfl) rfl rfl (by kernel_rfl) ?_
  show At Go.Proofs.Try.prog Go.Proofs.Try.f55 0 0 ⟨[(0, .one (.agg [.d (.int .u16 s_0), .d (.int .u16 s_1), .d (.int .u32 s_2), .d (.int .u32 s_3), .d (.int .u8 s_4), .d (.sl (.pair (.int .u8) (.slice (.int .u8))) s_5), .d (.sl (.int .u8) s_6)])), (1, .one (.c (.d (.sl (.pair (.int .u8) (.slice (.int .u8))) l))))], [], [], 0⟩ _
  refine At.step hm ht ⟨[], [], [], [1, 2, 4], [0, 1]⟩ 1 ⟨[(1, .one (.c (.d (.sl (.pair (.int .u8) (.slice (.int .u8))) l)))), (2, .one (.c (.ptr 0 0))), (4, .one (.c (.ptr 1 0)))], [], [(0, [.d (.int .u16 s_0), .d (.int .u16 s_1), .d (.int .u32 s_2), .d (.int .u32 s_3), .d (.int .u8 s_4), .d (.sl (.pair (.int .u8) (.slice (.int .u8))) s_5), .d (.sl (.int .u8) s_6)]), (1, [.d (.int .u16 0), .d (.int .u16 0), .d (.int .u32 0), .d (.int .u32 0), .d (.int .u8 0), .d (.sl .unit []), .d (.sl .unit [])])], 2⟩ [] (by kernel_rfl) trivial ?_
  obtain ⟨g124_0, h⟩ := ifS h
  refine At.step hm ht ⟨[], [], [], [2, 4], [0, 1, 3]⟩ 2 ⟨[(2, .one (.c (.ptr 0 0))), (4, .one (.c (.ptr 1 0)))], [(2, some ⟨30, 0⟩)], [(0, [.d (.int .u16 s_0), .d (.int .u16 s_1), .d (.int .u32 s_2), .d (.int .u32 s_3), .d (.int .u8 s_4), .own 2 (.pair (.int .u8) (.slice (.int .u8))) l, .d (.sl (.int .u8) s_6)]), (1, [.d (.int .u16 0), .d (.int .u16 0), .d (.int .u32 0), .d (.int .u32 0), .d (.int .u8 0), .d (.sl .unit []), .d (.sl .unit [])])], 3⟩ [l.length ≤ maxLen ∧ l.length * 32 ≤ 140737488355328, 5 + 1 ≤ 7] (by kernel_rfl) ⟨g124_0, (by decide), trivial⟩ ?_
  have h := Option.some.inj h
  subst h
  exact At.fin hm ht ⟨[], [], [], [4], [1, 2]⟩ [0 + 7 ≤ 7] (by kernel_rfl) ⟨(by decide), trivial⟩
/-! brougham/opt.One -/
def f16_opt_One_in (s_0 : Int) (s_1 : Int) (s_2 : Int) (s_3 : Int) (s_4 : Int) (s_5 : List (Int × List Int)) (s_6 : List Int) (kind : Int) : Inn := ⟨[.agg [.d (.int .u16 s_0), .d (.int .u16 s_1), .d (.int .u32 s_2), .d (.int .u32 s_3), .d (.int .u8 s_4), .d (.sl (.pair (.int .u8) (.slice (.int .u8))) s_5), .d (.sl (.int .u8) s_6)], .c (.d (.int .u8 kind))], [], [], 0⟩
def f16_opt_One_out (r : Bool × Int × List Int) : Out := ⟨.tup [.agg [.d (.int .u8 r.2.1), .d (.sl (.int .u8) r.2.2)], .c (.d (.bool r.1))], [], [(0, [.d (.int .u8 r.2.1), .d (.sl (.int .u8) r.2.2)])], 1⟩
def f16_opt_One_L4 : Nat → Int → Int → (List (Int × List Int)) → Int → Int → Int → Int → (List Int) → Option (Int × Int × Int × List Int)
  | 0, _, _, _, _, _, _, _, _ => none
  | n + 1, kind, n_, t11, t12, t13, t4_0, out_0, out_1 =>
    if (decide ((t13 : Int) < t12)) = true then
      if (0 : Int) ≤ t13 ∧ t13 < (((t11).length : Nat) : Int) then
      if ((((t11.getD t13.toNat (0, [])).1) : Int) == kind) = true then
        f16_opt_One_L4 n kind (IntKind.wrap .i64 (n_ + 1)) t11 t12 (IntKind.wrap .i64 (t13 + 1)) t4_0 ((t11.getD t13.toNat (0, [])).1) ((t11.getD t13.toNat (0, [])).2)
      else
        f16_opt_One_L4 n kind n_ t11 t12 (IntKind.wrap .i64 (t13 + 1)) t4_0 out_0 out_1
      else none
    else
      some ((n_, t4_0, out_0, out_1))
def f16_opt_One_L4_k (e : Int × Int × Int × List Int) (o : Out) : Prop := At Go.Proofs.Try.prog Go.Proofs.Try.f16 0 10 ⟨[(4, .one (.c (.ptr 0 0))), (6, .one (.c (.ptr 1 0))), (7, .one (.c (.d (.int .i64 e.1))))], [], [(0, [.d (.int .u8 e.2.1), .d (.sl .unit [])]), (1, [.d (.int .u8 e.2.2.1), .d (.sl (.int .u8) e.2.2.2)])], 2⟩ o
theorem f16_opt_One_L4_ok (n : Nat) : ∀ (kind : Int) (n_ : Int) (t11 : List (Int × List Int)) (t12 : Int) (t13 : Int) (t4_0 : Int) (out_0 : Int) (out_1 : List Int) (w : Int × Int × Int × List Int) (h : f16_opt_One_L4 n kind n_ t11 t12 t13 t4_0 out_0 out_1 = some w) (o : Out) (hk : f16_opt_One_L4_k w o), At Go.Proofs.Try.prog Go.Proofs.Try.f16 0 4 ⟨[(1, .one (.c (.d (.int .u8 kind)))), (4, .one (.c (.ptr 0 0))), (6, .one (.c (.ptr 1 0))), (7, .one (.c (.d (.int .i64 n_)))), (11, .one (.c (.d (.sl (.pair (.int .u8) (.slice (.int .u8))) t11)))), (12, .one (.c (.d (.int .i64 t12)))), (13, .one (.c (.d (.int .i64 t13))))], [], [(0, [.d (.int .u8 t4_0), .d (.sl .unit [])]), (1, [.d (.int .u8 out_0), .d (.sl (.int .u8) out_1)])], 2⟩ o := by
  induction n with
  | zero => intro kind n_ t11 t12 t13 t4_0 out_0 out_1 w h; rw [f16_opt_One_L4] at h; cases h
  | succ n ih =>
    intro kind n_ t11 t12 t13 t4_0 out_0 out_1 w h o hk
    rw [f16_opt_One_L4] at h
    rcases iteS h with ⟨b158_e0, h⟩ | ⟨b158_e0, h⟩
    · refine At.step hm ht ⟨[], [true], [], [1, 4, 6, 7, 11, 12, 13], [0, 1]⟩ 5 ⟨[(1, .one (.c (.d (.int .u8 kind)))), (4, .one (.c (.ptr 0 0))), (6, .one (.c (.ptr 1 0))), (7, .one (.c (.d (.int .i64 n_)))), (11, .one (.c (.d (.sl (.pair (.int .u8) (.slice (.int .u8))) t11)))), (12, .one (.c (.d (.int .i64 t12)))), (13, .one (.c (.d (.int .i64 t13))))], [], [(0, [.d (.int .u8 t4_0), .d (.sl .unit [])]), (1, [.d (.int .u8 out_0), .d (.sl (.int .u8) out_1)])], 2⟩ [(decide ((t13 : Int) < t12)) = true] (by kernel_rfl) ⟨b158_e0, trivial⟩ ?_
      obtain ⟨g159_0, h⟩ := ifS h
      refine At.step hm ht ⟨[], [], [], [1, 4, 6, 7, 9, 11, 12, 13], [0, 1, 4]⟩ 6 ⟨[(1, .one (.c (.d (.int .u8 kind)))), (4, .one (.c (.ptr 0 0))), (6, .one (.c (.ptr 1 0))), (7, .one (.c (.d (.int .i64 n_)))), (9, .one (.c (.ptr 2 0))), (11, .one (.c (.d (.sl (.pair (.int .u8) (.slice (.int .u8))) t11)))), (12, .one (.c (.d (.int .i64 t12)))), (13, .one (.c (.d (.int .i64 t13))))], [], [(0, [.d (.int .u8 t4_0), .d (.sl .unit [])]), (1, [.d (.int .u8 out_0), .d (.sl (.int .u8) out_1)]), (2, [.d (.int .u8 ((t11.getD t13.toNat (0, [])).1)), .d (.sl (.int .u8) ((t11.getD t13.toNat (0, [])).2))])], 3⟩ [(0 : Int) ≤ t13 ∧ t13 < (((t11).length : Nat) : Int), 0 + 2 ≤ 2] (by kernel_rfl) ⟨g159_0, (by decide), trivial⟩ ?_
      rcases iteS h with ⟨b160_e0, h⟩ | ⟨b160_e0, h⟩
      · refine At.step hm ht ⟨[], [true], [], [1, 4, 6, 7, 9, 11, 12, 13], [0, 1, 2]⟩ 7 ⟨[(1, .one (.c (.d (.int .u8 kind)))), (4, .one (.c (.ptr 0 0))), (6, .one (.c (.ptr 1 0))), (7, .one (.c (.d (.int .i64 n_)))), (9, .one (.c (.ptr 2 0))), (11, .one (.c (.d (.sl (.pair (.int .u8) (.slice (.int .u8))) t11)))), (12, .one (.c (.d (.int .i64 t12)))), (13, .one (.c (.d (.int .i64 t13))))], [], [(0, [.d (.int .u8 t4_0), .d (.sl .unit [])]), (1, [.d (.int .u8 out_0), .d (.sl (.int .u8) out_1)]), (2, [.d (.int .u8 ((t11.getD t13.toNat (0, [])).1)), .d (.sl (.int .u8) ((t11.getD t13.toNat (0, [])).2))])], 3⟩ [((((t11.getD t13.toNat (0, [])).1) : Int) == kind) = true] (by kernel_rfl) ⟨b160_e0, trivial⟩ ?_
        refine At.step hm ht ⟨[], [], [], [1, 4, 6, 7, 11, 12, 13], [0, 1]⟩ 8 ⟨[(1, .one (.c (.d (.int .u8 kind)))), (4, .one (.c (.ptr 0 0))), (6, .one (.c (.ptr 1 0))), (7, .one (.c (.d (.int .i64 n_)))), (11, .one (.c (.d (.sl (.pair (.int .u8) (.slice (.int .u8))) t11)))), (12, .one (.c (.d (.int .i64 t12)))), (13, .one (.c (.d (.int .i64 t13))))], [], [(0, [.d (.int .u8 t4_0), .d (.sl .unit [])]), (1, [.d (.int .u8 ((t11.getD t13.toNat (0, [])).1)), .d (.sl (.int .u8) ((t11.getD t13.toNat (0, [])).2))])], 2⟩ [0 + 2 ≤ 2] (by kernel_rfl) ⟨(by decide), trivial⟩ ?_
        refine At.step hm ht ⟨[], [], [], [1, 4, 6, 7, 11, 12, 13], [0, 1]⟩ 9 ⟨[(1, .one (.c (.d (.int .u8 kind)))), (4, .one (.c (.ptr 0 0))), (6, .one (.c (.ptr 1 0))), (7, .one (.c (.d (.int .i64 (IntKind.wrap .i64 (n_ + 1)))))), (11, .one (.c (.d (.sl (.pair (.int .u8) (.slice (.int .u8))) t11)))), (12, .one (.c (.d (.int .i64 t12)))), (13, .one (.c (.d (.int .i64 t13))))], [], [(0, [.d (.int .u8 t4_0), .d (.sl .unit [])]), (1, [.d (.int .u8 ((t11.getD t13.toNat (0, [])).1)), .d (.sl (.int .u8) ((t11.getD t13.toNat (0, [])).2))])], 2⟩ [] (by kernel_rfl) trivial ?_
        refine At.step hm ht ⟨[], [], [], [1, 4, 6, 7, 11, 12, 13], [0, 1]⟩ 4 ⟨[(1, .one (.c (.d (.int .u8 kind)))), (4, .one (.c (.ptr 0 0))), (6, .one (.c (.ptr 1 0))), (7, .one (.c (.d (.int .i64 (IntKind.wrap .i64 (n_ + 1)))))), (11, .one (.c (.d (.sl (.pair (.int .u8) (.slice (.int .u8))) t11)))), (12, .one (.c (.d (.int .i64 t12)))), (13, .one (.c (.d (.int .i64 (IntKind.wrap .i64 (t13 + 1))))))], [], [(0, [.d (.int .u8 t4_0), .d (.sl .unit [])]), (1, [.d (.int .u8 ((t11.getD t13.toNat (0, [])).1)), .d (.sl (.int .u8) ((t11.getD t13.toNat (0, [])).2))])], 2⟩ [] (by kernel_rfl) trivial ?_
        exact ih kind (IntKind.wrap .i64 (n_ + 1)) t11 t12 (IntKind.wrap .i64 (t13 + 1)) t4_0 ((t11.getD t13.toNat (0, [])).1) ((t11.getD t13.toNat (0, [])).2) w h o hk
      · refine At.step hm ht ⟨[], [false], [], [1, 4, 6, 7, 11, 12, 13], [0, 1]⟩ 9 ⟨[(1, .one (.c (.d (.int .u8 kind)))), (4, .one (.c (.ptr 0 0))), (6, .one (.c (.ptr 1 0))), (7, .one (.c (.d (.int .i64 n_)))), (11, .one (.c (.d (.sl (.pair (.int .u8) (.slice (.int .u8))) t11)))), (12, .one (.c (.d (.int .i64 t12)))), (13, .one (.c (.d (.int .i64 t13))))], [], [(0, [.d (.int .u8 t4_0), .d (.sl .unit [])]), (1, [.d (.int .u8 out_0), .d (.sl (.int .u8) out_1)])], 2⟩ [((((t11.getD t13.toNat (0, [])).1) : Int) == kind) = false] (by kernel_rfl) ⟨b160_e0, trivial⟩ ?_
        refine At.step hm ht ⟨[], [], [], [1, 4, 6, 7, 11, 12, 13], [0, 1]⟩ 4 ⟨[(1, .one (.c (.d (.int .u8 kind)))), (4, .one (.c (.ptr 0 0))), (6, .one (.c (.ptr 1 0))), (7, .one (.c (.d (.int .i64 n_)))), (11, .one (.c (.d (.sl (.pair (.int .u8) (.slice (.int .u8))) t11)))), (12, .one (.c (.d (.int .i64 t12)))), (13, .one (.c (.d (.int .i64 (IntKind.wrap .i64 (t13 + 1))))))], [], [(0, [.d (.int .u8 t4_0), .d (.sl .unit [])]), (1, [.d (.int .u8 out_0), .d (.sl (.int .u8) out_1)])], 2⟩ [] (by kernel_rfl) trivial ?_
        exact ih kind n_ t11 t12 (IntKind.wrap .i64 (t13 + 1)) t4_0 out_0 out_1 w h o hk
    · refine At.step hm ht ⟨[], [false], [], [4, 6, 7], [0, 1]⟩ 10 ⟨[(4, .one (.c (.ptr 0 0))), (6, .one (.c (.ptr 1 0))), (7, .one (.c (.d (.int .i64 n_))))], [], [(0, [.d (.int .u8 t4_0), .d (.sl .unit [])]), (1, [.d (.int .u8 out_0), .d (.sl (.int .u8) out_1)])], 2⟩ [(decide ((t13 : Int) < t12)) = false] (by kernel_rfl) ⟨b158_e0, trivial⟩ ?_
      have h := Option.some.inj h
      subst h
      exact hk
def f16_opt_One (n : Nat) (s_0 : Int) (s_1 : Int) (s_2 : Int) (s_3 : Int) (s_4 : Int) (s_5 : List (Int × List Int)) (s_6 : List Int) (kind : Int) : Option (Bool × Int × List Int) :=
  (f16_opt_One_L4 n kind 0 s_5 ((s_5.length : Nat) : Int) 0 0 0 []).bind fun w165 =>
  if ((w165.1 : Int) != 1) = true then
    some (false, 0, [])
  else
    some (true, w165.2.2.1, w165.2.2.2)
theorem f16_opt_One_ok (n : Nat) (s_0 : Int) (s_1 : Int) (s_2 : Int) (s_3 : Int) (s_4 : Int) (s_5 : List (Int × List Int)) (s_6 : List Int) (kind : Int) (r : Bool × Int × List Int) (h : f16_opt_One n s_0 s_1 s_2 s_3 s_4 s_5 s_6 kind = some r) : FnOK Go.Proofs.Try.prog 16 (f16_opt_One_in s_0 s_1 s_2 s_3 s_4 s_5 s_6 kind) (f16_opt_One_out r) := by
  unfold f16_opt_One at h
  refine At.fn (r := 0) Go.Proofs.Try.func16 rfl (by kernel_rfl) rfl rfl (by kernel_rfl) ?_
  show At Go.Proofs.Try.prog Go.Proofs.Try.f16 0 0 ⟨[(0, .one (.agg [.d (.int .u16 s_0), .d (.int .u16 s_1), .d (.int .u32 s_2), .d (.int .u32 s_3), .d (.int .u8 s_4), .d (.sl (.pair (.int .u8) (.slice (.int .u8))) s_5), .d (.sl (.int .u8) s_6)])), (1, .one (.c (.d (.int .u8 kind))))], [], [], 0⟩ _
  refine At.step hm ht ⟨[], [], [], [1, 2, 4], [0, 1]⟩ 1 ⟨[(1, .one (.c (.d (.int .u8 kind)))), (2, .one (.c (.ptr 0 0))), (4, .one (.c (.ptr 1 0)))], [], [(0, [.d (.int .u16 s_0), .d (.int .u16 s_1), .d (.int .u32 s_2), .d (.int .u32 s_3), .d (.int .u8 s_4), .d (.sl (.pair (.int .u8) (.slice (.int .u8))) s_5), .d (.sl (.int .u8) s_6)]), (1, [.d (.int .u8 0), .d (.sl .unit [])])], 2⟩ [] (by kernel_rfl) trivial ?_
  refine At.step hm ht ⟨[], [], [], [1, 2, 4, 6], [0, 1, 2]⟩ 2 ⟨[(1, .one (.c (.d (.int .u8 kind)))), (2, .one (.c (.ptr 0 0))), (4, .one (.c (.ptr 1 0))), (6, .one (.c (.ptr 2 0)))], [], [(0, [.d (.int .u16 s_0), .d (.int .u16 s_1), .d (.int .u32 s_2), .d (.int .u32 s_3), .d (.int .u8 s_4), .d (.sl (.pair (.int .u8) (.slice (.int .u8))) s_5), .d (.sl (.int .u8) s_6)]), (1, [.d (.int .u8 0), .d (.sl .unit [])]), (2, [.d (.int .u8 0), .d (.sl .unit [])])], 3⟩ [] (by kernel_rfl) trivial ?_
  refine At.step hm ht ⟨[], [], [], [1, 2, 4, 6, 7], [0, 1, 2]⟩ 3 ⟨[(1, .one (.c (.d (.int .u8 kind)))), (2, .one (.c (.ptr 0 0))), (4, .one (.c (.ptr 1 0))), (6, .one (.c (.ptr 2 0))), (7, .one (.c (.d (.int .i64 0))))], [], [(0, [.d (.int .u16 s_0), .d (.int .u16 s_1), .d (.int .u32 s_2), .d (.int .u32 s_3), .d (.int .u8 s_4), .d (.sl (.pair (.int .u8) (.slice (.int .u8))) s_5), .d (.sl (.int .u8) s_6)]), (1, [.d (.int .u8 0), .d (.sl .unit [])]), (2, [.d (.int .u8 0), .d (.sl .unit [])])], 3⟩ [] (by kernel_rfl) trivial ?_
  refine At.step hm ht ⟨[], [], [.nil true 2 1 (.int .u8) none], [1, 4, 6, 7, 11, 12, 13], [1, 2]⟩ 4 ⟨[(1, .one (.c (.d (.int .u8 kind)))), (4, .one (.c (.ptr 0 0))), (6, .one (.c (.ptr 1 0))), (7, .one (.c (.d (.int .i64 0)))), (11, .one (.c (.d (.sl (.pair (.int .u8) (.slice (.int .u8))) s_5)))), (12, .one (.c (.d (.int .i64 ((s_5.length : Nat) : Int))))), (13, .one (.c (.d (.int .i64 0))))], [], [(0, [.d (.int .u8 0), .d (.sl .unit [])]), (1, [.d (.int .u8 0), .d (.sl (.int .u8) [])])], 2⟩ [] (by kernel_rfl) trivial ?_
  obtain ⟨w165, cw165, h⟩ := bindS h
  refine f16_opt_One_L4_ok n kind 0 s_5 ((s_5.length : Nat) : Int) 0 0 0 [] w165 cw165 _ ?_
  show At Go.Proofs.Try.prog Go.Proofs.Try.f16 0 10 ⟨[(4, .one (.c (.ptr 0 0))), (6, .one (.c (.ptr 1 0))), (7, .one (.c (.d (.int .i64 w165.1))))], [], [(0, [.d (.int .u8 w165.2.1), .d (.sl .unit [])]), (1, [.d (.int .u8 w165.2.2.1), .d (.sl (.int .u8) w165.2.2.2)])], 2⟩ _
  rcases iteS h with ⟨b167_e0, h⟩ | ⟨b167_e0, h⟩
  · refine At.step hm ht ⟨[], [true], [], [4], [0]⟩ 11 ⟨[(4, .one (.c (.ptr 0 0)))], [], [(0, [.d (.int .u8 w165.2.1), .d (.sl .unit [])])], 1⟩ [((w165.1 : Int) != 1) = true] (by kernel_rfl) ⟨b167_e0, trivial⟩ ?_
    have h := Option.some.inj h
    subst h
    exact At.fin hm ht ⟨[], [], [.nil true 0 1 (.int .u8) none], [4, 5], [0]⟩ [0 + 2 ≤ 2] (by kernel_rfl) ⟨(by decide), trivial⟩
  · refine At.step hm ht ⟨[], [false], [], [4, 6], [0, 1]⟩ 12 ⟨[(4, .one (.c (.ptr 0 0))), (6, .one (.c (.ptr 1 0)))], [], [(0, [.d (.int .u8 w165.2.1), .d (.sl .unit [])]), (1, [.d (.int .u8 w165.2.2.1), .d (.sl (.int .u8) w165.2.2.2)])], 2⟩ [((w165.1 : Int) != 1) = false] (by kernel_rfl) ⟨b167_e0, trivial⟩ ?_
    have h := Option.some.inj h
    subst h
    exact At.fin hm ht ⟨[], [], [], [4, 5], [0]⟩ [0 + 2 ≤ 2] (by kernel_rfl) ⟨(by decide), trivial⟩
/-! brougham/pack.Get -/
def f83_pack_Get_in (b : List Int) (sizes : List Int) : Inn := ⟨[.c (.d (.sl (.int .u8) b)), .c (.d (.sl (.int .i64) sizes))], [], [], 0⟩
def f83_pack_Get_out (r : List Int × List Int × Bool) : Out := ⟨.tup [.c (.own 0 (.int .u64) r.1), .c (.own 1 (.int .u8) r.2.1), .c (.d (.bool r.2.2))], [(0, ⟨36, 0⟩), (1, ⟨5, 0⟩)], [], 2⟩
def f83_pack_Get_L9 : Nat → (List Int) → (List Int) → Int → Int → (List Int) → Int → Int → (List Int) → Int → Int → Option (List Int × List Int × Int × Int × List Int × Int × Int)
  | 0, _, _, _, _, _, _, _, _, _, _ => none
  | n + 1, b, out, n_, x, t13, t14, t15, t33, t34, t35 =>
    if (decide ((t35 : Int) < t34)) = true then
      if (0 : Int) ≤ t35 ∧ t35 < (((t33).length : Nat) : Int) then
      f83_pack_Get_L9 n b out n_ (bits .or .u64 (IntKind.wrap .u64 (x * 2 ^ 8)) (IntKind.wrap .u64 (t33.getD t35.toNat 0))) t13 t14 t15 t33 t34 (IntKind.wrap .i64 (t35 + 1))
      else none
    else
      some ((b, out, n_, x, t13, t14, t15))
def f83_pack_Get_L9_k (e : List Int × List Int × Int × Int × List Int × Int × Int) (o : Out) : Prop := At Go.Proofs.Try.prog Go.Proofs.Try.f83 0 13 ⟨[(0, .one (.c (.d (.sl (.int .u8) e.1)))), (7, .one (.c (.own 0 (.int .u64) e.2.1))), (9, .one (.c (.d (.int .i64 e.2.2.1)))), (10, .one (.c (.d (.int .u64 e.2.2.2.1)))), (13, .one (.c (.d (.sl (.int .i64) e.2.2.2.2.1)))), (14, .one (.c (.d (.int .i64 e.2.2.2.2.2.1)))), (15, .one (.c (.d (.int .i64 e.2.2.2.2.2.2))))], [(0, some ⟨36, 0⟩)], [], 1⟩ o
theorem f83_pack_Get_L9_ok (n : Nat) : ∀ (b : List Int) (out : List Int) (n_ : Int) (x : Int) (t13 : List Int) (t14 : Int) (t15 : Int) (t33 : List Int) (t34 : Int) (t35 : Int) (w : List Int × List Int × Int × Int × List Int × Int × Int) (h : f83_pack_Get_L9 n b out n_ x t13 t14 t15 t33 t34 t35 = some w) (o : Out) (hk : f83_pack_Get_L9_k w o), At Go.Proofs.Try.prog Go.Proofs.Try.f83 0 9 ⟨[(0, .one (.c (.d (.sl (.int .u8) b)))), (7, .one (.c (.own 0 (.int .u64) out))), (9, .one (.c (.d (.int .i64 n_)))), (10, .one (.c (.d (.int .u64 x)))), (13, .one (.c (.d (.sl (.int .i64) t13)))), (14, .one (.c (.d (.int .i64 t14)))), (15, .one (.c (.d (.int .i64 t15)))), (33, .one (.c (.d (.sl (.int .u8) t33)))), (34, .one (.c (.d (.int .i64 t34)))), (35, .one (.c (.d (.int .i64 t35))))], [(0, some ⟨36, 0⟩)], [], 1⟩ o := by
  induction n with
  | zero => intro b out n_ x t13 t14 t15 t33 t34 t35 w h; rw [f83_pack_Get_L9] at h; cases h
  | succ n ih =>
    intro b out n_ x t13 t14 t15 t33 t34 t35 w h o hk
    rw [f83_pack_Get_L9] at h
    rcases iteS h with ⟨b243_e0, h⟩ | ⟨b243_e0, h⟩
    · refine At.step hm ht ⟨[], [true], [], [0, 7, 9, 10, 13, 14, 15, 33, 34, 35], [0]⟩ 10 ⟨[(0, .one (.c (.d (.sl (.int .u8) b)))), (7, .one (.c (.own 0 (.int .u64) out))), (9, .one (.c (.d (.int .i64 n_)))), (10, .one (.c (.d (.int .u64 x)))), (13, .one (.c (.d (.sl (.int .i64) t13)))), (14, .one (.c (.d (.int .i64 t14)))), (15, .one (.c (.d (.int .i64 t15)))), (33, .one (.c (.d (.sl (.int .u8) t33)))), (34, .one (.c (.d (.int .i64 t34)))), (35, .one (.c (.d (.int .i64 t35))))], [(0, some ⟨36, 0⟩)], [], 1⟩ [(decide ((t35 : Int) < t34)) = true] (by kernel_rfl) ⟨b243_e0, trivial⟩ ?_
      obtain ⟨g244_0, h⟩ := ifS h
      refine At.step hm ht ⟨[], [], [], [0, 7, 9, 10, 12, 13, 14, 15, 33, 34, 35], [0]⟩ 11 ⟨[(0, .one (.c (.d (.sl (.int .u8) b)))), (7, .one (.c (.own 0 (.int .u64) out))), (9, .one (.c (.d (.int .i64 n_)))), (10, .one (.c (.d (.int .u64 x)))), (12, .one (.c (.d (.int .u8 (t33.getD t35.toNat 0))))), (13, .one (.c (.d (.sl (.int .i64) t13)))), (14, .one (.c (.d (.int .i64 t14)))), (15, .one (.c (.d (.int .i64 t15)))), (33, .one (.c (.d (.sl (.int .u8) t33)))), (34, .one (.c (.d (.int .i64 t34)))), (35, .one (.c (.d (.int .i64 t35))))], [(0, some ⟨36, 0⟩)], [], 1⟩ [(0 : Int) ≤ t35 ∧ t35 < (((t33).length : Nat) : Int)] (by kernel_rfl) ⟨g244_0, trivial⟩ ?_
      refine At.step hm ht ⟨[], [], [], [0, 7, 9, 10, 13, 14, 15, 33, 34, 35], [0]⟩ 12 ⟨[(0, .one (.c (.d (.sl (.int .u8) b)))), (7, .one (.c (.own 0 (.int .u64) out))), (9, .one (.c (.d (.int .i64 n_)))), (10, .one (.c (.d (.int .u64 (bits .or .u64 (IntKind.wrap .u64 (x * 2 ^ 8)) (IntKind.wrap .u64 (t33.getD t35.toNat 0))))))), (13, .one (.c (.d (.sl (.int .i64) t13)))), (14, .one (.c (.d (.int .i64 t14)))), (15, .one (.c (.d (.int .i64 t15)))), (33, .one (.c (.d (.sl (.int .u8) t33)))), (34, .one (.c (.d (.int .i64 t34)))), (35, .one (.c (.d (.int .i64 t35))))], [(0, some ⟨36, 0⟩)], [], 1⟩ [(0 : Int) ≤ 8] (by kernel_rfl) ⟨(by decide), trivial⟩ ?_
      refine At.step hm ht ⟨[], [], [], [0, 7, 9, 10, 13, 14, 15, 33, 34, 35], [0]⟩ 9 ⟨[(0, .one (.c (.d (.sl (.int .u8) b)))), (7, .one (.c (.own 0 (.int .u64) out))), (9, .one (.c (.d (.int .i64 n_)))), (10, .one (.c (.d (.int .u64 (bits .or .u64 (IntKind.wrap .u64 (x * 2 ^ 8)) (IntKind.wrap .u64 (t33.getD t35.toNat 0))))))), (13, .one (.c (.d (.sl (.int .i64) t13)))), (14, .one (.c (.d (.int .i64 t14)))), (15, .one (.c (.d (.int .i64 t15)))), (33, .one (.c (.d (.sl (.int .u8) t33)))), (34, .one (.c (.d (.int .i64 t34)))), (35, .one (.c (.d (.int .i64 (IntKind.wrap .i64 (t35 + 1))))))], [(0, some ⟨36, 0⟩)], [], 1⟩ [] (by kernel_rfl) trivial ?_
      exact ih b out n_ (bits .or .u64 (IntKind.wrap .u64 (x * 2 ^ 8)) (IntKind.wrap .u64 (t33.getD t35.toNat 0))) t13 t14 t15 t33 t34 (IntKind.wrap .i64 (t35 + 1)) w h o hk
    · refine At.step hm ht ⟨[], [false], [], [0, 7, 9, 10, 13, 14, 15], [0]⟩ 13 ⟨[(0, .one (.c (.d (.sl (.int .u8) b)))), (7, .one (.c (.own 0 (.int .u64) out))), (9, .one (.c (.d (.int .i64 n_)))), (10, .one (.c (.d (.int .u64 x)))), (13, .one (.c (.d (.sl (.int .i64) t13)))), (14, .one (.c (.d (.int .i64 t14)))), (15, .one (.c (.d (.int .i64 t15))))], [(0, some ⟨36, 0⟩)], [], 1⟩ [(decide ((t35 : Int) < t34)) = false] (by kernel_rfl) ⟨b243_e0, trivial⟩ ?_
      have h := Option.some.inj h
      subst h
      exact hk
def f83_pack_Get_L3 : Nat → (List Int) → (List Int) → (List Int) → Int → Int → Option ((List Int × List Int × Bool) ⊕ (List Int × List Int))
  | 0, _, _, _, _, _ => none
  | n + 1, b, out, t13, t14, t15 =>
    if (decide ((t15 : Int) < t14)) = true then
      if (0 : Int) ≤ t15 ∧ t15 < (((t13).length : Nat) : Int) then
      if (decide (((t13.getD t15.toNat 0) : Int) < 1)) = true then
        some (.inl ([], [], false))
      else
        if (decide (((t13.getD t15.toNat 0) : Int) > 8)) = true then
          some (.inl ([], [], false))
        else
          if (decide (((t13.getD t15.toNat 0) : Int) > ((b.length : Nat) : Int))) = true then
            some (.inl ([], [], false))
          else
            if cutOk b.length none (some (t13.getD t15.toNat 0)) none then
            (f83_pack_Get_L9 n b out (t13.getD t15.toNat 0) 0 t13 t14 t15 (b.take (t13.getD t15.toNat 0).toNat) (((b.take (t13.getD t15.toNat 0).toNat).length : Nat) : Int) 0).bind fun w247 =>
            if w247.2.1.length + [w247.2.2.2.1].length ≤ maxLen ∧ (w247.2.1.length + [w247.2.2.2.1].length) * 8 ≤ 140737488355328 then
            if cutOk w247.1.length (some w247.2.2.1) none none then
            f83_pack_Get_L3 n ((w247.1.take w247.1.length).drop w247.2.2.1.toNat) (w247.2.1 ++ [w247.2.2.2.1]) w247.2.2.2.2.1 w247.2.2.2.2.2.1 (IntKind.wrap .i64 (w247.2.2.2.2.2.2 + 1))
            else none
            else none
            else none
      else none
    else
      some (.inr ((b, out)))
def f83_pack_Get_L3_k (w : (List Int × List Int × Bool) ⊕ (List Int × List Int)) (o : Out) : Prop := match w with
  | .inl e => o = f83_pack_Get_out e
  | .inr e => At Go.Proofs.Try.prog Go.Proofs.Try.f83 0 16 ⟨[(0, .one (.c (.d (.sl (.int .u8) e.1)))), (7, .one (.c (.own 0 (.int .u64) e.2)))], [(0, some ⟨36, 0⟩)], [], 1⟩ o
theorem f83_pack_Get_L3_ok (n : Nat) : ∀ (b : List Int) (out : List Int) (t13 : List Int) (t14 : Int) (t15 : Int) (w : (List Int × List Int × Bool) ⊕ (List Int × List Int)) (h : f83_pack_Get_L3 n b out t13 t14 t15 = some w) (o : Out) (hk : f83_pack_Get_L3_k w o), At Go.Proofs.Try.prog Go.Proofs.Try.f83 0 3 ⟨[(0, .one (.c (.d (.sl (.int .u8) b)))), (7, .one (.c (.own 0 (.int .u64) out))), (13, .one (.c (.d (.sl (.int .i64) t13)))), (14, .one (.c (.d (.int .i64 t14)))), (15, .one (.c (.d (.int .i64 t15))))], [(0, some ⟨36, 0⟩)], [], 1⟩ o := by
  induction n with
  | zero => intro b out t13 t14 t15 w h; rw [f83_pack_Get_L3] at h; cases h
  | succ n ih =>
    intro b out t13 t14 t15 w h o hk
    rw [f83_pack_Get_L3] at h
    rcases iteS h with ⟨b235_e0, h⟩ | ⟨b235_e0, h⟩
    · refine At.step hm ht ⟨[], [true], [], [0, 7, 13, 14, 15], [0]⟩ 4 ⟨[(0, .one (.c (.d (.sl (.int .u8) b)))), (7, .one (.c (.own 0 (.int .u64) out))), (13, .one (.c (.d (.sl (.int .i64) t13)))), (14, .one (.c (.d (.int .i64 t14)))), (15, .one (.c (.d (.int .i64 t15))))], [(0, some ⟨36, 0⟩)], [], 1⟩ [(decide ((t15 : Int) < t14)) = true] (by kernel_rfl) ⟨b235_e0, trivial⟩ ?_
      obtain ⟨g236_0, h⟩ := ifS h
      refine At.step hm ht ⟨[], [], [], [0, 7, 9, 13, 14, 15], [0]⟩ 5 ⟨[(0, .one (.c (.d (.sl (.int .u8) b)))), (7, .one (.c (.own 0 (.int .u64) out))), (9, .one (.c (.d (.int .i64 (t13.getD t15.toNat 0))))), (13, .one (.c (.d (.sl (.int .i64) t13)))), (14, .one (.c (.d (.int .i64 t14)))), (15, .one (.c (.d (.int .i64 t15))))], [(0, some ⟨36, 0⟩)], [], 1⟩ [(0 : Int) ≤ t15 ∧ t15 < (((t13).length : Nat) : Int)] (by kernel_rfl) ⟨g236_0, trivial⟩ ?_
      rcases iteS h with ⟨b237_2, h⟩ | ⟨b237_2, h⟩
      · refine At.step hm ht ⟨[(2, .b true)], [true], [], [], []⟩ 6 ⟨[], [], [], 0⟩ [(decide (((t13.getD t15.toNat 0) : Int) < 1)) = true, true = true] (by kernel_rfl) ⟨b237_2, rfl, trivial⟩ ?_
        have h := Option.some.inj h
        subst h
        have hk : o = f83_pack_Get_out ([], [], false) := hk
        subst hk
        exact At.fin hm ht ⟨[], [], [.nil false 4 0 (.int .u64) (some 36), .nil false 5 0 (.int .u8) (some 5)], [4, 5, 6], [3, 4]⟩ [] (by kernel_rfl) trivial
      · rcases iteS h with ⟨b237_6, h⟩ | ⟨b237_6, h⟩
        · refine At.step hm ht ⟨[(2, .b false), (6, .b true)], [true], [], [], []⟩ 6 ⟨[], [], [], 0⟩ [(decide (((t13.getD t15.toNat 0) : Int) < 1)) = false, (decide (((t13.getD t15.toNat 0) : Int) > 8)) = true, true = true] (by kernel_rfl) ⟨b237_2, b237_6, rfl, trivial⟩ ?_
          have h := Option.some.inj h
          subst h
          have hk : o = f83_pack_Get_out ([], [], false) := hk
          subst hk
          exact At.fin hm ht ⟨[], [], [.nil false 4 0 (.int .u64) (some 36), .nil false 5 0 (.int .u8) (some 5)], [4, 5, 6], [3, 4]⟩ [] (by kernel_rfl) trivial
        · rcases iteS h with ⟨b237_e0, h⟩ | ⟨b237_e0, h⟩
          · refine At.step hm ht ⟨[(2, .b false), (6, .b false)], [true], [], [], []⟩ 6 ⟨[], [], [], 0⟩ [(decide (((t13.getD t15.toNat 0) : Int) < 1)) = false, (decide (((t13.getD t15.toNat 0) : Int) > 8)) = false, (decide (((t13.getD t15.toNat 0) : Int) > ((b.length : Nat) : Int))) = true] (by kernel_rfl) ⟨b237_2, b237_6, b237_e0, trivial⟩ ?_
            have h := Option.some.inj h
            subst h
            have hk : o = f83_pack_Get_out ([], [], false) := hk
            subst hk
            exact At.fin hm ht ⟨[], [], [.nil false 4 0 (.int .u64) (some 36), .nil false 5 0 (.int .u8) (some 5)], [4, 5, 6], [3, 4]⟩ [] (by kernel_rfl) trivial
          · refine At.step hm ht ⟨[(2, .b false), (6, .b false)], [false], [], [0, 7, 9, 13, 14, 15], [0]⟩ 7 ⟨[(0, .one (.c (.d (.sl (.int .u8) b)))), (7, .one (.c (.own 0 (.int .u64) out))), (9, .one (.c (.d (.int .i64 (t13.getD t15.toNat 0))))), (13, .one (.c (.d (.sl (.int .i64) t13)))), (14, .one (.c (.d (.int .i64 t14)))), (15, .one (.c (.d (.int .i64 t15))))], [(0, some ⟨36, 0⟩)], [], 1⟩ [(decide (((t13.getD t15.toNat 0) : Int) < 1)) = false, (decide (((t13.getD t15.toNat 0) : Int) > 8)) = false, (decide (((t13.getD t15.toNat 0) : Int) > ((b.length : Nat) : Int))) = false] (by kernel_rfl) ⟨b237_2, b237_6, b237_e0, trivial⟩ ?_
            refine At.step hm ht ⟨[], [], [], [0, 7, 9, 10, 13, 14, 15], [0]⟩ 8 ⟨[(0, .one (.c (.d (.sl (.int .u8) b)))), (7, .one (.c (.own 0 (.int .u64) out))), (9, .one (.c (.d (.int .i64 (t13.getD t15.toNat 0))))), (10, .one (.c (.d (.int .u64 0)))), (13, .one (.c (.d (.sl (.int .i64) t13)))), (14, .one (.c (.d (.int .i64 t14)))), (15, .one (.c (.d (.int .i64 t15))))], [(0, some ⟨36, 0⟩)], [], 1⟩ [] (by kernel_rfl) trivial ?_
            obtain ⟨g242_0, h⟩ := ifS h
            refine At.step hm ht ⟨[], [], [], [0, 7, 9, 10, 13, 14, 15, 33, 34, 35], [0]⟩ 9 ⟨[(0, .one (.c (.d (.sl (.int .u8) b)))), (7, .one (.c (.own 0 (.int .u64) out))), (9, .one (.c (.d (.int .i64 (t13.getD t15.toNat 0))))), (10, .one (.c (.d (.int .u64 0)))), (13, .one (.c (.d (.sl (.int .i64) t13)))), (14, .one (.c (.d (.int .i64 t14)))), (15, .one (.c (.d (.int .i64 t15)))), (33, .one (.c (.d (.sl (.int .u8) (b.take (t13.getD t15.toNat 0).toNat))))), (34, .one (.c (.d (.int .i64 (((b.take (t13.getD t15.toNat 0).toNat).length : Nat) : Int))))), (35, .one (.c (.d (.int .i64 0))))], [(0, some ⟨36, 0⟩)], [], 1⟩ [cutOk b.length none (some (t13.getD t15.toNat 0)) none] (by kernel_rfl) ⟨g242_0, trivial⟩ ?_
            obtain ⟨w247, cw247, h⟩ := bindS h
            refine f83_pack_Get_L9_ok n b out (t13.getD t15.toNat 0) 0 t13 t14 t15 (b.take (t13.getD t15.toNat 0).toNat) (((b.take (t13.getD t15.toNat 0).toNat).length : Nat) : Int) 0 w247 cw247 _ ?_
            show At Go.Proofs.Try.prog Go.Proofs.Try.f83 0 13 ⟨[(0, .one (.c (.d (.sl (.int .u8) w247.1)))), (7, .one (.c (.own 0 (.int .u64) w247.2.1))), (9, .one (.c (.d (.int .i64 w247.2.2.1)))), (10, .one (.c (.d (.int .u64 w247.2.2.2.1)))), (13, .one (.c (.d (.sl (.int .i64) w247.2.2.2.2.1)))), (14, .one (.c (.d (.int .i64 w247.2.2.2.2.2.1)))), (15, .one (.c (.d (.int .i64 w247.2.2.2.2.2.2))))], [(0, some ⟨36, 0⟩)], [], 1⟩ _
            obtain ⟨g249_0, h⟩ := ifS h
            refine At.step hm ht ⟨[], [], [], [0, 7, 9, 13, 14, 15], [4]⟩ 14 ⟨[(0, .one (.c (.d (.sl (.int .u8) w247.1)))), (7, .one (.c (.own 0 (.int .u64) (w247.2.1 ++ [w247.2.2.2.1])))), (9, .one (.c (.d (.int .i64 w247.2.2.1)))), (13, .one (.c (.d (.sl (.int .i64) w247.2.2.2.2.1)))), (14, .one (.c (.d (.int .i64 w247.2.2.2.2.2.1)))), (15, .one (.c (.d (.int .i64 w247.2.2.2.2.2.2))))], [(0, some ⟨36, 0⟩)], [], 1⟩ [w247.2.1.length + [w247.2.2.2.1].length ≤ maxLen ∧ (w247.2.1.length + [w247.2.2.2.1].length) * 8 ≤ 140737488355328] (by kernel_rfl) ⟨g249_0, trivial⟩ ?_
            obtain ⟨g250_0, h⟩ := ifS h
            refine At.step hm ht ⟨[], [], [], [0, 7, 13, 14, 15], [0]⟩ 15 ⟨[(0, .one (.c (.d (.sl (.int .u8) ((w247.1.take w247.1.length).drop w247.2.2.1.toNat))))), (7, .one (.c (.own 0 (.int .u64) (w247.2.1 ++ [w247.2.2.2.1])))), (13, .one (.c (.d (.sl (.int .i64) w247.2.2.2.2.1)))), (14, .one (.c (.d (.int .i64 w247.2.2.2.2.2.1)))), (15, .one (.c (.d (.int .i64 w247.2.2.2.2.2.2))))], [(0, some ⟨36, 0⟩)], [], 1⟩ [cutOk w247.1.length (some w247.2.2.1) none none] (by kernel_rfl) ⟨g250_0, trivial⟩ ?_
            refine At.step hm ht ⟨[], [], [], [0, 7, 13, 14, 15], [0]⟩ 3 ⟨[(0, .one (.c (.d (.sl (.int .u8) ((w247.1.take w247.1.length).drop w247.2.2.1.toNat))))), (7, .one (.c (.own 0 (.int .u64) (w247.2.1 ++ [w247.2.2.2.1])))), (13, .one (.c (.d (.sl (.int .i64) w247.2.2.2.2.1)))), (14, .one (.c (.d (.int .i64 w247.2.2.2.2.2.1)))), (15, .one (.c (.d (.int .i64 (IntKind.wrap .i64 (w247.2.2.2.2.2.2 + 1))))))], [(0, some ⟨36, 0⟩)], [], 1⟩ [] (by kernel_rfl) trivial ?_
            exact ih ((w247.1.take w247.1.length).drop w247.2.2.1.toNat) (w247.2.1 ++ [w247.2.2.2.1]) w247.2.2.2.2.1 w247.2.2.2.2.2.1 (IntKind.wrap .i64 (w247.2.2.2.2.2.2 + 1)) w h o hk
    · refine At.step hm ht ⟨[], [false], [], [0, 7], [0]⟩ 16 ⟨[(0, .one (.c (.d (.sl (.int .u8) b)))), (7, .one (.c (.own 0 (.int .u64) out)))], [(0, some ⟨36, 0⟩)], [], 1⟩ [(decide ((t15 : Int) < t14)) = false] (by kernel_rfl) ⟨b235_e0, trivial⟩ ?_
      have h := Option.some.inj h
      subst h
      exact hk
def f83_pack_Get (n : Nat) (b : List Int) (sizes : List Int) : Option (List Int × List Int × Bool) :=
  (f83_pack_Get_L3 n b [] sizes ((sizes.length : Nat) : Int) 0).bind fun w252 =>
  match w252 with
  | .inl e253 =>
    some (e253.1, e253.2.1, e253.2.2)
  | .inr e254 =>
    if e254.1.length ≤ maxLen ∧ e254.1.length * 1 ≤ 140737488355328 then
    some (e254.2, e254.1, true)
    else none
theorem f83_pack_Get_ok (n : Nat) (b : List Int) (sizes : List Int) (r : List Int × List Int × Bool) (h : f83_pack_Get n b sizes = some r) : FnOK Go.Proofs.Try.prog 83 (f83_pack_Get_in b sizes) (f83_pack_Get_out r) := by
  unfold f83_pack_Get at h
  refine At.fn (r := 0) Go.Proofs.Try.func83 rfl (by kernel_rfl) rfl rfl (by kernel_rfl) ?_
  show At Go.Proofs.Try.prog Go.Proofs.Try.f83 0 0 ⟨[(0, .one (.c (.d (.sl (.int .u8) b)))), (1, .one (.c (.d (.sl (.int .i64) sizes))))], [], [], 0⟩ _
  refine At.step hm ht ⟨[], [], [], [0, 1], []⟩ 1 ⟨[(0, .one (.c (.d (.sl (.int .u8) b)))), (1, .one (.c (.d (.sl (.int .i64) sizes))))], [], [], 0⟩ [] (by kernel_rfl) trivial ?_
  refine At.step hm ht ⟨[], [], [], [0, 1, 7], []⟩ 2 ⟨[(0, .one (.c (.d (.sl (.int .u8) b)))), (1, .one (.c (.d (.sl (.int .i64) sizes)))), (7, .one (.c (.d (.sl .unit []))))], [], [], 0⟩ [] (by kernel_rfl) trivial ?_
  refine At.step hm ht ⟨[], [], [.nil false 7 0 (.int .u64) (some 36)], [0, 7, 13, 14, 15], [3]⟩ 3 ⟨[(0, .one (.c (.d (.sl (.int .u8) b)))), (7, .one (.c (.own 0 (.int .u64) []))), (13, .one (.c (.d (.sl (.int .i64) sizes)))), (14, .one (.c (.d (.int .i64 ((sizes.length : Nat) : Int))))), (15, .one (.c (.d (.int .i64 0))))], [(0, some ⟨36, 0⟩)], [], 1⟩ [] (by kernel_rfl) trivial ?_
  obtain ⟨w252, cw252, h⟩ := bindS h
  refine f83_pack_Get_L3_ok n b [] sizes ((sizes.length : Nat) : Int) 0 w252 cw252 _ ?_
  rcases w252 with e253 | e254
  · have h := Option.some.inj h
    subst h
    rfl
  · show At Go.Proofs.Try.prog Go.Proofs.Try.f83 0 16 ⟨[(0, .one (.c (.d (.sl (.int .u8) e254.1)))), (7, .one (.c (.own 0 (.int .u64) e254.2)))], [(0, some ⟨36, 0⟩)], [], 1⟩ _
    obtain ⟨g255_0, h⟩ := ifS h
    have h := Option.some.inj h
    subst h
    exact At.fin hm ht ⟨[], [], [], [4, 5, 6], [0, 3]⟩ [e254.1.length ≤ maxLen ∧ e254.1.length * 1 ≤ 140737488355328] (by kernel_rfl) ⟨g255_0, trivial⟩
/-! brougham/pack.All -/
def f81_pack_All_in (b : List Int) (sizes : List Int) : Inn := ⟨[.c (.d (.sl (.int .u8) b)), .c (.d (.sl (.int .i64) sizes))], [], [], 0⟩
def f81_pack_All_out (r : List Int × Bool) : Out := ⟨.tup [.c (.own 0 (.int .u64) r.1), .c (.d (.bool r.2))], [(0, ⟨36, 0⟩)], [], 1⟩
def f81_pack_All (n : Nat) (b : List Int) (sizes : List Int) : Option (List Int × Bool) :=
  (f83_pack_Get n b sizes).bind fun r261_0 =>
  if (!r261_0.2.2) = true then
    some ([], false)
  else
    if (decide ((((r261_0.2.1.length : Nat) : Int) : Int) > 0)) = true then
      some ([], false)
    else
      some (r261_0.1, true)
theorem f81_pack_All_ok (n : Nat) (b : List Int) (sizes : List Int) (r : List Int × Bool) (h : f81_pack_All n b sizes = some r) : FnOK Go.Proofs.Try.prog 81 (f81_pack_All_in b sizes) (f81_pack_All_out r) := by
  unfold f81_pack_All at h
  refine At.fn (r := 0) Go.Proofs.Try.func81 rfl (by kernel_rfl) rfl rfl (by kernel_rfl) ?_
  show At Go.Proofs.Try.prog Go.Proofs.Try.f81 0 0 ⟨[(0, .one (.c (.d (.sl (.int .u8) b)))), (1, .one (.c (.d (.sl (.int .i64) sizes))))], [], [], 0⟩ _
  refine At.step hm ht ⟨[], [], [], [0, 1], []⟩ 1 ⟨[(0, .one (.c (.d (.sl (.int .u8) b)))), (1, .one (.c (.d (.sl (.int .i64) sizes))))], [], [], 0⟩ [] (by kernel_rfl) trivial ?_
  obtain ⟨r261_0, cr261_0, h⟩ := bindS h
  refine At.step hm ht ⟨[(2, .call [] [] (f83_pack_Get_out r261_0))], [], [], [6, 7, 8], [2, 3]⟩ 2 ⟨[(6, .one (.c (.own 0 (.int .u64) r261_0.1))), (7, .one (.c (.own 1 (.int .u8) r261_0.2.1))), (8, .one (.c (.d (.bool r261_0.2.2))))], [(0, some ⟨36, 0⟩), (1, some ⟨5, 0⟩)], [], 2⟩ [FnOK Go.Proofs.Try.prog 83 (f83_pack_Get_in b sizes) (f83_pack_Get_out r261_0)] (by kernel_rfl) ⟨(f83_pack_Get_ok n b sizes r261_0 cr261_0), trivial⟩ ?_
  rcases iteS h with ⟨b262_2, h⟩ | ⟨b262_2, h⟩
  · refine At.step hm ht ⟨[(2, .b true)], [true], [], [], []⟩ 3 ⟨[], [], [], 0⟩ [(!r261_0.2.2) = true, true = true] (by kernel_rfl) ⟨b262_2, rfl, trivial⟩ ?_
    have h := Option.some.inj h
    subst h
    exact At.fin hm ht ⟨[], [], [.nil false 4 0 (.int .u64) (some 36)], [4, 5], [2]⟩ [] (by kernel_rfl) trivial
  · rcases iteS h with ⟨b262_e0, h⟩ | ⟨b262_e0, h⟩
    · refine At.step hm ht ⟨[(2, .b false)], [true], [], [], []⟩ 3 ⟨[], [], [], 0⟩ [(!r261_0.2.2) = false, (decide ((((r261_0.2.1.length : Nat) : Int) : Int) > 0)) = true] (by kernel_rfl) ⟨b262_2, b262_e0, trivial⟩ ?_
      have h := Option.some.inj h
      subst h
      exact At.fin hm ht ⟨[], [], [.nil false 4 0 (.int .u64) (some 36)], [4, 5], [2]⟩ [] (by kernel_rfl) trivial
    · refine At.step hm ht ⟨[(2, .b false)], [false], [], [6], [0]⟩ 4 ⟨[(6, .one (.c (.own 0 (.int .u64) r261_0.1)))], [(0, some ⟨36, 0⟩)], [], 1⟩ [(!r261_0.2.2) = false, (decide ((((r261_0.2.1.length : Nat) : Int) : Int) > 0)) = false] (by kernel_rfl) ⟨b262_2, b262_e0, trivial⟩ ?_
      have h := Option.some.inj h
      subst h
      exact At.fin hm ht ⟨[], [], [], [4, 5], [0]⟩ [] (by kernel_rfl) trivial
/-! brougham/opt.ParseData -/
def f36_opt_ParseData_in (o__0 : Int) (o__1 : List Int) : Inn := ⟨[.agg [.d (.int .u8 o__0), .d (.sl (.int .u8) o__1)]], [], [], 0⟩
def f36_opt_ParseData_out (r : Bool × Bool × Bool × Int × Int × Int × Int) : Out := ⟨.tup [.agg [.d (.bool r.2.1), .d (.bool r.2.2.1), .d (.int .u64 r.2.2.2.1), .d (.int .u64 r.2.2.2.2.1), .d (.int .u32 r.2.2.2.2.2.1), .d (.int .u64 r.2.2.2.2.2.2)], .c (.d (.bool r.1))], [], [(0, [.d (.bool r.2.1), .d (.bool r.2.2.1), .d (.int .u64 r.2.2.2.1), .d (.int .u64 r.2.2.2.2.1), .d (.int .u32 r.2.2.2.2.2.1), .d (.int .u64 r.2.2.2.2.2.2)])], 1⟩
def f36_opt_ParseData (n : Nat) (o__0 : Int) (o__1 : List Int) : Option (Bool × Bool × Bool × Int × Int × Int × Int) :=
  (f81_pack_All n o__1 [1, 8, 8, 4, 8]).bind fun r174_0 =>
  if ((o__0 : Int) != 3) = true then
    some (false, false, false, 0, 0, 0, 0)
  else
    if (!r174_0.2) = true then
      some (false, false, false, 0, 0, 0, 0)
    else
      if (0 : Int) ≤ 0 ∧ 0 < (((r174_0.1).length : Nat) : Int) then
      if (decide (((r174_0.1.getD 0 0) : Int) > 3)) = true then
        some (false, false, false, 0, 0, 0, 0)
      else
        if (0 : Int) ≤ 0 ∧ 0 < (((r174_0.1).length : Nat) : Int) then
        if (0 : Int) ≤ 0 ∧ 0 < (((r174_0.1).length : Nat) : Int) then
        if (0 : Int) ≤ 1 ∧ 1 < (((r174_0.1).length : Nat) : Int) then
        if (0 : Int) ≤ 2 ∧ 2 < (((r174_0.1).length : Nat) : Int) then
        if (0 : Int) ≤ 3 ∧ 3 < (((r174_0.1).length : Nat) : Int) then
        if (0 : Int) ≤ 4 ∧ 4 < (((r174_0.1).length : Nat) : Int) then
        some (true, (((bits .and .u64 (r174_0.1.getD 0 0) 1) : Int) == 1), (((bits .and .u64 (r174_0.1.getD 0 0) 2) : Int) == 2), (r174_0.1.getD 1 0), (r174_0.1.getD 2 0), (IntKind.wrap .u32 (r174_0.1.getD 3 0)), (r174_0.1.getD 4 0))
        else none
        else none
        else none
        else none
        else none
        else none
      else none
theorem f36_opt_ParseData_ok (n : Nat) (o__0 : Int) (o__1 : List Int) (r : Bool × Bool × Bool × Int × Int × Int × Int) (h : f36_opt_ParseData n o__0 o__1 = some r) : FnOK Go.Proofs.Try.prog 36 (f36_opt_ParseData_in o__0 o__1) (f36_opt_ParseData_out r) := by
  unfold f36_opt_ParseData at h
  refine At.fn (r := 0) Go.Proofs.Try.func36 rfl (by kernel_rfl) rfl rfl (by kernel_rfl) ?_
  show At Go.Proofs.Try.prog Go.Proofs.Try.f36 0 0 ⟨[(0, .one (.agg [.d (.int .u8 o__0), .d (.sl (.int .u8) o__1)]))], [], [], 0⟩ _
  refine At.step hm ht ⟨[], [], [], [1, 2], [0, 1]⟩ 1 ⟨[(1, .one (.c (.ptr 0 0))), (2, .one (.c (.ptr 1 0)))], [], [(0, [.d (.int .u8 o__0), .d (.sl (.int .u8) o__1)]), (1, [.d (.bool false), .d (.bool false), .d (.int .u64 0), .d (.int .u64 0), .d (.int .u32 0), .d (.int .u64 0)])], 2⟩ [] (by kernel_rfl) trivial ?_
  obtain ⟨r174_0, cr174_0, h⟩ := bindS h
  refine At.step hm ht ⟨[(3, .call [] [] (f81_pack_All_out r174_0))], [], [], [1, 2, 4, 5], [0, 1, 5]⟩ 2 ⟨[(1, .one (.c (.ptr 0 0))), (2, .one (.c (.ptr 1 0))), (4, .one (.c (.own 2 (.int .u64) r174_0.1))), (5, .one (.c (.d (.bool r174_0.2))))], [(2, some ⟨36, 0⟩)], [(0, [.d (.int .u8 o__0), .d (.sl (.int .u8) o__1)]), (1, [.d (.bool false), .d (.bool false), .d (.int .u64 0), .d (.int .u64 0), .d (.int .u32 0), .d (.int .u64 0)])], 3⟩ [FnOK Go.Proofs.Try.prog 81 (f81_pack_All_in o__1 [1, 8, 8, 4, 8]) (f81_pack_All_out r174_0)] (by kernel_rfl) ⟨(f81_pack_All_ok n o__1 [1, 8, 8, 4, 8] r174_0 cr174_0), trivial⟩ ?_
  rcases iteS h with ⟨b266_3, h⟩ | ⟨b266_3, h⟩
  · refine At.step hm ht ⟨[(3, .b true)], [true], [], [2], [1]⟩ 3 ⟨[(2, .one (.c (.ptr 0 0)))], [], [(0, [.d (.bool false), .d (.bool false), .d (.int .u64 0), .d (.int .u64 0), .d (.int .u32 0), .d (.int .u64 0)])], 1⟩ [((o__0 : Int) != 3) = true, true = true] (by kernel_rfl) ⟨b266_3, rfl, trivial⟩ ?_
    have h := Option.some.inj h
    subst h
    exact At.fin hm ht ⟨[], [], [], [2, 3], [0]⟩ [0 + 6 ≤ 6] (by kernel_rfl) ⟨(by decide), trivial⟩
  · rcases iteS h with ⟨b266_7, h⟩ | ⟨b266_7, h⟩
    · refine At.step hm ht ⟨[(3, .b false), (7, .b true)], [true], [], [2], [1]⟩ 3 ⟨[(2, .one (.c (.ptr 0 0)))], [], [(0, [.d (.bool false), .d (.bool false), .d (.int .u64 0), .d (.int .u64 0), .d (.int .u32 0), .d (.int .u64 0)])], 1⟩ [((o__0 : Int) != 3) = false, (!r174_0.2) = true, true = true] (by kernel_rfl) ⟨b266_3, b266_7, rfl, trivial⟩ ?_
      have h := Option.some.inj h
      subst h
      exact At.fin hm ht ⟨[], [], [], [2, 3], [0]⟩ [0 + 6 ≤ 6] (by kernel_rfl) ⟨(by decide), trivial⟩
    · obtain ⟨g266_0, h⟩ := ifS h
      rcases iteS h with ⟨b266_e0, h⟩ | ⟨b266_e0, h⟩
      · refine At.step hm ht ⟨[(3, .b false), (7, .b false)], [true], [], [2], [1]⟩ 3 ⟨[(2, .one (.c (.ptr 0 0)))], [], [(0, [.d (.bool false), .d (.bool false), .d (.int .u64 0), .d (.int .u64 0), .d (.int .u32 0), .d (.int .u64 0)])], 1⟩ [((o__0 : Int) != 3) = false, (!r174_0.2) = false, (0 : Int) ≤ 0 ∧ 0 < (((r174_0.1).length : Nat) : Int), (decide (((r174_0.1.getD 0 0) : Int) > 3)) = true] (by kernel_rfl) ⟨b266_3, b266_7, g266_0, b266_e0, trivial⟩ ?_
        have h := Option.some.inj h
        subst h
        exact At.fin hm ht ⟨[], [], [], [2, 3], [0]⟩ [0 + 6 ≤ 6] (by kernel_rfl) ⟨(by decide), trivial⟩
      · refine At.step hm ht ⟨[(3, .b false), (7, .b false)], [false], [], [2, 4], [1, 2]⟩ 4 ⟨[(2, .one (.c (.ptr 0 0))), (4, .one (.c (.own 1 (.int .u64) r174_0.1)))], [(1, some ⟨36, 0⟩)], [(0, [.d (.bool false), .d (.bool false), .d (.int .u64 0), .d (.int .u64 0), .d (.int .u32 0), .d (.int .u64 0)])], 2⟩ [((o__0 : Int) != 3) = false, (!r174_0.2) = false, (0 : Int) ≤ 0 ∧ 0 < (((r174_0.1).length : Nat) : Int), (decide (((r174_0.1.getD 0 0) : Int) > 3)) = false] (by kernel_rfl) ⟨b266_3, b266_7, g266_0, b266_e0, trivial⟩ ?_
        obtain ⟨g270_0, h⟩ := ifS h
        obtain ⟨g270_1, h⟩ := ifS h
        obtain ⟨g270_2, h⟩ := ifS h
        obtain ⟨g270_3, h⟩ := ifS h
        obtain ⟨g270_4, h⟩ := ifS h
        obtain ⟨g270_5, h⟩ := ifS h
        have h := Option.some.inj h
        subst h
        exact At.fin hm ht ⟨[], [], [], [2, 3], [0]⟩ [(0 : Int) ≤ 0 ∧ 0 < (((r174_0.1).length : Nat) : Int), (0 : Int) ≤ 0 ∧ 0 < (((r174_0.1).length : Nat) : Int), (0 : Int) ≤ 1 ∧ 1 < (((r174_0.1).length : Nat) : Int), (0 : Int) ≤ 2 ∧ 2 < (((r174_0.1).length : Nat) : Int), (0 : Int) ≤ 3 ∧ 3 < (((r174_0.1).length : Nat) : Int), (0 : Int) ≤ 4 ∧ 4 < (((r174_0.1).length : Nat) : Int), 0 + 6 ≤ 6] (by kernel_rfl) ⟨g270_0, g270_1, g270_2, g270_3, g270_4, g270_5, (by decide), trivial⟩
/-! brougham/mac.Right -/
def f67_mac_Right_in (k_0 : Int) (k_1 : Int) (s_0 : Int) (s_1 : Int) (s_2 : Int) (s_3 : Int) (s_4 : Int) (s_5 : List (Int × List Int)) (s_6 : List Int) (o__0 : Int) (o__1 : List Int) (tag : Int) : Inn := ⟨[.agg [.d (.int .u64 k_0), .d (.int .u64 k_1)], .agg [.d (.int .u16 s_0), .d (.int .u16 s_1), .d (.int .u32 s_2), .d (.int .u32 s_3), .d (.int .u8 s_4), .d (.sl (.pair (.int .u8) (.slice (.int .u8))) s_5), .d (.sl (.int .u8) s_6)], .agg [.d (.int .u8 o__0), .d (.sl (.int .u8) o__1)], .c (.d (.int .u64 tag))], [], [], 0⟩
def f67_mac_Right_out (r : Bool) : Out := ⟨.one (.c (.d (.bool r))), [], [], 0⟩
def f67_mac_Right (n : Nat) (k_0 : Int) (k_1 : Int) (s_0 : Int) (s_1 : Int) (s_2 : Int) (s_3 : Int) (s_4 : Int) (s_5 : List (Int × List Int)) (s_6 : List Int) (o__0 : Int) (o__1 : List Int) (tag : Int) : Option (Bool) :=
  (f65_mac_Tag n k_0 k_1 s_0 s_1 s_2 s_3 s_4 s_5 s_6 o__0 o__1).bind fun r274_0 =>
  some ((r274_0 : Int) == tag)
theorem f67_mac_Right_ok (n : Nat) (k_0 : Int) (k_1 : Int) (s_0 : Int) (s_1 : Int) (s_2 : Int) (s_3 : Int) (s_4 : Int) (s_5 : List (Int × List Int)) (s_6 : List Int) (o__0 : Int) (o__1 : List Int) (tag : Int) (r : Bool) (h : f67_mac_Right n k_0 k_1 s_0 s_1 s_2 s_3 s_4 s_5 s_6 o__0 o__1 tag = some r) : FnOK Go.Proofs.Try.prog 67 (f67_mac_Right_in k_0 k_1 s_0 s_1 s_2 s_3 s_4 s_5 s_6 o__0 o__1 tag) (f67_mac_Right_out r) := by
  unfold f67_mac_Right at h
  refine At.fn (r := 0) Go.Proofs.Try.func67 rfl (by kernel_rfl) rfl rfl (by kernel_rfl) ?_
  show At Go.Proofs.Try.prog Go.Proofs.Try.f67 0 0 ⟨[(0, .one (.agg [.d (.int .u64 k_0), .d (.int .u64 k_1)])), (1, .one (.agg [.d (.int .u16 s_0), .d (.int .u16 s_1), .d (.int .u32 s_2), .d (.int .u32 s_3), .d (.int .u8 s_4), .d (.sl (.pair (.int .u8) (.slice (.int .u8))) s_5), .d (.sl (.int .u8) s_6)])), (2, .one (.agg [.d (.int .u8 o__0), .d (.sl (.int .u8) o__1)])), (3, .one (.c (.d (.int .u64 tag))))], [], [], 0⟩ _
  refine At.step hm ht ⟨[], [], [], [3, 4, 5, 6], [0, 1, 2]⟩ 1 ⟨[(3, .one (.c (.d (.int .u64 tag)))), (4, .one (.c (.ptr 0 0))), (5, .one (.c (.ptr 1 0))), (6, .one (.c (.ptr 2 0)))], [], [(0, [.d (.int .u64 k_0), .d (.int .u64 k_1)]), (1, [.d (.int .u16 s_0), .d (.int .u16 s_1), .d (.int .u32 s_2), .d (.int .u32 s_3), .d (.int .u8 s_4), .d (.sl (.pair (.int .u8) (.slice (.int .u8))) s_5), .d (.sl (.int .u8) s_6)]), (2, [.d (.int .u8 o__0), .d (.sl (.int .u8) o__1)])], 3⟩ [] (by kernel_rfl) trivial ?_
  obtain ⟨r274_0, cr274_0, h⟩ := bindS h
  have h := Option.some.inj h
  subst h
  exact At.fin hm ht ⟨[(3, .call [] [] (f65_mac_Tag_out r274_0))], [], [], [8], []⟩ [FnOK Go.Proofs.Try.prog 65 (f65_mac_Tag_in k_0 k_1 s_0 s_1 s_2 s_3 s_4 s_5 s_6 o__0 o__1) (f65_mac_Tag_out r274_0)] (by kernel_rfl) ⟨(f65_mac_Tag_ok n k_0 k_1 s_0 s_1 s_2 s_3 s_4 s_5 s_6 o__0 o__1 r274_0 cr274_0), trivial⟩
/-! brougham/mac.Open -/
def f58_mac_Open_in (k_0 : Int) (k_1 : Int) (s_0 : Int) (s_1 : Int) (s_2 : Int) (s_3 : Int) (s_4 : Int) (s_5 : List (Int × List Int)) (s_6 : List Int) : Inn := ⟨[.agg [.d (.int .u64 k_0), .d (.int .u64 k_1)], .agg [.d (.int .u16 s_0), .d (.int .u16 s_1), .d (.int .u32 s_2), .d (.int .u32 s_3), .d (.int .u8 s_4), .d (.sl (.pair (.int .u8) (.slice (.int .u8))) s_5), .d (.sl (.int .u8) s_6)]], [], [], 0⟩
def f58_mac_Open_out (r : Bool × Bool × Bool × Int × Int × Int × Int) : Out := ⟨.tup [.agg [.d (.bool r.2.1), .d (.bool r.2.2.1), .d (.int .u64 r.2.2.2.1), .d (.int .u64 r.2.2.2.2.1), .d (.int .u32 r.2.2.2.2.2.1), .d (.int .u64 r.2.2.2.2.2.2)], .c (.d (.bool r.1))], [], [(0, [.d (.bool r.2.1), .d (.bool r.2.2.1), .d (.int .u64 r.2.2.2.1), .d (.int .u64 r.2.2.2.2.1), .d (.int .u32 r.2.2.2.2.2.1), .d (.int .u64 r.2.2.2.2.2.2)])], 1⟩
def f58_mac_Open (n : Nat) (k_0 : Int) (k_1 : Int) (s_0 : Int) (s_1 : Int) (s_2 : Int) (s_3 : Int) (s_4 : Int) (s_5 : List (Int × List Int)) (s_6 : List Int) : Option (Bool × Bool × Bool × Int × Int × Int × Int) :=
  (f16_opt_One n s_0 s_1 s_2 s_3 s_4 s_5 s_6 3).bind fun r127_0 =>
  if (!r127_0.1) = true then
    some (false, false, false, 0, 0, 0, 0)
  else
    (f36_opt_ParseData n r127_0.2.1 r127_0.2.2).bind fun r172_0 =>
    if (!r172_0.1) = true then
      some (false, false, false, 0, 0, 0, 0)
    else
      (f67_mac_Right n k_0 k_1 s_0 s_1 s_2 s_3 s_4 s_5 s_6 r127_0.2.1 r127_0.2.2 r172_0.2.2.2.2.2.2).bind fun r271_0 =>
      if (!r271_0) = true then
        some (false, false, false, 0, 0, 0, 0)
      else
        some (true, r172_0.2.1, r172_0.2.2.1, r172_0.2.2.2.1, r172_0.2.2.2.2.1, r172_0.2.2.2.2.2.1, r172_0.2.2.2.2.2.2)
theorem f58_mac_Open_ok (n : Nat) (k_0 : Int) (k_1 : Int) (s_0 : Int) (s_1 : Int) (s_2 : Int) (s_3 : Int) (s_4 : Int) (s_5 : List (Int × List Int)) (s_6 : List Int) (r : Bool × Bool × Bool × Int × Int × Int × Int) (h : f58_mac_Open n k_0 k_1 s_0 s_1 s_2 s_3 s_4 s_5 s_6 = some r) : FnOK Go.Proofs.Try.prog 58 (f58_mac_Open_in k_0 k_1 s_0 s_1 s_2 s_3 s_4 s_5 s_6) (f58_mac_Open_out r) := by
  unfold f58_mac_Open at h
  refine At.fn (r := 0) Go.Proofs.Try.func58 rfl (by kernel_rfl) rfl rfl (by kernel_rfl) ?_
  show At Go.Proofs.Try.prog Go.Proofs.Try.f58 0 0 ⟨[(0, .one (.agg [.d (.int .u64 k_0), .d (.int .u64 k_1)])), (1, .one (.agg [.d (.int .u16 s_0), .d (.int .u16 s_1), .d (.int .u32 s_2), .d (.int .u32 s_3), .d (.int .u8 s_4), .d (.sl (.pair (.int .u8) (.slice (.int .u8))) s_5), .d (.sl (.int .u8) s_6)]))], [], [], 0⟩ _
  refine At.step hm ht ⟨[], [], [], [2, 3, 4], [0, 1, 2]⟩ 1 ⟨[(2, .one (.c (.ptr 0 0))), (3, .one (.c (.ptr 1 0))), (4, .one (.c (.ptr 2 0)))], [], [(0, [.d (.int .u64 k_0), .d (.int .u64 k_1)]), (1, [.d (.int .u16 s_0), .d (.int .u16 s_1), .d (.int .u32 s_2), .d (.int .u32 s_3), .d (.int .u8 s_4), .d (.sl (.pair (.int .u8) (.slice (.int .u8))) s_5), .d (.sl (.int .u8) s_6)]), (2, [.d (.bool false), .d (.bool false), .d (.int .u64 0), .d (.int .u64 0), .d (.int .u32 0), .d (.int .u64 0)])], 3⟩ [] (by kernel_rfl) trivial ?_
  obtain ⟨r127_0, cr127_0, h⟩ := bindS h
  refine At.step hm ht ⟨[(1, .call [] [] (f16_opt_One_out r127_0))], [], [], [2, 3, 4, 6, 7], [0, 1, 2, 8]⟩ 2 ⟨[(2, .one (.c (.ptr 0 0))), (3, .one (.c (.ptr 1 0))), (4, .one (.c (.ptr 2 0))), (6, .one (.c (.ptr 3 0))), (7, .one (.c (.d (.bool r127_0.1))))], [], [(0, [.d (.int .u64 k_0), .d (.int .u64 k_1)]), (1, [.d (.int .u16 s_0), .d (.int .u16 s_1), .d (.int .u32 s_2), .d (.int .u32 s_3), .d (.int .u8 s_4), .d (.sl (.pair (.int .u8) (.slice (.int .u8))) s_5), .d (.sl (.int .u8) s_6)]), (2, [.d (.bool false), .d (.bool false), .d (.int .u64 0), .d (.int .u64 0), .d (.int .u32 0), .d (.int .u64 0)]), (3, [.d (.int .u8 r127_0.2.1), .d (.sl (.int .u8) r127_0.2.2)])], 4⟩ [FnOK Go.Proofs.Try.prog 16 (f16_opt_One_in s_0 s_1 s_2 s_3 s_4 s_5 s_6 3) (f16_opt_One_out r127_0), 0 + 2 ≤ 2] (by kernel_rfl) ⟨(f16_opt_One_ok n s_0 s_1 s_2 s_3 s_4 s_5 s_6 3 r127_0 cr127_0), (by decide), trivial⟩ ?_
  rcases iteS h with ⟨b170_e0, h⟩ | ⟨b170_e0, h⟩
  · refine At.step hm ht ⟨[], [true], [], [4], [2]⟩ 3 ⟨[(4, .one (.c (.ptr 0 0)))], [], [(0, [.d (.bool false), .d (.bool false), .d (.int .u64 0), .d (.int .u64 0), .d (.int .u32 0), .d (.int .u64 0)])], 1⟩ [(!r127_0.1) = true] (by kernel_rfl) ⟨b170_e0, trivial⟩ ?_
    have h := Option.some.inj h
    subst h
    exact At.fin hm ht ⟨[], [], [], [4, 5], [0]⟩ [0 + 6 ≤ 6] (by kernel_rfl) ⟨(by decide), trivial⟩
  · refine At.step hm ht ⟨[], [false], [], [2, 3, 4, 6], [0, 1, 2, 3]⟩ 4 ⟨[(2, .one (.c (.ptr 0 0))), (3, .one (.c (.ptr 1 0))), (4, .one (.c (.ptr 2 0))), (6, .one (.c (.ptr 3 0)))], [], [(0, [.d (.int .u64 k_0), .d (.int .u64 k_1)]), (1, [.d (.int .u16 s_0), .d (.int .u16 s_1), .d (.int .u32 s_2), .d (.int .u32 s_3), .d (.int .u8 s_4), .d (.sl (.pair (.int .u8) (.slice (.int .u8))) s_5), .d (.sl (.int .u8) s_6)]), (2, [.d (.bool false), .d (.bool false), .d (.int .u64 0), .d (.int .u64 0), .d (.int .u32 0), .d (.int .u64 0)]), (3, [.d (.int .u8 r127_0.2.1), .d (.sl (.int .u8) r127_0.2.2)])], 4⟩ [(!r127_0.1) = false] (by kernel_rfl) ⟨b170_e0, trivial⟩ ?_
    obtain ⟨r172_0, cr172_0, h⟩ := bindS h
    refine At.step hm ht ⟨[(1, .call [] [] (f36_opt_ParseData_out r172_0))], [], [], [2, 3, 4, 6, 7, 8], [0, 1, 2, 3, 9]⟩ 5 ⟨[(2, .one (.c (.ptr 0 0))), (3, .one (.c (.ptr 1 0))), (4, .one (.c (.ptr 2 0))), (6, .one (.c (.ptr 3 0))), (7, .one (.c (.d (.bool r172_0.1)))), (8, .one (.c (.ptr 4 0)))], [], [(0, [.d (.int .u64 k_0), .d (.int .u64 k_1)]), (1, [.d (.int .u16 s_0), .d (.int .u16 s_1), .d (.int .u32 s_2), .d (.int .u32 s_3), .d (.int .u8 s_4), .d (.sl (.pair (.int .u8) (.slice (.int .u8))) s_5), .d (.sl (.int .u8) s_6)]), (2, [.d (.bool false), .d (.bool false), .d (.int .u64 0), .d (.int .u64 0), .d (.int .u32 0), .d (.int .u64 0)]), (3, [.d (.int .u8 r127_0.2.1), .d (.sl (.int .u8) r127_0.2.2)]), (4, [.d (.bool r172_0.2.1), .d (.bool r172_0.2.2.1), .d (.int .u64 r172_0.2.2.2.1), .d (.int .u64 r172_0.2.2.2.2.1), .d (.int .u32 r172_0.2.2.2.2.2.1), .d (.int .u64 r172_0.2.2.2.2.2.2)])], 5⟩ [FnOK Go.Proofs.Try.prog 36 (f36_opt_ParseData_in r127_0.2.1 r127_0.2.2) (f36_opt_ParseData_out r172_0), 0 + 6 ≤ 6] (by kernel_rfl) ⟨(f36_opt_ParseData_ok n r127_0.2.1 r127_0.2.2 r172_0 cr172_0), (by decide), trivial⟩ ?_
    rcases iteS h with ⟨b271_2, h⟩ | ⟨b271_2, h⟩
    · refine At.step hm ht ⟨[(2, .b true)], [true], [], [4], [2]⟩ 6 ⟨[(4, .one (.c (.ptr 0 0)))], [], [(0, [.d (.bool false), .d (.bool false), .d (.int .u64 0), .d (.int .u64 0), .d (.int .u32 0), .d (.int .u64 0)])], 1⟩ [(!r172_0.1) = true, true = true] (by kernel_rfl) ⟨b271_2, rfl, trivial⟩ ?_
      have h := Option.some.inj h
      subst h
      exact At.fin hm ht ⟨[], [], [], [4, 5], [0]⟩ [0 + 6 ≤ 6] (by kernel_rfl) ⟨(by decide), trivial⟩
    · obtain ⟨r271_0, cr271_0, h⟩ := bindS h
      rcases iteS h with ⟨b271_e0, h⟩ | ⟨b271_e0, h⟩
      · refine At.step hm ht ⟨[(2, .b false), (9, .call [] [] (f67_mac_Right_out r271_0))], [true], [], [4], [2]⟩ 6 ⟨[(4, .one (.c (.ptr 0 0)))], [], [(0, [.d (.bool false), .d (.bool false), .d (.int .u64 0), .d (.int .u64 0), .d (.int .u32 0), .d (.int .u64 0)])], 1⟩ [(!r172_0.1) = false, FnOK Go.Proofs.Try.prog 67 (f67_mac_Right_in k_0 k_1 s_0 s_1 s_2 s_3 s_4 s_5 s_6 r127_0.2.1 r127_0.2.2 r172_0.2.2.2.2.2.2) (f67_mac_Right_out r271_0), (!r271_0) = true] (by kernel_rfl) ⟨b271_2, (f67_mac_Right_ok n k_0 k_1 s_0 s_1 s_2 s_3 s_4 s_5 s_6 r127_0.2.1 r127_0.2.2 r172_0.2.2.2.2.2.2 r271_0 cr271_0), b271_e0, trivial⟩ ?_
        have h := Option.some.inj h
        subst h
        exact At.fin hm ht ⟨[], [], [], [4, 5], [0]⟩ [0 + 6 ≤ 6] (by kernel_rfl) ⟨(by decide), trivial⟩
      · refine At.step hm ht ⟨[(2, .b false), (9, .call [] [] (f67_mac_Right_out r271_0))], [false], [], [4, 8], [2, 4]⟩ 7 ⟨[(4, .one (.c (.ptr 0 0))), (8, .one (.c (.ptr 1 0)))], [], [(0, [.d (.bool false), .d (.bool false), .d (.int .u64 0), .d (.int .u64 0), .d (.int .u32 0), .d (.int .u64 0)]), (1, [.d (.bool r172_0.2.1), .d (.bool r172_0.2.2.1), .d (.int .u64 r172_0.2.2.2.1), .d (.int .u64 r172_0.2.2.2.2.1), .d (.int .u32 r172_0.2.2.2.2.2.1), .d (.int .u64 r172_0.2.2.2.2.2.2)])], 2⟩ [(!r172_0.1) = false, FnOK Go.Proofs.Try.prog 67 (f67_mac_Right_in k_0 k_1 s_0 s_1 s_2 s_3 s_4 s_5 s_6 r127_0.2.1 r127_0.2.2 r172_0.2.2.2.2.2.2) (f67_mac_Right_out r271_0), (!r271_0) = false] (by kernel_rfl) ⟨b271_2, (f67_mac_Right_ok n k_0 k_1 s_0 s_1 s_2 s_3 s_4 s_5 s_6 r127_0.2.1 r127_0.2.2 r172_0.2.2.2.2.2.2 r271_0 cr271_0), b271_e0, trivial⟩ ?_
        have h := Option.some.inj h
        subst h
        exact At.fin hm ht ⟨[], [], [], [4, 5], [0]⟩ [0 + 6 ≤ 6] (by kernel_rfl) ⟨(by decide), trivial⟩
/-! brougham/broughamlaw10.alive -/
def f57_broughamlaw10_alive_in : Inn := ⟨[], [], [], 0⟩
def f57_broughamlaw10_alive_out (r : Bool) : Out := ⟨.one (.c (.d (.bool r))), [], [], 0⟩
def f57_broughamlaw10_alive (n : Nat) : Option (Bool) :=
  (f63_mac_Data n 1 2 5 0 0 0 0 [] [120] false false 7 0 0 0).bind fun r49_0 =>
  (f55_seg_Of 5 0 0 0 0 [] [120] [r49_0]).bind fun r49_1 =>
  (f58_mac_Open n 1 2 r49_1.1 r49_1.2.1 r49_1.2.2.1 r49_1.2.2.2.1 r49_1.2.2.2.2.1 r49_1.2.2.2.2.2.1 r49_1.2.2.2.2.2.2).bind fun r49_2 =>
  (f63_mac_Data n 1 2 5 0 0 0 0 [] [120] false false 7 0 0 0).bind fun r277_0 =>
  (f55_seg_Of 5 0 0 0 0 [] [120] [r277_0]).bind fun r277_1 =>
  (f58_mac_Open n 1 3 r277_1.1 r277_1.2.1 r277_1.2.2.1 r277_1.2.2.2.1 r277_1.2.2.2.2.1 r277_1.2.2.2.2.2.1 r277_1.2.2.2.2.2.2).bind fun r277_2 =>
  if r49_2.1 = true then
    if ((r49_2.2.2.2.1 : Int) == 7) = true then
      some (!r277_2.1)
    else
      some false
  else
    some false
theorem f57_broughamlaw10_alive_ok (n : Nat) (r : Bool) (h : f57_broughamlaw10_alive n = some r) : FnOK Go.Proofs.Try.prog 57 (f57_broughamlaw10_alive_in) (f57_broughamlaw10_alive_out r) := by
  unfold f57_broughamlaw10_alive at h
  refine At.fn (r := 0) Go.Proofs.Try.func57 rfl (by kernel_rfl) rfl rfl (by kernel_rfl) ?_
  show At Go.Proofs.Try.prog Go.Proofs.Try.f57 0 0 ⟨[], [], [], 0⟩ _
  refine At.step hm ht ⟨[], [], [], [], []⟩ 1 ⟨[], [], [], 0⟩ [] (by kernel_rfl) trivial ?_
  refine At.step hm ht ⟨[], [], [], [1], [1]⟩ 2 ⟨[(1, .one (.c (.ptr 0 0)))], [], [(0, [.d (.int .u64 1), .d (.int .u64 2)])], 1⟩ [0 + 2 ≤ 2] (by kernel_rfl) ⟨(by decide), trivial⟩ ?_
  refine At.step hm ht ⟨[], [], [], [1, 2], [0, 4, 2]⟩ 3 ⟨[(1, .one (.c (.ptr 0 0))), (2, .one (.c (.ptr 1 0)))], [(2, some ⟨5, 1⟩)], [(0, [.d (.int .u64 1), .d (.int .u64 2)]), (1, [.d (.int .u16 5), .d (.int .u16 0), .d (.int .u32 0), .d (.int .u32 0), .d (.int .u8 0), .d (.sl .unit []), .own 2 (.int .u8) ([120] : List Int)])], 3⟩ [0 + 7 ≤ 7] (by kernel_rfl) ⟨(by decide), trivial⟩ ?_
  obtain ⟨r49_0, cr49_0, h⟩ := bindS h
  obtain ⟨r49_1, cr49_1, h⟩ := bindS h
  obtain ⟨r49_2, cr49_2, h⟩ := bindS h
  refine At.step hm ht ⟨[(5, .call [] [(1, 5, (.pair (.int .u8) (.slice (.int .u8))))] (f63_mac_Data_out r49_0)), (7, .call [] [(0, 5, (.pair (.int .u8) (.slice (.int .u8))))] (f55_seg_Of_out r49_1)), (8, .call [] [] (f58_mac_Open_out r49_2))], [], [], [1, 2, 3, 4], [0, 1, 17, 2]⟩ 4 ⟨[(1, .one (.c (.ptr 0 0))), (2, .one (.c (.ptr 1 0))), (3, .one (.c (.ptr 2 0))), (4, .one (.c (.d (.bool r49_2.1))))], [(3, some ⟨5, 1⟩)], [(0, [.d (.int .u64 1), .d (.int .u64 2)]), (1, [.d (.int .u16 5), .d (.int .u16 0), .d (.int .u32 0), .d (.int .u32 0), .d (.int .u8 0), .d (.sl .unit []), .own 3 (.int .u8) ([120] : List Int)]), (2, [.d (.bool r49_2.2.1), .d (.bool r49_2.2.2.1), .d (.int .u64 r49_2.2.2.2.1), .d (.int .u64 r49_2.2.2.2.2.1), .d (.int .u32 r49_2.2.2.2.2.2.1), .d (.int .u64 r49_2.2.2.2.2.2.2)])], 4⟩ [FnOK Go.Proofs.Try.prog 63 (f63_mac_Data_in 1 2 5 0 0 0 0 [] [120] false false 7 0 0 0) (f63_mac_Data_out r49_0), FnOK Go.Proofs.Try.prog 55 (f55_seg_Of_in 5 0 0 0 0 [] [120] [r49_0]) (f55_seg_Of_out r49_1), FnOK Go.Proofs.Try.prog 58 (f58_mac_Open_in 1 2 r49_1.1 r49_1.2.1 r49_1.2.2.1 r49_1.2.2.2.1 r49_1.2.2.2.2.1 r49_1.2.2.2.2.2.1 r49_1.2.2.2.2.2.2) (f58_mac_Open_out r49_2), 0 + 6 ≤ 6] (by kernel_rfl) ⟨(f63_mac_Data_ok n 1 2 5 0 0 0 0 [] [120] false false 7 0 0 0 r49_0 cr49_0), (f55_seg_Of_ok 5 0 0 0 0 [] [120] [r49_0] r49_1 cr49_1), (f58_mac_Open_ok n 1 2 r49_1.1 r49_1.2.1 r49_1.2.2.1 r49_1.2.2.2.1 r49_1.2.2.2.2.1 r49_1.2.2.2.2.2.1 r49_1.2.2.2.2.2.2 r49_2 cr49_2), (by decide), trivial⟩ ?_
  obtain ⟨r277_0, cr277_0, h⟩ := bindS h
  obtain ⟨r277_1, cr277_1, h⟩ := bindS h
  obtain ⟨r277_2, cr277_2, h⟩ := bindS h
  refine At.step hm ht ⟨[(5, .call [] [(1, 5, (.pair (.int .u8) (.slice (.int .u8))))] (f63_mac_Data_out r277_0)), (7, .call [] [(0, 5, (.pair (.int .u8) (.slice (.int .u8))))] (f55_seg_Of_out r277_1)), (8, .call [] [] (f58_mac_Open_out r277_2))], [], [], [3, 4, 6], [2]⟩ 5 ⟨[(3, .one (.c (.ptr 0 0))), (4, .one (.c (.d (.bool r49_2.1)))), (6, .one (.c (.d (.bool r277_2.1))))], [], [(0, [.d (.bool r49_2.2.1), .d (.bool r49_2.2.2.1), .d (.int .u64 r49_2.2.2.2.1), .d (.int .u64 r49_2.2.2.2.2.1), .d (.int .u32 r49_2.2.2.2.2.2.1), .d (.int .u64 r49_2.2.2.2.2.2.2)])], 1⟩ [FnOK Go.Proofs.Try.prog 63 (f63_mac_Data_in 1 2 5 0 0 0 0 [] [120] false false 7 0 0 0) (f63_mac_Data_out r277_0), FnOK Go.Proofs.Try.prog 55 (f55_seg_Of_in 5 0 0 0 0 [] [120] [r277_0]) (f55_seg_Of_out r277_1), FnOK Go.Proofs.Try.prog 58 (f58_mac_Open_in 1 3 r277_1.1 r277_1.2.1 r277_1.2.2.1 r277_1.2.2.2.1 r277_1.2.2.2.2.1 r277_1.2.2.2.2.2.1 r277_1.2.2.2.2.2.2) (f58_mac_Open_out r277_2), 0 + 6 ≤ 6] (by kernel_rfl) ⟨(f63_mac_Data_ok n 1 2 5 0 0 0 0 [] [120] false false 7 0 0 0 r277_0 cr277_0), (f55_seg_Of_ok 5 0 0 0 0 [] [120] [r277_0] r277_1 cr277_1), (f58_mac_Open_ok n 1 3 r277_1.1 r277_1.2.1 r277_1.2.2.1 r277_1.2.2.2.1 r277_1.2.2.2.2.1 r277_1.2.2.2.2.2.1 r277_1.2.2.2.2.2.2 r277_2 cr277_2), (by decide), trivial⟩ ?_
  rcases iteS h with ⟨b278_1, h⟩ | ⟨b278_1, h⟩
  · rcases iteS h with ⟨b278_6, h⟩ | ⟨b278_6, h⟩
    · have h := Option.some.inj h
      subst h
      exact At.fin hm ht ⟨[(1, .b true), (6, .b true)], [], [], [0], []⟩ [r49_2.1 = true, ((r49_2.2.2.2.1 : Int) == 7) = true] (by kernel_rfl) ⟨b278_1, b278_6, trivial⟩
    · have h := Option.some.inj h
      subst h
      exact At.fin hm ht ⟨[(1, .b true), (6, .b false)], [], [], [0], []⟩ [r49_2.1 = true, ((r49_2.2.2.2.1 : Int) == 7) = false] (by kernel_rfl) ⟨b278_1, b278_6, trivial⟩
  · have h := Option.some.inj h
    subst h
    exact At.fin hm ht ⟨[(1, .b false)], [], [], [0], []⟩ [r49_2.1 = false] (by kernel_rfl) ⟨b278_1, trivial⟩
/-! brougham/broughamlaw10.MacCovers -/
def f11_broughamlaw10_MacCovers_in (s_0 : Int) (s_1 : Int) (s_2 : Int) (s_3 : Int) (s_4 : Int) (s_5 : List (Int × List Int)) (s_6 : List Int) (t_0 : Int) (t_1 : Int) (t_2 : Int) (t_3 : Int) (t_4 : Int) (t_5 : List (Int × List Int)) (t_6 : List Int) (o__0 : Int) (o__1 : List Int) (o__2 : Int) (o__3 : List Int) : Inn := ⟨[.agg [.d (.int .u16 s_0), .d (.int .u16 s_1), .d (.int .u32 s_2), .d (.int .u32 s_3), .d (.int .u8 s_4), .d (.sl (.pair (.int .u8) (.slice (.int .u8))) s_5), .d (.sl (.int .u8) s_6)], .agg [.d (.int .u16 t_0), .d (.int .u16 t_1), .d (.int .u32 t_2), .d (.int .u32 t_3), .d (.int .u8 t_4), .d (.sl (.pair (.int .u8) (.slice (.int .u8))) t_5), .d (.sl (.int .u8) t_6)], .agg [.d (.int .u8 o__0), .d (.sl (.int .u8) o__1), .d (.int .u8 o__2), .d (.sl (.int .u8) o__3)]], [], [], 0⟩
def f11_broughamlaw10_MacCovers_out (r : Bool) : Out := ⟨.one (.c (.d (.bool r))), [], [], 0⟩
def f11_broughamlaw10_MacCovers (n : Nat) (s_0 : Int) (s_1 : Int) (s_2 : Int) (s_3 : Int) (s_4 : Int) (s_5 : List (Int × List Int)) (s_6 : List Int) (t_0 : Int) (t_1 : Int) (t_2 : Int) (t_3 : Int) (t_4 : Int) (t_5 : List (Int × List Int)) (t_6 : List Int) (o__0 : Int) (o__1 : List Int) (o__2 : Int) (o__3 : List Int) : Option (Bool) :=
  if (decide ((((o__1.length : Nat) : Int) : Int) < 8)) = true then
    some true
  else
    if (decide ((((o__3.length : Nat) : Int) : Int) < 8)) = true then
      some true
    else
      if (decide ((((o__1.length : Nat) : Int) : Int) > 255)) = true then
        some true
      else
        if (decide ((((o__3.length : Nat) : Int) : Int) > 255)) = true then
          some true
        else
          if (decide ((((s_6.length : Nat) : Int) : Int) > 2000)) = true then
            some true
          else
            if (decide ((((t_6.length : Nat) : Int) : Int) > 2000)) = true then
              some true
            else
              if ((s_0 : Int) == t_0) = true then
                if ((s_1 : Int) == t_1) = true then
                  if ((s_2 : Int) == t_2) = true then
                    if ((s_3 : Int) == t_3) = true then
                      if ((o__0 : Int) == o__2) = true then
                        if cutOk o__1.length none (some (IntKind.wrap .i64 (((o__1.length : Nat) : Int) - 8))) none then
                        if cutOk o__3.length none (some (IntKind.wrap .i64 (((o__3.length : Nat) : Int) - 8))) none then
                        if ((s_4 : Int) == t_4) = true then
                          if ((strOfNums (o__1.take (IntKind.wrap .i64 (((o__1.length : Nat) : Int) - 8)).toNat)).toList == (strOfNums (o__3.take (IntKind.wrap .i64 (((o__3.length : Nat) : Int) - 8)).toNat)).toList) = true then
                            (f56_mac_Cover n s_0 s_1 s_2 s_3 s_4 s_5 s_6 o__0 o__1).bind fun r13_0 =>
                            (f56_mac_Cover n t_0 t_1 t_2 t_3 t_4 t_5 t_6 o__2 o__3).bind fun r13_1 =>
                            if (((strOfNums r13_0).toList == (strOfNums r13_1).toList) == ((strOfNums s_6).toList == (strOfNums t_6).toList)) = true then
                              (f57_broughamlaw10_alive n).bind fun r13_2 =>
                              some r13_2
                            else
                              some false
                          else
                            (f56_mac_Cover n s_0 s_1 s_2 s_3 s_4 s_5 s_6 o__0 o__1).bind fun r279_0 =>
                            (f56_mac_Cover n t_0 t_1 t_2 t_3 t_4 t_5 t_6 o__2 o__3).bind fun r279_1 =>
                            if (((strOfNums r279_0).toList == (strOfNums r279_1).toList) == false) = true then
                              (f57_broughamlaw10_alive n).bind fun r279_2 =>
                              some r279_2
                            else
                              some false
                        else
                          (f56_mac_Cover n s_0 s_1 s_2 s_3 s_4 s_5 s_6 o__0 o__1).bind fun r280_0 =>
                          (f56_mac_Cover n t_0 t_1 t_2 t_3 t_4 t_5 t_6 o__2 o__3).bind fun r280_1 =>
                          if (((strOfNums r280_0).toList == (strOfNums r280_1).toList) == false) = true then
                            (f57_broughamlaw10_alive n).bind fun r280_2 =>
                            some r280_2
                          else
                            some false
                        else none
                        else none
                      else
                        if ((s_4 : Int) == t_4) = true then
                          (f56_mac_Cover n s_0 s_1 s_2 s_3 s_4 s_5 s_6 o__0 o__1).bind fun r282_0 =>
                          (f56_mac_Cover n t_0 t_1 t_2 t_3 t_4 t_5 t_6 o__2 o__3).bind fun r282_1 =>
                          if (((strOfNums r282_0).toList == (strOfNums r282_1).toList) == false) = true then
                            (f57_broughamlaw10_alive n).bind fun r282_2 =>
                            some r282_2
                          else
                            some false
                        else
                          (f56_mac_Cover n s_0 s_1 s_2 s_3 s_4 s_5 s_6 o__0 o__1).bind fun r283_0 =>
                          (f56_mac_Cover n t_0 t_1 t_2 t_3 t_4 t_5 t_6 o__2 o__3).bind fun r283_1 =>
                          if (((strOfNums r283_0).toList == (strOfNums r283_1).toList) == false) = true then
                            (f57_broughamlaw10_alive n).bind fun r283_2 =>
                            some r283_2
                          else
                            some false
                    else
                      if ((o__0 : Int) == o__2) = true then
                        if cutOk o__1.length none (some (IntKind.wrap .i64 (((o__1.length : Nat) : Int) - 8))) none then
                        if cutOk o__3.length none (some (IntKind.wrap .i64 (((o__3.length : Nat) : Int) - 8))) none then
                        (f56_mac_Cover n s_0 s_1 s_2 s_3 s_4 s_5 s_6 o__0 o__1).bind fun r286_0 =>
                        (f56_mac_Cover n t_0 t_1 t_2 t_3 t_4 t_5 t_6 o__2 o__3).bind fun r286_1 =>
                        if (((strOfNums r286_0).toList == (strOfNums r286_1).toList) == false) = true then
                          (f57_broughamlaw10_alive n).bind fun r286_2 =>
                          some r286_2
                        else
                          some false
                        else none
                        else none
                      else
                        (f56_mac_Cover n s_0 s_1 s_2 s_3 s_4 s_5 s_6 o__0 o__1).bind fun r288_0 =>
                        (f56_mac_Cover n t_0 t_1 t_2 t_3 t_4 t_5 t_6 o__2 o__3).bind fun r288_1 =>
                        if (((strOfNums r288_0).toList == (strOfNums r288_1).toList) == false) = true then
                          (f57_broughamlaw10_alive n).bind fun r288_2 =>
                          some r288_2
                        else
                          some false
                  else
                    if ((o__0 : Int) == o__2) = true then
                      if cutOk o__1.length none (some (IntKind.wrap .i64 (((o__1.length : Nat) : Int) - 8))) none then
                      if cutOk o__3.length none (some (IntKind.wrap .i64 (((o__3.length : Nat) : Int) - 8))) none then
                      (f56_mac_Cover n s_0 s_1 s_2 s_3 s_4 s_5 s_6 o__0 o__1).bind fun r291_0 =>
                      (f56_mac_Cover n t_0 t_1 t_2 t_3 t_4 t_5 t_6 o__2 o__3).bind fun r291_1 =>
                      if (((strOfNums r291_0).toList == (strOfNums r291_1).toList) == false) = true then
                        (f57_broughamlaw10_alive n).bind fun r291_2 =>
                        some r291_2
                      else
                        some false
                      else none
                      else none
                    else
                      (f56_mac_Cover n s_0 s_1 s_2 s_3 s_4 s_5 s_6 o__0 o__1).bind fun r293_0 =>
                      (f56_mac_Cover n t_0 t_1 t_2 t_3 t_4 t_5 t_6 o__2 o__3).bind fun r293_1 =>
                      if (((strOfNums r293_0).toList == (strOfNums r293_1).toList) == false) = true then
                        (f57_broughamlaw10_alive n).bind fun r293_2 =>
                        some r293_2
                      else
                        some false
                else
                  if ((o__0 : Int) == o__2) = true then
                    if cutOk o__1.length none (some (IntKind.wrap .i64 (((o__1.length : Nat) : Int) - 8))) none then
                    if cutOk o__3.length none (some (IntKind.wrap .i64 (((o__3.length : Nat) : Int) - 8))) none then
                    (f56_mac_Cover n s_0 s_1 s_2 s_3 s_4 s_5 s_6 o__0 o__1).bind fun r296_0 =>
                    (f56_mac_Cover n t_0 t_1 t_2 t_3 t_4 t_5 t_6 o__2 o__3).bind fun r296_1 =>
                    if (((strOfNums r296_0).toList == (strOfNums r296_1).toList) == false) = true then
                      (f57_broughamlaw10_alive n).bind fun r296_2 =>
                      some r296_2
                    else
                      some false
                    else none
                    else none
                  else
                    (f56_mac_Cover n s_0 s_1 s_2 s_3 s_4 s_5 s_6 o__0 o__1).bind fun r298_0 =>
                    (f56_mac_Cover n t_0 t_1 t_2 t_3 t_4 t_5 t_6 o__2 o__3).bind fun r298_1 =>
                    if (((strOfNums r298_0).toList == (strOfNums r298_1).toList) == false) = true then
                      (f57_broughamlaw10_alive n).bind fun r298_2 =>
                      some r298_2
                    else
                      some false
              else
                if ((o__0 : Int) == o__2) = true then
                  if cutOk o__1.length none (some (IntKind.wrap .i64 (((o__1.length : Nat) : Int) - 8))) none then
                  if cutOk o__3.length none (some (IntKind.wrap .i64 (((o__3.length : Nat) : Int) - 8))) none then
                  (f56_mac_Cover n s_0 s_1 s_2 s_3 s_4 s_5 s_6 o__0 o__1).bind fun r301_0 =>
                  (f56_mac_Cover n t_0 t_1 t_2 t_3 t_4 t_5 t_6 o__2 o__3).bind fun r301_1 =>
                  if (((strOfNums r301_0).toList == (strOfNums r301_1).toList) == false) = true then
                    (f57_broughamlaw10_alive n).bind fun r301_2 =>
                    some r301_2
                  else
                    some false
                  else none
                  else none
                else
                  (f56_mac_Cover n s_0 s_1 s_2 s_3 s_4 s_5 s_6 o__0 o__1).bind fun r303_0 =>
                  (f56_mac_Cover n t_0 t_1 t_2 t_3 t_4 t_5 t_6 o__2 o__3).bind fun r303_1 =>
                  if (((strOfNums r303_0).toList == (strOfNums r303_1).toList) == false) = true then
                    (f57_broughamlaw10_alive n).bind fun r303_2 =>
                    some r303_2
                  else
                    some false
theorem f11_broughamlaw10_MacCovers_ok (n : Nat) (s_0 : Int) (s_1 : Int) (s_2 : Int) (s_3 : Int) (s_4 : Int) (s_5 : List (Int × List Int)) (s_6 : List Int) (t_0 : Int) (t_1 : Int) (t_2 : Int) (t_3 : Int) (t_4 : Int) (t_5 : List (Int × List Int)) (t_6 : List Int) (o__0 : Int) (o__1 : List Int) (o__2 : Int) (o__3 : List Int) (r : Bool) (h : f11_broughamlaw10_MacCovers n s_0 s_1 s_2 s_3 s_4 s_5 s_6 t_0 t_1 t_2 t_3 t_4 t_5 t_6 o__0 o__1 o__2 o__3 = some r) : FnOK Go.Proofs.Try.prog 11 (f11_broughamlaw10_MacCovers_in s_0 s_1 s_2 s_3 s_4 s_5 s_6 t_0 t_1 t_2 t_3 t_4 t_5 t_6 o__0 o__1 o__2 o__3) (f11_broughamlaw10_MacCovers_out r) := by
  unfold f11_broughamlaw10_MacCovers at h
  refine At.fn (r := 0) Go.Proofs.Try.func11 rfl (by kernel_rfl) rfl rfl (by kernel_rfl) ?_
  show At Go.Proofs.Try.prog Go.Proofs.Try.f11 0 0 ⟨[(0, .one (.agg [.d (.int .u16 s_0), .d (.int .u16 s_1), .d (.int .u32 s_2), .d (.int .u32 s_3), .d (.int .u8 s_4), .d (.sl (.pair (.int .u8) (.slice (.int .u8))) s_5), .d (.sl (.int .u8) s_6)])), (1, .one (.agg [.d (.int .u16 t_0), .d (.int .u16 t_1), .d (.int .u32 t_2), .d (.int .u32 t_3), .d (.int .u8 t_4), .d (.sl (.pair (.int .u8) (.slice (.int .u8))) t_5), .d (.sl (.int .u8) t_6)])), (2, .one (.agg [.d (.int .u8 o__0), .d (.sl (.int .u8) o__1), .d (.int .u8 o__2), .d (.sl (.int .u8) o__3)]))], [], [], 0⟩ _
  refine At.step hm ht ⟨[], [], [], [3, 4, 5], [0, 1, 2]⟩ 1 ⟨[(3, .one (.c (.ptr 0 0))), (4, .one (.c (.ptr 1 0))), (5, .one (.c (.ptr 2 0)))], [], [(0, [.d (.int .u16 s_0), .d (.int .u16 s_1), .d (.int .u32 s_2), .d (.int .u32 s_3), .d (.int .u8 s_4), .d (.sl (.pair (.int .u8) (.slice (.int .u8))) s_5), .d (.sl (.int .u8) s_6)]), (1, [.d (.int .u16 t_0), .d (.int .u16 t_1), .d (.int .u32 t_2), .d (.int .u32 t_3), .d (.int .u8 t_4), .d (.sl (.pair (.int .u8) (.slice (.int .u8))) t_5), .d (.sl (.int .u8) t_6)]), (2, [.d (.int .u8 o__0), .d (.sl (.int .u8) o__1), .d (.int .u8 o__2), .d (.sl (.int .u8) o__3)])], 3⟩ [] (by kernel_rfl) trivial ?_
  refine At.step hm ht ⟨[], [], [], [3, 4, 7, 8], [0, 1, 7, 8]⟩ 2 ⟨[(3, .one (.c (.ptr 0 0))), (4, .one (.c (.ptr 1 0))), (7, .one (.c (.ptr 2 0))), (8, .one (.c (.ptr 3 0)))], [], [(0, [.d (.int .u16 s_0), .d (.int .u16 s_1), .d (.int .u32 s_2), .d (.int .u32 s_3), .d (.int .u8 s_4), .d (.sl (.pair (.int .u8) (.slice (.int .u8))) s_5), .d (.sl (.int .u8) s_6)]), (1, [.d (.int .u16 t_0), .d (.int .u16 t_1), .d (.int .u32 t_2), .d (.int .u32 t_3), .d (.int .u8 t_4), .d (.sl (.pair (.int .u8) (.slice (.int .u8))) t_5), .d (.sl (.int .u8) t_6)]), (2, [.d (.int .u8 o__0), .d (.sl (.int .u8) o__1)]), (3, [.d (.int .u8 o__2), .d (.sl (.int .u8) o__3)])], 4⟩ [0 + 2 ≤ 2, 0 + 2 ≤ 2] (by kernel_rfl) ⟨(by decide), (by decide), trivial⟩ ?_
  rcases iteS h with ⟨b3_4, h⟩ | ⟨b3_4, h⟩
  · refine At.step hm ht ⟨[(4, .b true)], [true], [], [], []⟩ 3 ⟨[], [], [], 0⟩ [(decide ((((o__1.length : Nat) : Int) : Int) < 8)) = true, true = true] (by kernel_rfl) ⟨b3_4, rfl, trivial⟩ ?_
    have h := Option.some.inj h
    subst h
    exact At.fin hm ht ⟨[], [], [], [6], []⟩ [] (by kernel_rfl) trivial
  · rcases iteS h with ⟨b3_10, h⟩ | ⟨b3_10, h⟩
    · refine At.step hm ht ⟨[(4, .b false), (10, .b true)], [true], [], [], []⟩ 3 ⟨[], [], [], 0⟩ [(decide ((((o__1.length : Nat) : Int) : Int) < 8)) = false, (decide ((((o__3.length : Nat) : Int) : Int) < 8)) = true, true = true] (by kernel_rfl) ⟨b3_4, b3_10, rfl, trivial⟩ ?_
      have h := Option.some.inj h
      subst h
      exact At.fin hm ht ⟨[], [], [], [6], []⟩ [] (by kernel_rfl) trivial
    · rcases iteS h with ⟨b3_16, h⟩ | ⟨b3_16, h⟩
      · refine At.step hm ht ⟨[(4, .b false), (10, .b false), (16, .b true)], [true], [], [], []⟩ 3 ⟨[], [], [], 0⟩ [(decide ((((o__1.length : Nat) : Int) : Int) < 8)) = false, (decide ((((o__3.length : Nat) : Int) : Int) < 8)) = false, (decide ((((o__1.length : Nat) : Int) : Int) > 255)) = true, true = true] (by kernel_rfl) ⟨b3_4, b3_10, b3_16, rfl, trivial⟩ ?_
        have h := Option.some.inj h
        subst h
        exact At.fin hm ht ⟨[], [], [], [6], []⟩ [] (by kernel_rfl) trivial
      · rcases iteS h with ⟨b3_22, h⟩ | ⟨b3_22, h⟩
        · refine At.step hm ht ⟨[(4, .b false), (10, .b false), (16, .b false), (22, .b true)], [true], [], [], []⟩ 3 ⟨[], [], [], 0⟩ [(decide ((((o__1.length : Nat) : Int) : Int) < 8)) = false, (decide ((((o__3.length : Nat) : Int) : Int) < 8)) = false, (decide ((((o__1.length : Nat) : Int) : Int) > 255)) = false, (decide ((((o__3.length : Nat) : Int) : Int) > 255)) = true, true = true] (by kernel_rfl) ⟨b3_4, b3_10, b3_16, b3_22, rfl, trivial⟩ ?_
          have h := Option.some.inj h
          subst h
          exact At.fin hm ht ⟨[], [], [], [6], []⟩ [] (by kernel_rfl) trivial
        · rcases iteS h with ⟨b3_28, h⟩ | ⟨b3_28, h⟩
          · refine At.step hm ht ⟨[(4, .b false), (10, .b false), (16, .b false), (22, .b false), (28, .b true)], [true], [], [], []⟩ 3 ⟨[], [], [], 0⟩ [(decide ((((o__1.length : Nat) : Int) : Int) < 8)) = false, (decide ((((o__3.length : Nat) : Int) : Int) < 8)) = false, (decide ((((o__1.length : Nat) : Int) : Int) > 255)) = false, (decide ((((o__3.length : Nat) : Int) : Int) > 255)) = false, (decide ((((s_6.length : Nat) : Int) : Int) > 2000)) = true, true = true] (by kernel_rfl) ⟨b3_4, b3_10, b3_16, b3_22, b3_28, rfl, trivial⟩ ?_
            have h := Option.some.inj h
            subst h
            exact At.fin hm ht ⟨[], [], [], [6], []⟩ [] (by kernel_rfl) trivial
          · rcases iteS h with ⟨b3_e0, h⟩ | ⟨b3_e0, h⟩
            · refine At.step hm ht ⟨[(4, .b false), (10, .b false), (16, .b false), (22, .b false), (28, .b false)], [true], [], [], []⟩ 3 ⟨[], [], [], 0⟩ [(decide ((((o__1.length : Nat) : Int) : Int) < 8)) = false, (decide ((((o__3.length : Nat) : Int) : Int) < 8)) = false, (decide ((((o__1.length : Nat) : Int) : Int) > 255)) = false, (decide ((((o__3.length : Nat) : Int) : Int) > 255)) = false, (decide ((((s_6.length : Nat) : Int) : Int) > 2000)) = false, (decide ((((t_6.length : Nat) : Int) : Int) > 2000)) = true] (by kernel_rfl) ⟨b3_4, b3_10, b3_16, b3_22, b3_28, b3_e0, trivial⟩ ?_
              have h := Option.some.inj h
              subst h
              exact At.fin hm ht ⟨[], [], [], [6], []⟩ [] (by kernel_rfl) trivial
            · refine At.step hm ht ⟨[(4, .b false), (10, .b false), (16, .b false), (22, .b false), (28, .b false)], [false], [], [3, 4, 7, 8], [0, 1, 2, 3]⟩ 4 ⟨[(3, .one (.c (.ptr 0 0))), (4, .one (.c (.ptr 1 0))), (7, .one (.c (.ptr 2 0))), (8, .one (.c (.ptr 3 0)))], [], [(0, [.d (.int .u16 s_0), .d (.int .u16 s_1), .d (.int .u32 s_2), .d (.int .u32 s_3), .d (.int .u8 s_4), .d (.sl (.pair (.int .u8) (.slice (.int .u8))) s_5), .d (.sl (.int .u8) s_6)]), (1, [.d (.int .u16 t_0), .d (.int .u16 t_1), .d (.int .u32 t_2), .d (.int .u32 t_3), .d (.int .u8 t_4), .d (.sl (.pair (.int .u8) (.slice (.int .u8))) t_5), .d (.sl (.int .u8) t_6)]), (2, [.d (.int .u8 o__0), .d (.sl (.int .u8) o__1)]), (3, [.d (.int .u8 o__2), .d (.sl (.int .u8) o__3)])], 4⟩ [(decide ((((o__1.length : Nat) : Int) : Int) < 8)) = false, (decide ((((o__3.length : Nat) : Int) : Int) < 8)) = false, (decide ((((o__1.length : Nat) : Int) : Int) > 255)) = false, (decide ((((o__3.length : Nat) : Int) : Int) > 255)) = false, (decide ((((s_6.length : Nat) : Int) : Int) > 2000)) = false, (decide ((((t_6.length : Nat) : Int) : Int) > 2000)) = false] (by kernel_rfl) ⟨b3_4, b3_10, b3_16, b3_22, b3_28, b3_e0, trivial⟩ ?_
              rcases iteS h with ⟨b10_5, h⟩ | ⟨b10_5, h⟩
              · rcases iteS h with ⟨b10_12, h⟩ | ⟨b10_12, h⟩
                · rcases iteS h with ⟨b10_19, h⟩ | ⟨b10_19, h⟩
                  · rcases iteS h with ⟨b10_26, h⟩ | ⟨b10_26, h⟩
                    · refine At.step hm ht ⟨[(5, .b true), (12, .b true), (19, .b true), (26, .b true)], [], [], [3, 4, 7, 8, 9], [0, 1, 2, 3]⟩ 5 ⟨[(3, .one (.c (.ptr 0 0))), (4, .one (.c (.ptr 1 0))), (7, .one (.c (.ptr 2 0))), (8, .one (.c (.ptr 3 0))), (9, .one (.c (.d (.bool ((s_4 : Int) == t_4)))))], [], [(0, [.d (.int .u16 s_0), .d (.int .u16 s_1), .d (.int .u32 s_2), .d (.int .u32 s_3), .d (.int .u8 s_4), .d (.sl (.pair (.int .u8) (.slice (.int .u8))) s_5), .d (.sl (.int .u8) s_6)]), (1, [.d (.int .u16 t_0), .d (.int .u16 t_1), .d (.int .u32 t_2), .d (.int .u32 t_3), .d (.int .u8 t_4), .d (.sl (.pair (.int .u8) (.slice (.int .u8))) t_5), .d (.sl (.int .u8) t_6)]), (2, [.d (.int .u8 o__0), .d (.sl (.int .u8) o__1)]), (3, [.d (.int .u8 o__2), .d (.sl (.int .u8) o__3)])], 4⟩ [((s_0 : Int) == t_0) = true, ((s_1 : Int) == t_1) = true, ((s_2 : Int) == t_2) = true, ((s_3 : Int) == t_3) = true] (by kernel_rfl) ⟨b10_5, b10_12, b10_19, b10_26, trivial⟩ ?_
                      rcases iteS h with ⟨b11_5, h⟩ | ⟨b11_5, h⟩
                      · obtain ⟨g11_0, h⟩ := ifS h
                        obtain ⟨g11_1, h⟩ := ifS h
                        refine At.step hm ht ⟨[(5, .b true)], [], [], [3, 4, 7, 8, 9, 10], [0, 1, 2, 3]⟩ 6 ⟨[(3, .one (.c (.ptr 0 0))), (4, .one (.c (.ptr 1 0))), (7, .one (.c (.ptr 2 0))), (8, .one (.c (.ptr 3 0))), (9, .one (.c (.d (.bool ((s_4 : Int) == t_4))))), (10, .one (.c (.d (.bool ((strOfNums (o__1.take (IntKind.wrap .i64 (((o__1.length : Nat) : Int) - 8)).toNat)).toList == (strOfNums (o__3.take (IntKind.wrap .i64 (((o__3.length : Nat) : Int) - 8)).toNat)).toList)))))], [], [(0, [.d (.int .u16 s_0), .d (.int .u16 s_1), .d (.int .u32 s_2), .d (.int .u32 s_3), .d (.int .u8 s_4), .d (.sl (.pair (.int .u8) (.slice (.int .u8))) s_5), .d (.sl (.int .u8) s_6)]), (1, [.d (.int .u16 t_0), .d (.int .u16 t_1), .d (.int .u32 t_2), .d (.int .u32 t_3), .d (.int .u8 t_4), .d (.sl (.pair (.int .u8) (.slice (.int .u8))) t_5), .d (.sl (.int .u8) t_6)]), (2, [.d (.int .u8 o__0), .d (.sl (.int .u8) o__1)]), (3, [.d (.int .u8 o__2), .d (.sl (.int .u8) o__3)])], 4⟩ [((o__0 : Int) == o__2) = true, cutOk o__1.length none (some (IntKind.wrap .i64 (((o__1.length : Nat) : Int) - 8))) none, cutOk o__3.length none (some (IntKind.wrap .i64 (((o__3.length : Nat) : Int) - 8))) none] (by kernel_rfl) ⟨b11_5, g11_0, g11_1, trivial⟩ ?_
                        rcases iteS h with ⟨b12_1, h⟩ | ⟨b12_1, h⟩
                        · rcases iteS h with ⟨b12_4, h⟩ | ⟨b12_4, h⟩
                          · refine At.step hm ht ⟨[(1, .b true), (4, .b true)], [], [], [3, 4, 7, 8, 11], [0, 1, 2, 3]⟩ 7 ⟨[(3, .one (.c (.ptr 0 0))), (4, .one (.c (.ptr 1 0))), (7, .one (.c (.ptr 2 0))), (8, .one (.c (.ptr 3 0))), (11, .one (.c (.d (.bool ((strOfNums s_6).toList == (strOfNums t_6).toList)))))], [], [(0, [.d (.int .u16 s_0), .d (.int .u16 s_1), .d (.int .u32 s_2), .d (.int .u32 s_3), .d (.int .u8 s_4), .d (.sl (.pair (.int .u8) (.slice (.int .u8))) s_5), .d (.sl (.int .u8) s_6)]), (1, [.d (.int .u16 t_0), .d (.int .u16 t_1), .d (.int .u32 t_2), .d (.int .u32 t_3), .d (.int .u8 t_4), .d (.sl (.pair (.int .u8) (.slice (.int .u8))) t_5), .d (.sl (.int .u8) t_6)]), (2, [.d (.int .u8 o__0), .d (.sl (.int .u8) o__1)]), (3, [.d (.int .u8 o__2), .d (.sl (.int .u8) o__3)])], 4⟩ [((s_4 : Int) == t_4) = true, ((strOfNums (o__1.take (IntKind.wrap .i64 (((o__1.length : Nat) : Int) - 8)).toNat)).toList == (strOfNums (o__3.take (IntKind.wrap .i64 (((o__3.length : Nat) : Int) - 8)).toNat)).toList) = true] (by kernel_rfl) ⟨b12_1, b12_4, trivial⟩ ?_
                            obtain ⟨r13_0, cr13_0, h⟩ := bindS h
                            obtain ⟨r13_1, cr13_1, h⟩ := bindS h
                            rcases iteS h with ⟨b13_11, h⟩ | ⟨b13_11, h⟩
                            · obtain ⟨r13_2, cr13_2, h⟩ := bindS h
                              have h := Option.some.inj h
                              subst h
                              exact At.fin hm ht ⟨[(2, .call [] [] (f56_mac_Cover_out r13_0)), (6, .call [] [] (f56_mac_Cover_out r13_1)), (11, .b true), (12, .call [] [] (f57_broughamlaw10_alive_out r13_2))], [], [], [6], []⟩ [FnOK Go.Proofs.Try.prog 56 (f56_mac_Cover_in s_0 s_1 s_2 s_3 s_4 s_5 s_6 o__0 o__1) (f56_mac_Cover_out r13_0), FnOK Go.Proofs.Try.prog 56 (f56_mac_Cover_in t_0 t_1 t_2 t_3 t_4 t_5 t_6 o__2 o__3) (f56_mac_Cover_out r13_1), (((strOfNums r13_0).toList == (strOfNums r13_1).toList) == ((strOfNums s_6).toList == (strOfNums t_6).toList)) = true, FnOK Go.Proofs.Try.prog 57 (f57_broughamlaw10_alive_in) (f57_broughamlaw10_alive_out r13_2)] (by kernel_rfl) ⟨(f56_mac_Cover_ok n s_0 s_1 s_2 s_3 s_4 s_5 s_6 o__0 o__1 r13_0 cr13_0), (f56_mac_Cover_ok n t_0 t_1 t_2 t_3 t_4 t_5 t_6 o__2 o__3 r13_1 cr13_1), b13_11, (f57_broughamlaw10_alive_ok n r13_2 cr13_2), trivial⟩
                            · have h := Option.some.inj h
                              subst h
                              exact At.fin hm ht ⟨[(2, .call [] [] (f56_mac_Cover_out r13_0)), (6, .call [] [] (f56_mac_Cover_out r13_1)), (11, .b false)], [], [], [6], []⟩ [FnOK Go.Proofs.Try.prog 56 (f56_mac_Cover_in s_0 s_1 s_2 s_3 s_4 s_5 s_6 o__0 o__1) (f56_mac_Cover_out r13_0), FnOK Go.Proofs.Try.prog 56 (f56_mac_Cover_in t_0 t_1 t_2 t_3 t_4 t_5 t_6 o__2 o__3) (f56_mac_Cover_out r13_1), (((strOfNums r13_0).toList == (strOfNums r13_1).toList) == ((strOfNums s_6).toList == (strOfNums t_6).toList)) = false] (by kernel_rfl) ⟨(f56_mac_Cover_ok n s_0 s_1 s_2 s_3 s_4 s_5 s_6 o__0 o__1 r13_0 cr13_0), (f56_mac_Cover_ok n t_0 t_1 t_2 t_3 t_4 t_5 t_6 o__2 o__3 r13_1 cr13_1), b13_11, trivial⟩
                          · refine At.step hm ht ⟨[(1, .b true), (4, .b false)], [], [], [3, 4, 7, 8, 11], [0, 1, 2, 3]⟩ 7 ⟨[(3, .one (.c (.ptr 0 0))), (4, .one (.c (.ptr 1 0))), (7, .one (.c (.ptr 2 0))), (8, .one (.c (.ptr 3 0))), (11, .one (.c (.d (.bool false))))], [], [(0, [.d (.int .u16 s_0), .d (.int .u16 s_1), .d (.int .u32 s_2), .d (.int .u32 s_3), .d (.int .u8 s_4), .d (.sl (.pair (.int .u8) (.slice (.int .u8))) s_5), .d (.sl (.int .u8) s_6)]), (1, [.d (.int .u16 t_0), .d (.int .u16 t_1), .d (.int .u32 t_2), .d (.int .u32 t_3), .d (.int .u8 t_4), .d (.sl (.pair (.int .u8) (.slice (.int .u8))) t_5), .d (.sl (.int .u8) t_6)]), (2, [.d (.int .u8 o__0), .d (.sl (.int .u8) o__1)]), (3, [.d (.int .u8 o__2), .d (.sl (.int .u8) o__3)])], 4⟩ [((s_4 : Int) == t_4) = true, ((strOfNums (o__1.take (IntKind.wrap .i64 (((o__1.length : Nat) : Int) - 8)).toNat)).toList == (strOfNums (o__3.take (IntKind.wrap .i64 (((o__3.length : Nat) : Int) - 8)).toNat)).toList) = false] (by kernel_rfl) ⟨b12_1, b12_4, trivial⟩ ?_
                            obtain ⟨r279_0, cr279_0, h⟩ := bindS h
                            obtain ⟨r279_1, cr279_1, h⟩ := bindS h
                            rcases iteS h with ⟨b279_11, h⟩ | ⟨b279_11, h⟩
                            · obtain ⟨r279_2, cr279_2, h⟩ := bindS h
                              have h := Option.some.inj h
                              subst h
                              exact At.fin hm ht ⟨[(2, .call [] [] (f56_mac_Cover_out r279_0)), (6, .call [] [] (f56_mac_Cover_out r279_1)), (11, .b true), (12, .call [] [] (f57_broughamlaw10_alive_out r279_2))], [], [], [6], []⟩ [FnOK Go.Proofs.Try.prog 56 (f56_mac_Cover_in s_0 s_1 s_2 s_3 s_4 s_5 s_6 o__0 o__1) (f56_mac_Cover_out r279_0), FnOK Go.Proofs.Try.prog 56 (f56_mac_Cover_in t_0 t_1 t_2 t_3 t_4 t_5 t_6 o__2 o__3) (f56_mac_Cover_out r279_1), (((strOfNums r279_0).toList == (strOfNums r279_1).toList) == false) = true, FnOK Go.Proofs.Try.prog 57 (f57_broughamlaw10_alive_in) (f57_broughamlaw10_alive_out r279_2)] (by kernel_rfl) ⟨(f56_mac_Cover_ok n s_0 s_1 s_2 s_3 s_4 s_5 s_6 o__0 o__1 r279_0 cr279_0), (f56_mac_Cover_ok n t_0 t_1 t_2 t_3 t_4 t_5 t_6 o__2 o__3 r279_1 cr279_1), b279_11, (f57_broughamlaw10_alive_ok n r279_2 cr279_2), trivial⟩
                            · have h := Option.some.inj h
                              subst h
                              exact At.fin hm ht ⟨[(2, .call [] [] (f56_mac_Cover_out r279_0)), (6, .call [] [] (f56_mac_Cover_out r279_1)), (11, .b false)], [], [], [6], []⟩ [FnOK Go.Proofs.Try.prog 56 (f56_mac_Cover_in s_0 s_1 s_2 s_3 s_4 s_5 s_6 o__0 o__1) (f56_mac_Cover_out r279_0), FnOK Go.Proofs.Try.prog 56 (f56_mac_Cover_in t_0 t_1 t_2 t_3 t_4 t_5 t_6 o__2 o__3) (f56_mac_Cover_out r279_1), (((strOfNums r279_0).toList == (strOfNums r279_1).toList) == false) = false] (by kernel_rfl) ⟨(f56_mac_Cover_ok n s_0 s_1 s_2 s_3 s_4 s_5 s_6 o__0 o__1 r279_0 cr279_0), (f56_mac_Cover_ok n t_0 t_1 t_2 t_3 t_4 t_5 t_6 o__2 o__3 r279_1 cr279_1), b279_11, trivial⟩
                        · refine At.step hm ht ⟨[(1, .b false)], [], [], [3, 4, 7, 8, 11], [0, 1, 2, 3]⟩ 7 ⟨[(3, .one (.c (.ptr 0 0))), (4, .one (.c (.ptr 1 0))), (7, .one (.c (.ptr 2 0))), (8, .one (.c (.ptr 3 0))), (11, .one (.c (.d (.bool false))))], [], [(0, [.d (.int .u16 s_0), .d (.int .u16 s_1), .d (.int .u32 s_2), .d (.int .u32 s_3), .d (.int .u8 s_4), .d (.sl (.pair (.int .u8) (.slice (.int .u8))) s_5), .d (.sl (.int .u8) s_6)]), (1, [.d (.int .u16 t_0), .d (.int .u16 t_1), .d (.int .u32 t_2), .d (.int .u32 t_3), .d (.int .u8 t_4), .d (.sl (.pair (.int .u8) (.slice (.int .u8))) t_5), .d (.sl (.int .u8) t_6)]), (2, [.d (.int .u8 o__0), .d (.sl (.int .u8) o__1)]), (3, [.d (.int .u8 o__2), .d (.sl (.int .u8) o__3)])], 4⟩ [((s_4 : Int) == t_4) = false] (by kernel_rfl) ⟨b12_1, trivial⟩ ?_
                          obtain ⟨r280_0, cr280_0, h⟩ := bindS h
                          obtain ⟨r280_1, cr280_1, h⟩ := bindS h
                          rcases iteS h with ⟨b280_11, h⟩ | ⟨b280_11, h⟩
                          · obtain ⟨r280_2, cr280_2, h⟩ := bindS h
                            have h := Option.some.inj h
                            subst h
                            exact At.fin hm ht ⟨[(2, .call [] [] (f56_mac_Cover_out r280_0)), (6, .call [] [] (f56_mac_Cover_out r280_1)), (11, .b true), (12, .call [] [] (f57_broughamlaw10_alive_out r280_2))], [], [], [6], []⟩ [FnOK Go.Proofs.Try.prog 56 (f56_mac_Cover_in s_0 s_1 s_2 s_3 s_4 s_5 s_6 o__0 o__1) (f56_mac_Cover_out r280_0), FnOK Go.Proofs.Try.prog 56 (f56_mac_Cover_in t_0 t_1 t_2 t_3 t_4 t_5 t_6 o__2 o__3) (f56_mac_Cover_out r280_1), (((strOfNums r280_0).toList == (strOfNums r280_1).toList) == false) = true, FnOK Go.Proofs.Try.prog 57 (f57_broughamlaw10_alive_in) (f57_broughamlaw10_alive_out r280_2)] (by kernel_rfl) ⟨(f56_mac_Cover_ok n s_0 s_1 s_2 s_3 s_4 s_5 s_6 o__0 o__1 r280_0 cr280_0), (f56_mac_Cover_ok n t_0 t_1 t_2 t_3 t_4 t_5 t_6 o__2 o__3 r280_1 cr280_1), b280_11, (f57_broughamlaw10_alive_ok n r280_2 cr280_2), trivial⟩
                          · have h := Option.some.inj h
                            subst h
                            exact At.fin hm ht ⟨[(2, .call [] [] (f56_mac_Cover_out r280_0)), (6, .call [] [] (f56_mac_Cover_out r280_1)), (11, .b false)], [], [], [6], []⟩ [FnOK Go.Proofs.Try.prog 56 (f56_mac_Cover_in s_0 s_1 s_2 s_3 s_4 s_5 s_6 o__0 o__1) (f56_mac_Cover_out r280_0), FnOK Go.Proofs.Try.prog 56 (f56_mac_Cover_in t_0 t_1 t_2 t_3 t_4 t_5 t_6 o__2 o__3) (f56_mac_Cover_out r280_1), (((strOfNums r280_0).toList == (strOfNums r280_1).toList) == false) = false] (by kernel_rfl) ⟨(f56_mac_Cover_ok n s_0 s_1 s_2 s_3 s_4 s_5 s_6 o__0 o__1 r280_0 cr280_0), (f56_mac_Cover_ok n t_0 t_1 t_2 t_3 t_4 t_5 t_6 o__2 o__3 r280_1 cr280_1), b280_11, trivial⟩
                      · refine At.step hm ht ⟨[(5, .b false)], [], [], [3, 4, 7, 8, 9, 10], [0, 1, 2, 3]⟩ 6 ⟨[(3, .one (.c (.ptr 0 0))), (4, .one (.c (.ptr 1 0))), (7, .one (.c (.ptr 2 0))), (8, .one (.c (.ptr 3 0))), (9, .one (.c (.d (.bool ((s_4 : Int) == t_4))))), (10, .one (.c (.d (.bool false))))], [], [(0, [.d (.int .u16 s_0), .d (.int .u16 s_1), .d (.int .u32 s_2), .d (.int .u32 s_3), .d (.int .u8 s_4), .d (.sl (.pair (.int .u8) (.slice (.int .u8))) s_5), .d (.sl (.int .u8) s_6)]), (1, [.d (.int .u16 t_0), .d (.int .u16 t_1), .d (.int .u32 t_2), .d (.int .u32 t_3), .d (.int .u8 t_4), .d (.sl (.pair (.int .u8) (.slice (.int .u8))) t_5), .d (.sl (.int .u8) t_6)]), (2, [.d (.int .u8 o__0), .d (.sl (.int .u8) o__1)]), (3, [.d (.int .u8 o__2), .d (.sl (.int .u8) o__3)])], 4⟩ [((o__0 : Int) == o__2) = false] (by kernel_rfl) ⟨b11_5, trivial⟩ ?_
                        rcases iteS h with ⟨b281_1, h⟩ | ⟨b281_1, h⟩
                        · refine At.step hm ht ⟨[(1, .b true)], [], [], [3, 4, 7, 8, 11], [0, 1, 2, 3]⟩ 7 ⟨[(3, .one (.c (.ptr 0 0))), (4, .one (.c (.ptr 1 0))), (7, .one (.c (.ptr 2 0))), (8, .one (.c (.ptr 3 0))), (11, .one (.c (.d (.bool false))))], [], [(0, [.d (.int .u16 s_0), .d (.int .u16 s_1), .d (.int .u32 s_2), .d (.int .u32 s_3), .d (.int .u8 s_4), .d (.sl (.pair (.int .u8) (.slice (.int .u8))) s_5), .d (.sl (.int .u8) s_6)]), (1, [.d (.int .u16 t_0), .d (.int .u16 t_1), .d (.int .u32 t_2), .d (.int .u32 t_3), .d (.int .u8 t_4), .d (.sl (.pair (.int .u8) (.slice (.int .u8))) t_5), .d (.sl (.int .u8) t_6)]), (2, [.d (.int .u8 o__0), .d (.sl (.int .u8) o__1)]), (3, [.d (.int .u8 o__2), .d (.sl (.int .u8) o__3)])], 4⟩ [((s_4 : Int) == t_4) = true] (by kernel_rfl) ⟨b281_1, trivial⟩ ?_
                          obtain ⟨r282_0, cr282_0, h⟩ := bindS h
                          obtain ⟨r282_1, cr282_1, h⟩ := bindS h
                          rcases iteS h with ⟨b282_11, h⟩ | ⟨b282_11, h⟩
                          · obtain ⟨r282_2, cr282_2, h⟩ := bindS h
                            have h := Option.some.inj h
                            subst h
                            exact At.fin hm ht ⟨[(2, .call [] [] (f56_mac_Cover_out r282_0)), (6, .call [] [] (f56_mac_Cover_out r282_1)), (11, .b true), (12, .call [] [] (f57_broughamlaw10_alive_out r282_2))], [], [], [6], []⟩ [FnOK Go.Proofs.Try.prog 56 (f56_mac_Cover_in s_0 s_1 s_2 s_3 s_4 s_5 s_6 o__0 o__1) (f56_mac_Cover_out r282_0), FnOK Go.Proofs.Try.prog 56 (f56_mac_Cover_in t_0 t_1 t_2 t_3 t_4 t_5 t_6 o__2 o__3) (f56_mac_Cover_out r282_1), (((strOfNums r282_0).toList == (strOfNums r282_1).toList) == false) = true, FnOK Go.Proofs.Try.prog 57 (f57_broughamlaw10_alive_in) (f57_broughamlaw10_alive_out r282_2)] (by kernel_rfl) ⟨(f56_mac_Cover_ok n s_0 s_1 s_2 s_3 s_4 s_5 s_6 o__0 o__1 r282_0 cr282_0), (f56_mac_Cover_ok n t_0 t_1 t_2 t_3 t_4 t_5 t_6 o__2 o__3 r282_1 cr282_1), b282_11, (f57_broughamlaw10_alive_ok n r282_2 cr282_2), trivial⟩
                          · have h := Option.some.inj h
                            subst h
                            exact At.fin hm ht ⟨[(2, .call [] [] (f56_mac_Cover_out r282_0)), (6, .call [] [] (f56_mac_Cover_out r282_1)), (11, .b false)], [], [], [6], []⟩ [FnOK Go.Proofs.Try.prog 56 (f56_mac_Cover_in s_0 s_1 s_2 s_3 s_4 s_5 s_6 o__0 o__1) (f56_mac_Cover_out r282_0), FnOK Go.Proofs.Try.prog 56 (f56_mac_Cover_in t_0 t_1 t_2 t_3 t_4 t_5 t_6 o__2 o__3) (f56_mac_Cover_out r282_1), (((strOfNums r282_0).toList == (strOfNums r282_1).toList) == false) = false] (by kernel_rfl) ⟨(f56_mac_Cover_ok n s_0 s_1 s_2 s_3 s_4 s_5 s_6 o__0 o__1 r282_0 cr282_0), (f56_mac_Cover_ok n t_0 t_1 t_2 t_3 t_4 t_5 t_6 o__2 o__3 r282_1 cr282_1), b282_11, trivial⟩
                        · refine At.step hm ht ⟨[(1, .b false)], [], [], [3, 4, 7, 8, 11], [0, 1, 2, 3]⟩ 7 ⟨[(3, .one (.c (.ptr 0 0))), (4, .one (.c (.ptr 1 0))), (7, .one (.c (.ptr 2 0))), (8, .one (.c (.ptr 3 0))), (11, .one (.c (.d (.bool false))))], [], [(0, [.d (.int .u16 s_0), .d (.int .u16 s_1), .d (.int .u32 s_2), .d (.int .u32 s_3), .d (.int .u8 s_4), .d (.sl (.pair (.int .u8) (.slice (.int .u8))) s_5), .d (.sl (.int .u8) s_6)]), (1, [.d (.int .u16 t_0), .d (.int .u16 t_1), .d (.int .u32 t_2), .d (.int .u32 t_3), .d (.int .u8 t_4), .d (.sl (.pair (.int .u8) (.slice (.int .u8))) t_5), .d (.sl (.int .u8) t_6)]), (2, [.d (.int .u8 o__0), .d (.sl (.int .u8) o__1)]), (3, [.d (.int .u8 o__2), .d (.sl (.int .u8) o__3)])], 4⟩ [((s_4 : Int) == t_4) = false] (by kernel_rfl) ⟨b281_1, trivial⟩ ?_
                          obtain ⟨r283_0, cr283_0, h⟩ := bindS h
                          obtain ⟨r283_1, cr283_1, h⟩ := bindS h
                          rcases iteS h with ⟨b283_11, h⟩ | ⟨b283_11, h⟩
                          · obtain ⟨r283_2, cr283_2, h⟩ := bindS h
                            have h := Option.some.inj h
                            subst h
                            exact At.fin hm ht ⟨[(2, .call [] [] (f56_mac_Cover_out r283_0)), (6, .call [] [] (f56_mac_Cover_out r283_1)), (11, .b true), (12, .call [] [] (f57_broughamlaw10_alive_out r283_2))], [], [], [6], []⟩ [FnOK Go.Proofs.Try.prog 56 (f56_mac_Cover_in s_0 s_1 s_2 s_3 s_4 s_5 s_6 o__0 o__1) (f56_mac_Cover_out r283_0), FnOK Go.Proofs.Try.prog 56 (f56_mac_Cover_in t_0 t_1 t_2 t_3 t_4 t_5 t_6 o__2 o__3) (f56_mac_Cover_out r283_1), (((strOfNums r283_0).toList == (strOfNums r283_1).toList) == false) = true, FnOK Go.Proofs.Try.prog 57 (f57_broughamlaw10_alive_in) (f57_broughamlaw10_alive_out r283_2)] (by kernel_rfl) ⟨(f56_mac_Cover_ok n s_0 s_1 s_2 s_3 s_4 s_5 s_6 o__0 o__1 r283_0 cr283_0), (f56_mac_Cover_ok n t_0 t_1 t_2 t_3 t_4 t_5 t_6 o__2 o__3 r283_1 cr283_1), b283_11, (f57_broughamlaw10_alive_ok n r283_2 cr283_2), trivial⟩
                          · have h := Option.some.inj h
                            subst h
                            exact At.fin hm ht ⟨[(2, .call [] [] (f56_mac_Cover_out r283_0)), (6, .call [] [] (f56_mac_Cover_out r283_1)), (11, .b false)], [], [], [6], []⟩ [FnOK Go.Proofs.Try.prog 56 (f56_mac_Cover_in s_0 s_1 s_2 s_3 s_4 s_5 s_6 o__0 o__1) (f56_mac_Cover_out r283_0), FnOK Go.Proofs.Try.prog 56 (f56_mac_Cover_in t_0 t_1 t_2 t_3 t_4 t_5 t_6 o__2 o__3) (f56_mac_Cover_out r283_1), (((strOfNums r283_0).toList == (strOfNums r283_1).toList) == false) = false] (by kernel_rfl) ⟨(f56_mac_Cover_ok n s_0 s_1 s_2 s_3 s_4 s_5 s_6 o__0 o__1 r283_0 cr283_0), (f56_mac_Cover_ok n t_0 t_1 t_2 t_3 t_4 t_5 t_6 o__2 o__3 r283_1 cr283_1), b283_11, trivial⟩
                    · refine At.step hm ht ⟨[(5, .b true), (12, .b true), (19, .b true), (26, .b false)], [], [], [3, 4, 7, 8, 9], [0, 1, 2, 3]⟩ 5 ⟨[(3, .one (.c (.ptr 0 0))), (4, .one (.c (.ptr 1 0))), (7, .one (.c (.ptr 2 0))), (8, .one (.c (.ptr 3 0))), (9, .one (.c (.d (.bool false))))], [], [(0, [.d (.int .u16 s_0), .d (.int .u16 s_1), .d (.int .u32 s_2), .d (.int .u32 s_3), .d (.int .u8 s_4), .d (.sl (.pair (.int .u8) (.slice (.int .u8))) s_5), .d (.sl (.int .u8) s_6)]), (1, [.d (.int .u16 t_0), .d (.int .u16 t_1), .d (.int .u32 t_2), .d (.int .u32 t_3), .d (.int .u8 t_4), .d (.sl (.pair (.int .u8) (.slice (.int .u8))) t_5), .d (.sl (.int .u8) t_6)]), (2, [.d (.int .u8 o__0), .d (.sl (.int .u8) o__1)]), (3, [.d (.int .u8 o__2), .d (.sl (.int .u8) o__3)])], 4⟩ [((s_0 : Int) == t_0) = true, ((s_1 : Int) == t_1) = true, ((s_2 : Int) == t_2) = true, ((s_3 : Int) == t_3) = false] (by kernel_rfl) ⟨b10_5, b10_12, b10_19, b10_26, trivial⟩ ?_
                      rcases iteS h with ⟨b284_5, h⟩ | ⟨b284_5, h⟩
                      · obtain ⟨g284_0, h⟩ := ifS h
                        obtain ⟨g284_1, h⟩ := ifS h
                        refine At.step hm ht ⟨[(5, .b true)], [], [], [3, 4, 7, 8, 9, 10], [0, 1, 2, 3]⟩ 6 ⟨[(3, .one (.c (.ptr 0 0))), (4, .one (.c (.ptr 1 0))), (7, .one (.c (.ptr 2 0))), (8, .one (.c (.ptr 3 0))), (9, .one (.c (.d (.bool false)))), (10, .one (.c (.d (.bool ((strOfNums (o__1.take (IntKind.wrap .i64 (((o__1.length : Nat) : Int) - 8)).toNat)).toList == (strOfNums (o__3.take (IntKind.wrap .i64 (((o__3.length : Nat) : Int) - 8)).toNat)).toList)))))], [], [(0, [.d (.int .u16 s_0), .d (.int .u16 s_1), .d (.int .u32 s_2), .d (.int .u32 s_3), .d (.int .u8 s_4), .d (.sl (.pair (.int .u8) (.slice (.int .u8))) s_5), .d (.sl (.int .u8) s_6)]), (1, [.d (.int .u16 t_0), .d (.int .u16 t_1), .d (.int .u32 t_2), .d (.int .u32 t_3), .d (.int .u8 t_4), .d (.sl (.pair (.int .u8) (.slice (.int .u8))) t_5), .d (.sl (.int .u8) t_6)]), (2, [.d (.int .u8 o__0), .d (.sl (.int .u8) o__1)]), (3, [.d (.int .u8 o__2), .d (.sl (.int .u8) o__3)])], 4⟩ [((o__0 : Int) == o__2) = true, cutOk o__1.length none (some (IntKind.wrap .i64 (((o__1.length : Nat) : Int) - 8))) none, cutOk o__3.length none (some (IntKind.wrap .i64 (((o__3.length : Nat) : Int) - 8))) none] (by kernel_rfl) ⟨b284_5, g284_0, g284_1, trivial⟩ ?_
                        refine At.step hm ht ⟨[], [], [], [3, 4, 7, 8, 11], [0, 1, 2, 3]⟩ 7 ⟨[(3, .one (.c (.ptr 0 0))), (4, .one (.c (.ptr 1 0))), (7, .one (.c (.ptr 2 0))), (8, .one (.c (.ptr 3 0))), (11, .one (.c (.d (.bool false))))], [], [(0, [.d (.int .u16 s_0), .d (.int .u16 s_1), .d (.int .u32 s_2), .d (.int .u32 s_3), .d (.int .u8 s_4), .d (.sl (.pair (.int .u8) (.slice (.int .u8))) s_5), .d (.sl (.int .u8) s_6)]), (1, [.d (.int .u16 t_0), .d (.int .u16 t_1), .d (.int .u32 t_2), .d (.int .u32 t_3), .d (.int .u8 t_4), .d (.sl (.pair (.int .u8) (.slice (.int .u8))) t_5), .d (.sl (.int .u8) t_6)]), (2, [.d (.int .u8 o__0), .d (.sl (.int .u8) o__1)]), (3, [.d (.int .u8 o__2), .d (.sl (.int .u8) o__3)])], 4⟩ [] (by kernel_rfl) trivial ?_
                        obtain ⟨r286_0, cr286_0, h⟩ := bindS h
                        obtain ⟨r286_1, cr286_1, h⟩ := bindS h
                        rcases iteS h with ⟨b286_11, h⟩ | ⟨b286_11, h⟩
                        · obtain ⟨r286_2, cr286_2, h⟩ := bindS h
                          have h := Option.some.inj h
                          subst h
                          exact At.fin hm ht ⟨[(2, .call [] [] (f56_mac_Cover_out r286_0)), (6, .call [] [] (f56_mac_Cover_out r286_1)), (11, .b true), (12, .call [] [] (f57_broughamlaw10_alive_out r286_2))], [], [], [6], []⟩ [FnOK Go.Proofs.Try.prog 56 (f56_mac_Cover_in s_0 s_1 s_2 s_3 s_4 s_5 s_6 o__0 o__1) (f56_mac_Cover_out r286_0), FnOK Go.Proofs.Try.prog 56 (f56_mac_Cover_in t_0 t_1 t_2 t_3 t_4 t_5 t_6 o__2 o__3) (f56_mac_Cover_out r286_1), (((strOfNums r286_0).toList == (strOfNums r286_1).toList) == false) = true, FnOK Go.Proofs.Try.prog 57 (f57_broughamlaw10_alive_in) (f57_broughamlaw10_alive_out r286_2)] (by kernel_rfl) ⟨(f56_mac_Cover_ok n s_0 s_1 s_2 s_3 s_4 s_5 s_6 o__0 o__1 r286_0 cr286_0), (f56_mac_Cover_ok n t_0 t_1 t_2 t_3 t_4 t_5 t_6 o__2 o__3 r286_1 cr286_1), b286_11, (f57_broughamlaw10_alive_ok n r286_2 cr286_2), trivial⟩
                        · have h := Option.some.inj h
                          subst h
                          exact At.fin hm ht ⟨[(2, .call [] [] (f56_mac_Cover_out r286_0)), (6, .call [] [] (f56_mac_Cover_out r286_1)), (11, .b false)], [], [], [6], []⟩ [FnOK Go.Proofs.Try.prog 56 (f56_mac_Cover_in s_0 s_1 s_2 s_3 s_4 s_5 s_6 o__0 o__1) (f56_mac_Cover_out r286_0), FnOK Go.Proofs.Try.prog 56 (f56_mac_Cover_in t_0 t_1 t_2 t_3 t_4 t_5 t_6 o__2 o__3) (f56_mac_Cover_out r286_1), (((strOfNums r286_0).toList == (strOfNums r286_1).toList) == false) = false] (by kernel_rfl) ⟨(f56_mac_Cover_ok n s_0 s_1 s_2 s_3 s_4 s_5 s_6 o__0 o__1 r286_0 cr286_0), (f56_mac_Cover_ok n t_0 t_1 t_2 t_3 t_4 t_5 t_6 o__2 o__3 r286_1 cr286_1), b286_11, trivial⟩
                      · refine At.step hm ht ⟨[(5, .b false)], [], [], [3, 4, 7, 8, 9, 10], [0, 1, 2, 3]⟩ 6 ⟨[(3, .one (.c (.ptr 0 0))), (4, .one (.c (.ptr 1 0))), (7, .one (.c (.ptr 2 0))), (8, .one (.c (.ptr 3 0))), (9, .one (.c (.d (.bool false)))), (10, .one (.c (.d (.bool false))))], [], [(0, [.d (.int .u16 s_0), .d (.int .u16 s_1), .d (.int .u32 s_2), .d (.int .u32 s_3), .d (.int .u8 s_4), .d (.sl (.pair (.int .u8) (.slice (.int .u8))) s_5), .d (.sl (.int .u8) s_6)]), (1, [.d (.int .u16 t_0), .d (.int .u16 t_1), .d (.int .u32 t_2), .d (.int .u32 t_3), .d (.int .u8 t_4), .d (.sl (.pair (.int .u8) (.slice (.int .u8))) t_5), .d (.sl (.int .u8) t_6)]), (2, [.d (.int .u8 o__0), .d (.sl (.int .u8) o__1)]), (3, [.d (.int .u8 o__2), .d (.sl (.int .u8) o__3)])], 4⟩ [((o__0 : Int) == o__2) = false] (by kernel_rfl) ⟨b284_5, trivial⟩ ?_
                        refine At.step hm ht ⟨[], [], [], [3, 4, 7, 8, 11], [0, 1, 2, 3]⟩ 7 ⟨[(3, .one (.c (.ptr 0 0))), (4, .one (.c (.ptr 1 0))), (7, .one (.c (.ptr 2 0))), (8, .one (.c (.ptr 3 0))), (11, .one (.c (.d (.bool false))))], [], [(0, [.d (.int .u16 s_0), .d (.int .u16 s_1), .d (.int .u32 s_2), .d (.int .u32 s_3), .d (.int .u8 s_4), .d (.sl (.pair (.int .u8) (.slice (.int .u8))) s_5), .d (.sl (.int .u8) s_6)]), (1, [.d (.int .u16 t_0), .d (.int .u16 t_1), .d (.int .u32 t_2), .d (.int .u32 t_3), .d (.int .u8 t_4), .d (.sl (.pair (.int .u8) (.slice (.int .u8))) t_5), .d (.sl (.int .u8) t_6)]), (2, [.d (.int .u8 o__0), .d (.sl (.int .u8) o__1)]), (3, [.d (.int .u8 o__2), .d (.sl (.int .u8) o__3)])], 4⟩ [] (by kernel_rfl) trivial ?_
                        obtain ⟨r288_0, cr288_0, h⟩ := bindS h
                        obtain ⟨r288_1, cr288_1, h⟩ := bindS h
                        rcases iteS h with ⟨b288_11, h⟩ | ⟨b288_11, h⟩
                        · obtain ⟨r288_2, cr288_2, h⟩ := bindS h
                          have h := Option.some.inj h
                          subst h
                          exact At.fin hm ht ⟨[(2, .call [] [] (f56_mac_Cover_out r288_0)), (6, .call [] [] (f56_mac_Cover_out r288_1)), (11, .b true), (12, .call [] [] (f57_broughamlaw10_alive_out r288_2))], [], [], [6], []⟩ [FnOK Go.Proofs.Try.prog 56 (f56_mac_Cover_in s_0 s_1 s_2 s_3 s_4 s_5 s_6 o__0 o__1) (f56_mac_Cover_out r288_0), FnOK Go.Proofs.Try.prog 56 (f56_mac_Cover_in t_0 t_1 t_2 t_3 t_4 t_5 t_6 o__2 o__3) (f56_mac_Cover_out r288_1), (((strOfNums r288_0).toList == (strOfNums r288_1).toList) == false) = true, FnOK Go.Proofs.Try.prog 57 (f57_broughamlaw10_alive_in) (f57_broughamlaw10_alive_out r288_2)] (by kernel_rfl) ⟨(f56_mac_Cover_ok n s_0 s_1 s_2 s_3 s_4 s_5 s_6 o__0 o__1 r288_0 cr288_0), (f56_mac_Cover_ok n t_0 t_1 t_2 t_3 t_4 t_5 t_6 o__2 o__3 r288_1 cr288_1), b288_11, (f57_broughamlaw10_alive_ok n r288_2 cr288_2), trivial⟩
                        · have h := Option.some.inj h
                          subst h
                          exact At.fin hm ht ⟨[(2, .call [] [] (f56_mac_Cover_out r288_0)), (6, .call [] [] (f56_mac_Cover_out r288_1)), (11, .b false)], [], [], [6], []⟩ [FnOK Go.Proofs.Try.prog 56 (f56_mac_Cover_in s_0 s_1 s_2 s_3 s_4 s_5 s_6 o__0 o__1) (f56_mac_Cover_out r288_0), FnOK Go.Proofs.Try.prog 56 (f56_mac_Cover_in t_0 t_1 t_2 t_3 t_4 t_5 t_6 o__2 o__3) (f56_mac_Cover_out r288_1), (((strOfNums r288_0).toList == (strOfNums r288_1).toList) == false) = false] (by kernel_rfl) ⟨(f56_mac_Cover_ok n s_0 s_1 s_2 s_3 s_4 s_5 s_6 o__0 o__1 r288_0 cr288_0), (f56_mac_Cover_ok n t_0 t_1 t_2 t_3 t_4 t_5 t_6 o__2 o__3 r288_1 cr288_1), b288_11, trivial⟩
                  · refine At.step hm ht ⟨[(5, .b true), (12, .b true), (19, .b false)], [], [], [3, 4, 7, 8, 9], [0, 1, 2, 3]⟩ 5 ⟨[(3, .one (.c (.ptr 0 0))), (4, .one (.c (.ptr 1 0))), (7, .one (.c (.ptr 2 0))), (8, .one (.c (.ptr 3 0))), (9, .one (.c (.d (.bool false))))], [], [(0, [.d (.int .u16 s_0), .d (.int .u16 s_1), .d (.int .u32 s_2), .d (.int .u32 s_3), .d (.int .u8 s_4), .d (.sl (.pair (.int .u8) (.slice (.int .u8))) s_5), .d (.sl (.int .u8) s_6)]), (1, [.d (.int .u16 t_0), .d (.int .u16 t_1), .d (.int .u32 t_2), .d (.int .u32 t_3), .d (.int .u8 t_4), .d (.sl (.pair (.int .u8) (.slice (.int .u8))) t_5), .d (.sl (.int .u8) t_6)]), (2, [.d (.int .u8 o__0), .d (.sl (.int .u8) o__1)]), (3, [.d (.int .u8 o__2), .d (.sl (.int .u8) o__3)])], 4⟩ [((s_0 : Int) == t_0) = true, ((s_1 : Int) == t_1) = true, ((s_2 : Int) == t_2) = false] (by kernel_rfl) ⟨b10_5, b10_12, b10_19, trivial⟩ ?_
                    rcases iteS h with ⟨b289_5, h⟩ | ⟨b289_5, h⟩
                    · obtain ⟨g289_0, h⟩ := ifS h
                      obtain ⟨g289_1, h⟩ := ifS h
                      refine At.step hm ht ⟨[(5, .b true)], [], [], [3, 4, 7, 8, 9, 10], [0, 1, 2, 3]⟩ 6 ⟨[(3, .one (.c (.ptr 0 0))), (4, .one (.c (.ptr 1 0))), (7, .one (.c (.ptr 2 0))), (8, .one (.c (.ptr 3 0))), (9, .one (.c (.d (.bool false)))), (10, .one (.c (.d (.bool ((strOfNums (o__1.take (IntKind.wrap .i64 (((o__1.length : Nat) : Int) - 8)).toNat)).toList == (strOfNums (o__3.take (IntKind.wrap .i64 (((o__3.length : Nat) : Int) - 8)).toNat)).toList)))))], [], [(0, [.d (.int .u16 s_0), .d (.int .u16 s_1), .d (.int .u32 s_2), .d (.int .u32 s_3), .d (.int .u8 s_4), .d (.sl (.pair (.int .u8) (.slice (.int .u8))) s_5), .d (.sl (.int .u8) s_6)]), (1, [.d (.int .u16 t_0), .d (.int .u16 t_1), .d (.int .u32 t_2), .d (.int .u32 t_3), .d (.int .u8 t_4), .d (.sl (.pair (.int .u8) (.slice (.int .u8))) t_5), .d (.sl (.int .u8) t_6)]), (2, [.d (.int .u8 o__0), .d (.sl (.int .u8) o__1)]), (3, [.d (.int .u8 o__2), .d (.sl (.int .u8) o__3)])], 4⟩ [((o__0 : Int) == o__2) = true, cutOk o__1.length none (some (IntKind.wrap .i64 (((o__1.length : Nat) : Int) - 8))) none, cutOk o__3.length none (some (IntKind.wrap .i64 (((o__3.length : Nat) : Int) - 8))) none] (by kernel_rfl) ⟨b289_5, g289_0, g289_1, trivial⟩ ?_
                      refine At.step hm ht ⟨[], [], [], [3, 4, 7, 8, 11], [0, 1, 2, 3]⟩ 7 ⟨[(3, .one (.c (.ptr 0 0))), (4, .one (.c (.ptr 1 0))), (7, .one (.c (.ptr 2 0))), (8, .one (.c (.ptr 3 0))), (11, .one (.c (.d (.bool false))))], [], [(0, [.d (.int .u16 s_0), .d (.int .u16 s_1), .d (.int .u32 s_2), .d (.int .u32 s_3), .d (.int .u8 s_4), .d (.sl (.pair (.int .u8) (.slice (.int .u8))) s_5), .d (.sl (.int .u8) s_6)]), (1, [.d (.int .u16 t_0), .d (.int .u16 t_1), .d (.int .u32 t_2), .d (.int .u32 t_3), .d (.int .u8 t_4), .d (.sl (.pair (.int .u8) (.slice (.int .u8))) t_5), .d (.sl (.int .u8) t_6)]), (2, [.d (.int .u8 o__0), .d (.sl (.int .u8) o__1)]), (3, [.d (.int .u8 o__2), .d (.sl (.int .u8) o__3)])], 4⟩ [] (by kernel_rfl) trivial ?_
                      obtain ⟨r291_0, cr291_0, h⟩ := bindS h
                      obtain ⟨r291_1, cr291_1, h⟩ := bindS h
                      rcases iteS h with ⟨b291_11, h⟩ | ⟨b291_11, h⟩
                      · obtain ⟨r291_2, cr291_2, h⟩ := bindS h
                        have h := Option.some.inj h
                        subst h
                        exact At.fin hm ht ⟨[(2, .call [] [] (f56_mac_Cover_out r291_0)), (6, .call [] [] (f56_mac_Cover_out r291_1)), (11, .b true), (12, .call [] [] (f57_broughamlaw10_alive_out r291_2))], [], [], [6], []⟩ [FnOK Go.Proofs.Try.prog 56 (f56_mac_Cover_in s_0 s_1 s_2 s_3 s_4 s_5 s_6 o__0 o__1) (f56_mac_Cover_out r291_0), FnOK Go.Proofs.Try.prog 56 (f56_mac_Cover_in t_0 t_1 t_2 t_3 t_4 t_5 t_6 o__2 o__3) (f56_mac_Cover_out r291_1), (((strOfNums r291_0).toList == (strOfNums r291_1).toList) == false) = true, FnOK Go.Proofs.Try.prog 57 (f57_broughamlaw10_alive_in) (f57_broughamlaw10_alive_out r291_2)] (by kernel_rfl) ⟨(f56_mac_Cover_ok n s_0 s_1 s_2 s_3 s_4 s_5 s_6 o__0 o__1 r291_0 cr291_0), (f56_mac_Cover_ok n t_0 t_1 t_2 t_3 t_4 t_5 t_6 o__2 o__3 r291_1 cr291_1), b291_11, (f57_broughamlaw10_alive_ok n r291_2 cr291_2), trivial⟩
                      · have h := Option.some.inj h
                        subst h
                        exact At.fin hm ht ⟨[(2, .call [] [] (f56_mac_Cover_out r291_0)), (6, .call [] [] (f56_mac_Cover_out r291_1)), (11, .b false)], [], [], [6], []⟩ [FnOK Go.Proofs.Try.prog 56 (f56_mac_Cover_in s_0 s_1 s_2 s_3 s_4 s_5 s_6 o__0 o__1) (f56_mac_Cover_out r291_0), FnOK Go.Proofs.Try.prog 56 (f56_mac_Cover_in t_0 t_1 t_2 t_3 t_4 t_5 t_6 o__2 o__3) (f56_mac_Cover_out r291_1), (((strOfNums r291_0).toList == (strOfNums r291_1).toList) == false) = false] (by kernel_rfl) ⟨(f56_mac_Cover_ok n s_0 s_1 s_2 s_3 s_4 s_5 s_6 o__0 o__1 r291_0 cr291_0), (f56_mac_Cover_ok n t_0 t_1 t_2 t_3 t_4 t_5 t_6 o__2 o__3 r291_1 cr291_1), b291_11, trivial⟩
                    · refine At.step hm ht ⟨[(5, .b false)], [], [], [3, 4, 7, 8, 9, 10], [0, 1, 2, 3]⟩ 6 ⟨[(3, .one (.c (.ptr 0 0))), (4, .one (.c (.ptr 1 0))), (7, .one (.c (.ptr 2 0))), (8, .one (.c (.ptr 3 0))), (9, .one (.c (.d (.bool false)))), (10, .one (.c (.d (.bool false))))], [], [(0, [.d (.int .u16 s_0), .d (.int .u16 s_1), .d (.int .u32 s_2), .d (.int .u32 s_3), .d (.int .u8 s_4), .d (.sl (.pair (.int .u8) (.slice (.int .u8))) s_5), .d (.sl (.int .u8) s_6)]), (1, [.d (.int .u16 t_0), .d (.int .u16 t_1), .d (.int .u32 t_2), .d (.int .u32 t_3), .d (.int .u8 t_4), .d (.sl (.pair (.int .u8) (.slice (.int .u8))) t_5), .d (.sl (.int .u8) t_6)]), (2, [.d (.int .u8 o__0), .d (.sl (.int .u8) o__1)]), (3, [.d (.int .u8 o__2), .d (.sl (.int .u8) o__3)])], 4⟩ [((o__0 : Int) == o__2) = false] (by kernel_rfl) ⟨b289_5, trivial⟩ ?_
                      refine At.step hm ht ⟨[], [], [], [3, 4, 7, 8, 11], [0, 1, 2, 3]⟩ 7 ⟨[(3, .one (.c (.ptr 0 0))), (4, .one (.c (.ptr 1 0))), (7, .one (.c (.ptr 2 0))), (8, .one (.c (.ptr 3 0))), (11, .one (.c (.d (.bool false))))], [], [(0, [.d (.int .u16 s_0), .d (.int .u16 s_1), .d (.int .u32 s_2), .d (.int .u32 s_3), .d (.int .u8 s_4), .d (.sl (.pair (.int .u8) (.slice (.int .u8))) s_5), .d (.sl (.int .u8) s_6)]), (1, [.d (.int .u16 t_0), .d (.int .u16 t_1), .d (.int .u32 t_2), .d (.int .u32 t_3), .d (.int .u8 t_4), .d (.sl (.pair (.int .u8) (.slice (.int .u8))) t_5), .d (.sl (.int .u8) t_6)]), (2, [.d (.int .u8 o__0), .d (.sl (.int .u8) o__1)]), (3, [.d (.int .u8 o__2), .d (.sl (.int .u8) o__3)])], 4⟩ [] (by kernel_rfl) trivial ?_
                      obtain ⟨r293_0, cr293_0, h⟩ := bindS h
                      obtain ⟨r293_1, cr293_1, h⟩ := bindS h
                      rcases iteS h with ⟨b293_11, h⟩ | ⟨b293_11, h⟩
                      · obtain ⟨r293_2, cr293_2, h⟩ := bindS h
                        have h := Option.some.inj h
                        subst h
                        exact At.fin hm ht ⟨[(2, .call [] [] (f56_mac_Cover_out r293_0)), (6, .call [] [] (f56_mac_Cover_out r293_1)), (11, .b true), (12, .call [] [] (f57_broughamlaw10_alive_out r293_2))], [], [], [6], []⟩ [FnOK Go.Proofs.Try.prog 56 (f56_mac_Cover_in s_0 s_1 s_2 s_3 s_4 s_5 s_6 o__0 o__1) (f56_mac_Cover_out r293_0), FnOK Go.Proofs.Try.prog 56 (f56_mac_Cover_in t_0 t_1 t_2 t_3 t_4 t_5 t_6 o__2 o__3) (f56_mac_Cover_out r293_1), (((strOfNums r293_0).toList == (strOfNums r293_1).toList) == false) = true, FnOK Go.Proofs.Try.prog 57 (f57_broughamlaw10_alive_in) (f57_broughamlaw10_alive_out r293_2)] (by kernel_rfl) ⟨(f56_mac_Cover_ok n s_0 s_1 s_2 s_3 s_4 s_5 s_6 o__0 o__1 r293_0 cr293_0), (f56_mac_Cover_ok n t_0 t_1 t_2 t_3 t_4 t_5 t_6 o__2 o__3 r293_1 cr293_1), b293_11, (f57_broughamlaw10_alive_ok n r293_2 cr293_2), trivial⟩
                      · have h := Option.some.inj h
                        subst h
                        exact At.fin hm ht ⟨[(2, .call [] [] (f56_mac_Cover_out r293_0)), (6, .call [] [] (f56_mac_Cover_out r293_1)), (11, .b false)], [], [], [6], []⟩ [FnOK Go.Proofs.Try.prog 56 (f56_mac_Cover_in s_0 s_1 s_2 s_3 s_4 s_5 s_6 o__0 o__1) (f56_mac_Cover_out r293_0), FnOK Go.Proofs.Try.prog 56 (f56_mac_Cover_in t_0 t_1 t_2 t_3 t_4 t_5 t_6 o__2 o__3) (f56_mac_Cover_out r293_1), (((strOfNums r293_0).toList == (strOfNums r293_1).toList) == false) = false] (by kernel_rfl) ⟨(f56_mac_Cover_ok n s_0 s_1 s_2 s_3 s_4 s_5 s_6 o__0 o__1 r293_0 cr293_0), (f56_mac_Cover_ok n t_0 t_1 t_2 t_3 t_4 t_5 t_6 o__2 o__3 r293_1 cr293_1), b293_11, trivial⟩
                · refine At.step hm ht ⟨[(5, .b true), (12, .b false)], [], [], [3, 4, 7, 8, 9], [0, 1, 2, 3]⟩ 5 ⟨[(3, .one (.c (.ptr 0 0))), (4, .one (.c (.ptr 1 0))), (7, .one (.c (.ptr 2 0))), (8, .one (.c (.ptr 3 0))), (9, .one (.c (.d (.bool false))))], [], [(0, [.d (.int .u16 s_0), .d (.int .u16 s_1), .d (.int .u32 s_2), .d (.int .u32 s_3), .d (.int .u8 s_4), .d (.sl (.pair (.int .u8) (.slice (.int .u8))) s_5), .d (.sl (.int .u8) s_6)]), (1, [.d (.int .u16 t_0), .d (.int .u16 t_1), .d (.int .u32 t_2), .d (.int .u32 t_3), .d (.int .u8 t_4), .d (.sl (.pair (.int .u8) (.slice (.int .u8))) t_5), .d (.sl (.int .u8) t_6)]), (2, [.d (.int .u8 o__0), .d (.sl (.int .u8) o__1)]), (3, [.d (.int .u8 o__2), .d (.sl (.int .u8) o__3)])], 4⟩ [((s_0 : Int) == t_0) = true, ((s_1 : Int) == t_1) = false] (by kernel_rfl) ⟨b10_5, b10_12, trivial⟩ ?_
                  rcases iteS h with ⟨b294_5, h⟩ | ⟨b294_5, h⟩
                  · obtain ⟨g294_0, h⟩ := ifS h
                    obtain ⟨g294_1, h⟩ := ifS h
                    refine At.step hm ht ⟨[(5, .b true)], [], [], [3, 4, 7, 8, 9, 10], [0, 1, 2, 3]⟩ 6 ⟨[(3, .one (.c (.ptr 0 0))), (4, .one (.c (.ptr 1 0))), (7, .one (.c (.ptr 2 0))), (8, .one (.c (.ptr 3 0))), (9, .one (.c (.d (.bool false)))), (10, .one (.c (.d (.bool ((strOfNums (o__1.take (IntKind.wrap .i64 (((o__1.length : Nat) : Int) - 8)).toNat)).toList == (strOfNums (o__3.take (IntKind.wrap .i64 (((o__3.length : Nat) : Int) - 8)).toNat)).toList)))))], [], [(0, [.d (.int .u16 s_0), .d (.int .u16 s_1), .d (.int .u32 s_2), .d (.int .u32 s_3), .d (.int .u8 s_4), .d (.sl (.pair (.int .u8) (.slice (.int .u8))) s_5), .d (.sl (.int .u8) s_6)]), (1, [.d (.int .u16 t_0), .d (.int .u16 t_1), .d (.int .u32 t_2), .d (.int .u32 t_3), .d (.int .u8 t_4), .d (.sl (.pair (.int .u8) (.slice (.int .u8))) t_5), .d (.sl (.int .u8) t_6)]), (2, [.d (.int .u8 o__0), .d (.sl (.int .u8) o__1)]), (3, [.d (.int .u8 o__2), .d (.sl (.int .u8) o__3)])], 4⟩ [((o__0 : Int) == o__2) = true, cutOk o__1.length none (some (IntKind.wrap .i64 (((o__1.length : Nat) : Int) - 8))) none, cutOk o__3.length none (some (IntKind.wrap .i64 (((o__3.length : Nat) : Int) - 8))) none] (by kernel_rfl) ⟨b294_5, g294_0, g294_1, trivial⟩ ?_
                    refine At.step hm ht ⟨[], [], [], [3, 4, 7, 8, 11], [0, 1, 2, 3]⟩ 7 ⟨[(3, .one (.c (.ptr 0 0))), (4, .one (.c (.ptr 1 0))), (7, .one (.c (.ptr 2 0))), (8, .one (.c (.ptr 3 0))), (11, .one (.c (.d (.bool false))))], [], [(0, [.d (.int .u16 s_0), .d (.int .u16 s_1), .d (.int .u32 s_2), .d (.int .u32 s_3), .d (.int .u8 s_4), .d (.sl (.pair (.int .u8) (.slice (.int .u8))) s_5), .d (.sl (.int .u8) s_6)]), (1, [.d (.int .u16 t_0), .d (.int .u16 t_1), .d (.int .u32 t_2), .d (.int .u32 t_3), .d (.int .u8 t_4), .d (.sl (.pair (.int .u8) (.slice (.int .u8))) t_5), .d (.sl (.int .u8) t_6)]), (2, [.d (.int .u8 o__0), .d (.sl (.int .u8) o__1)]), (3, [.d (.int .u8 o__2), .d (.sl (.int .u8) o__3)])], 4⟩ [] (by kernel_rfl) trivial ?_
                    obtain ⟨r296_0, cr296_0, h⟩ := bindS h
                    obtain ⟨r296_1, cr296_1, h⟩ := bindS h
                    rcases iteS h with ⟨b296_11, h⟩ | ⟨b296_11, h⟩
                    · obtain ⟨r296_2, cr296_2, h⟩ := bindS h
                      have h := Option.some.inj h
                      subst h
                      exact At.fin hm ht ⟨[(2, .call [] [] (f56_mac_Cover_out r296_0)), (6, .call [] [] (f56_mac_Cover_out r296_1)), (11, .b true), (12, .call [] [] (f57_broughamlaw10_alive_out r296_2))], [], [], [6], []⟩ [FnOK Go.Proofs.Try.prog 56 (f56_mac_Cover_in s_0 s_1 s_2 s_3 s_4 s_5 s_6 o__0 o__1) (f56_mac_Cover_out r296_0), FnOK Go.Proofs.Try.prog 56 (f56_mac_Cover_in t_0 t_1 t_2 t_3 t_4 t_5 t_6 o__2 o__3) (f56_mac_Cover_out r296_1), (((strOfNums r296_0).toList == (strOfNums r296_1).toList) == false) = true, FnOK Go.Proofs.Try.prog 57 (f57_broughamlaw10_alive_in) (f57_broughamlaw10_alive_out r296_2)] (by kernel_rfl) ⟨(f56_mac_Cover_ok n s_0 s_1 s_2 s_3 s_4 s_5 s_6 o__0 o__1 r296_0 cr296_0), (f56_mac_Cover_ok n t_0 t_1 t_2 t_3 t_4 t_5 t_6 o__2 o__3 r296_1 cr296_1), b296_11, (f57_broughamlaw10_alive_ok n r296_2 cr296_2), trivial⟩
                    · have h := Option.some.inj h
                      subst h
                      exact At.fin hm ht ⟨[(2, .call [] [] (f56_mac_Cover_out r296_0)), (6, .call [] [] (f56_mac_Cover_out r296_1)), (11, .b false)], [], [], [6], []⟩ [FnOK Go.Proofs.Try.prog 56 (f56_mac_Cover_in s_0 s_1 s_2 s_3 s_4 s_5 s_6 o__0 o__1) (f56_mac_Cover_out r296_0), FnOK Go.Proofs.Try.prog 56 (f56_mac_Cover_in t_0 t_1 t_2 t_3 t_4 t_5 t_6 o__2 o__3) (f56_mac_Cover_out r296_1), (((strOfNums r296_0).toList == (strOfNums r296_1).toList) == false) = false] (by kernel_rfl) ⟨(f56_mac_Cover_ok n s_0 s_1 s_2 s_3 s_4 s_5 s_6 o__0 o__1 r296_0 cr296_0), (f56_mac_Cover_ok n t_0 t_1 t_2 t_3 t_4 t_5 t_6 o__2 o__3 r296_1 cr296_1), b296_11, trivial⟩
                  · refine At.step hm ht ⟨[(5, .b false)], [], [], [3, 4, 7, 8, 9, 10], [0, 1, 2, 3]⟩ 6 ⟨[(3, .one (.c (.ptr 0 0))), (4, .one (.c (.ptr 1 0))), (7, .one (.c (.ptr 2 0))), (8, .one (.c (.ptr 3 0))), (9, .one (.c (.d (.bool false)))), (10, .one (.c (.d (.bool false))))], [], [(0, [.d (.int .u16 s_0), .d (.int .u16 s_1), .d (.int .u32 s_2), .d (.int .u32 s_3), .d (.int .u8 s_4), .d (.sl (.pair (.int .u8) (.slice (.int .u8))) s_5), .d (.sl (.int .u8) s_6)]), (1, [.d (.int .u16 t_0), .d (.int .u16 t_1), .d (.int .u32 t_2), .d (.int .u32 t_3), .d (.int .u8 t_4), .d (.sl (.pair (.int .u8) (.slice (.int .u8))) t_5), .d (.sl (.int .u8) t_6)]), (2, [.d (.int .u8 o__0), .d (.sl (.int .u8) o__1)]), (3, [.d (.int .u8 o__2), .d (.sl (.int .u8) o__3)])], 4⟩ [((o__0 : Int) == o__2) = false] (by kernel_rfl) ⟨b294_5, trivial⟩ ?_
                    refine At.step hm ht ⟨[], [], [], [3, 4, 7, 8, 11], [0, 1, 2, 3]⟩ 7 ⟨[(3, .one (.c (.ptr 0 0))), (4, .one (.c (.ptr 1 0))), (7, .one (.c (.ptr 2 0))), (8, .one (.c (.ptr 3 0))), (11, .one (.c (.d (.bool false))))], [], [(0, [.d (.int .u16 s_0), .d (.int .u16 s_1), .d (.int .u32 s_2), .d (.int .u32 s_3), .d (.int .u8 s_4), .d (.sl (.pair (.int .u8) (.slice (.int .u8))) s_5), .d (.sl (.int .u8) s_6)]), (1, [.d (.int .u16 t_0), .d (.int .u16 t_1), .d (.int .u32 t_2), .d (.int .u32 t_3), .d (.int .u8 t_4), .d (.sl (.pair (.int .u8) (.slice (.int .u8))) t_5), .d (.sl (.int .u8) t_6)]), (2, [.d (.int .u8 o__0), .d (.sl (.int .u8) o__1)]), (3, [.d (.int .u8 o__2), .d (.sl (.int .u8) o__3)])], 4⟩ [] (by kernel_rfl) trivial ?_
                    obtain ⟨r298_0, cr298_0, h⟩ := bindS h
                    obtain ⟨r298_1, cr298_1, h⟩ := bindS h
                    rcases iteS h with ⟨b298_11, h⟩ | ⟨b298_11, h⟩
                    · obtain ⟨r298_2, cr298_2, h⟩ := bindS h
                      have h := Option.some.inj h
                      subst h
                      exact At.fin hm ht ⟨[(2, .call [] [] (f56_mac_Cover_out r298_0)), (6, .call [] [] (f56_mac_Cover_out r298_1)), (11, .b true), (12, .call [] [] (f57_broughamlaw10_alive_out r298_2))], [], [], [6], []⟩ [FnOK Go.Proofs.Try.prog 56 (f56_mac_Cover_in s_0 s_1 s_2 s_3 s_4 s_5 s_6 o__0 o__1) (f56_mac_Cover_out r298_0), FnOK Go.Proofs.Try.prog 56 (f56_mac_Cover_in t_0 t_1 t_2 t_3 t_4 t_5 t_6 o__2 o__3) (f56_mac_Cover_out r298_1), (((strOfNums r298_0).toList == (strOfNums r298_1).toList) == false) = true, FnOK Go.Proofs.Try.prog 57 (f57_broughamlaw10_alive_in) (f57_broughamlaw10_alive_out r298_2)] (by kernel_rfl) ⟨(f56_mac_Cover_ok n s_0 s_1 s_2 s_3 s_4 s_5 s_6 o__0 o__1 r298_0 cr298_0), (f56_mac_Cover_ok n t_0 t_1 t_2 t_3 t_4 t_5 t_6 o__2 o__3 r298_1 cr298_1), b298_11, (f57_broughamlaw10_alive_ok n r298_2 cr298_2), trivial⟩
                    · have h := Option.some.inj h
                      subst h
                      exact At.fin hm ht ⟨[(2, .call [] [] (f56_mac_Cover_out r298_0)), (6, .call [] [] (f56_mac_Cover_out r298_1)), (11, .b false)], [], [], [6], []⟩ [FnOK Go.Proofs.Try.prog 56 (f56_mac_Cover_in s_0 s_1 s_2 s_3 s_4 s_5 s_6 o__0 o__1) (f56_mac_Cover_out r298_0), FnOK Go.Proofs.Try.prog 56 (f56_mac_Cover_in t_0 t_1 t_2 t_3 t_4 t_5 t_6 o__2 o__3) (f56_mac_Cover_out r298_1), (((strOfNums r298_0).toList == (strOfNums r298_1).toList) == false) = false] (by kernel_rfl) ⟨(f56_mac_Cover_ok n s_0 s_1 s_2 s_3 s_4 s_5 s_6 o__0 o__1 r298_0 cr298_0), (f56_mac_Cover_ok n t_0 t_1 t_2 t_3 t_4 t_5 t_6 o__2 o__3 r298_1 cr298_1), b298_11, trivial⟩
              · refine At.step hm ht ⟨[(5, .b false)], [], [], [3, 4, 7, 8, 9], [0, 1, 2, 3]⟩ 5 ⟨[(3, .one (.c (.ptr 0 0))), (4, .one (.c (.ptr 1 0))), (7, .one (.c (.ptr 2 0))), (8, .one (.c (.ptr 3 0))), (9, .one (.c (.d (.bool false))))], [], [(0, [.d (.int .u16 s_0), .d (.int .u16 s_1), .d (.int .u32 s_2), .d (.int .u32 s_3), .d (.int .u8 s_4), .d (.sl (.pair (.int .u8) (.slice (.int .u8))) s_5), .d (.sl (.int .u8) s_6)]), (1, [.d (.int .u16 t_0), .d (.int .u16 t_1), .d (.int .u32 t_2), .d (.int .u32 t_3), .d (.int .u8 t_4), .d (.sl (.pair (.int .u8) (.slice (.int .u8))) t_5), .d (.sl (.int .u8) t_6)]), (2, [.d (.int .u8 o__0), .d (.sl (.int .u8) o__1)]), (3, [.d (.int .u8 o__2), .d (.sl (.int .u8) o__3)])], 4⟩ [((s_0 : Int) == t_0) = false] (by kernel_rfl) ⟨b10_5, trivial⟩ ?_
                rcases iteS h with ⟨b299_5, h⟩ | ⟨b299_5, h⟩
                · obtain ⟨g299_0, h⟩ := ifS h
                  obtain ⟨g299_1, h⟩ := ifS h
                  refine At.step hm ht ⟨[(5, .b true)], [], [], [3, 4, 7, 8, 9, 10], [0, 1, 2, 3]⟩ 6 ⟨[(3, .one (.c (.ptr 0 0))), (4, .one (.c (.ptr 1 0))), (7, .one (.c (.ptr 2 0))), (8, .one (.c (.ptr 3 0))), (9, .one (.c (.d (.bool false)))), (10, .one (.c (.d (.bool ((strOfNums (o__1.take (IntKind.wrap .i64 (((o__1.length : Nat) : Int) - 8)).toNat)).toList == (strOfNums (o__3.take (IntKind.wrap .i64 (((o__3.length : Nat) : Int) - 8)).toNat)).toList)))))], [], [(0, [.d (.int .u16 s_0), .d (.int .u16 s_1), .d (.int .u32 s_2), .d (.int .u32 s_3), .d (.int .u8 s_4), .d (.sl (.pair (.int .u8) (.slice (.int .u8))) s_5), .d (.sl (.int .u8) s_6)]), (1, [.d (.int .u16 t_0), .d (.int .u16 t_1), .d (.int .u32 t_2), .d (.int .u32 t_3), .d (.int .u8 t_4), .d (.sl (.pair (.int .u8) (.slice (.int .u8))) t_5), .d (.sl (.int .u8) t_6)]), (2, [.d (.int .u8 o__0), .d (.sl (.int .u8) o__1)]), (3, [.d (.int .u8 o__2), .d (.sl (.int .u8) o__3)])], 4⟩ [((o__0 : Int) == o__2) = true, cutOk o__1.length none (some (IntKind.wrap .i64 (((o__1.length : Nat) : Int) - 8))) none, cutOk o__3.length none (some (IntKind.wrap .i64 (((o__3.length : Nat) : Int) - 8))) none] (by kernel_rfl) ⟨b299_5, g299_0, g299_1, trivial⟩ ?_
                  refine At.step hm ht ⟨[], [], [], [3, 4, 7, 8, 11], [0, 1, 2, 3]⟩ 7 ⟨[(3, .one (.c (.ptr 0 0))), (4, .one (.c (.ptr 1 0))), (7, .one (.c (.ptr 2 0))), (8, .one (.c (.ptr 3 0))), (11, .one (.c (.d (.bool false))))], [], [(0, [.d (.int .u16 s_0), .d (.int .u16 s_1), .d (.int .u32 s_2), .d (.int .u32 s_3), .d (.int .u8 s_4), .d (.sl (.pair (.int .u8) (.slice (.int .u8))) s_5), .d (.sl (.int .u8) s_6)]), (1, [.d (.int .u16 t_0), .d (.int .u16 t_1), .d (.int .u32 t_2), .d (.int .u32 t_3), .d (.int .u8 t_4), .d (.sl (.pair (.int .u8) (.slice (.int .u8))) t_5), .d (.sl (.int .u8) t_6)]), (2, [.d (.int .u8 o__0), .d (.sl (.int .u8) o__1)]), (3, [.d (.int .u8 o__2), .d (.sl (.int .u8) o__3)])], 4⟩ [] (by kernel_rfl) trivial ?_
                  obtain ⟨r301_0, cr301_0, h⟩ := bindS h
                  obtain ⟨r301_1, cr301_1, h⟩ := bindS h
                  rcases iteS h with ⟨b301_11, h⟩ | ⟨b301_11, h⟩
                  · obtain ⟨r301_2, cr301_2, h⟩ := bindS h
                    have h := Option.some.inj h
                    subst h
                    exact At.fin hm ht ⟨[(2, .call [] [] (f56_mac_Cover_out r301_0)), (6, .call [] [] (f56_mac_Cover_out r301_1)), (11, .b true), (12, .call [] [] (f57_broughamlaw10_alive_out r301_2))], [], [], [6], []⟩ [FnOK Go.Proofs.Try.prog 56 (f56_mac_Cover_in s_0 s_1 s_2 s_3 s_4 s_5 s_6 o__0 o__1) (f56_mac_Cover_out r301_0), FnOK Go.Proofs.Try.prog 56 (f56_mac_Cover_in t_0 t_1 t_2 t_3 t_4 t_5 t_6 o__2 o__3) (f56_mac_Cover_out r301_1), (((strOfNums r301_0).toList == (strOfNums r301_1).toList) == false) = true, FnOK Go.Proofs.Try.prog 57 (f57_broughamlaw10_alive_in) (f57_broughamlaw10_alive_out r301_2)] (by kernel_rfl) ⟨(f56_mac_Cover_ok n s_0 s_1 s_2 s_3 s_4 s_5 s_6 o__0 o__1 r301_0 cr301_0), (f56_mac_Cover_ok n t_0 t_1 t_2 t_3 t_4 t_5 t_6 o__2 o__3 r301_1 cr301_1), b301_11, (f57_broughamlaw10_alive_ok n r301_2 cr301_2), trivial⟩
                  · have h := Option.some.inj h
                    subst h
                    exact At.fin hm ht ⟨[(2, .call [] [] (f56_mac_Cover_out r301_0)), (6, .call [] [] (f56_mac_Cover_out r301_1)), (11, .b false)], [], [], [6], []⟩ [FnOK Go.Proofs.Try.prog 56 (f56_mac_Cover_in s_0 s_1 s_2 s_3 s_4 s_5 s_6 o__0 o__1) (f56_mac_Cover_out r301_0), FnOK Go.Proofs.Try.prog 56 (f56_mac_Cover_in t_0 t_1 t_2 t_3 t_4 t_5 t_6 o__2 o__3) (f56_mac_Cover_out r301_1), (((strOfNums r301_0).toList == (strOfNums r301_1).toList) == false) = false] (by kernel_rfl) ⟨(f56_mac_Cover_ok n s_0 s_1 s_2 s_3 s_4 s_5 s_6 o__0 o__1 r301_0 cr301_0), (f56_mac_Cover_ok n t_0 t_1 t_2 t_3 t_4 t_5 t_6 o__2 o__3 r301_1 cr301_1), b301_11, trivial⟩
                · refine At.step hm ht ⟨[(5, .b false)], [], [], [3, 4, 7, 8, 9, 10], [0, 1, 2, 3]⟩ 6 ⟨[(3, .one (.c (.ptr 0 0))), (4, .one (.c (.ptr 1 0))), (7, .one (.c (.ptr 2 0))), (8, .one (.c (.ptr 3 0))), (9, .one (.c (.d (.bool false)))), (10, .one (.c (.d (.bool false))))], [], [(0, [.d (.int .u16 s_0), .d (.int .u16 s_1), .d (.int .u32 s_2), .d (.int .u32 s_3), .d (.int .u8 s_4), .d (.sl (.pair (.int .u8) (.slice (.int .u8))) s_5), .d (.sl (.int .u8) s_6)]), (1, [.d (.int .u16 t_0), .d (.int .u16 t_1), .d (.int .u32 t_2), .d (.int .u32 t_3), .d (.int .u8 t_4), .d (.sl (.pair (.int .u8) (.slice (.int .u8))) t_5), .d (.sl (.int .u8) t_6)]), (2, [.d (.int .u8 o__0), .d (.sl (.int .u8) o__1)]), (3, [.d (.int .u8 o__2), .d (.sl (.int .u8) o__3)])], 4⟩ [((o__0 : Int) == o__2) = false] (by kernel_rfl) ⟨b299_5, trivial⟩ ?_
                  refine At.step hm ht ⟨[], [], [], [3, 4, 7, 8, 11], [0, 1, 2, 3]⟩ 7 ⟨[(3, .one (.c (.ptr 0 0))), (4, .one (.c (.ptr 1 0))), (7, .one (.c (.ptr 2 0))), (8, .one (.c (.ptr 3 0))), (11, .one (.c (.d (.bool false))))], [], [(0, [.d (.int .u16 s_0), .d (.int .u16 s_1), .d (.int .u32 s_2), .d (.int .u32 s_3), .d (.int .u8 s_4), .d (.sl (.pair (.int .u8) (.slice (.int .u8))) s_5), .d (.sl (.int .u8) s_6)]), (1, [.d (.int .u16 t_0), .d (.int .u16 t_1), .d (.int .u32 t_2), .d (.int .u32 t_3), .d (.int .u8 t_4), .d (.sl (.pair (.int .u8) (.slice (.int .u8))) t_5), .d (.sl (.int .u8) t_6)]), (2, [.d (.int .u8 o__0), .d (.sl (.int .u8) o__1)]), (3, [.d (.int .u8 o__2), .d (.sl (.int .u8) o__3)])], 4⟩ [] (by kernel_rfl) trivial ?_
                  obtain ⟨r303_0, cr303_0, h⟩ := bindS h
                  obtain ⟨r303_1, cr303_1, h⟩ := bindS h
                  rcases iteS h with ⟨b303_11, h⟩ | ⟨b303_11, h⟩
                  · obtain ⟨r303_2, cr303_2, h⟩ := bindS h
                    have h := Option.some.inj h
                    subst h
                    exact At.fin hm ht ⟨[(2, .call [] [] (f56_mac_Cover_out r303_0)), (6, .call [] [] (f56_mac_Cover_out r303_1)), (11, .b true), (12, .call [] [] (f57_broughamlaw10_alive_out r303_2))], [], [], [6], []⟩ [FnOK Go.Proofs.Try.prog 56 (f56_mac_Cover_in s_0 s_1 s_2 s_3 s_4 s_5 s_6 o__0 o__1) (f56_mac_Cover_out r303_0), FnOK Go.Proofs.Try.prog 56 (f56_mac_Cover_in t_0 t_1 t_2 t_3 t_4 t_5 t_6 o__2 o__3) (f56_mac_Cover_out r303_1), (((strOfNums r303_0).toList == (strOfNums r303_1).toList) == false) = true, FnOK Go.Proofs.Try.prog 57 (f57_broughamlaw10_alive_in) (f57_broughamlaw10_alive_out r303_2)] (by kernel_rfl) ⟨(f56_mac_Cover_ok n s_0 s_1 s_2 s_3 s_4 s_5 s_6 o__0 o__1 r303_0 cr303_0), (f56_mac_Cover_ok n t_0 t_1 t_2 t_3 t_4 t_5 t_6 o__2 o__3 r303_1 cr303_1), b303_11, (f57_broughamlaw10_alive_ok n r303_2 cr303_2), trivial⟩
                  · have h := Option.some.inj h
                    subst h
                    exact At.fin hm ht ⟨[(2, .call [] [] (f56_mac_Cover_out r303_0)), (6, .call [] [] (f56_mac_Cover_out r303_1)), (11, .b false)], [], [], [6], []⟩ [FnOK Go.Proofs.Try.prog 56 (f56_mac_Cover_in s_0 s_1 s_2 s_3 s_4 s_5 s_6 o__0 o__1) (f56_mac_Cover_out r303_0), FnOK Go.Proofs.Try.prog 56 (f56_mac_Cover_in t_0 t_1 t_2 t_3 t_4 t_5 t_6 o__2 o__3) (f56_mac_Cover_out r303_1), (((strOfNums r303_0).toList == (strOfNums r303_1).toList) == false) = false] (by kernel_rfl) ⟨(f56_mac_Cover_ok n s_0 s_1 s_2 s_3 s_4 s_5 s_6 o__0 o__1 r303_0 cr303_0), (f56_mac_Cover_ok n t_0 t_1 t_2 t_3 t_4 t_5 t_6 o__2 o__3 r303_1 cr303_1), b303_11, trivial⟩
/-! brougham/broughamlaw07.Great -/
def f15_broughamlaw07_Great_in (s_0 : Int) (s_1 : Int) (s_2 : Int) (s_3 : Int) (s_4 : Int) (s_5 : List (Int × List Int)) (s_6 : List Int) : Inn := ⟨[.agg [.d (.int .u16 s_0), .d (.int .u16 s_1), .d (.int .u32 s_2), .d (.int .u32 s_3), .d (.int .u8 s_4), .d (.sl (.pair (.int .u8) (.slice (.int .u8))) s_5), .d (.sl (.int .u8) s_6)]], [], [], 0⟩
def f15_broughamlaw07_Great_out (r : Bool) : Out := ⟨.one (.c (.d (.bool r))), [], [], 0⟩
def f15_broughamlaw07_Great_L4 : Nat → Int → Int → Int → Int → Int → Int → (List (Int × List Int)) → (List Int) → Option ((Bool) ⊕ (Unit))
  | 0, _, _, _, _, _, _, _, _ => none
  | n + 1, i, s_0, s_1, s_2, s_3, s_4, s_5, s_6 =>
    if (decide ((i : Int) < ((s_5.length : Nat) : Int))) = true then
      if (0 : Int) ≤ i ∧ i < (((s_5).length : Nat) : Int) then
      if (decide ((((((s_5.getD i.toNat (0, [])).2).length : Nat) : Int) : Int) > 400)) = true then
        some (.inl true)
      else
        f15_broughamlaw07_Great_L4 n (IntKind.wrap .i64 (i + 1)) s_0 s_1 s_2 s_3 s_4 s_5 s_6
      else none
    else
      some (.inr ())
def f15_broughamlaw07_Great_L4_k (w : (Bool) ⊕ (Unit)) (o : Out) : Prop := match w with
  | .inl e => o = f15_broughamlaw07_Great_out e
  | .inr e => At Go.Proofs.Try.prog Go.Proofs.Try.f15 0 8 ⟨[], [], [], 0⟩ o
theorem f15_broughamlaw07_Great_L4_ok (n : Nat) : ∀ (i : Int) (s_0 : Int) (s_1 : Int) (s_2 : Int) (s_3 : Int) (s_4 : Int) (s_5 : List (Int × List Int)) (s_6 : List Int) (w : (Bool) ⊕ (Unit)) (h : f15_broughamlaw07_Great_L4 n i s_0 s_1 s_2 s_3 s_4 s_5 s_6 = some w) (o : Out) (hk : f15_broughamlaw07_Great_L4_k w o), At Go.Proofs.Try.prog Go.Proofs.Try.f15 0 4 ⟨[(1, .one (.c (.ptr 0 0))), (3, .one (.c (.d (.int .i64 i))))], [], [(0, [.d (.int .u16 s_0), .d (.int .u16 s_1), .d (.int .u32 s_2), .d (.int .u32 s_3), .d (.int .u8 s_4), .d (.sl (.pair (.int .u8) (.slice (.int .u8))) s_5), .d (.sl (.int .u8) s_6)])], 1⟩ o := by
  induction n with
  | zero => intro i s_0 s_1 s_2 s_3 s_4 s_5 s_6 w h; rw [f15_broughamlaw07_Great_L4] at h; cases h
  | succ n ih =>
    intro i s_0 s_1 s_2 s_3 s_4 s_5 s_6 w h o hk
    rw [f15_broughamlaw07_Great_L4] at h
    rcases iteS h with ⟨b311_e0, h⟩ | ⟨b311_e0, h⟩
    · refine At.step hm ht ⟨[], [true], [], [1, 3], [0]⟩ 6 ⟨[(1, .one (.c (.ptr 0 0))), (3, .one (.c (.d (.int .i64 i))))], [], [(0, [.d (.int .u16 s_0), .d (.int .u16 s_1), .d (.int .u32 s_2), .d (.int .u32 s_3), .d (.int .u8 s_4), .d (.sl (.pair (.int .u8) (.slice (.int .u8))) s_5), .d (.sl (.int .u8) s_6)])], 1⟩ [(decide ((i : Int) < ((s_5.length : Nat) : Int))) = true] (by kernel_rfl) ⟨b311_e0, trivial⟩ ?_
      obtain ⟨g312_0, h⟩ := ifS h
      rcases iteS h with ⟨b312_e0, h⟩ | ⟨b312_e0, h⟩
      · refine At.step hm ht ⟨[], [true], [], [], []⟩ 7 ⟨[], [], [], 0⟩ [(0 : Int) ≤ i ∧ i < (((s_5).length : Nat) : Int), (decide ((((((s_5.getD i.toNat (0, [])).2).length : Nat) : Int) : Int) > 400)) = true] (by kernel_rfl) ⟨g312_0, b312_e0, trivial⟩ ?_
        have h := Option.some.inj h
        subst h
        have hk : o = f15_broughamlaw07_Great_out true := hk
        subst hk
        exact At.fin hm ht ⟨[], [], [], [2], []⟩ [] (by kernel_rfl) trivial
      · refine At.step hm ht ⟨[], [false], [], [1, 3], [0]⟩ 5 ⟨[(1, .one (.c (.ptr 0 0))), (3, .one (.c (.d (.int .i64 i))))], [], [(0, [.d (.int .u16 s_0), .d (.int .u16 s_1), .d (.int .u32 s_2), .d (.int .u32 s_3), .d (.int .u8 s_4), .d (.sl (.pair (.int .u8) (.slice (.int .u8))) s_5), .d (.sl (.int .u8) s_6)])], 1⟩ [(0 : Int) ≤ i ∧ i < (((s_5).length : Nat) : Int), (decide ((((((s_5.getD i.toNat (0, [])).2).length : Nat) : Int) : Int) > 400)) = false] (by kernel_rfl) ⟨g312_0, b312_e0, trivial⟩ ?_
        refine At.step hm ht ⟨[], [], [], [1, 3], [0]⟩ 4 ⟨[(1, .one (.c (.ptr 0 0))), (3, .one (.c (.d (.int .i64 (IntKind.wrap .i64 (i + 1))))))], [], [(0, [.d (.int .u16 s_0), .d (.int .u16 s_1), .d (.int .u32 s_2), .d (.int .u32 s_3), .d (.int .u8 s_4), .d (.sl (.pair (.int .u8) (.slice (.int .u8))) s_5), .d (.sl (.int .u8) s_6)])], 1⟩ [] (by kernel_rfl) trivial ?_
        exact ih (IntKind.wrap .i64 (i + 1)) s_0 s_1 s_2 s_3 s_4 s_5 s_6 w h o hk
    · refine At.step hm ht ⟨[], [false], [], [], []⟩ 8 ⟨[], [], [], 0⟩ [(decide ((i : Int) < ((s_5.length : Nat) : Int))) = false] (by kernel_rfl) ⟨b311_e0, trivial⟩ ?_
      have h := Option.some.inj h
      subst h
      exact hk
def f15_broughamlaw07_Great (n : Nat) (s_0 : Int) (s_1 : Int) (s_2 : Int) (s_3 : Int) (s_4 : Int) (s_5 : List (Int × List Int)) (s_6 : List Int) : Option (Bool) :=
  if (decide ((((s_5.length : Nat) : Int) : Int) > 120)) = true then
    some true
  else
    if (decide ((((s_6.length : Nat) : Int) : Int) > 2000)) = true then
      some true
    else
      (f15_broughamlaw07_Great_L4 n 0 s_0 s_1 s_2 s_3 s_4 s_5 s_6).bind fun w315 =>
      match w315 with
      | .inl e316 =>
        some e316
      | .inr e317 =>
        some false
theorem f15_broughamlaw07_Great_ok (n : Nat) (s_0 : Int) (s_1 : Int) (s_2 : Int) (s_3 : Int) (s_4 : Int) (s_5 : List (Int × List Int)) (s_6 : List Int) (r : Bool) (h : f15_broughamlaw07_Great n s_0 s_1 s_2 s_3 s_4 s_5 s_6 = some r) : FnOK Go.Proofs.Try.prog 15 (f15_broughamlaw07_Great_in s_0 s_1 s_2 s_3 s_4 s_5 s_6) (f15_broughamlaw07_Great_out r) := by
  unfold f15_broughamlaw07_Great at h
  refine At.fn (r := 0) Go.Proofs.Try.func15 rfl (by kernel_rfl) rfl rfl (by kernel_rfl) ?_
  show At Go.Proofs.Try.prog Go.Proofs.Try.f15 0 0 ⟨[(0, .one (.agg [.d (.int .u16 s_0), .d (.int .u16 s_1), .d (.int .u32 s_2), .d (.int .u32 s_3), .d (.int .u8 s_4), .d (.sl (.pair (.int .u8) (.slice (.int .u8))) s_5), .d (.sl (.int .u8) s_6)]))], [], [], 0⟩ _
  refine At.step hm ht ⟨[], [], [], [1], [0]⟩ 1 ⟨[(1, .one (.c (.ptr 0 0)))], [], [(0, [.d (.int .u16 s_0), .d (.int .u16 s_1), .d (.int .u32 s_2), .d (.int .u32 s_3), .d (.int .u8 s_4), .d (.sl (.pair (.int .u8) (.slice (.int .u8))) s_5), .d (.sl (.int .u8) s_6)])], 1⟩ [] (by kernel_rfl) trivial ?_
  rcases iteS h with ⟨b307_4, h⟩ | ⟨b307_4, h⟩
  · refine At.step hm ht ⟨[(4, .b true)], [true], [], [], []⟩ 2 ⟨[], [], [], 0⟩ [(decide ((((s_5.length : Nat) : Int) : Int) > 120)) = true, true = true] (by kernel_rfl) ⟨b307_4, rfl, trivial⟩ ?_
    have h := Option.some.inj h
    subst h
    exact At.fin hm ht ⟨[], [], [], [2], []⟩ [] (by kernel_rfl) trivial
  · rcases iteS h with ⟨b307_e0, h⟩ | ⟨b307_e0, h⟩
    · refine At.step hm ht ⟨[(4, .b false)], [true], [], [], []⟩ 2 ⟨[], [], [], 0⟩ [(decide ((((s_5.length : Nat) : Int) : Int) > 120)) = false, (decide ((((s_6.length : Nat) : Int) : Int) > 2000)) = true] (by kernel_rfl) ⟨b307_4, b307_e0, trivial⟩ ?_
      have h := Option.some.inj h
      subst h
      exact At.fin hm ht ⟨[], [], [], [2], []⟩ [] (by kernel_rfl) trivial
    · refine At.step hm ht ⟨[(4, .b false)], [false], [], [1], [0]⟩ 3 ⟨[(1, .one (.c (.ptr 0 0)))], [], [(0, [.d (.int .u16 s_0), .d (.int .u16 s_1), .d (.int .u32 s_2), .d (.int .u32 s_3), .d (.int .u8 s_4), .d (.sl (.pair (.int .u8) (.slice (.int .u8))) s_5), .d (.sl (.int .u8) s_6)])], 1⟩ [(decide ((((s_5.length : Nat) : Int) : Int) > 120)) = false, (decide ((((s_6.length : Nat) : Int) : Int) > 2000)) = false] (by kernel_rfl) ⟨b307_4, b307_e0, trivial⟩ ?_
      refine At.step hm ht ⟨[], [], [], [1, 3], [0]⟩ 4 ⟨[(1, .one (.c (.ptr 0 0))), (3, .one (.c (.d (.int .i64 0))))], [], [(0, [.d (.int .u16 s_0), .d (.int .u16 s_1), .d (.int .u32 s_2), .d (.int .u32 s_3), .d (.int .u8 s_4), .d (.sl (.pair (.int .u8) (.slice (.int .u8))) s_5), .d (.sl (.int .u8) s_6)])], 1⟩ [] (by kernel_rfl) trivial ?_
      obtain ⟨w315, cw315, h⟩ := bindS h
      refine f15_broughamlaw07_Great_L4_ok n 0 s_0 s_1 s_2 s_3 s_4 s_5 s_6 w315 cw315 _ ?_
      rcases w315 with e316 | e317
      · have h := Option.some.inj h
        subst h
        rfl
      · show At Go.Proofs.Try.prog Go.Proofs.Try.f15 0 8 ⟨[], [], [], 0⟩ _
        have h := Option.some.inj h
        subst h
        exact At.fin hm ht ⟨[], [], [], [2], []⟩ [] (by kernel_rfl) trivial
/-! brougham/broughamref08.One -/
def f17_broughamref08_One_in (s_0 : Int) (s_1 : Int) (s_2 : Int) (s_3 : Int) (s_4 : Int) (s_5 : List (Int × List Int)) (s_6 : List Int) (kind : Int) : Inn := ⟨[.agg [.d (.int .u16 s_0), .d (.int .u16 s_1), .d (.int .u32 s_2), .d (.int .u32 s_3), .d (.int .u8 s_4), .d (.sl (.pair (.int .u8) (.slice (.int .u8))) s_5), .d (.sl (.int .u8) s_6)], .c (.d (.int .u8 kind))], [], [], 0⟩
def f17_broughamref08_One_out (r : Bool × Int × List Int) : Out := ⟨.tup [.agg [.d (.int .u8 r.2.1), .d (.sl (.int .u8) r.2.2)], .c (.d (.bool r.1))], [], [(0, [.d (.int .u8 r.2.1), .d (.sl (.int .u8) r.2.2)])], 1⟩
def f17_broughamref08_One_L3 : Nat → Int → Int → Int → Int → Int → Int → Int → Int → (List (Int × List Int)) → (List Int) → Int → Option ((Bool × Int × List Int) ⊕ (Int × Int × Int × Int × Int × Int × (List (Int × List Int)) × List Int × Int))
  | 0, _, _, _, _, _, _, _, _, _, _, _ => none
  | n + 1, kind, at_, i, s_0, s_1, s_2, s_3, s_4, s_5, s_6, t4_0 =>
    if (decide ((i : Int) < ((s_5.length : Nat) : Int))) = true then
      if (0 : Int) ≤ i ∧ i < (((s_5).length : Nat) : Int) then
      if ((((s_5.getD i.toNat (0, [])).1) : Int) != kind) = true then
        f17_broughamref08_One_L3 n kind at_ (IntKind.wrap .i64 (i + 1)) s_0 s_1 s_2 s_3 s_4 s_5 s_6 t4_0
      else
        if (decide ((at_ : Int) ≥ 0)) = true then
          some (.inl (false, 0, []))
        else
          f17_broughamref08_One_L3 n kind i (IntKind.wrap .i64 (i + 1)) s_0 s_1 s_2 s_3 s_4 s_5 s_6 t4_0
      else none
    else
      some (.inr ((at_, s_0, s_1, s_2, s_3, s_4, s_5, s_6, t4_0)))
def f17_broughamref08_One_L3_k (w : (Bool × Int × List Int) ⊕ (Int × Int × Int × Int × Int × Int × (List (Int × List Int)) × List Int × Int)) (o : Out) : Prop := match w with
  | .inl e => o = f17_broughamref08_One_out e
  | .inr e => At Go.Proofs.Try.prog Go.Proofs.Try.f17 0 9 ⟨[(2, .one (.c (.ptr 0 0))), (4, .one (.c (.ptr 1 0))), (6, .one (.c (.d (.int .i64 e.1))))], [], [(0, [.d (.int .u16 e.2.1), .d (.int .u16 e.2.2.1), .d (.int .u32 e.2.2.2.1), .d (.int .u32 e.2.2.2.2.1), .d (.int .u8 e.2.2.2.2.2.1), .d (.sl (.pair (.int .u8) (.slice (.int .u8))) e.2.2.2.2.2.2.1), .d (.sl (.int .u8) e.2.2.2.2.2.2.2.1)]), (1, [.d (.int .u8 e.2.2.2.2.2.2.2.2), .d (.sl .unit [])])], 2⟩ o
theorem f17_broughamref08_One_L3_ok (n : Nat) : ∀ (kind : Int) (at_ : Int) (i : Int) (s_0 : Int) (s_1 : Int) (s_2 : Int) (s_3 : Int) (s_4 : Int) (s_5 : List (Int × List Int)) (s_6 : List Int) (t4_0 : Int) (w : (Bool × Int × List Int) ⊕ (Int × Int × Int × Int × Int × Int × (List (Int × List Int)) × List Int × Int)) (h : f17_broughamref08_One_L3 n kind at_ i s_0 s_1 s_2 s_3 s_4 s_5 s_6 t4_0 = some w) (o : Out) (hk : f17_broughamref08_One_L3_k w o), At Go.Proofs.Try.prog Go.Proofs.Try.f17 0 3 ⟨[(1, .one (.c (.d (.int .u8 kind)))), (2, .one (.c (.ptr 0 0))), (4, .one (.c (.ptr 1 0))), (6, .one (.c (.d (.int .i64 at_)))), (7, .one (.c (.d (.int .i64 i))))], [], [(0, [.d (.int .u16 s_0), .d (.int .u16 s_1), .d (.int .u32 s_2), .d (.int .u32 s_3), .d (.int .u8 s_4), .d (.sl (.pair (.int .u8) (.slice (.int .u8))) s_5), .d (.sl (.int .u8) s_6)]), (1, [.d (.int .u8 t4_0), .d (.sl .unit [])])], 2⟩ o := by
  induction n with
  | zero => intro kind at_ i s_0 s_1 s_2 s_3 s_4 s_5 s_6 t4_0 w h; rw [f17_broughamref08_One_L3] at h; cases h
  | succ n ih =>
    intro kind at_ i s_0 s_1 s_2 s_3 s_4 s_5 s_6 t4_0 w h o hk
    rw [f17_broughamref08_One_L3] at h
    rcases iteS h with ⟨b343_e0, h⟩ | ⟨b343_e0, h⟩
    · refine At.step hm ht ⟨[], [true], [], [1, 2, 4, 6, 7], [0, 1]⟩ 5 ⟨[(1, .one (.c (.d (.int .u8 kind)))), (2, .one (.c (.ptr 0 0))), (4, .one (.c (.ptr 1 0))), (6, .one (.c (.d (.int .i64 at_)))), (7, .one (.c (.d (.int .i64 i))))], [], [(0, [.d (.int .u16 s_0), .d (.int .u16 s_1), .d (.int .u32 s_2), .d (.int .u32 s_3), .d (.int .u8 s_4), .d (.sl (.pair (.int .u8) (.slice (.int .u8))) s_5), .d (.sl (.int .u8) s_6)]), (1, [.d (.int .u8 t4_0), .d (.sl .unit [])])], 2⟩ [(decide ((i : Int) < ((s_5.length : Nat) : Int))) = true] (by kernel_rfl) ⟨b343_e0, trivial⟩ ?_
      obtain ⟨g344_0, h⟩ := ifS h
      rcases iteS h with ⟨b344_e0, h⟩ | ⟨b344_e0, h⟩
      · refine At.step hm ht ⟨[], [true], [], [1, 2, 4, 6, 7], [0, 1]⟩ 4 ⟨[(1, .one (.c (.d (.int .u8 kind)))), (2, .one (.c (.ptr 0 0))), (4, .one (.c (.ptr 1 0))), (6, .one (.c (.d (.int .i64 at_)))), (7, .one (.c (.d (.int .i64 i))))], [], [(0, [.d (.int .u16 s_0), .d (.int .u16 s_1), .d (.int .u32 s_2), .d (.int .u32 s_3), .d (.int .u8 s_4), .d (.sl (.pair (.int .u8) (.slice (.int .u8))) s_5), .d (.sl (.int .u8) s_6)]), (1, [.d (.int .u8 t4_0), .d (.sl .unit [])])], 2⟩ [(0 : Int) ≤ i ∧ i < (((s_5).length : Nat) : Int), ((((s_5.getD i.toNat (0, [])).1) : Int) != kind) = true] (by kernel_rfl) ⟨g344_0, b344_e0, trivial⟩ ?_
        refine At.step hm ht ⟨[], [], [], [1, 2, 4, 6, 7], [0, 1]⟩ 3 ⟨[(1, .one (.c (.d (.int .u8 kind)))), (2, .one (.c (.ptr 0 0))), (4, .one (.c (.ptr 1 0))), (6, .one (.c (.d (.int .i64 at_)))), (7, .one (.c (.d (.int .i64 (IntKind.wrap .i64 (i + 1))))))], [], [(0, [.d (.int .u16 s_0), .d (.int .u16 s_1), .d (.int .u32 s_2), .d (.int .u32 s_3), .d (.int .u8 s_4), .d (.sl (.pair (.int .u8) (.slice (.int .u8))) s_5), .d (.sl (.int .u8) s_6)]), (1, [.d (.int .u8 t4_0), .d (.sl .unit [])])], 2⟩ [] (by kernel_rfl) trivial ?_
        exact ih kind at_ (IntKind.wrap .i64 (i + 1)) s_0 s_1 s_2 s_3 s_4 s_5 s_6 t4_0 w h o hk
      · refine At.step hm ht ⟨[], [false], [], [1, 2, 4, 6, 7], [0, 1]⟩ 6 ⟨[(1, .one (.c (.d (.int .u8 kind)))), (2, .one (.c (.ptr 0 0))), (4, .one (.c (.ptr 1 0))), (6, .one (.c (.d (.int .i64 at_)))), (7, .one (.c (.d (.int .i64 i))))], [], [(0, [.d (.int .u16 s_0), .d (.int .u16 s_1), .d (.int .u32 s_2), .d (.int .u32 s_3), .d (.int .u8 s_4), .d (.sl (.pair (.int .u8) (.slice (.int .u8))) s_5), .d (.sl (.int .u8) s_6)]), (1, [.d (.int .u8 t4_0), .d (.sl .unit [])])], 2⟩ [(0 : Int) ≤ i ∧ i < (((s_5).length : Nat) : Int), ((((s_5.getD i.toNat (0, [])).1) : Int) != kind) = false] (by kernel_rfl) ⟨g344_0, b344_e0, trivial⟩ ?_
        rcases iteS h with ⟨b346_e0, h⟩ | ⟨b346_e0, h⟩
        · refine At.step hm ht ⟨[], [true], [], [4], [1]⟩ 7 ⟨[(4, .one (.c (.ptr 0 0)))], [], [(0, [.d (.int .u8 t4_0), .d (.sl .unit [])])], 1⟩ [(decide ((at_ : Int) ≥ 0)) = true] (by kernel_rfl) ⟨b346_e0, trivial⟩ ?_
          have h := Option.some.inj h
          subst h
          have hk : o = f17_broughamref08_One_out (false, 0, []) := hk
          subst hk
          exact At.fin hm ht ⟨[], [], [.nil true 0 1 (.int .u8) none], [4, 5], [0]⟩ [0 + 2 ≤ 2] (by kernel_rfl) ⟨(by decide), trivial⟩
        · refine At.step hm ht ⟨[], [false], [], [1, 2, 4, 7], [0, 1]⟩ 8 ⟨[(1, .one (.c (.d (.int .u8 kind)))), (2, .one (.c (.ptr 0 0))), (4, .one (.c (.ptr 1 0))), (7, .one (.c (.d (.int .i64 i))))], [], [(0, [.d (.int .u16 s_0), .d (.int .u16 s_1), .d (.int .u32 s_2), .d (.int .u32 s_3), .d (.int .u8 s_4), .d (.sl (.pair (.int .u8) (.slice (.int .u8))) s_5), .d (.sl (.int .u8) s_6)]), (1, [.d (.int .u8 t4_0), .d (.sl .unit [])])], 2⟩ [(decide ((at_ : Int) ≥ 0)) = false] (by kernel_rfl) ⟨b346_e0, trivial⟩ ?_
          refine At.step hm ht ⟨[], [], [], [1, 2, 4, 6, 7], [0, 1]⟩ 4 ⟨[(1, .one (.c (.d (.int .u8 kind)))), (2, .one (.c (.ptr 0 0))), (4, .one (.c (.ptr 1 0))), (6, .one (.c (.d (.int .i64 i)))), (7, .one (.c (.d (.int .i64 i))))], [], [(0, [.d (.int .u16 s_0), .d (.int .u16 s_1), .d (.int .u32 s_2), .d (.int .u32 s_3), .d (.int .u8 s_4), .d (.sl (.pair (.int .u8) (.slice (.int .u8))) s_5), .d (.sl (.int .u8) s_6)]), (1, [.d (.int .u8 t4_0), .d (.sl .unit [])])], 2⟩ [] (by kernel_rfl) trivial ?_
          refine At.step hm ht ⟨[], [], [], [1, 2, 4, 6, 7], [0, 1]⟩ 3 ⟨[(1, .one (.c (.d (.int .u8 kind)))), (2, .one (.c (.ptr 0 0))), (4, .one (.c (.ptr 1 0))), (6, .one (.c (.d (.int .i64 i)))), (7, .one (.c (.d (.int .i64 (IntKind.wrap .i64 (i + 1))))))], [], [(0, [.d (.int .u16 s_0), .d (.int .u16 s_1), .d (.int .u32 s_2), .d (.int .u32 s_3), .d (.int .u8 s_4), .d (.sl (.pair (.int .u8) (.slice (.int .u8))) s_5), .d (.sl (.int .u8) s_6)]), (1, [.d (.int .u8 t4_0), .d (.sl .unit [])])], 2⟩ [] (by kernel_rfl) trivial ?_
          exact ih kind i (IntKind.wrap .i64 (i + 1)) s_0 s_1 s_2 s_3 s_4 s_5 s_6 t4_0 w h o hk
    · refine At.step hm ht ⟨[], [false], [], [2, 4, 6], [0, 1]⟩ 9 ⟨[(2, .one (.c (.ptr 0 0))), (4, .one (.c (.ptr 1 0))), (6, .one (.c (.d (.int .i64 at_))))], [], [(0, [.d (.int .u16 s_0), .d (.int .u16 s_1), .d (.int .u32 s_2), .d (.int .u32 s_3), .d (.int .u8 s_4), .d (.sl (.pair (.int .u8) (.slice (.int .u8))) s_5), .d (.sl (.int .u8) s_6)]), (1, [.d (.int .u8 t4_0), .d (.sl .unit [])])], 2⟩ [(decide ((i : Int) < ((s_5.length : Nat) : Int))) = false] (by kernel_rfl) ⟨b343_e0, trivial⟩ ?_
      have h := Option.some.inj h
      subst h
      exact hk
def f17_broughamref08_One (n : Nat) (s_0 : Int) (s_1 : Int) (s_2 : Int) (s_3 : Int) (s_4 : Int) (s_5 : List (Int × List Int)) (s_6 : List Int) (kind : Int) : Option (Bool × Int × List Int) :=
  (f17_broughamref08_One_L3 n kind (-1) 0 s_0 s_1 s_2 s_3 s_4 s_5 s_6 0).bind fun w350 =>
  match w350 with
  | .inl e351 =>
    some (e351.1, e351.2.1, e351.2.2)
  | .inr e352 =>
    if (decide ((e352.1 : Int) < 0)) = true then
      some (false, 0, [])
    else
      if (0 : Int) ≤ e352.1 ∧ e352.1 < (((e352.2.2.2.2.2.2.1).length : Nat) : Int) then
      some (true, (e352.2.2.2.2.2.2.1.getD e352.1.toNat (0, [])).1, (e352.2.2.2.2.2.2.1.getD e352.1.toNat (0, [])).2)
      else none
theorem f17_broughamref08_One_ok (n : Nat) (s_0 : Int) (s_1 : Int) (s_2 : Int) (s_3 : Int) (s_4 : Int) (s_5 : List (Int × List Int)) (s_6 : List Int) (kind : Int) (r : Bool × Int × List Int) (h : f17_broughamref08_One n s_0 s_1 s_2 s_3 s_4 s_5 s_6 kind = some r) : FnOK Go.Proofs.Try.prog 17 (f17_broughamref08_One_in s_0 s_1 s_2 s_3 s_4 s_5 s_6 kind) (f17_broughamref08_One_out r) := by
  unfold f17_broughamref08_One at h
  refine At.fn (r := 0) Go.Proofs.Try.func17 rfl (by kernel_rfl) rfl rfl (by kernel_rfl) ?_
  show At Go.Proofs.Try.prog Go.Proofs.Try.f17 0 0 ⟨[(0, .one (.agg [.d (.int .u16 s_0), .d (.int .u16 s_1), .d (.int .u32 s_2), .d (.int .u32 s_3), .d (.int .u8 s_4), .d (.sl (.pair (.int .u8) (.slice (.int .u8))) s_5), .d (.sl (.int .u8) s_6)])), (1, .one (.c (.d (.int .u8 kind))))], [], [], 0⟩ _
  refine At.step hm ht ⟨[], [], [], [1, 2, 4], [0, 1]⟩ 1 ⟨[(1, .one (.c (.d (.int .u8 kind)))), (2, .one (.c (.ptr 0 0))), (4, .one (.c (.ptr 1 0)))], [], [(0, [.d (.int .u16 s_0), .d (.int .u16 s_1), .d (.int .u32 s_2), .d (.int .u32 s_3), .d (.int .u8 s_4), .d (.sl (.pair (.int .u8) (.slice (.int .u8))) s_5), .d (.sl (.int .u8) s_6)]), (1, [.d (.int .u8 0), .d (.sl .unit [])])], 2⟩ [] (by kernel_rfl) trivial ?_
  refine At.step hm ht ⟨[], [], [], [1, 2, 4, 6], [0, 1]⟩ 2 ⟨[(1, .one (.c (.d (.int .u8 kind)))), (2, .one (.c (.ptr 0 0))), (4, .one (.c (.ptr 1 0))), (6, .one (.c (.d (.int .i64 (-1)))))], [], [(0, [.d (.int .u16 s_0), .d (.int .u16 s_1), .d (.int .u32 s_2), .d (.int .u32 s_3), .d (.int .u8 s_4), .d (.sl (.pair (.int .u8) (.slice (.int .u8))) s_5), .d (.sl (.int .u8) s_6)]), (1, [.d (.int .u8 0), .d (.sl .unit [])])], 2⟩ [] (by kernel_rfl) trivial ?_
  refine At.step hm ht ⟨[], [], [], [1, 2, 4, 6, 7], [0, 1]⟩ 3 ⟨[(1, .one (.c (.d (.int .u8 kind)))), (2, .one (.c (.ptr 0 0))), (4, .one (.c (.ptr 1 0))), (6, .one (.c (.d (.int .i64 (-1))))), (7, .one (.c (.d (.int .i64 0))))], [], [(0, [.d (.int .u16 s_0), .d (.int .u16 s_1), .d (.int .u32 s_2), .d (.int .u32 s_3), .d (.int .u8 s_4), .d (.sl (.pair (.int .u8) (.slice (.int .u8))) s_5), .d (.sl (.int .u8) s_6)]), (1, [.d (.int .u8 0), .d (.sl .unit [])])], 2⟩ [] (by kernel_rfl) trivial ?_
  obtain ⟨w350, cw350, h⟩ := bindS h
  refine f17_broughamref08_One_L3_ok n kind (-1) 0 s_0 s_1 s_2 s_3 s_4 s_5 s_6 0 w350 cw350 _ ?_
  rcases w350 with e351 | e352
  · have h := Option.some.inj h
    subst h
    rfl
  · show At Go.Proofs.Try.prog Go.Proofs.Try.f17 0 9 ⟨[(2, .one (.c (.ptr 0 0))), (4, .one (.c (.ptr 1 0))), (6, .one (.c (.d (.int .i64 e352.1))))], [], [(0, [.d (.int .u16 e352.2.1), .d (.int .u16 e352.2.2.1), .d (.int .u32 e352.2.2.2.1), .d (.int .u32 e352.2.2.2.2.1), .d (.int .u8 e352.2.2.2.2.2.1), .d (.sl (.pair (.int .u8) (.slice (.int .u8))) e352.2.2.2.2.2.2.1), .d (.sl (.int .u8) e352.2.2.2.2.2.2.2.1)]), (1, [.d (.int .u8 e352.2.2.2.2.2.2.2.2), .d (.sl .unit [])])], 2⟩ _
    rcases iteS h with ⟨b353_e0, h⟩ | ⟨b353_e0, h⟩
    · refine At.step hm ht ⟨[], [true], [], [4], [1]⟩ 10 ⟨[(4, .one (.c (.ptr 0 0)))], [], [(0, [.d (.int .u8 e352.2.2.2.2.2.2.2.2), .d (.sl .unit [])])], 1⟩ [(decide ((e352.1 : Int) < 0)) = true] (by kernel_rfl) ⟨b353_e0, trivial⟩ ?_
      have h := Option.some.inj h
      subst h
      exact At.fin hm ht ⟨[], [], [.nil true 0 1 (.int .u8) none], [4, 5], [0]⟩ [0 + 2 ≤ 2] (by kernel_rfl) ⟨(by decide), trivial⟩
    · refine At.step hm ht ⟨[], [false], [], [2, 4, 6], [0, 1]⟩ 11 ⟨[(2, .one (.c (.ptr 0 0))), (4, .one (.c (.ptr 1 0))), (6, .one (.c (.d (.int .i64 e352.1))))], [], [(0, [.d (.int .u16 e352.2.1), .d (.int .u16 e352.2.2.1), .d (.int .u32 e352.2.2.2.1), .d (.int .u32 e352.2.2.2.2.1), .d (.int .u8 e352.2.2.2.2.2.1), .d (.sl (.pair (.int .u8) (.slice (.int .u8))) e352.2.2.2.2.2.2.1), .d (.sl (.int .u8) e352.2.2.2.2.2.2.2.1)]), (1, [.d (.int .u8 e352.2.2.2.2.2.2.2.2), .d (.sl .unit [])])], 2⟩ [(decide ((e352.1 : Int) < 0)) = false] (by kernel_rfl) ⟨b353_e0, trivial⟩ ?_
      obtain ⟨g355_0, h⟩ := ifS h
      have h := Option.some.inj h
      subst h
      exact At.fin hm ht ⟨[], [], [], [4, 5], [1]⟩ [(0 : Int) ≤ e352.1 ∧ e352.1 < (((e352.2.2.2.2.2.2.1).length : Nat) : Int), 0 + 2 ≤ 2] (by kernel_rfl) ⟨g355_0, (by decide), trivial⟩
/-! brougham/broughamref02.Get -/
def f82_broughamref02_Get_in (b : List Int) (bytes : Int) : Inn := ⟨[.c (.d (.sl (.int .u8) b)), .c (.d (.int .i64 bytes))], [], [], 0⟩
def f82_broughamref02_Get_out (r : Int × List Int × Bool) : Out := ⟨.tup [.c (.d (.int .u64 r.1)), .c (.d (.sl (.int .u8) r.2.1)), .c (.d (.bool r.2.2))], [], [], 0⟩
def f82_broughamref02_Get_L5 : Nat → (List Int) → Int → Int → Int → Option (List Int × Int × Int)
  | 0, _, _, _, _ => none
  | n + 1, b, bytes, n_, i =>
    if (decide ((i : Int) < bytes)) = true then
      if (0 : Int) ≤ i ∧ i < (((b).length : Nat) : Int) then
      f82_broughamref02_Get_L5 n b bytes (IntKind.wrap .u64 ((IntKind.wrap .u64 (n_ * 256)) + (IntKind.wrap .u64 (b.getD i.toNat 0)))) (IntKind.wrap .i64 (i + 1))
      else none
    else
      some ((b, bytes, n_))
def f82_broughamref02_Get_L5_k (e : List Int × Int × Int) (o : Out) : Prop := At Go.Proofs.Try.prog Go.Proofs.Try.f82 0 8 ⟨[(0, .one (.c (.d (.sl (.int .u8) e.1)))), (1, .one (.c (.d (.int .i64 e.2.1)))), (7, .one (.c (.d (.int .u64 e.2.2))))], [], [], 0⟩ o
theorem f82_broughamref02_Get_L5_ok (n : Nat) : ∀ (b : List Int) (bytes : Int) (n_ : Int) (i : Int) (w : List Int × Int × Int) (h : f82_broughamref02_Get_L5 n b bytes n_ i = some w) (o : Out) (hk : f82_broughamref02_Get_L5_k w o), At Go.Proofs.Try.prog Go.Proofs.Try.f82 0 5 ⟨[(0, .one (.c (.d (.sl (.int .u8) b)))), (1, .one (.c (.d (.int .i64 bytes)))), (7, .one (.c (.d (.int .u64 n_)))), (8, .one (.c (.d (.int .i64 i))))], [], [], 0⟩ o := by
  induction n with
  | zero => intro b bytes n_ i w h; rw [f82_broughamref02_Get_L5] at h; cases h
  | succ n ih =>
    intro b bytes n_ i w h o hk
    rw [f82_broughamref02_Get_L5] at h
    rcases iteS h with ⟨b386_e0, h⟩ | ⟨b386_e0, h⟩
    · refine At.step hm ht ⟨[], [true], [], [0, 1, 7, 8], []⟩ 7 ⟨[(0, .one (.c (.d (.sl (.int .u8) b)))), (1, .one (.c (.d (.int .i64 bytes)))), (7, .one (.c (.d (.int .u64 n_)))), (8, .one (.c (.d (.int .i64 i))))], [], [], 0⟩ [(decide ((i : Int) < bytes)) = true] (by kernel_rfl) ⟨b386_e0, trivial⟩ ?_
      obtain ⟨g387_0, h⟩ := ifS h
      refine At.step hm ht ⟨[], [], [], [0, 1, 7, 8], []⟩ 6 ⟨[(0, .one (.c (.d (.sl (.int .u8) b)))), (1, .one (.c (.d (.int .i64 bytes)))), (7, .one (.c (.d (.int .u64 (IntKind.wrap .u64 ((IntKind.wrap .u64 (n_ * 256)) + (IntKind.wrap .u64 (b.getD i.toNat 0)))))))), (8, .one (.c (.d (.int .i64 i))))], [], [], 0⟩ [(0 : Int) ≤ i ∧ i < (((b).length : Nat) : Int)] (by kernel_rfl) ⟨g387_0, trivial⟩ ?_
      refine At.step hm ht ⟨[], [], [], [0, 1, 7, 8], []⟩ 5 ⟨[(0, .one (.c (.d (.sl (.int .u8) b)))), (1, .one (.c (.d (.int .i64 bytes)))), (7, .one (.c (.d (.int .u64 (IntKind.wrap .u64 ((IntKind.wrap .u64 (n_ * 256)) + (IntKind.wrap .u64 (b.getD i.toNat 0)))))))), (8, .one (.c (.d (.int .i64 (IntKind.wrap .i64 (i + 1))))))], [], [], 0⟩ [] (by kernel_rfl) trivial ?_
      exact ih b bytes (IntKind.wrap .u64 ((IntKind.wrap .u64 (n_ * 256)) + (IntKind.wrap .u64 (b.getD i.toNat 0)))) (IntKind.wrap .i64 (i + 1)) w h o hk
    · refine At.step hm ht ⟨[], [false], [], [0, 1, 7], []⟩ 8 ⟨[(0, .one (.c (.d (.sl (.int .u8) b)))), (1, .one (.c (.d (.int .i64 bytes)))), (7, .one (.c (.d (.int .u64 n_))))], [], [], 0⟩ [(decide ((i : Int) < bytes)) = false] (by kernel_rfl) ⟨b386_e0, trivial⟩ ?_
      have h := Option.some.inj h
      subst h
      exact hk
def f82_broughamref02_Get (n : Nat) (b : List Int) (bytes : Int) : Option (Int × List Int × Bool) :=
  if (decide ((bytes : Int) < 1)) = true then
    some (0, [], false)
  else
    if (decide ((bytes : Int) > 8)) = true then
      some (0, [], false)
    else
      if (decide ((((b.length : Nat) : Int) : Int) < bytes)) = true then
        some (0, [], false)
      else
        (f82_broughamref02_Get_L5 n b bytes 0 0).bind fun w389 =>
        if cutOk w389.1.length (some w389.2.1) none none then
        some (w389.2.2, ((w389.1.take w389.1.length).drop w389.2.1.toNat), true)
        else none
theorem f82_broughamref02_Get_ok (n : Nat) (b : List Int) (bytes : Int) (r : Int × List Int × Bool) (h : f82_broughamref02_Get n b bytes = some r) : FnOK Go.Proofs.Try.prog 82 (f82_broughamref02_Get_in b bytes) (f82_broughamref02_Get_out r) := by
  unfold f82_broughamref02_Get at h
  refine At.fn (r := 0) Go.Proofs.Try.func82 rfl (by kernel_rfl) rfl rfl (by kernel_rfl) ?_
  show At Go.Proofs.Try.prog Go.Proofs.Try.f82 0 0 ⟨[(0, .one (.c (.d (.sl (.int .u8) b)))), (1, .one (.c (.d (.int .i64 bytes))))], [], [], 0⟩ _
  refine At.step hm ht ⟨[], [], [], [0, 1], []⟩ 1 ⟨[(0, .one (.c (.d (.sl (.int .u8) b)))), (1, .one (.c (.d (.int .i64 bytes))))], [], [], 0⟩ [] (by kernel_rfl) trivial ?_
  rcases iteS h with ⟨b380_2, h⟩ | ⟨b380_2, h⟩
  · refine At.step hm ht ⟨[(2, .b true)], [true], [], [], []⟩ 2 ⟨[], [], [], 0⟩ [(decide ((bytes : Int) < 1)) = true, true = true] (by kernel_rfl) ⟨b380_2, rfl, trivial⟩ ?_
    have h := Option.some.inj h
    subst h
    exact At.fin hm ht ⟨[], [], [.nil false 5 0 (.int .u8) none], [4, 5, 6], []⟩ [] (by kernel_rfl) trivial
  · rcases iteS h with ⟨b380_6, h⟩ | ⟨b380_6, h⟩
    · refine At.step hm ht ⟨[(2, .b false), (6, .b true)], [true], [], [], []⟩ 2 ⟨[], [], [], 0⟩ [(decide ((bytes : Int) < 1)) = false, (decide ((bytes : Int) > 8)) = true, true = true] (by kernel_rfl) ⟨b380_2, b380_6, rfl, trivial⟩ ?_
      have h := Option.some.inj h
      subst h
      exact At.fin hm ht ⟨[], [], [.nil false 5 0 (.int .u8) none], [4, 5, 6], []⟩ [] (by kernel_rfl) trivial
    · rcases iteS h with ⟨b380_e0, h⟩ | ⟨b380_e0, h⟩
      · refine At.step hm ht ⟨[(2, .b false), (6, .b false)], [true], [], [], []⟩ 2 ⟨[], [], [], 0⟩ [(decide ((bytes : Int) < 1)) = false, (decide ((bytes : Int) > 8)) = false, (decide ((((b.length : Nat) : Int) : Int) < bytes)) = true] (by kernel_rfl) ⟨b380_2, b380_6, b380_e0, trivial⟩ ?_
        have h := Option.some.inj h
        subst h
        exact At.fin hm ht ⟨[], [], [.nil false 5 0 (.int .u8) none], [4, 5, 6], []⟩ [] (by kernel_rfl) trivial
      · refine At.step hm ht ⟨[(2, .b false), (6, .b false)], [false], [], [0, 1], []⟩ 3 ⟨[(0, .one (.c (.d (.sl (.int .u8) b)))), (1, .one (.c (.d (.int .i64 bytes))))], [], [], 0⟩ [(decide ((bytes : Int) < 1)) = false, (decide ((bytes : Int) > 8)) = false, (decide ((((b.length : Nat) : Int) : Int) < bytes)) = false] (by kernel_rfl) ⟨b380_2, b380_6, b380_e0, trivial⟩ ?_
        refine At.step hm ht ⟨[], [], [], [0, 1, 7], []⟩ 4 ⟨[(0, .one (.c (.d (.sl (.int .u8) b)))), (1, .one (.c (.d (.int .i64 bytes)))), (7, .one (.c (.d (.int .u64 0))))], [], [], 0⟩ [] (by kernel_rfl) trivial ?_
        refine At.step hm ht ⟨[], [], [], [0, 1, 7, 8], []⟩ 5 ⟨[(0, .one (.c (.d (.sl (.int .u8) b)))), (1, .one (.c (.d (.int .i64 bytes)))), (7, .one (.c (.d (.int .u64 0)))), (8, .one (.c (.d (.int .i64 0))))], [], [], 0⟩ [] (by kernel_rfl) trivial ?_
        obtain ⟨w389, cw389, h⟩ := bindS h
        refine f82_broughamref02_Get_L5_ok n b bytes 0 0 w389 cw389 _ ?_
        show At Go.Proofs.Try.prog Go.Proofs.Try.f82 0 8 ⟨[(0, .one (.c (.d (.sl (.int .u8) w389.1)))), (1, .one (.c (.d (.int .i64 w389.2.1)))), (7, .one (.c (.d (.int .u64 w389.2.2))))], [], [], 0⟩ _
        obtain ⟨g391_0, h⟩ := ifS h
        have h := Option.some.inj h
        subst h
        exact At.fin hm ht ⟨[], [], [], [4, 5, 6], []⟩ [cutOk w389.1.length (some w389.2.1) none none] (by kernel_rfl) ⟨g391_0, trivial⟩
/-! brougham/broughamref02.All -/
def f84_broughamref02_All_in (b : List Int) (sizes : List Int) : Inn := ⟨[.c (.d (.sl (.int .u8) b)), .c (.d (.sl (.int .i64) sizes))], [], [], 0⟩
def f84_broughamref02_All_out (r : List Int × List Int × Bool) : Out := ⟨.tup [.c (.own 0 (.int .u64) r.1), .c (.d (.sl (.int .u8) r.2.1)), .c (.d (.bool r.2.2))], [(0, ⟨36, 0⟩)], [], 1⟩
def f84_broughamref02_All_L3 : Nat → (List Int) → (List Int) → (List Int) → Int → Option ((List Int × List Int × Bool) ⊕ (List Int × List Int))
  | 0, _, _, _, _ => none
  | n + 1, b, sizes, out, i =>
    if (decide ((i : Int) < ((sizes.length : Nat) : Int))) = true then
      if (0 : Int) ≤ i ∧ i < (((sizes).length : Nat) : Int) then
      (f82_broughamref02_Get n b (sizes.getD i.toNat 0)).bind fun r415_1 =>
      if (!r415_1.2.2) = true then
        some (.inl ([], [], false))
      else
        if out.length + [r415_1.1].length ≤ maxLen ∧ (out.length + [r415_1.1].length) * 8 ≤ 140737488355328 then
        f84_broughamref02_All_L3 n r415_1.2.1 sizes (out ++ [r415_1.1]) (IntKind.wrap .i64 (i + 1))
        else none
      else none
    else
      some (.inr ((b, out)))
def f84_broughamref02_All_L3_k (w : (List Int × List Int × Bool) ⊕ (List Int × List Int)) (o : Out) : Prop := match w with
  | .inl e => o = f84_broughamref02_All_out e
  | .inr e => At Go.Proofs.Try.prog Go.Proofs.Try.f84 0 10 ⟨[(0, .one (.c (.d (.sl (.int .u8) e.1)))), (7, .one (.c (.own 0 (.int .u64) e.2)))], [(0, some ⟨36, 0⟩)], [], 1⟩ o
theorem f84_broughamref02_All_L3_ok (n : Nat) : ∀ (b : List Int) (sizes : List Int) (out : List Int) (i : Int) (w : (List Int × List Int × Bool) ⊕ (List Int × List Int)) (h : f84_broughamref02_All_L3 n b sizes out i = some w) (o : Out) (hk : f84_broughamref02_All_L3_k w o), At Go.Proofs.Try.prog Go.Proofs.Try.f84 0 3 ⟨[(0, .one (.c (.d (.sl (.int .u8) b)))), (1, .one (.c (.d (.sl (.int .i64) sizes)))), (7, .one (.c (.own 0 (.int .u64) out))), (8, .one (.c (.d (.int .i64 i))))], [(0, some ⟨36, 0⟩)], [], 1⟩ o := by
  induction n with
  | zero => intro b sizes out i w h; rw [f84_broughamref02_All_L3] at h; cases h
  | succ n ih =>
    intro b sizes out i w h o hk
    rw [f84_broughamref02_All_L3] at h
    rcases iteS h with ⟨b414_e0, h⟩ | ⟨b414_e0, h⟩
    · refine At.step hm ht ⟨[], [true], [], [0, 1, 7, 8], [0]⟩ 5 ⟨[(0, .one (.c (.d (.sl (.int .u8) b)))), (1, .one (.c (.d (.sl (.int .i64) sizes)))), (7, .one (.c (.own 0 (.int .u64) out))), (8, .one (.c (.d (.int .i64 i))))], [(0, some ⟨36, 0⟩)], [], 1⟩ [(decide ((i : Int) < ((sizes.length : Nat) : Int))) = true] (by kernel_rfl) ⟨b414_e0, trivial⟩ ?_
      obtain ⟨g415_0, h⟩ := ifS h
      obtain ⟨r415_1, cr415_1, h⟩ := bindS h
      refine At.step hm ht ⟨[(5, .call [] [] (f82_broughamref02_Get_out r415_1))], [], [], [1, 7, 8, 9, 10, 11], [0]⟩ 6 ⟨[(1, .one (.c (.d (.sl (.int .i64) sizes)))), (7, .one (.c (.own 0 (.int .u64) out))), (8, .one (.c (.d (.int .i64 i)))), (9, .one (.c (.d (.int .u64 r415_1.1)))), (10, .one (.c (.d (.sl (.int .u8) r415_1.2.1)))), (11, .one (.c (.d (.bool r415_1.2.2))))], [(0, some ⟨36, 0⟩)], [], 1⟩ [(0 : Int) ≤ i ∧ i < (((sizes).length : Nat) : Int), FnOK Go.Proofs.Try.prog 82 (f82_broughamref02_Get_in b (sizes.getD i.toNat 0)) (f82_broughamref02_Get_out r415_1)] (by kernel_rfl) ⟨g415_0, (f82_broughamref02_Get_ok n b (sizes.getD i.toNat 0) r415_1 cr415_1), trivial⟩ ?_
      rcases iteS h with ⟨b416_e0, h⟩ | ⟨b416_e0, h⟩
      · refine At.step hm ht ⟨[], [true], [], [], []⟩ 7 ⟨[], [], [], 0⟩ [(!r415_1.2.2) = true] (by kernel_rfl) ⟨b416_e0, trivial⟩ ?_
        have h := Option.some.inj h
        subst h
        have hk : o = f84_broughamref02_All_out ([], [], false) := hk
        subst hk
        exact At.fin hm ht ⟨[], [], [.nil false 4 0 (.int .u64) (some 36), .nil false 5 0 (.int .u8) none], [4, 5, 6], [3]⟩ [] (by kernel_rfl) trivial
      · refine At.step hm ht ⟨[], [false], [], [1, 7, 8, 9, 10], [0]⟩ 8 ⟨[(1, .one (.c (.d (.sl (.int .i64) sizes)))), (7, .one (.c (.own 0 (.int .u64) out))), (8, .one (.c (.d (.int .i64 i)))), (9, .one (.c (.d (.int .u64 r415_1.1)))), (10, .one (.c (.d (.sl (.int .u8) r415_1.2.1))))], [(0, some ⟨36, 0⟩)], [], 1⟩ [(!r415_1.2.2) = false] (by kernel_rfl) ⟨b416_e0, trivial⟩ ?_
        obtain ⟨g418_0, h⟩ := ifS h
        refine At.step hm ht ⟨[], [], [], [1, 7, 8, 10], [4]⟩ 9 ⟨[(1, .one (.c (.d (.sl (.int .i64) sizes)))), (7, .one (.c (.own 0 (.int .u64) (out ++ [r415_1.1])))), (8, .one (.c (.d (.int .i64 i)))), (10, .one (.c (.d (.sl (.int .u8) r415_1.2.1))))], [(0, some ⟨36, 0⟩)], [], 1⟩ [out.length + [r415_1.1].length ≤ maxLen ∧ (out.length + [r415_1.1].length) * 8 ≤ 140737488355328] (by kernel_rfl) ⟨g418_0, trivial⟩ ?_
        refine At.step hm ht ⟨[], [], [], [0, 1, 7, 8], [0]⟩ 4 ⟨[(0, .one (.c (.d (.sl (.int .u8) r415_1.2.1)))), (1, .one (.c (.d (.sl (.int .i64) sizes)))), (7, .one (.c (.own 0 (.int .u64) (out ++ [r415_1.1])))), (8, .one (.c (.d (.int .i64 i))))], [(0, some ⟨36, 0⟩)], [], 1⟩ [] (by kernel_rfl) trivial ?_
        refine At.step hm ht ⟨[], [], [], [0, 1, 7, 8], [0]⟩ 3 ⟨[(0, .one (.c (.d (.sl (.int .u8) r415_1.2.1)))), (1, .one (.c (.d (.sl (.int .i64) sizes)))), (7, .one (.c (.own 0 (.int .u64) (out ++ [r415_1.1])))), (8, .one (.c (.d (.int .i64 (IntKind.wrap .i64 (i + 1))))))], [(0, some ⟨36, 0⟩)], [], 1⟩ [] (by kernel_rfl) trivial ?_
        exact ih r415_1.2.1 sizes (out ++ [r415_1.1]) (IntKind.wrap .i64 (i + 1)) w h o hk
    · refine At.step hm ht ⟨[], [false], [], [0, 7], [0]⟩ 10 ⟨[(0, .one (.c (.d (.sl (.int .u8) b)))), (7, .one (.c (.own 0 (.int .u64) out)))], [(0, some ⟨36, 0⟩)], [], 1⟩ [(decide ((i : Int) < ((sizes.length : Nat) : Int))) = false] (by kernel_rfl) ⟨b414_e0, trivial⟩ ?_
      have h := Option.some.inj h
      subst h
      exact hk
def f84_broughamref02_All (n : Nat) (b : List Int) (sizes : List Int) : Option (List Int × List Int × Bool) :=
  (f84_broughamref02_All_L3 n b sizes [] 0).bind fun w421 =>
  match w421 with
  | .inl e422 =>
    some (e422.1, e422.2.1, e422.2.2)
  | .inr e423 =>
    some (e423.2, e423.1, true)
theorem f84_broughamref02_All_ok (n : Nat) (b : List Int) (sizes : List Int) (r : List Int × List Int × Bool) (h : f84_broughamref02_All n b sizes = some r) : FnOK Go.Proofs.Try.prog 84 (f84_broughamref02_All_in b sizes) (f84_broughamref02_All_out r) := by
  unfold f84_broughamref02_All at h
  refine At.fn (r := 0) Go.Proofs.Try.func84 rfl (by kernel_rfl) rfl rfl (by kernel_rfl) ?_
  show At Go.Proofs.Try.prog Go.Proofs.Try.f84 0 0 ⟨[(0, .one (.c (.d (.sl (.int .u8) b)))), (1, .one (.c (.d (.sl (.int .i64) sizes))))], [], [], 0⟩ _
  refine At.step hm ht ⟨[], [], [], [0, 1], []⟩ 1 ⟨[(0, .one (.c (.d (.sl (.int .u8) b)))), (1, .one (.c (.d (.sl (.int .i64) sizes))))], [], [], 0⟩ [] (by kernel_rfl) trivial ?_
  refine At.step hm ht ⟨[], [], [], [0, 1, 7], []⟩ 2 ⟨[(0, .one (.c (.d (.sl (.int .u8) b)))), (1, .one (.c (.d (.sl (.int .i64) sizes)))), (7, .one (.c (.d (.sl .unit []))))], [], [], 0⟩ [] (by kernel_rfl) trivial ?_
  refine At.step hm ht ⟨[], [], [.nil false 7 0 (.int .u64) (some 36)], [0, 1, 7, 8], [1]⟩ 3 ⟨[(0, .one (.c (.d (.sl (.int .u8) b)))), (1, .one (.c (.d (.sl (.int .i64) sizes)))), (7, .one (.c (.own 0 (.int .u64) []))), (8, .one (.c (.d (.int .i64 0))))], [(0, some ⟨36, 0⟩)], [], 1⟩ [] (by kernel_rfl) trivial ?_
  obtain ⟨w421, cw421, h⟩ := bindS h
  refine f84_broughamref02_All_L3_ok n b sizes [] 0 w421 cw421 _ ?_
  rcases w421 with e422 | e423
  · have h := Option.some.inj h
    subst h
    rfl
  · show At Go.Proofs.Try.prog Go.Proofs.Try.f84 0 10 ⟨[(0, .one (.c (.d (.sl (.int .u8) e423.1)))), (7, .one (.c (.own 0 (.int .u64) e423.2)))], [(0, some ⟨36, 0⟩)], [], 1⟩ _
    have h := Option.some.inj h
    subst h
    exact At.fin hm ht ⟨[], [], [], [4, 5, 6], [0]⟩ [] (by kernel_rfl) trivial
/-! brougham/broughamref08.ParseData -/
def f37_broughamref08_ParseData_in (o__0 : Int) (o__1 : List Int) : Inn := ⟨[.agg [.d (.int .u8 o__0), .d (.sl (.int .u8) o__1)]], [], [], 0⟩
def f37_broughamref08_ParseData_out (r : Bool × Bool × Bool × Int × Int × Int × Int) : Out := ⟨.tup [.agg [.d (.bool r.2.1), .d (.bool r.2.2.1), .d (.int .u64 r.2.2.2.1), .d (.int .u64 r.2.2.2.2.1), .d (.int .u32 r.2.2.2.2.2.1), .d (.int .u64 r.2.2.2.2.2.2)], .c (.d (.bool r.1))], [], [(0, [.d (.bool r.2.1), .d (.bool r.2.2.1), .d (.int .u64 r.2.2.2.1), .d (.int .u64 r.2.2.2.2.1), .d (.int .u32 r.2.2.2.2.2.1), .d (.int .u64 r.2.2.2.2.2.2)])], 1⟩
def f37_broughamref08_ParseData (n : Nat) (o__0 : Int) (o__1 : List Int) : Option (Bool × Bool × Bool × Int × Int × Int × Int) :=
  (f84_broughamref02_All n o__1 [1, 8, 8, 4, 8]).bind fun r360_0 =>
  if ((o__0 : Int) != 3) = true then
    some (false, false, false, 0, 0, 0, 0)
  else
    if (!r360_0.2.2) = true then
      some (false, false, false, 0, 0, 0, 0)
    else
      if (0 : Int) ≤ 0 ∧ 0 < (((r360_0.1).length : Nat) : Int) then
      if (decide (((r360_0.1.getD 0 0) : Int) > 3)) = true then
        some (false, false, false, 0, 0, 0, 0)
      else
        if ((((r360_0.2.1.length : Nat) : Int) : Int) != 0) = true then
          some (false, false, false, 0, 0, 0, 0)
        else
          if (0 : Int) ≤ 0 ∧ 0 < (((r360_0.1).length : Nat) : Int) then
          if (0 : Int) ≤ 0 ∧ 0 < (((r360_0.1).length : Nat) : Int) then
          if (0 : Int) ≤ 1 ∧ 1 < (((r360_0.1).length : Nat) : Int) then
          if (0 : Int) ≤ 2 ∧ 2 < (((r360_0.1).length : Nat) : Int) then
          if (0 : Int) ≤ 3 ∧ 3 < (((r360_0.1).length : Nat) : Int) then
          if (0 : Int) ≤ 4 ∧ 4 < (((r360_0.1).length : Nat) : Int) then
          some (true, (((Int.tmod (r360_0.1.getD 0 0) 2) : Int) == 1), (decide (((r360_0.1.getD 0 0) : Int) > 1)), (r360_0.1.getD 1 0), (r360_0.1.getD 2 0), (IntKind.wrap .u32 (r360_0.1.getD 3 0)), (r360_0.1.getD 4 0))
          else none
          else none
          else none
          else none
          else none
          else none
      else none
theorem f37_broughamref08_ParseData_ok (n : Nat) (o__0 : Int) (o__1 : List Int) (r : Bool × Bool × Bool × Int × Int × Int × Int) (h : f37_broughamref08_ParseData n o__0 o__1 = some r) : FnOK Go.Proofs.Try.prog 37 (f37_broughamref08_ParseData_in o__0 o__1) (f37_broughamref08_ParseData_out r) := by
  unfold f37_broughamref08_ParseData at h
  refine At.fn (r := 0) Go.Proofs.Try.func37 rfl (by kernel_rfl) rfl rfl (by kernel_rfl) ?_
  show At Go.Proofs.Try.prog Go.Proofs.Try.f37 0 0 ⟨[(0, .one (.agg [.d (.int .u8 o__0), .d (.sl (.int .u8) o__1)]))], [], [], 0⟩ _
  refine At.step hm ht ⟨[], [], [], [1, 2], [0, 1]⟩ 1 ⟨[(1, .one (.c (.ptr 0 0))), (2, .one (.c (.ptr 1 0)))], [], [(0, [.d (.int .u8 o__0), .d (.sl (.int .u8) o__1)]), (1, [.d (.bool false), .d (.bool false), .d (.int .u64 0), .d (.int .u64 0), .d (.int .u32 0), .d (.int .u64 0)])], 2⟩ [] (by kernel_rfl) trivial ?_
  obtain ⟨r360_0, cr360_0, h⟩ := bindS h
  refine At.step hm ht ⟨[(3, .call [] [] (f84_broughamref02_All_out r360_0))], [], [], [1, 2, 4, 5, 6], [0, 1, 5]⟩ 2 ⟨[(1, .one (.c (.ptr 0 0))), (2, .one (.c (.ptr 1 0))), (4, .one (.c (.own 2 (.int .u64) r360_0.1))), (5, .one (.c (.d (.sl (.int .u8) r360_0.2.1)))), (6, .one (.c (.d (.bool r360_0.2.2))))], [(2, some ⟨36, 0⟩)], [(0, [.d (.int .u8 o__0), .d (.sl (.int .u8) o__1)]), (1, [.d (.bool false), .d (.bool false), .d (.int .u64 0), .d (.int .u64 0), .d (.int .u32 0), .d (.int .u64 0)])], 3⟩ [FnOK Go.Proofs.Try.prog 84 (f84_broughamref02_All_in o__1 [1, 8, 8, 4, 8]) (f84_broughamref02_All_out r360_0)] (by kernel_rfl) ⟨(f84_broughamref02_All_ok n o__1 [1, 8, 8, 4, 8] r360_0 cr360_0), trivial⟩ ?_
  rcases iteS h with ⟨b425_3, h⟩ | ⟨b425_3, h⟩
  · refine At.step hm ht ⟨[(3, .b true)], [true], [], [2], [1]⟩ 3 ⟨[(2, .one (.c (.ptr 0 0)))], [], [(0, [.d (.bool false), .d (.bool false), .d (.int .u64 0), .d (.int .u64 0), .d (.int .u32 0), .d (.int .u64 0)])], 1⟩ [((o__0 : Int) != 3) = true, true = true] (by kernel_rfl) ⟨b425_3, rfl, trivial⟩ ?_
    have h := Option.some.inj h
    subst h
    exact At.fin hm ht ⟨[], [], [], [2, 3], [0]⟩ [0 + 6 ≤ 6] (by kernel_rfl) ⟨(by decide), trivial⟩
  · rcases iteS h with ⟨b425_7, h⟩ | ⟨b425_7, h⟩
    · refine At.step hm ht ⟨[(3, .b false), (7, .b true)], [true], [], [2], [1]⟩ 3 ⟨[(2, .one (.c (.ptr 0 0)))], [], [(0, [.d (.bool false), .d (.bool false), .d (.int .u64 0), .d (.int .u64 0), .d (.int .u32 0), .d (.int .u64 0)])], 1⟩ [((o__0 : Int) != 3) = false, (!r360_0.2.2) = true, true = true] (by kernel_rfl) ⟨b425_3, b425_7, rfl, trivial⟩ ?_
      have h := Option.some.inj h
      subst h
      exact At.fin hm ht ⟨[], [], [], [2, 3], [0]⟩ [0 + 6 ≤ 6] (by kernel_rfl) ⟨(by decide), trivial⟩
    · obtain ⟨g425_0, h⟩ := ifS h
      rcases iteS h with ⟨b425_13, h⟩ | ⟨b425_13, h⟩
      · refine At.step hm ht ⟨[(3, .b false), (7, .b false), (13, .b true)], [true], [], [2], [1]⟩ 3 ⟨[(2, .one (.c (.ptr 0 0)))], [], [(0, [.d (.bool false), .d (.bool false), .d (.int .u64 0), .d (.int .u64 0), .d (.int .u32 0), .d (.int .u64 0)])], 1⟩ [((o__0 : Int) != 3) = false, (!r360_0.2.2) = false, (0 : Int) ≤ 0 ∧ 0 < (((r360_0.1).length : Nat) : Int), (decide (((r360_0.1.getD 0 0) : Int) > 3)) = true, true = true] (by kernel_rfl) ⟨b425_3, b425_7, g425_0, b425_13, rfl, trivial⟩ ?_
        have h := Option.some.inj h
        subst h
        exact At.fin hm ht ⟨[], [], [], [2, 3], [0]⟩ [0 + 6 ≤ 6] (by kernel_rfl) ⟨(by decide), trivial⟩
      · rcases iteS h with ⟨b425_e0, h⟩ | ⟨b425_e0, h⟩
        · refine At.step hm ht ⟨[(3, .b false), (7, .b false), (13, .b false)], [true], [], [2], [1]⟩ 3 ⟨[(2, .one (.c (.ptr 0 0)))], [], [(0, [.d (.bool false), .d (.bool false), .d (.int .u64 0), .d (.int .u64 0), .d (.int .u32 0), .d (.int .u64 0)])], 1⟩ [((o__0 : Int) != 3) = false, (!r360_0.2.2) = false, (0 : Int) ≤ 0 ∧ 0 < (((r360_0.1).length : Nat) : Int), (decide (((r360_0.1.getD 0 0) : Int) > 3)) = false, ((((r360_0.2.1.length : Nat) : Int) : Int) != 0) = true] (by kernel_rfl) ⟨b425_3, b425_7, g425_0, b425_13, b425_e0, trivial⟩ ?_
          have h := Option.some.inj h
          subst h
          exact At.fin hm ht ⟨[], [], [], [2, 3], [0]⟩ [0 + 6 ≤ 6] (by kernel_rfl) ⟨(by decide), trivial⟩
        · refine At.step hm ht ⟨[(3, .b false), (7, .b false), (13, .b false)], [false], [], [2, 4], [1, 2]⟩ 4 ⟨[(2, .one (.c (.ptr 0 0))), (4, .one (.c (.own 1 (.int .u64) r360_0.1)))], [(1, some ⟨36, 0⟩)], [(0, [.d (.bool false), .d (.bool false), .d (.int .u64 0), .d (.int .u64 0), .d (.int .u32 0), .d (.int .u64 0)])], 2⟩ [((o__0 : Int) != 3) = false, (!r360_0.2.2) = false, (0 : Int) ≤ 0 ∧ 0 < (((r360_0.1).length : Nat) : Int), (decide (((r360_0.1.getD 0 0) : Int) > 3)) = false, ((((r360_0.2.1.length : Nat) : Int) : Int) != 0) = false] (by kernel_rfl) ⟨b425_3, b425_7, g425_0, b425_13, b425_e0, trivial⟩ ?_
          obtain ⟨g430_0, h⟩ := ifS h
          obtain ⟨g430_1, h⟩ := ifS h
          obtain ⟨g430_2, h⟩ := ifS h
          obtain ⟨g430_3, h⟩ := ifS h
          obtain ⟨g430_4, h⟩ := ifS h
          obtain ⟨g430_5, h⟩ := ifS h
          have h := Option.some.inj h
          subst h
          exact At.fin hm ht ⟨[], [], [], [2, 3], [0]⟩ [(0 : Int) ≤ 0 ∧ 0 < (((r360_0.1).length : Nat) : Int), (2 : Int) ≠ 0, (0 : Int) ≤ 0 ∧ 0 < (((r360_0.1).length : Nat) : Int), (0 : Int) ≤ 1 ∧ 1 < (((r360_0.1).length : Nat) : Int), (0 : Int) ≤ 2 ∧ 2 < (((r360_0.1).length : Nat) : Int), (0 : Int) ≤ 3 ∧ 3 < (((r360_0.1).length : Nat) : Int), (0 : Int) ≤ 4 ∧ 4 < (((r360_0.1).length : Nat) : Int), 0 + 6 ≤ 6] (by kernel_rfl) ⟨g430_0, (by decide), g430_1, g430_2, g430_3, g430_4, g430_5, (by decide), trivial⟩
end Go.Proofs.YtddglebabaaghaaF10
