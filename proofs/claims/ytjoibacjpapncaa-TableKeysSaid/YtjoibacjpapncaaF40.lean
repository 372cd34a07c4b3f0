/- What the functions compute, and that they do: printed by a program of this session (zgen.py), proved by Zed. -/
import Derived.Test.YtjoibacjpapncaaProg
import Derived.Test.YtjoibacjpapncaaZedYa
namespace Go.Proofs.YtjoibacjpapncaaF40
open Go Zed
set_option maxRecDepth 100000
set_option linter.unusedVariables false
def tab : Tab := [(3, ⟨.int .i64, 1, 8, [.int .i64 0], some (.int .i64), none⟩), (4, ⟨.bool, 1, 1, [.bool false], some .bool, none⟩), (5, ⟨.int .u8, 1, 1, [.int .u8 0], some (.int .u8), none⟩), (22, ⟨.int .u64, 1, 8, [.int .u64 0], some (.int .u64), none⟩), (24, ⟨.struct [(0, 22), (1, 22)], 2, 16, [.int .u64 0, .int .u64 0], some (.pair (.int .u64) (.int .u64)), some [(0, 22), (1, 22)]⟩), (26, ⟨.int .u32, 1, 4, [.int .u32 0], some (.int .u32), none⟩), (38, ⟨.slice 5, 1, 24, [.sl .unit []], some (.slice (.int .u8)), none⟩), (96, ⟨.slice 100, 1, 24, [.sl .unit []], some (.slice (.pair (.int .i64) (.pair (.int .u32) (.int .i64)))), none⟩), (97, ⟨.ptr 166, 1, 8, [.nilP], none, none⟩), (100, ⟨.struct [(0, 3), (1, 26), (2, 3)], 3, 24, [.int .i64 0, .int .u32 0, .int .i64 0], some (.pair (.int .i64) (.pair (.int .u32) (.int .i64))), some [(0, 3), (1, 26), (2, 3)]⟩), (105, ⟨.slice 26, 1, 24, [.sl .unit []], some (.slice (.int .u32)), none⟩), (110, ⟨.slice 3, 1, 24, [.sl .unit []], some (.slice (.int .i64)), none⟩), (133, ⟨.int .u64, 1, 8, [.int .u64 0], some (.int .u64), none⟩), (139, ⟨.struct [(0, 3), (1, 22)], 2, 16, [.int .i64 0, .int .u64 0], some (.pair (.int .i64) (.int .u64)), some [(0, 3), (1, 22)]⟩), (164, ⟨.slice 169, 1, 24, [.sl .unit []], some (.slice (.pair (.int .u8) (.pair (.int .u32) (.int .i64)))), none⟩), (166, ⟨.struct [(0, 24), (2, 164), (3, 3), (4, 3), (5, 3)], 6, 64, [.int .u64 0, .int .u64 0, .sl .unit [], .int .i64 0, .int .i64 0, .int .i64 0], some (.pair (.pair (.int .u64) (.int .u64)) (.pair (.slice (.pair (.int .u8) (.pair (.int .u32) (.int .i64)))) (.pair (.int .i64) (.pair (.int .i64) (.int .i64))))), some [(0, 24), (2, 164), (3, 3), (4, 3), (5, 3)]⟩), (169, ⟨.struct [(0, 5), (1, 26), (2, 3)], 3, 16, [.int .u8 0, .int .u32 0, .int .i64 0], some (.pair (.int .u8) (.pair (.int .u32) (.int .i64))), some [(0, 5), (1, 26), (2, 3)]⟩), (221, ⟨.slice 139, 1, 24, [.sl .unit []], some (.slice (.pair (.int .i64) (.int .u64))), none⟩), (239, ⟨.slice 38, 1, 24, [.sl .unit []], some (.slice (.slice (.int .u8))), none⟩), (248, ⟨.arr 4 22, 4, 32, [.int .u64 0, .int .u64 0, .int .u64 0, .int .u64 0], some (.pair (.int .u64) (.pair (.int .u64) (.pair (.int .u64) (.int .u64)))), none⟩), (250, ⟨.struct [(0, 248), (4, 22), (5, 3)], 6, 48, [.int .u64 0, .int .u64 0, .int .u64 0, .int .u64 0, .int .u64 0, .int .i64 0], some (.pair (.pair (.int .u64) (.pair (.int .u64) (.pair (.int .u64) (.int .u64)))) (.pair (.int .u64) (.int .i64))), some [(0, 248), (4, 22), (5, 3)]⟩)]
theorem ht : TabOk Go.Proofs.Try.prog tab := tabOk_of (ts := [3, 4, 5, 22, 24, 26, 38, 96, 97, 100, 105, 110, 133, 139, 164, 166, 169, 221, 239, 248, 250]) (by kernel_rfl)
theorem hm : Go.Proofs.Try.prog.follows .mixedOrders = true := by kernel_rfl
/-! brougham/table.New -/
def f50_table_New_in (key_0 : Int) (key_1 : Int) (most : Int) : Inn := ⟨[.agg [.d (.int .u64 key_0), .d (.int .u64 key_1)], .c (.d (.int .i64 most))], [], [], 0⟩
def f50_table_New_out (r : Int × Int × Int × Int × Int × List (Int × Int × Int)) : Out := ⟨.one (.c (.ptr 0 0)), [(1, ⟨169, 2⟩)], [(0, [.d (.int .u64 r.1), .d (.int .u64 r.2.1), .row 1 (.pair (.int .u8) (.pair (.int .u32) (.int .i64))), .d (.int .i64 r.2.2.1), .d (.int .i64 r.2.2.2.1), .d (.int .i64 r.2.2.2.2.1)]), (1, [.run (.pair (.int .u8) (.pair (.int .u32) (.int .i64))) r.2.2.2.2.2])], 2⟩
def f50_table_New (key_0 : Int) (key_1 : Int) (most : Int) : Option (Int × Int × Int × Int × Int × List (Int × Int × Int)) :=
  some (key_0, key_1, 0, 0, (if 256 < (if most < 1 then 1 else most) then 256 else (if most < 1 then 1 else most)), (List.replicate 8 (0, (0, 0))))
theorem f50_table_New_ok (key_0 : Int) (key_1 : Int) (most : Int) (r : Int × Int × Int × Int × Int × List (Int × Int × Int)) (h : f50_table_New key_0 key_1 most = some r) : FnOK Go.Proofs.Try.prog 50 (f50_table_New_in key_0 key_1 most) (f50_table_New_out r) := by
  unfold f50_table_New at h
  refine At.fn (r := 0) Go.Proofs.Try.func50 rfl (by kernel_rfl) rfl rfl (by kernel_rfl) ?_
  show At Go.Proofs.Try.prog Go.Proofs.Try.f50 0 0 ⟨[(0, .one (.agg [.d (.int .u64 key_0), .d (.int .u64 key_1)])), (1, .one (.c (.d (.int .i64 most))))], [], [], 0⟩ _
  refine At.step hm ht ⟨[], [], [], [1, 2], [0]⟩ 1 ⟨[(1, .one (.c (.d (.int .i64 most)))), (2, .one (.c (.ptr 0 0)))], [], [(0, [.d (.int .u64 key_0), .d (.int .u64 key_1)])], 1⟩ [] (by kernel_rfl) trivial ?_
  have h := Option.some.inj h
  subst h
  exact At.fin hm ht ⟨[(1, .row)], [], [], [4], [7, 2]⟩ [((8 : Int) = 8 ∧ (0 : Int) ≤ 8) ∧ (8 * 3 ≤ 16777216 ∧ 8 * 16 ≤ 16777216)] (by kernel_rfl) ⟨(by decide), trivial⟩
/-! brougham/pack.W -/
def f79_pack_W_in (n_ : Int) : Inn := ⟨[.c (.d (.int .u32 n_))], [], [], 0⟩
def f79_pack_W_out (r : Int × Int) : Out := ⟨.one (.agg [.d (.int .i64 r.1), .d (.int .u64 r.2)]), [], [(0, [.d (.int .i64 r.1), .d (.int .u64 r.2)])], 1⟩
def f79_pack_W (n_ : Int) : Option (Int × Int) :=
  some (4, (IntKind.wrap .u64 n_))
theorem f79_pack_W_ok (n_ : Int) (r : Int × Int) (h : f79_pack_W n_ = some r) : FnOK Go.Proofs.Try.prog 79 (f79_pack_W_in n_) (f79_pack_W_out r) := by
  unfold f79_pack_W at h
  refine At.fn (r := 0) Go.Proofs.Try.func79 rfl (by kernel_rfl) rfl rfl (by kernel_rfl) ?_
  show At Go.Proofs.Try.prog Go.Proofs.Try.f79 0 0 ⟨[(0, .one (.c (.d (.int .u32 n_))))], [], [], 0⟩ _
  refine At.step hm ht ⟨[], [], [], [0, 2], [0]⟩ 1 ⟨[(0, .one (.c (.d (.int .u32 n_)))), (2, .one (.c (.ptr 0 0)))], [], [(0, [.d (.int .i64 0), .d (.int .u64 0)])], 1⟩ [] (by kernel_rfl) trivial ?_
  have h := Option.some.inj h
  subst h
  exact At.fin hm ht ⟨[], [], [], [2], [0]⟩ [0 + 2 ≤ 2] (by kernel_rfl) ⟨(by decide), trivial⟩
/-! brougham/pack.Put -/
def f78_pack_Put_in (b : List Int) (l : List (Int × Int)) : Inn := ⟨[.c (.d (.sl (.int .u8) b)), .c (.d (.sl (.pair (.int .i64) (.int .u64)) l))], [], [], 0⟩
def f78_pack_Put_out (r : List Int) : Out := ⟨.one (.c (.own 0 (.int .u8) r)), [(0, ⟨5, 0⟩)], [], 1⟩
def f78_pack_Put_L7 : Nat → (List Int) → Int → (List (Int × Int)) → Int → Int → Int → Int → Option (List Int × (List (Int × Int)) × Int × Int)
  | 0, _, _, _, _, _, _, _ => none
  | n + 1, out, i, t11, t12, t13, f_0, f_1 =>
    if (decide ((i : Int) ≥ 0)) = true then
      if (0 : Int) ≤ (IntKind.wrap .i64 (8 * i)) then
      if out.length + [(IntKind.wrap .u8 (Int.fdiv f_1 (2 ^ (min (IntKind.wrap .i64 (8 * i)).toNat (IntKind.bits .u64)))))].length ≤ maxLen ∧ (out.length + [(IntKind.wrap .u8 (Int.fdiv f_1 (2 ^ (min (IntKind.wrap .i64 (8 * i)).toNat (IntKind.bits .u64)))))].length) * 1 ≤ 140737488355328 then
      f78_pack_Put_L7 n (out ++ [(IntKind.wrap .u8 (Int.fdiv f_1 (2 ^ (min (IntKind.wrap .i64 (8 * i)).toNat (IntKind.bits .u64)))))]) (IntKind.wrap .i64 (i - 1)) t11 t12 t13 f_0 f_1
      else none
      else none
    else
      some ((out, t11, t12, t13))
def f78_pack_Put_L7_k (e : List Int × (List (Int × Int)) × Int × Int) (o : Out) : Prop := At Go.Proofs.Try.prog Go.Proofs.Try.f78 0 10 ⟨[(5, .one (.c (.own 0 (.int .u8) e.1))), (11, .one (.c (.d (.sl (.pair (.int .i64) (.int .u64)) e.2.1)))), (12, .one (.c (.d (.int .i64 e.2.2.1)))), (13, .one (.c (.d (.int .i64 e.2.2.2))))], [(0, some ⟨5, 0⟩)], [], 1⟩ o
theorem f78_pack_Put_L7_ok (n : Nat) : ∀ (out : List Int) (i : Int) (t11 : List (Int × Int)) (t12 : Int) (t13 : Int) (f_0 : Int) (f_1 : Int) (w : List Int × (List (Int × Int)) × Int × Int) (h : f78_pack_Put_L7 n out i t11 t12 t13 f_0 f_1 = some w) (o : Out) (hk : f78_pack_Put_L7_k w o), At Go.Proofs.Try.prog Go.Proofs.Try.f78 0 7 ⟨[(5, .one (.c (.own 0 (.int .u8) out))), (7, .one (.c (.ptr 1 0))), (8, .one (.c (.d (.int .i64 i)))), (11, .one (.c (.d (.sl (.pair (.int .i64) (.int .u64)) t11)))), (12, .one (.c (.d (.int .i64 t12)))), (13, .one (.c (.d (.int .i64 t13))))], [(0, some ⟨5, 0⟩)], [(1, [.d (.int .i64 f_0), .d (.int .u64 f_1)])], 2⟩ o := by
  induction n with
  | zero => intro out i t11 t12 t13 f_0 f_1 w h; rw [f78_pack_Put_L7] at h; cases h
  | succ n ih =>
    intro out i t11 t12 t13 f_0 f_1 w h o hk
    rw [f78_pack_Put_L7] at h
    rcases iteS h with ⟨b31_e0, h⟩ | ⟨b31_e0, h⟩
    · refine At.step hm ht ⟨[], [true], [], [5, 7, 8, 11, 12, 13], [0, 1]⟩ 9 ⟨[(5, .one (.c (.own 0 (.int .u8) out))), (7, .one (.c (.ptr 1 0))), (8, .one (.c (.d (.int .i64 i)))), (11, .one (.c (.d (.sl (.pair (.int .i64) (.int .u64)) t11)))), (12, .one (.c (.d (.int .i64 t12)))), (13, .one (.c (.d (.int .i64 t13))))], [(0, some ⟨5, 0⟩)], [(1, [.d (.int .i64 f_0), .d (.int .u64 f_1)])], 2⟩ [(decide ((i : Int) ≥ 0)) = true] (by kernel_rfl) ⟨b31_e0, trivial⟩ ?_
      obtain ⟨g32_0, h⟩ := ifS h
      obtain ⟨g32_1, h⟩ := ifS h
      refine At.step hm ht ⟨[], [], [], [5, 7, 8, 11, 12, 13], [10, 1]⟩ 8 ⟨[(5, .one (.c (.own 0 (.int .u8) (out ++ [(IntKind.wrap .u8 (Int.fdiv f_1 (2 ^ (min (IntKind.wrap .i64 (8 * i)).toNat (IntKind.bits .u64)))))])))), (7, .one (.c (.ptr 1 0))), (8, .one (.c (.d (.int .i64 i)))), (11, .one (.c (.d (.sl (.pair (.int .i64) (.int .u64)) t11)))), (12, .one (.c (.d (.int .i64 t12)))), (13, .one (.c (.d (.int .i64 t13))))], [(0, some ⟨5, 0⟩)], [(1, [.d (.int .i64 f_0), .d (.int .u64 f_1)])], 2⟩ [(0 : Int) ≤ (IntKind.wrap .i64 (8 * i)), out.length + [(IntKind.wrap .u8 (Int.fdiv f_1 (2 ^ (min (IntKind.wrap .i64 (8 * i)).toNat (IntKind.bits .u64)))))].length ≤ maxLen ∧ (out.length + [(IntKind.wrap .u8 (Int.fdiv f_1 (2 ^ (min (IntKind.wrap .i64 (8 * i)).toNat (IntKind.bits .u64)))))].length) * 1 ≤ 140737488355328] (by kernel_rfl) ⟨g32_0, g32_1, trivial⟩ ?_
      refine At.step hm ht ⟨[], [], [], [5, 7, 8, 11, 12, 13], [0, 1]⟩ 7 ⟨[(5, .one (.c (.own 0 (.int .u8) (out ++ [(IntKind.wrap .u8 (Int.fdiv f_1 (2 ^ (min (IntKind.wrap .i64 (8 * i)).toNat (IntKind.bits .u64)))))])))), (7, .one (.c (.ptr 1 0))), (8, .one (.c (.d (.int .i64 (IntKind.wrap .i64 (i - 1)))))), (11, .one (.c (.d (.sl (.pair (.int .i64) (.int .u64)) t11)))), (12, .one (.c (.d (.int .i64 t12)))), (13, .one (.c (.d (.int .i64 t13))))], [(0, some ⟨5, 0⟩)], [(1, [.d (.int .i64 f_0), .d (.int .u64 f_1)])], 2⟩ [] (by kernel_rfl) trivial ?_
      exact ih (out ++ [(IntKind.wrap .u8 (Int.fdiv f_1 (2 ^ (min (IntKind.wrap .i64 (8 * i)).toNat (IntKind.bits .u64)))))]) (IntKind.wrap .i64 (i - 1)) t11 t12 t13 f_0 f_1 w h o hk
    · refine At.step hm ht ⟨[], [false], [], [5, 11, 12, 13], [0]⟩ 10 ⟨[(5, .one (.c (.own 0 (.int .u8) out))), (11, .one (.c (.d (.sl (.pair (.int .i64) (.int .u64)) t11)))), (12, .one (.c (.d (.int .i64 t12)))), (13, .one (.c (.d (.int .i64 t13))))], [(0, some ⟨5, 0⟩)], [], 1⟩ [(decide ((i : Int) ≥ 0)) = false] (by kernel_rfl) ⟨b31_e0, trivial⟩ ?_
      have h := Option.some.inj h
      subst h
      exact hk
def f78_pack_Put_L3 : Nat → (List Int) → (List (Int × Int)) → Int → Int → Option (List Int)
  | 0, _, _, _, _ => none
  | n + 1, out, t11, t12, t13 =>
    if (decide ((t13 : Int) < t12)) = true then
      if (0 : Int) ≤ t13 ∧ t13 < (((t11).length : Nat) : Int) then
      if (decide ((((t11.getD t13.toNat (0, 0)).1) : Int) < 1)) = true then
        f78_pack_Put_L3 n out t11 t12 (IntKind.wrap .i64 (t13 + 1))
      else
        if (decide ((((t11.getD t13.toNat (0, 0)).1) : Int) > 8)) = true then
          f78_pack_Put_L3 n out t11 t12 (IntKind.wrap .i64 (t13 + 1))
        else
          (f78_pack_Put_L7 n out (IntKind.wrap .i64 (((t11.getD t13.toNat (0, 0)).1) - 1)) t11 t12 t13 ((t11.getD t13.toNat (0, 0)).1) ((t11.getD t13.toNat (0, 0)).2)).bind fun w34 =>
          f78_pack_Put_L3 n w34.1 w34.2.1 w34.2.2.1 (IntKind.wrap .i64 (w34.2.2.2 + 1))
      else none
    else
      some (out)
def f78_pack_Put_L3_k (e : List Int) (o : Out) : Prop := At Go.Proofs.Try.prog Go.Proofs.Try.f78 0 11 ⟨[(5, .one (.c (.own 0 (.int .u8) e)))], [(0, some ⟨5, 0⟩)], [], 1⟩ o
theorem f78_pack_Put_L3_ok (n : Nat) : ∀ (out : List Int) (t11 : List (Int × Int)) (t12 : Int) (t13 : Int) (w : List Int) (h : f78_pack_Put_L3 n out t11 t12 t13 = some w) (o : Out) (hk : f78_pack_Put_L3_k w o), At Go.Proofs.Try.prog Go.Proofs.Try.f78 0 3 ⟨[(5, .one (.c (.own 0 (.int .u8) out))), (11, .one (.c (.d (.sl (.pair (.int .i64) (.int .u64)) t11)))), (12, .one (.c (.d (.int .i64 t12)))), (13, .one (.c (.d (.int .i64 t13))))], [(0, some ⟨5, 0⟩)], [], 1⟩ o := by
  induction n with
  | zero => intro out t11 t12 t13 w h; rw [f78_pack_Put_L3] at h; cases h
  | succ n ih =>
    intro out t11 t12 t13 w h o hk
    rw [f78_pack_Put_L3] at h
    rcases iteS h with ⟨b25_e0, h⟩ | ⟨b25_e0, h⟩
    · refine At.step hm ht ⟨[], [true], [], [5, 11, 12, 13], [0]⟩ 4 ⟨[(5, .one (.c (.own 0 (.int .u8) out))), (11, .one (.c (.d (.sl (.pair (.int .i64) (.int .u64)) t11)))), (12, .one (.c (.d (.int .i64 t12)))), (13, .one (.c (.d (.int .i64 t13))))], [(0, some ⟨5, 0⟩)], [], 1⟩ [(decide ((t13 : Int) < t12)) = true] (by kernel_rfl) ⟨b25_e0, trivial⟩ ?_
      obtain ⟨g26_0, h⟩ := ifS h
      refine At.step hm ht ⟨[], [], [], [5, 7, 11, 12, 13], [0, 3]⟩ 5 ⟨[(5, .one (.c (.own 0 (.int .u8) out))), (7, .one (.c (.ptr 1 0))), (11, .one (.c (.d (.sl (.pair (.int .i64) (.int .u64)) t11)))), (12, .one (.c (.d (.int .i64 t12)))), (13, .one (.c (.d (.int .i64 t13))))], [(0, some ⟨5, 0⟩)], [(1, [.d (.int .i64 ((t11.getD t13.toNat (0, 0)).1)), .d (.int .u64 ((t11.getD t13.toNat (0, 0)).2))])], 2⟩ [(0 : Int) ≤ t13 ∧ t13 < (((t11).length : Nat) : Int), 0 + 2 ≤ 2] (by kernel_rfl) ⟨g26_0, (by decide), trivial⟩ ?_
      rcases iteS h with ⟨b27_3, h⟩ | ⟨b27_3, h⟩
      · refine At.step hm ht ⟨[(3, .b true)], [true], [], [5, 11, 12, 13], [0]⟩ 10 ⟨[(5, .one (.c (.own 0 (.int .u8) out))), (11, .one (.c (.d (.sl (.pair (.int .i64) (.int .u64)) t11)))), (12, .one (.c (.d (.int .i64 t12)))), (13, .one (.c (.d (.int .i64 t13))))], [(0, some ⟨5, 0⟩)], [], 1⟩ [(decide ((((t11.getD t13.toNat (0, 0)).1) : Int) < 1)) = true, true = true] (by kernel_rfl) ⟨b27_3, rfl, trivial⟩ ?_
        refine At.step hm ht ⟨[], [], [], [5, 11, 12, 13], [0]⟩ 3 ⟨[(5, .one (.c (.own 0 (.int .u8) out))), (11, .one (.c (.d (.sl (.pair (.int .i64) (.int .u64)) t11)))), (12, .one (.c (.d (.int .i64 t12)))), (13, .one (.c (.d (.int .i64 (IntKind.wrap .i64 (t13 + 1))))))], [(0, some ⟨5, 0⟩)], [], 1⟩ [] (by kernel_rfl) trivial ?_
        exact ih out t11 t12 (IntKind.wrap .i64 (t13 + 1)) w h o hk
      · rcases iteS h with ⟨b27_e0, h⟩ | ⟨b27_e0, h⟩
        · refine At.step hm ht ⟨[(3, .b false)], [true], [], [5, 11, 12, 13], [0]⟩ 10 ⟨[(5, .one (.c (.own 0 (.int .u8) out))), (11, .one (.c (.d (.sl (.pair (.int .i64) (.int .u64)) t11)))), (12, .one (.c (.d (.int .i64 t12)))), (13, .one (.c (.d (.int .i64 t13))))], [(0, some ⟨5, 0⟩)], [], 1⟩ [(decide ((((t11.getD t13.toNat (0, 0)).1) : Int) < 1)) = false, (decide ((((t11.getD t13.toNat (0, 0)).1) : Int) > 8)) = true] (by kernel_rfl) ⟨b27_3, b27_e0, trivial⟩ ?_
          refine At.step hm ht ⟨[], [], [], [5, 11, 12, 13], [0]⟩ 3 ⟨[(5, .one (.c (.own 0 (.int .u8) out))), (11, .one (.c (.d (.sl (.pair (.int .i64) (.int .u64)) t11)))), (12, .one (.c (.d (.int .i64 t12)))), (13, .one (.c (.d (.int .i64 (IntKind.wrap .i64 (t13 + 1))))))], [(0, some ⟨5, 0⟩)], [], 1⟩ [] (by kernel_rfl) trivial ?_
          exact ih out t11 t12 (IntKind.wrap .i64 (t13 + 1)) w h o hk
        · refine At.step hm ht ⟨[(3, .b false)], [false], [], [5, 7, 11, 12, 13], [0, 1]⟩ 6 ⟨[(5, .one (.c (.own 0 (.int .u8) out))), (7, .one (.c (.ptr 1 0))), (11, .one (.c (.d (.sl (.pair (.int .i64) (.int .u64)) t11)))), (12, .one (.c (.d (.int .i64 t12)))), (13, .one (.c (.d (.int .i64 t13))))], [(0, some ⟨5, 0⟩)], [(1, [.d (.int .i64 ((t11.getD t13.toNat (0, 0)).1)), .d (.int .u64 ((t11.getD t13.toNat (0, 0)).2))])], 2⟩ [(decide ((((t11.getD t13.toNat (0, 0)).1) : Int) < 1)) = false, (decide ((((t11.getD t13.toNat (0, 0)).1) : Int) > 8)) = false] (by kernel_rfl) ⟨b27_3, b27_e0, trivial⟩ ?_
          refine At.step hm ht ⟨[], [], [], [5, 7, 8, 11, 12, 13], [0, 1]⟩ 7 ⟨[(5, .one (.c (.own 0 (.int .u8) out))), (7, .one (.c (.ptr 1 0))), (8, .one (.c (.d (.int .i64 (IntKind.wrap .i64 (((t11.getD t13.toNat (0, 0)).1) - 1)))))), (11, .one (.c (.d (.sl (.pair (.int .i64) (.int .u64)) t11)))), (12, .one (.c (.d (.int .i64 t12)))), (13, .one (.c (.d (.int .i64 t13))))], [(0, some ⟨5, 0⟩)], [(1, [.d (.int .i64 ((t11.getD t13.toNat (0, 0)).1)), .d (.int .u64 ((t11.getD t13.toNat (0, 0)).2))])], 2⟩ [] (by kernel_rfl) trivial ?_
          obtain ⟨w34, cw34, h⟩ := bindS h
          refine f78_pack_Put_L7_ok n out (IntKind.wrap .i64 (((t11.getD t13.toNat (0, 0)).1) - 1)) t11 t12 t13 ((t11.getD t13.toNat (0, 0)).1) ((t11.getD t13.toNat (0, 0)).2) w34 cw34 _ ?_
          show At Go.Proofs.Try.prog Go.Proofs.Try.f78 0 10 ⟨[(5, .one (.c (.own 0 (.int .u8) w34.1))), (11, .one (.c (.d (.sl (.pair (.int .i64) (.int .u64)) w34.2.1)))), (12, .one (.c (.d (.int .i64 w34.2.2.1)))), (13, .one (.c (.d (.int .i64 w34.2.2.2))))], [(0, some ⟨5, 0⟩)], [], 1⟩ _
          refine At.step hm ht ⟨[], [], [], [5, 11, 12, 13], [0]⟩ 3 ⟨[(5, .one (.c (.own 0 (.int .u8) w34.1))), (11, .one (.c (.d (.sl (.pair (.int .i64) (.int .u64)) w34.2.1)))), (12, .one (.c (.d (.int .i64 w34.2.2.1)))), (13, .one (.c (.d (.int .i64 (IntKind.wrap .i64 (w34.2.2.2 + 1))))))], [(0, some ⟨5, 0⟩)], [], 1⟩ [] (by kernel_rfl) trivial ?_
          exact ih w34.1 w34.2.1 w34.2.2.1 (IntKind.wrap .i64 (w34.2.2.2 + 1)) w h o hk
    · refine At.step hm ht ⟨[], [false], [], [5], [0]⟩ 11 ⟨[(5, .one (.c (.own 0 (.int .u8) out)))], [(0, some ⟨5, 0⟩)], [], 1⟩ [(decide ((t13 : Int) < t12)) = false] (by kernel_rfl) ⟨b25_e0, trivial⟩ ?_
      have h := Option.some.inj h
      subst h
      exact hk
def f78_pack_Put (n : Nat) (b : List Int) (l : List (Int × Int)) : Option (List Int) :=
  if b.length ≤ maxLen ∧ b.length * 1 ≤ 140737488355328 then
  (f78_pack_Put_L3 n b l ((l.length : Nat) : Int) 0).bind fun w37 =>
  some w37
  else none
theorem f78_pack_Put_ok (n : Nat) (b : List Int) (l : List (Int × Int)) (r : List Int) (h : f78_pack_Put n b l = some r) : FnOK Go.Proofs.Try.prog 78 (f78_pack_Put_in b l) (f78_pack_Put_out r) := by
  unfold f78_pack_Put at h
  refine At.fn (r := 0) Go.Proofs.Try.func78 rfl (by kernel_rfl) rfl rfl (by kernel_rfl) ?_
  show At Go.Proofs.Try.prog Go.Proofs.Try.f78 0 0 ⟨[(0, .one (.c (.d (.sl (.int .u8) b)))), (1, .one (.c (.d (.sl (.pair (.int .i64) (.int .u64)) l))))], [], [], 0⟩ _
  refine At.step hm ht ⟨[], [], [], [0, 1], []⟩ 1 ⟨[(0, .one (.c (.d (.sl (.int .u8) b)))), (1, .one (.c (.d (.sl (.pair (.int .i64) (.int .u64)) l))))], [], [], 0⟩ [] (by kernel_rfl) trivial ?_
  obtain ⟨g23_0, h⟩ := ifS h
  refine At.step hm ht ⟨[], [], [], [1, 5], [1]⟩ 2 ⟨[(1, .one (.c (.d (.sl (.pair (.int .i64) (.int .u64)) l)))), (5, .one (.c (.own 0 (.int .u8) b)))], [(0, some ⟨5, 0⟩)], [], 1⟩ [b.length ≤ maxLen ∧ b.length * 1 ≤ 140737488355328] (by kernel_rfl) ⟨g23_0, trivial⟩ ?_
  refine At.step hm ht ⟨[], [], [], [5, 11, 12, 13], [0]⟩ 3 ⟨[(5, .one (.c (.own 0 (.int .u8) b))), (11, .one (.c (.d (.sl (.pair (.int .i64) (.int .u64)) l)))), (12, .one (.c (.d (.int .i64 ((l.length : Nat) : Int))))), (13, .one (.c (.d (.int .i64 0))))], [(0, some ⟨5, 0⟩)], [], 1⟩ [] (by kernel_rfl) trivial ?_
  obtain ⟨w37, cw37, h⟩ := bindS h
  refine f78_pack_Put_L3_ok n b l ((l.length : Nat) : Int) 0 w37 cw37 _ ?_
  show At Go.Proofs.Try.prog Go.Proofs.Try.f78 0 11 ⟨[(5, .one (.c (.own 0 (.int .u8) w37)))], [(0, some ⟨5, 0⟩)], [], 1⟩ _
  have h := Option.some.inj h
  subst h
  exact At.fin hm ht ⟨[], [], [], [4], [0]⟩ [] (by kernel_rfl) trivial
/-! brougham/sip.begin -/
def f135_sip_begin_in (k_0 : Int) (k_1 : Int) : Inn := ⟨[.agg [.d (.int .u64 k_0), .d (.int .u64 k_1)]], [], [], 0⟩
def f135_sip_begin_out (r : Int × Int × Int × Int × Int × Int) : Out := ⟨.one (.c (.ptr 0 0)), [], [(0, [.d (.int .u64 r.1), .d (.int .u64 r.2.1), .d (.int .u64 r.2.2.1), .d (.int .u64 r.2.2.2.1), .d (.int .u64 r.2.2.2.2.1), .d (.int .i64 r.2.2.2.2.2)])], 1⟩
def f135_sip_begin (k_0 : Int) (k_1 : Int) : Option (Int × Int × Int × Int × Int × Int) :=
  some ((bits .xor .u64 k_0 8317987319222330741), (bits .xor .u64 k_1 7237128888997146477), (bits .xor .u64 k_0 7816392313619706465), (bits .xor .u64 k_1 8387220255154660723), 0, 0)
theorem f135_sip_begin_ok (k_0 : Int) (k_1 : Int) (r : Int × Int × Int × Int × Int × Int) (h : f135_sip_begin k_0 k_1 = some r) : FnOK Go.Proofs.Try.prog 135 (f135_sip_begin_in k_0 k_1) (f135_sip_begin_out r) := by
  unfold f135_sip_begin at h
  refine At.fn (r := 0) Go.Proofs.Try.func135 rfl (by kernel_rfl) rfl rfl (by kernel_rfl) ?_
  show At Go.Proofs.Try.prog Go.Proofs.Try.f135 0 0 ⟨[(0, .one (.agg [.d (.int .u64 k_0), .d (.int .u64 k_1)]))], [], [], 0⟩ _
  refine At.step hm ht ⟨[], [], [], [1], [0]⟩ 1 ⟨[(1, .one (.c (.ptr 0 0)))], [], [(0, [.d (.int .u64 k_0), .d (.int .u64 k_1)])], 1⟩ [] (by kernel_rfl) trivial ?_
  have h := Option.some.inj h
  subst h
  exact At.fin hm ht ⟨[], [], [], [2], [15]⟩ [] (by kernel_rfl) trivial
/-! math/bits.RotateLeft64 -/
def f145_bits_RotateLeft64_in (x : Int) (k : Int) : Inn := ⟨[.c (.d (.int .u64 x)), .c (.d (.int .i64 k))], [], [], 0⟩
def f145_bits_RotateLeft64_out (r : Int) : Out := ⟨.one (.c (.d (.int .u64 r))), [], [], 0⟩
def f145_bits_RotateLeft64 (x : Int) (k : Int) : Option (Int) :=
  if (0 : Int) ≤ (bits .and .u64 (IntKind.wrap .u64 k) 63) then
  if (0 : Int) ≤ (IntKind.wrap .u64 (64 - (bits .and .u64 (IntKind.wrap .u64 k) 63))) then
  some (bits .or .u64 (IntKind.wrap .u64 (x * 2 ^ (min (bits .and .u64 (IntKind.wrap .u64 k) 63).toNat (IntKind.bits .u64)))) (Int.fdiv x (2 ^ (min (IntKind.wrap .u64 (64 - (bits .and .u64 (IntKind.wrap .u64 k) 63))).toNat (IntKind.bits .u64)))))
  else none
  else none
theorem f145_bits_RotateLeft64_ok (x : Int) (k : Int) (r : Int) (h : f145_bits_RotateLeft64 x k = some r) : FnOK Go.Proofs.Try.prog 145 (f145_bits_RotateLeft64_in x k) (f145_bits_RotateLeft64_out r) := by
  unfold f145_bits_RotateLeft64 at h
  refine At.fn (r := 0) Go.Proofs.Try.func145 rfl (by kernel_rfl) rfl rfl (by kernel_rfl) ?_
  show At Go.Proofs.Try.prog Go.Proofs.Try.f145 0 0 ⟨[(0, .one (.c (.d (.int .u64 x)))), (1, .one (.c (.d (.int .i64 k))))], [], [], 0⟩ _
  refine At.step hm ht ⟨[], [], [], [0, 1], []⟩ 1 ⟨[(0, .one (.c (.d (.int .u64 x)))), (1, .one (.c (.d (.int .i64 k))))], [], [], 0⟩ [] (by kernel_rfl) trivial ?_
  refine At.step hm ht ⟨[], [], [], [0, 5], []⟩ 2 ⟨[(0, .one (.c (.d (.int .u64 x)))), (5, .one (.c (.d (.int .u64 (bits .and .u64 (IntKind.wrap .u64 k) 63)))))], [], [], 0⟩ [] (by kernel_rfl) trivial ?_
  obtain ⟨g63_0, h⟩ := ifS h
  obtain ⟨g63_1, h⟩ := ifS h
  have h := Option.some.inj h
  subst h
  exact At.fin hm ht ⟨[], [], [], [4], []⟩ [(0 : Int) ≤ (bits .and .u64 (IntKind.wrap .u64 k) 63), (0 : Int) ≤ (IntKind.wrap .u64 (64 - (bits .and .u64 (IntKind.wrap .u64 k) 63)))] (by kernel_rfl) ⟨g63_0, g63_1, trivial⟩
/-! (*brougham/sip.state).round -/
def f142_sip_state_round_in (s_0 : Int) (s_1 : Int) (s_2 : Int) (s_3 : Int) (s_4 : Int) (s_5 : Int) : Inn := ⟨[.c (.ptr 0 0)], [], [(0, [.d (.int .u64 s_0), .d (.int .u64 s_1), .d (.int .u64 s_2), .d (.int .u64 s_3), .d (.int .u64 s_4), .d (.int .i64 s_5)])], 1⟩
def f142_sip_state_round_out (r : Int × Int × Int × Int × Int × Int) : Out := ⟨.tup [], [], [(0, [.d (.int .u64 r.1), .d (.int .u64 r.2.1), .d (.int .u64 r.2.2.1), .d (.int .u64 r.2.2.2.1), .d (.int .u64 r.2.2.2.2.1), .d (.int .i64 r.2.2.2.2.2)])], 1⟩
def f142_sip_state_round (s_0 : Int) (s_1 : Int) (s_2 : Int) (s_3 : Int) (s_4 : Int) (s_5 : Int) : Option (Int × Int × Int × Int × Int × Int) :=
  (f145_bits_RotateLeft64 s_1 13).bind fun r60_0 =>
  (f145_bits_RotateLeft64 s_3 16).bind fun r64_0 =>
  (f145_bits_RotateLeft64 (IntKind.wrap .u64 (s_0 + s_1)) 32).bind fun r65_0 =>
  (f145_bits_RotateLeft64 (bits .xor .u64 r60_0 (IntKind.wrap .u64 (s_0 + s_1))) 17).bind fun r68_0 =>
  (f145_bits_RotateLeft64 (bits .xor .u64 r64_0 (IntKind.wrap .u64 (s_2 + s_3))) 21).bind fun r69_0 =>
  (f145_bits_RotateLeft64 (IntKind.wrap .u64 ((IntKind.wrap .u64 (s_2 + s_3)) + (bits .xor .u64 r60_0 (IntKind.wrap .u64 (s_0 + s_1))))) 32).bind fun r70_0 =>
  some ((IntKind.wrap .u64 (r65_0 + (bits .xor .u64 r64_0 (IntKind.wrap .u64 (s_2 + s_3))))), (bits .xor .u64 r68_0 (IntKind.wrap .u64 ((IntKind.wrap .u64 (s_2 + s_3)) + (bits .xor .u64 r60_0 (IntKind.wrap .u64 (s_0 + s_1)))))), r70_0, (bits .xor .u64 r69_0 (IntKind.wrap .u64 (r65_0 + (bits .xor .u64 r64_0 (IntKind.wrap .u64 (s_2 + s_3)))))), s_4, s_5)
theorem f142_sip_state_round_ok (s_0 : Int) (s_1 : Int) (s_2 : Int) (s_3 : Int) (s_4 : Int) (s_5 : Int) (r : Int × Int × Int × Int × Int × Int) (h : f142_sip_state_round s_0 s_1 s_2 s_3 s_4 s_5 = some r) : FnOK Go.Proofs.Try.prog 142 (f142_sip_state_round_in s_0 s_1 s_2 s_3 s_4 s_5) (f142_sip_state_round_out r) := by
  unfold f142_sip_state_round at h
  refine At.fn (r := 0) Go.Proofs.Try.func142 rfl (by kernel_rfl) rfl rfl (by kernel_rfl) ?_
  show At Go.Proofs.Try.prog Go.Proofs.Try.f142 1 0 ⟨[(0, .one (.c (.ptr 0 0)))], [], [(0, [.d (.int .u64 s_0), .d (.int .u64 s_1), .d (.int .u64 s_2), .d (.int .u64 s_3), .d (.int .u64 s_4), .d (.int .i64 s_5)])], 1⟩ _
  refine At.step hm ht ⟨[], [], [], [2], [0]⟩ 1 ⟨[(2, .one (.c (.ptr 0 0)))], [], [(0, [.d (.int .u64 s_0), .d (.int .u64 s_1), .d (.int .u64 s_2), .d (.int .u64 s_3), .d (.int .u64 s_4), .d (.int .i64 s_5)])], 1⟩ [] (by kernel_rfl) trivial ?_
  refine At.step hm ht ⟨[], [], [], [2], [0]⟩ 2 ⟨[(2, .one (.c (.ptr 0 0)))], [], [(0, [.d (.int .u64 (IntKind.wrap .u64 (s_0 + s_1))), .d (.int .u64 s_1), .d (.int .u64 s_2), .d (.int .u64 s_3), .d (.int .u64 s_4), .d (.int .i64 s_5)])], 1⟩ [(0 : Int) ≤ (0 : Int) ∧ (0 : Int) < ((4 : Nat) : Int), (0 : Int) ≤ (1 : Int) ∧ (1 : Int) < ((4 : Nat) : Int), (0 : Int) ≤ (0 : Int) ∧ (0 : Int) < ((4 : Nat) : Int), 0 + 1 ≤ 6] (by kernel_rfl) ⟨(by decide), (by decide), (by decide), (by decide), trivial⟩ ?_
  refine At.step hm ht ⟨[], [], [], [2], [0]⟩ 3 ⟨[(2, .one (.c (.ptr 0 0)))], [], [(0, [.d (.int .u64 (IntKind.wrap .u64 (s_0 + s_1))), .d (.int .u64 s_1), .d (.int .u64 (IntKind.wrap .u64 (s_2 + s_3))), .d (.int .u64 s_3), .d (.int .u64 s_4), .d (.int .i64 s_5)])], 1⟩ [(0 : Int) ≤ (2 : Int) ∧ (2 : Int) < ((4 : Nat) : Int), (0 : Int) ≤ (3 : Int) ∧ (3 : Int) < ((4 : Nat) : Int), (0 : Int) ≤ (2 : Int) ∧ (2 : Int) < ((4 : Nat) : Int), 2 + 1 ≤ 6] (by kernel_rfl) ⟨(by decide), (by decide), (by decide), (by decide), trivial⟩ ?_
  obtain ⟨r60_0, cr60_0, h⟩ := bindS h
  refine At.step hm ht ⟨[(5, .call [] [] (f145_bits_RotateLeft64_out r60_0))], [], [], [2], [0]⟩ 4 ⟨[(2, .one (.c (.ptr 0 0)))], [], [(0, [.d (.int .u64 (IntKind.wrap .u64 (s_0 + s_1))), .d (.int .u64 (bits .xor .u64 r60_0 (IntKind.wrap .u64 (s_0 + s_1)))), .d (.int .u64 (IntKind.wrap .u64 (s_2 + s_3))), .d (.int .u64 s_3), .d (.int .u64 s_4), .d (.int .i64 s_5)])], 1⟩ [(0 : Int) ≤ (1 : Int) ∧ (1 : Int) < ((4 : Nat) : Int), FnOK Go.Proofs.Try.prog 145 (f145_bits_RotateLeft64_in s_1 13) (f145_bits_RotateLeft64_out r60_0), (0 : Int) ≤ (0 : Int) ∧ (0 : Int) < ((4 : Nat) : Int), (0 : Int) ≤ (1 : Int) ∧ (1 : Int) < ((4 : Nat) : Int), 1 + 1 ≤ 6] (by kernel_rfl) ⟨(by decide), (f145_bits_RotateLeft64_ok s_1 13 r60_0 cr60_0), (by decide), (by decide), (by decide), trivial⟩ ?_
  obtain ⟨r64_0, cr64_0, h⟩ := bindS h
  refine At.step hm ht ⟨[(5, .call [] [] (f145_bits_RotateLeft64_out r64_0))], [], [], [2], [0]⟩ 5 ⟨[(2, .one (.c (.ptr 0 0)))], [], [(0, [.d (.int .u64 (IntKind.wrap .u64 (s_0 + s_1))), .d (.int .u64 (bits .xor .u64 r60_0 (IntKind.wrap .u64 (s_0 + s_1)))), .d (.int .u64 (IntKind.wrap .u64 (s_2 + s_3))), .d (.int .u64 (bits .xor .u64 r64_0 (IntKind.wrap .u64 (s_2 + s_3)))), .d (.int .u64 s_4), .d (.int .i64 s_5)])], 1⟩ [(0 : Int) ≤ (3 : Int) ∧ (3 : Int) < ((4 : Nat) : Int), FnOK Go.Proofs.Try.prog 145 (f145_bits_RotateLeft64_in s_3 16) (f145_bits_RotateLeft64_out r64_0), (0 : Int) ≤ (2 : Int) ∧ (2 : Int) < ((4 : Nat) : Int), (0 : Int) ≤ (3 : Int) ∧ (3 : Int) < ((4 : Nat) : Int), 3 + 1 ≤ 6] (by kernel_rfl) ⟨(by decide), (f145_bits_RotateLeft64_ok s_3 16 r64_0 cr64_0), (by decide), (by decide), (by decide), trivial⟩ ?_
  obtain ⟨r65_0, cr65_0, h⟩ := bindS h
  refine At.step hm ht ⟨[(5, .call [] [] (f145_bits_RotateLeft64_out r65_0))], [], [], [2], [0]⟩ 6 ⟨[(2, .one (.c (.ptr 0 0)))], [], [(0, [.d (.int .u64 r65_0), .d (.int .u64 (bits .xor .u64 r60_0 (IntKind.wrap .u64 (s_0 + s_1)))), .d (.int .u64 (IntKind.wrap .u64 (s_2 + s_3))), .d (.int .u64 (bits .xor .u64 r64_0 (IntKind.wrap .u64 (s_2 + s_3)))), .d (.int .u64 s_4), .d (.int .i64 s_5)])], 1⟩ [(0 : Int) ≤ (0 : Int) ∧ (0 : Int) < ((4 : Nat) : Int), FnOK Go.Proofs.Try.prog 145 (f145_bits_RotateLeft64_in (IntKind.wrap .u64 (s_0 + s_1)) 32) (f145_bits_RotateLeft64_out r65_0), (0 : Int) ≤ (0 : Int) ∧ (0 : Int) < ((4 : Nat) : Int), 0 + 1 ≤ 6] (by kernel_rfl) ⟨(by decide), (f145_bits_RotateLeft64_ok (IntKind.wrap .u64 (s_0 + s_1)) 32 r65_0 cr65_0), (by decide), (by decide), trivial⟩ ?_
  refine At.step hm ht ⟨[], [], [], [2], [0]⟩ 7 ⟨[(2, .one (.c (.ptr 0 0)))], [], [(0, [.d (.int .u64 r65_0), .d (.int .u64 (bits .xor .u64 r60_0 (IntKind.wrap .u64 (s_0 + s_1)))), .d (.int .u64 (IntKind.wrap .u64 ((IntKind.wrap .u64 (s_2 + s_3)) + (bits .xor .u64 r60_0 (IntKind.wrap .u64 (s_0 + s_1)))))), .d (.int .u64 (bits .xor .u64 r64_0 (IntKind.wrap .u64 (s_2 + s_3)))), .d (.int .u64 s_4), .d (.int .i64 s_5)])], 1⟩ [(0 : Int) ≤ (2 : Int) ∧ (2 : Int) < ((4 : Nat) : Int), (0 : Int) ≤ (1 : Int) ∧ (1 : Int) < ((4 : Nat) : Int), (0 : Int) ≤ (2 : Int) ∧ (2 : Int) < ((4 : Nat) : Int), 2 + 1 ≤ 6] (by kernel_rfl) ⟨(by decide), (by decide), (by decide), (by decide), trivial⟩ ?_
  refine At.step hm ht ⟨[], [], [], [2], [0]⟩ 8 ⟨[(2, .one (.c (.ptr 0 0)))], [], [(0, [.d (.int .u64 (IntKind.wrap .u64 (r65_0 + (bits .xor .u64 r64_0 (IntKind.wrap .u64 (s_2 + s_3)))))), .d (.int .u64 (bits .xor .u64 r60_0 (IntKind.wrap .u64 (s_0 + s_1)))), .d (.int .u64 (IntKind.wrap .u64 ((IntKind.wrap .u64 (s_2 + s_3)) + (bits .xor .u64 r60_0 (IntKind.wrap .u64 (s_0 + s_1)))))), .d (.int .u64 (bits .xor .u64 r64_0 (IntKind.wrap .u64 (s_2 + s_3)))), .d (.int .u64 s_4), .d (.int .i64 s_5)])], 1⟩ [(0 : Int) ≤ (0 : Int) ∧ (0 : Int) < ((4 : Nat) : Int), (0 : Int) ≤ (3 : Int) ∧ (3 : Int) < ((4 : Nat) : Int), (0 : Int) ≤ (0 : Int) ∧ (0 : Int) < ((4 : Nat) : Int), 0 + 1 ≤ 6] (by kernel_rfl) ⟨(by decide), (by decide), (by decide), (by decide), trivial⟩ ?_
  obtain ⟨r68_0, cr68_0, h⟩ := bindS h
  refine At.step hm ht ⟨[(5, .call [] [] (f145_bits_RotateLeft64_out r68_0))], [], [], [2], [0]⟩ 9 ⟨[(2, .one (.c (.ptr 0 0)))], [], [(0, [.d (.int .u64 (IntKind.wrap .u64 (r65_0 + (bits .xor .u64 r64_0 (IntKind.wrap .u64 (s_2 + s_3)))))), .d (.int .u64 (bits .xor .u64 r68_0 (IntKind.wrap .u64 ((IntKind.wrap .u64 (s_2 + s_3)) + (bits .xor .u64 r60_0 (IntKind.wrap .u64 (s_0 + s_1))))))), .d (.int .u64 (IntKind.wrap .u64 ((IntKind.wrap .u64 (s_2 + s_3)) + (bits .xor .u64 r60_0 (IntKind.wrap .u64 (s_0 + s_1)))))), .d (.int .u64 (bits .xor .u64 r64_0 (IntKind.wrap .u64 (s_2 + s_3)))), .d (.int .u64 s_4), .d (.int .i64 s_5)])], 1⟩ [(0 : Int) ≤ (1 : Int) ∧ (1 : Int) < ((4 : Nat) : Int), FnOK Go.Proofs.Try.prog 145 (f145_bits_RotateLeft64_in (bits .xor .u64 r60_0 (IntKind.wrap .u64 (s_0 + s_1))) 17) (f145_bits_RotateLeft64_out r68_0), (0 : Int) ≤ (2 : Int) ∧ (2 : Int) < ((4 : Nat) : Int), (0 : Int) ≤ (1 : Int) ∧ (1 : Int) < ((4 : Nat) : Int), 1 + 1 ≤ 6] (by kernel_rfl) ⟨(by decide), (f145_bits_RotateLeft64_ok (bits .xor .u64 r60_0 (IntKind.wrap .u64 (s_0 + s_1))) 17 r68_0 cr68_0), (by decide), (by decide), (by decide), trivial⟩ ?_
  obtain ⟨r69_0, cr69_0, h⟩ := bindS h
  refine At.step hm ht ⟨[(5, .call [] [] (f145_bits_RotateLeft64_out r69_0))], [], [], [2], [0]⟩ 10 ⟨[(2, .one (.c (.ptr 0 0)))], [], [(0, [.d (.int .u64 (IntKind.wrap .u64 (r65_0 + (bits .xor .u64 r64_0 (IntKind.wrap .u64 (s_2 + s_3)))))), .d (.int .u64 (bits .xor .u64 r68_0 (IntKind.wrap .u64 ((IntKind.wrap .u64 (s_2 + s_3)) + (bits .xor .u64 r60_0 (IntKind.wrap .u64 (s_0 + s_1))))))), .d (.int .u64 (IntKind.wrap .u64 ((IntKind.wrap .u64 (s_2 + s_3)) + (bits .xor .u64 r60_0 (IntKind.wrap .u64 (s_0 + s_1)))))), .d (.int .u64 (bits .xor .u64 r69_0 (IntKind.wrap .u64 (r65_0 + (bits .xor .u64 r64_0 (IntKind.wrap .u64 (s_2 + s_3))))))), .d (.int .u64 s_4), .d (.int .i64 s_5)])], 1⟩ [(0 : Int) ≤ (3 : Int) ∧ (3 : Int) < ((4 : Nat) : Int), FnOK Go.Proofs.Try.prog 145 (f145_bits_RotateLeft64_in (bits .xor .u64 r64_0 (IntKind.wrap .u64 (s_2 + s_3))) 21) (f145_bits_RotateLeft64_out r69_0), (0 : Int) ≤ (0 : Int) ∧ (0 : Int) < ((4 : Nat) : Int), (0 : Int) ≤ (3 : Int) ∧ (3 : Int) < ((4 : Nat) : Int), 3 + 1 ≤ 6] (by kernel_rfl) ⟨(by decide), (f145_bits_RotateLeft64_ok (bits .xor .u64 r64_0 (IntKind.wrap .u64 (s_2 + s_3))) 21 r69_0 cr69_0), (by decide), (by decide), (by decide), trivial⟩ ?_
  obtain ⟨r70_0, cr70_0, h⟩ := bindS h
  have h := Option.some.inj h
  subst h
  exact At.fin hm ht ⟨[(5, .call [] [] (f145_bits_RotateLeft64_out r70_0))], [], [], [], [0]⟩ [(0 : Int) ≤ (2 : Int) ∧ (2 : Int) < ((4 : Nat) : Int), FnOK Go.Proofs.Try.prog 145 (f145_bits_RotateLeft64_in (IntKind.wrap .u64 ((IntKind.wrap .u64 (s_2 + s_3)) + (bits .xor .u64 r60_0 (IntKind.wrap .u64 (s_0 + s_1))))) 32) (f145_bits_RotateLeft64_out r70_0), (0 : Int) ≤ (2 : Int) ∧ (2 : Int) < ((4 : Nat) : Int), 2 + 1 ≤ 6] (by kernel_rfl) ⟨(by decide), (f145_bits_RotateLeft64_ok (IntKind.wrap .u64 ((IntKind.wrap .u64 (s_2 + s_3)) + (bits .xor .u64 r60_0 (IntKind.wrap .u64 (s_0 + s_1))))) 32 r70_0 cr70_0), (by decide), (by decide), trivial⟩
/-! (*brougham/sip.state).take -/
def f141_sip_state_take_in (m : Int) (s_0 : Int) (s_1 : Int) (s_2 : Int) (s_3 : Int) (s_4 : Int) (s_5 : Int) : Inn := ⟨[.c (.ptr 0 0), .c (.d (.int .u64 m))], [], [(0, [.d (.int .u64 s_0), .d (.int .u64 s_1), .d (.int .u64 s_2), .d (.int .u64 s_3), .d (.int .u64 s_4), .d (.int .i64 s_5)])], 1⟩
def f141_sip_state_take_out (r : Int × Int × Int × Int × Int × Int) : Out := ⟨.tup [], [], [(0, [.d (.int .u64 r.1), .d (.int .u64 r.2.1), .d (.int .u64 r.2.2.1), .d (.int .u64 r.2.2.2.1), .d (.int .u64 r.2.2.2.2.1), .d (.int .i64 r.2.2.2.2.2)])], 1⟩
def f141_sip_state_take (m : Int) (s_0 : Int) (s_1 : Int) (s_2 : Int) (s_3 : Int) (s_4 : Int) (s_5 : Int) : Option (Int × Int × Int × Int × Int × Int) :=
  (f142_sip_state_round s_0 s_1 s_2 (bits .xor .u64 s_3 m) s_4 s_5).bind fun r56_0 =>
  (f142_sip_state_round r56_0.1 r56_0.2.1 r56_0.2.2.1 r56_0.2.2.2.1 r56_0.2.2.2.2.1 r56_0.2.2.2.2.2).bind fun r71_0 =>
  some ((bits .xor .u64 r71_0.1 m), r71_0.2.1, r71_0.2.2.1, r71_0.2.2.2.1, r71_0.2.2.2.2.1, r71_0.2.2.2.2.2)
theorem f141_sip_state_take_ok (m : Int) (s_0 : Int) (s_1 : Int) (s_2 : Int) (s_3 : Int) (s_4 : Int) (s_5 : Int) (r : Int × Int × Int × Int × Int × Int) (h : f141_sip_state_take m s_0 s_1 s_2 s_3 s_4 s_5 = some r) : FnOK Go.Proofs.Try.prog 141 (f141_sip_state_take_in m s_0 s_1 s_2 s_3 s_4 s_5) (f141_sip_state_take_out r) := by
  unfold f141_sip_state_take at h
  refine At.fn (r := 0) Go.Proofs.Try.func141 rfl (by kernel_rfl) rfl rfl (by kernel_rfl) ?_
  show At Go.Proofs.Try.prog Go.Proofs.Try.f141 1 0 ⟨[(0, .one (.c (.ptr 0 0))), (1, .one (.c (.d (.int .u64 m))))], [], [(0, [.d (.int .u64 s_0), .d (.int .u64 s_1), .d (.int .u64 s_2), .d (.int .u64 s_3), .d (.int .u64 s_4), .d (.int .i64 s_5)])], 1⟩ _
  refine At.step hm ht ⟨[], [], [], [0, 1], [0]⟩ 1 ⟨[(0, .one (.c (.ptr 0 0))), (1, .one (.c (.d (.int .u64 m))))], [], [(0, [.d (.int .u64 s_0), .d (.int .u64 s_1), .d (.int .u64 s_2), .d (.int .u64 (bits .xor .u64 s_3 m)), .d (.int .u64 s_4), .d (.int .i64 s_5)])], 1⟩ [(0 : Int) ≤ (3 : Int) ∧ (3 : Int) < ((4 : Nat) : Int), (0 : Int) ≤ (3 : Int) ∧ (3 : Int) < ((4 : Nat) : Int), 3 + 1 ≤ 6] (by kernel_rfl) ⟨(by decide), (by decide), (by decide), trivial⟩ ?_
  obtain ⟨r56_0, cr56_0, h⟩ := bindS h
  refine At.step hm ht ⟨[(1, .call [0] [] (f142_sip_state_round_out r56_0))], [], [], [0, 1], [0]⟩ 2 ⟨[(0, .one (.c (.ptr 0 0))), (1, .one (.c (.d (.int .u64 m))))], [], [(0, [.d (.int .u64 r56_0.1), .d (.int .u64 r56_0.2.1), .d (.int .u64 r56_0.2.2.1), .d (.int .u64 r56_0.2.2.2.1), .d (.int .u64 r56_0.2.2.2.2.1), .d (.int .i64 r56_0.2.2.2.2.2)])], 1⟩ [FnOK Go.Proofs.Try.prog 142 (f142_sip_state_round_in s_0 s_1 s_2 (bits .xor .u64 s_3 m) s_4 s_5) (f142_sip_state_round_out r56_0)] (by kernel_rfl) ⟨(f142_sip_state_round_ok s_0 s_1 s_2 (bits .xor .u64 s_3 m) s_4 s_5 r56_0 cr56_0), trivial⟩ ?_
  obtain ⟨r71_0, cr71_0, h⟩ := bindS h
  refine At.step hm ht ⟨[(1, .call [0] [] (f142_sip_state_round_out r71_0))], [], [], [0, 1], [0]⟩ 3 ⟨[(0, .one (.c (.ptr 0 0))), (1, .one (.c (.d (.int .u64 m))))], [], [(0, [.d (.int .u64 r71_0.1), .d (.int .u64 r71_0.2.1), .d (.int .u64 r71_0.2.2.1), .d (.int .u64 r71_0.2.2.2.1), .d (.int .u64 r71_0.2.2.2.2.1), .d (.int .i64 r71_0.2.2.2.2.2)])], 1⟩ [FnOK Go.Proofs.Try.prog 142 (f142_sip_state_round_in r56_0.1 r56_0.2.1 r56_0.2.2.1 r56_0.2.2.2.1 r56_0.2.2.2.2.1 r56_0.2.2.2.2.2) (f142_sip_state_round_out r71_0)] (by kernel_rfl) ⟨(f142_sip_state_round_ok r56_0.1 r56_0.2.1 r56_0.2.2.1 r56_0.2.2.2.1 r56_0.2.2.2.2.1 r56_0.2.2.2.2.2 r71_0 cr71_0), trivial⟩ ?_
  have h := Option.some.inj h
  subst h
  exact At.fin hm ht ⟨[], [], [], [], [0]⟩ [(0 : Int) ≤ (0 : Int) ∧ (0 : Int) < ((4 : Nat) : Int), (0 : Int) ≤ (0 : Int) ∧ (0 : Int) < ((4 : Nat) : Int), 0 + 1 ≤ 6] (by kernel_rfl) ⟨(by decide), (by decide), (by decide), trivial⟩
/-! (*brougham/sip.state).byte -/
def f136_sip_state_byte_in (c : Int) (s_0 : Int) (s_1 : Int) (s_2 : Int) (s_3 : Int) (s_4 : Int) (s_5 : Int) : Inn := ⟨[.c (.ptr 0 0), .c (.d (.int .u8 c))], [], [(0, [.d (.int .u64 s_0), .d (.int .u64 s_1), .d (.int .u64 s_2), .d (.int .u64 s_3), .d (.int .u64 s_4), .d (.int .i64 s_5)])], 1⟩
def f136_sip_state_byte_out (r : Int × Int × Int × Int × Int × Int) : Out := ⟨.tup [], [], [(0, [.d (.int .u64 r.1), .d (.int .u64 r.2.1), .d (.int .u64 r.2.2.1), .d (.int .u64 r.2.2.2.1), .d (.int .u64 r.2.2.2.2.1), .d (.int .i64 r.2.2.2.2.2)])], 1⟩
def f136_sip_state_byte (c : Int) (s_0 : Int) (s_1 : Int) (s_2 : Int) (s_3 : Int) (s_4 : Int) (s_5 : Int) : Option (Int × Int × Int × Int × Int × Int) :=
  if (0 : Int) ≤ (IntKind.wrap .i64 (8 * (Int.tmod s_5 8))) then
  if (((Int.tmod (IntKind.wrap .i64 (s_5 + 1)) 8) : Int) == 0) = true then
    (f141_sip_state_take (bits .or .u64 s_4 (IntKind.wrap .u64 ((IntKind.wrap .u64 c) * 2 ^ (min (IntKind.wrap .i64 (8 * (Int.tmod s_5 8))).toNat (IntKind.bits .u64))))) s_0 s_1 s_2 s_3 (bits .or .u64 s_4 (IntKind.wrap .u64 ((IntKind.wrap .u64 c) * 2 ^ (min (IntKind.wrap .i64 (8 * (Int.tmod s_5 8))).toNat (IntKind.bits .u64))))) (IntKind.wrap .i64 (s_5 + 1))).bind fun r54_0 =>
    some (r54_0.1, r54_0.2.1, r54_0.2.2.1, r54_0.2.2.2.1, 0, r54_0.2.2.2.2.2)
  else
    some (s_0, s_1, s_2, s_3, (bits .or .u64 s_4 (IntKind.wrap .u64 ((IntKind.wrap .u64 c) * 2 ^ (min (IntKind.wrap .i64 (8 * (Int.tmod s_5 8))).toNat (IntKind.bits .u64))))), (IntKind.wrap .i64 (s_5 + 1)))
  else none
theorem f136_sip_state_byte_ok (c : Int) (s_0 : Int) (s_1 : Int) (s_2 : Int) (s_3 : Int) (s_4 : Int) (s_5 : Int) (r : Int × Int × Int × Int × Int × Int) (h : f136_sip_state_byte c s_0 s_1 s_2 s_3 s_4 s_5 = some r) : FnOK Go.Proofs.Try.prog 136 (f136_sip_state_byte_in c s_0 s_1 s_2 s_3 s_4 s_5) (f136_sip_state_byte_out r) := by
  unfold f136_sip_state_byte at h
  refine At.fn (r := 0) Go.Proofs.Try.func136 rfl (by kernel_rfl) rfl rfl (by kernel_rfl) ?_
  show At Go.Proofs.Try.prog Go.Proofs.Try.f136 1 0 ⟨[(0, .one (.c (.ptr 0 0))), (1, .one (.c (.d (.int .u8 c))))], [], [(0, [.d (.int .u64 s_0), .d (.int .u64 s_1), .d (.int .u64 s_2), .d (.int .u64 s_3), .d (.int .u64 s_4), .d (.int .i64 s_5)])], 1⟩ _
  obtain ⟨g51_0, h⟩ := ifS h
  refine At.step hm ht ⟨[], [], [], [0], [0]⟩ 1 ⟨[(0, .one (.c (.ptr 0 0)))], [], [(0, [.d (.int .u64 s_0), .d (.int .u64 s_1), .d (.int .u64 s_2), .d (.int .u64 s_3), .d (.int .u64 (bits .or .u64 s_4 (IntKind.wrap .u64 ((IntKind.wrap .u64 c) * 2 ^ (min (IntKind.wrap .i64 (8 * (Int.tmod s_5 8))).toNat (IntKind.bits .u64)))))), .d (.int .i64 s_5)])], 1⟩ [(8 : Int) ≠ 0, (0 : Int) ≤ (IntKind.wrap .i64 (8 * (Int.tmod s_5 8))), 4 + 1 ≤ 6] (by kernel_rfl) ⟨(by decide), g51_0, (by decide), trivial⟩ ?_
  refine At.step hm ht ⟨[], [], [], [0], [0]⟩ 2 ⟨[(0, .one (.c (.ptr 0 0)))], [], [(0, [.d (.int .u64 s_0), .d (.int .u64 s_1), .d (.int .u64 s_2), .d (.int .u64 s_3), .d (.int .u64 (bits .or .u64 s_4 (IntKind.wrap .u64 ((IntKind.wrap .u64 c) * 2 ^ (min (IntKind.wrap .i64 (8 * (Int.tmod s_5 8))).toNat (IntKind.bits .u64)))))), .d (.int .i64 (IntKind.wrap .i64 (s_5 + 1)))])], 1⟩ [5 + 1 ≤ 6] (by kernel_rfl) ⟨(by decide), trivial⟩ ?_
  rcases iteS h with ⟨b53_e0, h⟩ | ⟨b53_e0, h⟩
  · refine At.step hm ht ⟨[], [true], [], [0], [0]⟩ 3 ⟨[(0, .one (.c (.ptr 0 0)))], [], [(0, [.d (.int .u64 s_0), .d (.int .u64 s_1), .d (.int .u64 s_2), .d (.int .u64 s_3), .d (.int .u64 (bits .or .u64 s_4 (IntKind.wrap .u64 ((IntKind.wrap .u64 c) * 2 ^ (min (IntKind.wrap .i64 (8 * (Int.tmod s_5 8))).toNat (IntKind.bits .u64)))))), .d (.int .i64 (IntKind.wrap .i64 (s_5 + 1)))])], 1⟩ [(8 : Int) ≠ 0, (((Int.tmod (IntKind.wrap .i64 (s_5 + 1)) 8) : Int) == 0) = true] (by kernel_rfl) ⟨(by decide), b53_e0, trivial⟩ ?_
    obtain ⟨r54_0, cr54_0, h⟩ := bindS h
    refine At.step hm ht ⟨[(5, .call [0] [] (f141_sip_state_take_out r54_0))], [], [], [0], [0]⟩ 4 ⟨[(0, .one (.c (.ptr 0 0)))], [], [(0, [.d (.int .u64 r54_0.1), .d (.int .u64 r54_0.2.1), .d (.int .u64 r54_0.2.2.1), .d (.int .u64 r54_0.2.2.2.1), .d (.int .u64 r54_0.2.2.2.2.1), .d (.int .i64 r54_0.2.2.2.2.2)])], 1⟩ [FnOK Go.Proofs.Try.prog 141 (f141_sip_state_take_in (bits .or .u64 s_4 (IntKind.wrap .u64 ((IntKind.wrap .u64 c) * 2 ^ (min (IntKind.wrap .i64 (8 * (Int.tmod s_5 8))).toNat (IntKind.bits .u64))))) s_0 s_1 s_2 s_3 (bits .or .u64 s_4 (IntKind.wrap .u64 ((IntKind.wrap .u64 c) * 2 ^ (min (IntKind.wrap .i64 (8 * (Int.tmod s_5 8))).toNat (IntKind.bits .u64))))) (IntKind.wrap .i64 (s_5 + 1))) (f141_sip_state_take_out r54_0)] (by kernel_rfl) ⟨(f141_sip_state_take_ok (bits .or .u64 s_4 (IntKind.wrap .u64 ((IntKind.wrap .u64 c) * 2 ^ (min (IntKind.wrap .i64 (8 * (Int.tmod s_5 8))).toNat (IntKind.bits .u64))))) s_0 s_1 s_2 s_3 (bits .or .u64 s_4 (IntKind.wrap .u64 ((IntKind.wrap .u64 c) * 2 ^ (min (IntKind.wrap .i64 (8 * (Int.tmod s_5 8))).toNat (IntKind.bits .u64))))) (IntKind.wrap .i64 (s_5 + 1)) r54_0 cr54_0), trivial⟩ ?_
    have h := Option.some.inj h
    subst h
    exact At.fin hm ht ⟨[], [], [], [], [0]⟩ [4 + 1 ≤ 6] (by kernel_rfl) ⟨(by decide), trivial⟩
  · have h := Option.some.inj h
    subst h
    exact At.fin hm ht ⟨[], [false], [], [], [0]⟩ [(8 : Int) ≠ 0, (((Int.tmod (IntKind.wrap .i64 (s_5 + 1)) 8) : Int) == 0) = false] (by kernel_rfl) ⟨(by decide), b53_e0, trivial⟩
/-! (*brougham/sip.state).end -/
def f137_sip_state_end_in (s_0 : Int) (s_1 : Int) (s_2 : Int) (s_3 : Int) (s_4 : Int) (s_5 : Int) : Inn := ⟨[.c (.ptr 0 0)], [], [(0, [.d (.int .u64 s_0), .d (.int .u64 s_1), .d (.int .u64 s_2), .d (.int .u64 s_3), .d (.int .u64 s_4), .d (.int .i64 s_5)])], 1⟩
def f137_sip_state_end_out (r : Int × Int × Int × Int × Int × Int × Int) : Out := ⟨.one (.c (.d (.int .u64 r.1))), [], [(0, [.d (.int .u64 r.2.1), .d (.int .u64 r.2.2.1), .d (.int .u64 r.2.2.2.1), .d (.int .u64 r.2.2.2.2.1), .d (.int .u64 r.2.2.2.2.2.1), .d (.int .i64 r.2.2.2.2.2.2)])], 1⟩
def f137_sip_state_end_L4 : Nat → Int → Int → Int → Int → Int → Int → Int → Option (Int × Int × Int × Int × Int × Int)
  | 0, _, _, _, _, _, _, _ => none
  | n + 1, t26, s_0, s_1, s_2, s_3, s_4, s_5 =>
    if (decide ((t26 : Int) < 4)) = true then
      (f142_sip_state_round s_0 s_1 s_2 s_3 s_4 s_5).bind fun r86_0 =>
      f137_sip_state_end_L4 n (IntKind.wrap .i64 (t26 + 1)) r86_0.1 r86_0.2.1 r86_0.2.2.1 r86_0.2.2.2.1 r86_0.2.2.2.2.1 r86_0.2.2.2.2.2
    else
      some ((s_0, s_1, s_2, s_3, s_4, s_5))
def f137_sip_state_end_L4_k (e : Int × Int × Int × Int × Int × Int) (o : Out) : Prop := At Go.Proofs.Try.prog Go.Proofs.Try.f137 1 7 ⟨[(0, .one (.c (.ptr 0 0)))], [], [(0, [.d (.int .u64 e.1), .d (.int .u64 e.2.1), .d (.int .u64 e.2.2.1), .d (.int .u64 e.2.2.2.1), .d (.int .u64 e.2.2.2.2.1), .d (.int .i64 e.2.2.2.2.2)])], 1⟩ o
theorem f137_sip_state_end_L4_ok (n : Nat) : ∀ (t26 : Int) (s_0 : Int) (s_1 : Int) (s_2 : Int) (s_3 : Int) (s_4 : Int) (s_5 : Int) (w : Int × Int × Int × Int × Int × Int) (h : f137_sip_state_end_L4 n t26 s_0 s_1 s_2 s_3 s_4 s_5 = some w) (o : Out) (hk : f137_sip_state_end_L4_k w o), At Go.Proofs.Try.prog Go.Proofs.Try.f137 1 4 ⟨[(0, .one (.c (.ptr 0 0))), (26, .one (.c (.d (.int .i64 t26))))], [], [(0, [.d (.int .u64 s_0), .d (.int .u64 s_1), .d (.int .u64 s_2), .d (.int .u64 s_3), .d (.int .u64 s_4), .d (.int .i64 s_5)])], 1⟩ o := by
  induction n with
  | zero => intro t26 s_0 s_1 s_2 s_3 s_4 s_5 w h; rw [f137_sip_state_end_L4] at h; cases h
  | succ n ih =>
    intro t26 s_0 s_1 s_2 s_3 s_4 s_5 w h o hk
    rw [f137_sip_state_end_L4] at h
    rcases iteS h with ⟨b85_e0, h⟩ | ⟨b85_e0, h⟩
    · refine At.step hm ht ⟨[], [true], [], [0, 26], [0]⟩ 5 ⟨[(0, .one (.c (.ptr 0 0))), (26, .one (.c (.d (.int .i64 t26))))], [], [(0, [.d (.int .u64 s_0), .d (.int .u64 s_1), .d (.int .u64 s_2), .d (.int .u64 s_3), .d (.int .u64 s_4), .d (.int .i64 s_5)])], 1⟩ [(decide ((t26 : Int) < 4)) = true] (by kernel_rfl) ⟨b85_e0, trivial⟩ ?_
      obtain ⟨r86_0, cr86_0, h⟩ := bindS h
      refine At.step hm ht ⟨[(1, .call [0] [] (f142_sip_state_round_out r86_0))], [], [], [0, 26], [0]⟩ 6 ⟨[(0, .one (.c (.ptr 0 0))), (26, .one (.c (.d (.int .i64 t26))))], [], [(0, [.d (.int .u64 r86_0.1), .d (.int .u64 r86_0.2.1), .d (.int .u64 r86_0.2.2.1), .d (.int .u64 r86_0.2.2.2.1), .d (.int .u64 r86_0.2.2.2.2.1), .d (.int .i64 r86_0.2.2.2.2.2)])], 1⟩ [FnOK Go.Proofs.Try.prog 142 (f142_sip_state_round_in s_0 s_1 s_2 s_3 s_4 s_5) (f142_sip_state_round_out r86_0)] (by kernel_rfl) ⟨(f142_sip_state_round_ok s_0 s_1 s_2 s_3 s_4 s_5 r86_0 cr86_0), trivial⟩ ?_
      refine At.step hm ht ⟨[], [], [], [0, 26], [0]⟩ 4 ⟨[(0, .one (.c (.ptr 0 0))), (26, .one (.c (.d (.int .i64 (IntKind.wrap .i64 (t26 + 1))))))], [], [(0, [.d (.int .u64 r86_0.1), .d (.int .u64 r86_0.2.1), .d (.int .u64 r86_0.2.2.1), .d (.int .u64 r86_0.2.2.2.1), .d (.int .u64 r86_0.2.2.2.2.1), .d (.int .i64 r86_0.2.2.2.2.2)])], 1⟩ [] (by kernel_rfl) trivial ?_
      exact ih (IntKind.wrap .i64 (t26 + 1)) r86_0.1 r86_0.2.1 r86_0.2.2.1 r86_0.2.2.2.1 r86_0.2.2.2.2.1 r86_0.2.2.2.2.2 w h o hk
    · refine At.step hm ht ⟨[], [false], [], [0], [0]⟩ 7 ⟨[(0, .one (.c (.ptr 0 0)))], [], [(0, [.d (.int .u64 s_0), .d (.int .u64 s_1), .d (.int .u64 s_2), .d (.int .u64 s_3), .d (.int .u64 s_4), .d (.int .i64 s_5)])], 1⟩ [(decide ((t26 : Int) < 4)) = false] (by kernel_rfl) ⟨b85_e0, trivial⟩ ?_
      have h := Option.some.inj h
      subst h
      exact hk
def f137_sip_state_end (n : Nat) (s_0 : Int) (s_1 : Int) (s_2 : Int) (s_3 : Int) (s_4 : Int) (s_5 : Int) : Option (Int × Int × Int × Int × Int × Int × Int) :=
  (f141_sip_state_take (bits .or .u64 s_4 (IntKind.wrap .u64 ((IntKind.wrap .u64 (IntKind.wrap .u8 s_5)) * 2 ^ 56))) s_0 s_1 s_2 s_3 s_4 s_5).bind fun r82_0 =>
  (f137_sip_state_end_L4 n 0 r82_0.1 r82_0.2.1 (bits .xor .u64 r82_0.2.2.1 255) r82_0.2.2.2.1 r82_0.2.2.2.2.1 r82_0.2.2.2.2.2).bind fun w88 =>
  some ((bits .xor .u64 (bits .xor .u64 (bits .xor .u64 w88.1 w88.2.1) w88.2.2.1) w88.2.2.2.1), w88.1, w88.2.1, w88.2.2.1, w88.2.2.2.1, w88.2.2.2.2.1, w88.2.2.2.2.2)
theorem f137_sip_state_end_ok (n : Nat) (s_0 : Int) (s_1 : Int) (s_2 : Int) (s_3 : Int) (s_4 : Int) (s_5 : Int) (r : Int × Int × Int × Int × Int × Int × Int) (h : f137_sip_state_end n s_0 s_1 s_2 s_3 s_4 s_5 = some r) : FnOK Go.Proofs.Try.prog 137 (f137_sip_state_end_in s_0 s_1 s_2 s_3 s_4 s_5) (f137_sip_state_end_out r) := by
  unfold f137_sip_state_end at h
  refine At.fn (r := 0) Go.Proofs.Try.func137 rfl (by kernel_rfl) rfl rfl (by kernel_rfl) ?_
  show At Go.Proofs.Try.prog Go.Proofs.Try.f137 1 0 ⟨[(0, .one (.c (.ptr 0 0)))], [], [(0, [.d (.int .u64 s_0), .d (.int .u64 s_1), .d (.int .u64 s_2), .d (.int .u64 s_3), .d (.int .u64 s_4), .d (.int .i64 s_5)])], 1⟩ _
  refine At.step hm ht ⟨[], [], [], [0], [0]⟩ 1 ⟨[(0, .one (.c (.ptr 0 0)))], [], [(0, [.d (.int .u64 s_0), .d (.int .u64 s_1), .d (.int .u64 s_2), .d (.int .u64 s_3), .d (.int .u64 s_4), .d (.int .i64 s_5)])], 1⟩ [] (by kernel_rfl) trivial ?_
  obtain ⟨r82_0, cr82_0, h⟩ := bindS h
  refine At.step hm ht ⟨[(13, .call [0] [] (f141_sip_state_take_out r82_0))], [], [], [0], [0]⟩ 2 ⟨[(0, .one (.c (.ptr 0 0)))], [], [(0, [.d (.int .u64 r82_0.1), .d (.int .u64 r82_0.2.1), .d (.int .u64 r82_0.2.2.1), .d (.int .u64 r82_0.2.2.2.1), .d (.int .u64 r82_0.2.2.2.2.1), .d (.int .i64 r82_0.2.2.2.2.2)])], 1⟩ [(0 : Int) ≤ 56, FnOK Go.Proofs.Try.prog 141 (f141_sip_state_take_in (bits .or .u64 s_4 (IntKind.wrap .u64 ((IntKind.wrap .u64 (IntKind.wrap .u8 s_5)) * 2 ^ 56))) s_0 s_1 s_2 s_3 s_4 s_5) (f141_sip_state_take_out r82_0)] (by kernel_rfl) ⟨(by decide), (f141_sip_state_take_ok (bits .or .u64 s_4 (IntKind.wrap .u64 ((IntKind.wrap .u64 (IntKind.wrap .u8 s_5)) * 2 ^ 56))) s_0 s_1 s_2 s_3 s_4 s_5 r82_0 cr82_0), trivial⟩ ?_
  refine At.step hm ht ⟨[], [], [], [0], [0]⟩ 3 ⟨[(0, .one (.c (.ptr 0 0)))], [], [(0, [.d (.int .u64 r82_0.1), .d (.int .u64 r82_0.2.1), .d (.int .u64 (bits .xor .u64 r82_0.2.2.1 255)), .d (.int .u64 r82_0.2.2.2.1), .d (.int .u64 r82_0.2.2.2.2.1), .d (.int .i64 r82_0.2.2.2.2.2)])], 1⟩ [(0 : Int) ≤ (2 : Int) ∧ (2 : Int) < ((4 : Nat) : Int), (0 : Int) ≤ (2 : Int) ∧ (2 : Int) < ((4 : Nat) : Int), 2 + 1 ≤ 6] (by kernel_rfl) ⟨(by decide), (by decide), (by decide), trivial⟩ ?_
  refine At.step hm ht ⟨[], [], [], [0, 26], [0]⟩ 4 ⟨[(0, .one (.c (.ptr 0 0))), (26, .one (.c (.d (.int .i64 0))))], [], [(0, [.d (.int .u64 r82_0.1), .d (.int .u64 r82_0.2.1), .d (.int .u64 (bits .xor .u64 r82_0.2.2.1 255)), .d (.int .u64 r82_0.2.2.2.1), .d (.int .u64 r82_0.2.2.2.2.1), .d (.int .i64 r82_0.2.2.2.2.2)])], 1⟩ [] (by kernel_rfl) trivial ?_
  obtain ⟨w88, cw88, h⟩ := bindS h
  refine f137_sip_state_end_L4_ok n 0 r82_0.1 r82_0.2.1 (bits .xor .u64 r82_0.2.2.1 255) r82_0.2.2.2.1 r82_0.2.2.2.2.1 r82_0.2.2.2.2.2 w88 cw88 _ ?_
  show At Go.Proofs.Try.prog Go.Proofs.Try.f137 1 7 ⟨[(0, .one (.c (.ptr 0 0)))], [], [(0, [.d (.int .u64 w88.1), .d (.int .u64 w88.2.1), .d (.int .u64 w88.2.2.1), .d (.int .u64 w88.2.2.2.1), .d (.int .u64 w88.2.2.2.2.1), .d (.int .i64 w88.2.2.2.2.2)])], 1⟩ _
  have h := Option.some.inj h
  subst h
  exact At.fin hm ht ⟨[], [], [], [2], [0]⟩ [(0 : Int) ≤ (0 : Int) ∧ (0 : Int) < ((4 : Nat) : Int), (0 : Int) ≤ (1 : Int) ∧ (1 : Int) < ((4 : Nat) : Int), (0 : Int) ≤ (2 : Int) ∧ (2 : Int) < ((4 : Nat) : Int), (0 : Int) ≤ (3 : Int) ∧ (3 : Int) < ((4 : Nat) : Int)] (by kernel_rfl) ⟨(by decide), (by decide), (by decide), (by decide), trivial⟩
/-! brougham/sip.Sum -/
def f124_sip_Sum_in (k_0 : Int) (k_1 : Int) (parts : List (List Int)) : Inn := ⟨[.agg [.d (.int .u64 k_0), .d (.int .u64 k_1)], .c (.d (.sl (.slice (.int .u8)) parts))], [], [], 0⟩
def f124_sip_Sum_out (r : Int) : Out := ⟨.one (.c (.d (.int .u64 r))), [], [], 0⟩
def f124_sip_Sum_L6 : Nat → (List (List Int)) → Int → Int → (List Int) → Int → Int → Int → Int → Int → Int → Int → Int → Option (List (List Int) × Int × Int × Int × Int × Int × Int × Int × Int)
  | 0, _, _, _, _, _, _, _, _, _, _, _, _ => none
  | n + 1, t12, t13, t14, t18, t19, t20, s_0, s_1, s_2, s_3, s_4, s_5 =>
    if (decide ((t20 : Int) < t19)) = true then
      if (0 : Int) ≤ t20 ∧ t20 < (((t18).length : Nat) : Int) then
      (f136_sip_state_byte (t18.getD t20.toNat 0) s_0 s_1 s_2 s_3 s_4 s_5).bind fun r50_0 =>
      f124_sip_Sum_L6 n t12 t13 t14 t18 t19 (IntKind.wrap .i64 (t20 + 1)) r50_0.1 r50_0.2.1 r50_0.2.2.1 r50_0.2.2.2.1 r50_0.2.2.2.2.1 r50_0.2.2.2.2.2
      else none
    else
      some ((t12, t13, t14, s_0, s_1, s_2, s_3, s_4, s_5))
def f124_sip_Sum_L6_k (e : List (List Int) × Int × Int × Int × Int × Int × Int × Int × Int) (o : Out) : Prop := At Go.Proofs.Try.prog Go.Proofs.Try.f124 0 10 ⟨[(5, .one (.c (.ptr 0 0))), (12, .one (.c (.d (.sl (.slice (.int .u8)) e.1)))), (13, .one (.c (.d (.int .i64 e.2.1)))), (14, .one (.c (.d (.int .i64 e.2.2.1))))], [], [(0, [.d (.int .u64 e.2.2.2.1), .d (.int .u64 e.2.2.2.2.1), .d (.int .u64 e.2.2.2.2.2.1), .d (.int .u64 e.2.2.2.2.2.2.1), .d (.int .u64 e.2.2.2.2.2.2.2.1), .d (.int .i64 e.2.2.2.2.2.2.2.2)])], 1⟩ o
theorem f124_sip_Sum_L6_ok (n : Nat) : ∀ (t12 : List (List Int)) (t13 : Int) (t14 : Int) (t18 : List Int) (t19 : Int) (t20 : Int) (s_0 : Int) (s_1 : Int) (s_2 : Int) (s_3 : Int) (s_4 : Int) (s_5 : Int) (w : List (List Int) × Int × Int × Int × Int × Int × Int × Int × Int) (h : f124_sip_Sum_L6 n t12 t13 t14 t18 t19 t20 s_0 s_1 s_2 s_3 s_4 s_5 = some w) (o : Out) (hk : f124_sip_Sum_L6_k w o), At Go.Proofs.Try.prog Go.Proofs.Try.f124 0 6 ⟨[(5, .one (.c (.ptr 0 0))), (12, .one (.c (.d (.sl (.slice (.int .u8)) t12)))), (13, .one (.c (.d (.int .i64 t13)))), (14, .one (.c (.d (.int .i64 t14)))), (18, .one (.c (.d (.sl (.int .u8) t18)))), (19, .one (.c (.d (.int .i64 t19)))), (20, .one (.c (.d (.int .i64 t20))))], [], [(0, [.d (.int .u64 s_0), .d (.int .u64 s_1), .d (.int .u64 s_2), .d (.int .u64 s_3), .d (.int .u64 s_4), .d (.int .i64 s_5)])], 1⟩ o := by
  induction n with
  | zero => intro t12 t13 t14 t18 t19 t20 s_0 s_1 s_2 s_3 s_4 s_5 w h; rw [f124_sip_Sum_L6] at h; cases h
  | succ n ih =>
    intro t12 t13 t14 t18 t19 t20 s_0 s_1 s_2 s_3 s_4 s_5 w h o hk
    rw [f124_sip_Sum_L6] at h
    rcases iteS h with ⟨b48_e0, h⟩ | ⟨b48_e0, h⟩
    · refine At.step hm ht ⟨[], [true], [], [5, 12, 13, 14, 18, 19, 20], [0]⟩ 7 ⟨[(5, .one (.c (.ptr 0 0))), (12, .one (.c (.d (.sl (.slice (.int .u8)) t12)))), (13, .one (.c (.d (.int .i64 t13)))), (14, .one (.c (.d (.int .i64 t14)))), (18, .one (.c (.d (.sl (.int .u8) t18)))), (19, .one (.c (.d (.int .i64 t19)))), (20, .one (.c (.d (.int .i64 t20))))], [], [(0, [.d (.int .u64 s_0), .d (.int .u64 s_1), .d (.int .u64 s_2), .d (.int .u64 s_3), .d (.int .u64 s_4), .d (.int .i64 s_5)])], 1⟩ [(decide ((t20 : Int) < t19)) = true] (by kernel_rfl) ⟨b48_e0, trivial⟩ ?_
      obtain ⟨g49_0, h⟩ := ifS h
      refine At.step hm ht ⟨[], [], [], [5, 9, 12, 13, 14, 18, 19, 20], [0]⟩ 8 ⟨[(5, .one (.c (.ptr 0 0))), (9, .one (.c (.d (.int .u8 (t18.getD t20.toNat 0))))), (12, .one (.c (.d (.sl (.slice (.int .u8)) t12)))), (13, .one (.c (.d (.int .i64 t13)))), (14, .one (.c (.d (.int .i64 t14)))), (18, .one (.c (.d (.sl (.int .u8) t18)))), (19, .one (.c (.d (.int .i64 t19)))), (20, .one (.c (.d (.int .i64 t20))))], [], [(0, [.d (.int .u64 s_0), .d (.int .u64 s_1), .d (.int .u64 s_2), .d (.int .u64 s_3), .d (.int .u64 s_4), .d (.int .i64 s_5)])], 1⟩ [(0 : Int) ≤ t20 ∧ t20 < (((t18).length : Nat) : Int)] (by kernel_rfl) ⟨g49_0, trivial⟩ ?_
      obtain ⟨r50_0, cr50_0, h⟩ := bindS h
      refine At.step hm ht ⟨[(2, .call [0] [] (f136_sip_state_byte_out r50_0))], [], [], [5, 12, 13, 14, 18, 19, 20], [0]⟩ 9 ⟨[(5, .one (.c (.ptr 0 0))), (12, .one (.c (.d (.sl (.slice (.int .u8)) t12)))), (13, .one (.c (.d (.int .i64 t13)))), (14, .one (.c (.d (.int .i64 t14)))), (18, .one (.c (.d (.sl (.int .u8) t18)))), (19, .one (.c (.d (.int .i64 t19)))), (20, .one (.c (.d (.int .i64 t20))))], [], [(0, [.d (.int .u64 r50_0.1), .d (.int .u64 r50_0.2.1), .d (.int .u64 r50_0.2.2.1), .d (.int .u64 r50_0.2.2.2.1), .d (.int .u64 r50_0.2.2.2.2.1), .d (.int .i64 r50_0.2.2.2.2.2)])], 1⟩ [FnOK Go.Proofs.Try.prog 136 (f136_sip_state_byte_in (t18.getD t20.toNat 0) s_0 s_1 s_2 s_3 s_4 s_5) (f136_sip_state_byte_out r50_0)] (by kernel_rfl) ⟨(f136_sip_state_byte_ok (t18.getD t20.toNat 0) s_0 s_1 s_2 s_3 s_4 s_5 r50_0 cr50_0), trivial⟩ ?_
      refine At.step hm ht ⟨[], [], [], [5, 12, 13, 14, 18, 19, 20], [0]⟩ 6 ⟨[(5, .one (.c (.ptr 0 0))), (12, .one (.c (.d (.sl (.slice (.int .u8)) t12)))), (13, .one (.c (.d (.int .i64 t13)))), (14, .one (.c (.d (.int .i64 t14)))), (18, .one (.c (.d (.sl (.int .u8) t18)))), (19, .one (.c (.d (.int .i64 t19)))), (20, .one (.c (.d (.int .i64 (IntKind.wrap .i64 (t20 + 1))))))], [], [(0, [.d (.int .u64 r50_0.1), .d (.int .u64 r50_0.2.1), .d (.int .u64 r50_0.2.2.1), .d (.int .u64 r50_0.2.2.2.1), .d (.int .u64 r50_0.2.2.2.2.1), .d (.int .i64 r50_0.2.2.2.2.2)])], 1⟩ [] (by kernel_rfl) trivial ?_
      exact ih t12 t13 t14 t18 t19 (IntKind.wrap .i64 (t20 + 1)) r50_0.1 r50_0.2.1 r50_0.2.2.1 r50_0.2.2.2.1 r50_0.2.2.2.2.1 r50_0.2.2.2.2.2 w h o hk
    · refine At.step hm ht ⟨[], [false], [], [5, 12, 13, 14], [0]⟩ 10 ⟨[(5, .one (.c (.ptr 0 0))), (12, .one (.c (.d (.sl (.slice (.int .u8)) t12)))), (13, .one (.c (.d (.int .i64 t13)))), (14, .one (.c (.d (.int .i64 t14))))], [], [(0, [.d (.int .u64 s_0), .d (.int .u64 s_1), .d (.int .u64 s_2), .d (.int .u64 s_3), .d (.int .u64 s_4), .d (.int .i64 s_5)])], 1⟩ [(decide ((t20 : Int) < t19)) = false] (by kernel_rfl) ⟨b48_e0, trivial⟩ ?_
      have h := Option.some.inj h
      subst h
      exact hk
def f124_sip_Sum_L3 : Nat → (List (List Int)) → Int → Int → Int → Int → Int → Int → Int → Int → Option (Int × Int × Int × Int × Int × Int)
  | 0, _, _, _, _, _, _, _, _, _ => none
  | n + 1, t12, t13, t14, s_0, s_1, s_2, s_3, s_4, s_5 =>
    if (decide ((t14 : Int) < t13)) = true then
      if (0 : Int) ≤ t14 ∧ t14 < (((t12).length : Nat) : Int) then
      (f124_sip_Sum_L6 n t12 t13 t14 (t12.getD t14.toNat []) (((t12.getD t14.toNat []).length : Nat) : Int) 0 s_0 s_1 s_2 s_3 s_4 s_5).bind fun w75 =>
      f124_sip_Sum_L3 n w75.1 w75.2.1 (IntKind.wrap .i64 (w75.2.2.1 + 1)) w75.2.2.2.1 w75.2.2.2.2.1 w75.2.2.2.2.2.1 w75.2.2.2.2.2.2.1 w75.2.2.2.2.2.2.2.1 w75.2.2.2.2.2.2.2.2
      else none
    else
      some ((s_0, s_1, s_2, s_3, s_4, s_5))
def f124_sip_Sum_L3_k (e : Int × Int × Int × Int × Int × Int) (o : Out) : Prop := At Go.Proofs.Try.prog Go.Proofs.Try.f124 0 11 ⟨[(5, .one (.c (.ptr 0 0)))], [], [(0, [.d (.int .u64 e.1), .d (.int .u64 e.2.1), .d (.int .u64 e.2.2.1), .d (.int .u64 e.2.2.2.1), .d (.int .u64 e.2.2.2.2.1), .d (.int .i64 e.2.2.2.2.2)])], 1⟩ o
theorem f124_sip_Sum_L3_ok (n : Nat) : ∀ (t12 : List (List Int)) (t13 : Int) (t14 : Int) (s_0 : Int) (s_1 : Int) (s_2 : Int) (s_3 : Int) (s_4 : Int) (s_5 : Int) (w : Int × Int × Int × Int × Int × Int) (h : f124_sip_Sum_L3 n t12 t13 t14 s_0 s_1 s_2 s_3 s_4 s_5 = some w) (o : Out) (hk : f124_sip_Sum_L3_k w o), At Go.Proofs.Try.prog Go.Proofs.Try.f124 0 3 ⟨[(5, .one (.c (.ptr 0 0))), (12, .one (.c (.d (.sl (.slice (.int .u8)) t12)))), (13, .one (.c (.d (.int .i64 t13)))), (14, .one (.c (.d (.int .i64 t14))))], [], [(0, [.d (.int .u64 s_0), .d (.int .u64 s_1), .d (.int .u64 s_2), .d (.int .u64 s_3), .d (.int .u64 s_4), .d (.int .i64 s_5)])], 1⟩ o := by
  induction n with
  | zero => intro t12 t13 t14 s_0 s_1 s_2 s_3 s_4 s_5 w h; rw [f124_sip_Sum_L3] at h; cases h
  | succ n ih =>
    intro t12 t13 t14 s_0 s_1 s_2 s_3 s_4 s_5 w h o hk
    rw [f124_sip_Sum_L3] at h
    rcases iteS h with ⟨b45_e0, h⟩ | ⟨b45_e0, h⟩
    · refine At.step hm ht ⟨[], [true], [], [5, 12, 13, 14], [0]⟩ 4 ⟨[(5, .one (.c (.ptr 0 0))), (12, .one (.c (.d (.sl (.slice (.int .u8)) t12)))), (13, .one (.c (.d (.int .i64 t13)))), (14, .one (.c (.d (.int .i64 t14))))], [], [(0, [.d (.int .u64 s_0), .d (.int .u64 s_1), .d (.int .u64 s_2), .d (.int .u64 s_3), .d (.int .u64 s_4), .d (.int .i64 s_5)])], 1⟩ [(decide ((t14 : Int) < t13)) = true] (by kernel_rfl) ⟨b45_e0, trivial⟩ ?_
      obtain ⟨g46_0, h⟩ := ifS h
      refine At.step hm ht ⟨[], [], [], [5, 7, 12, 13, 14], [0]⟩ 5 ⟨[(5, .one (.c (.ptr 0 0))), (7, .one (.c (.d (.sl (.int .u8) (t12.getD t14.toNat []))))), (12, .one (.c (.d (.sl (.slice (.int .u8)) t12)))), (13, .one (.c (.d (.int .i64 t13)))), (14, .one (.c (.d (.int .i64 t14))))], [], [(0, [.d (.int .u64 s_0), .d (.int .u64 s_1), .d (.int .u64 s_2), .d (.int .u64 s_3), .d (.int .u64 s_4), .d (.int .i64 s_5)])], 1⟩ [(0 : Int) ≤ t14 ∧ t14 < (((t12).length : Nat) : Int)] (by kernel_rfl) ⟨g46_0, trivial⟩ ?_
      refine At.step hm ht ⟨[], [], [], [5, 12, 13, 14, 18, 19, 20], [0]⟩ 6 ⟨[(5, .one (.c (.ptr 0 0))), (12, .one (.c (.d (.sl (.slice (.int .u8)) t12)))), (13, .one (.c (.d (.int .i64 t13)))), (14, .one (.c (.d (.int .i64 t14)))), (18, .one (.c (.d (.sl (.int .u8) (t12.getD t14.toNat []))))), (19, .one (.c (.d (.int .i64 (((t12.getD t14.toNat []).length : Nat) : Int))))), (20, .one (.c (.d (.int .i64 0))))], [], [(0, [.d (.int .u64 s_0), .d (.int .u64 s_1), .d (.int .u64 s_2), .d (.int .u64 s_3), .d (.int .u64 s_4), .d (.int .i64 s_5)])], 1⟩ [] (by kernel_rfl) trivial ?_
      obtain ⟨w75, cw75, h⟩ := bindS h
      refine f124_sip_Sum_L6_ok n t12 t13 t14 (t12.getD t14.toNat []) (((t12.getD t14.toNat []).length : Nat) : Int) 0 s_0 s_1 s_2 s_3 s_4 s_5 w75 cw75 _ ?_
      show At Go.Proofs.Try.prog Go.Proofs.Try.f124 0 10 ⟨[(5, .one (.c (.ptr 0 0))), (12, .one (.c (.d (.sl (.slice (.int .u8)) w75.1)))), (13, .one (.c (.d (.int .i64 w75.2.1)))), (14, .one (.c (.d (.int .i64 w75.2.2.1))))], [], [(0, [.d (.int .u64 w75.2.2.2.1), .d (.int .u64 w75.2.2.2.2.1), .d (.int .u64 w75.2.2.2.2.2.1), .d (.int .u64 w75.2.2.2.2.2.2.1), .d (.int .u64 w75.2.2.2.2.2.2.2.1), .d (.int .i64 w75.2.2.2.2.2.2.2.2)])], 1⟩ _
      refine At.step hm ht ⟨[], [], [], [5, 12, 13, 14], [0]⟩ 3 ⟨[(5, .one (.c (.ptr 0 0))), (12, .one (.c (.d (.sl (.slice (.int .u8)) w75.1)))), (13, .one (.c (.d (.int .i64 w75.2.1)))), (14, .one (.c (.d (.int .i64 (IntKind.wrap .i64 (w75.2.2.1 + 1))))))], [], [(0, [.d (.int .u64 w75.2.2.2.1), .d (.int .u64 w75.2.2.2.2.1), .d (.int .u64 w75.2.2.2.2.2.1), .d (.int .u64 w75.2.2.2.2.2.2.1), .d (.int .u64 w75.2.2.2.2.2.2.2.1), .d (.int .i64 w75.2.2.2.2.2.2.2.2)])], 1⟩ [] (by kernel_rfl) trivial ?_
      exact ih w75.1 w75.2.1 (IntKind.wrap .i64 (w75.2.2.1 + 1)) w75.2.2.2.1 w75.2.2.2.2.1 w75.2.2.2.2.2.1 w75.2.2.2.2.2.2.1 w75.2.2.2.2.2.2.2.1 w75.2.2.2.2.2.2.2.2 w h o hk
    · refine At.step hm ht ⟨[], [false], [], [5], [0]⟩ 11 ⟨[(5, .one (.c (.ptr 0 0)))], [], [(0, [.d (.int .u64 s_0), .d (.int .u64 s_1), .d (.int .u64 s_2), .d (.int .u64 s_3), .d (.int .u64 s_4), .d (.int .i64 s_5)])], 1⟩ [(decide ((t14 : Int) < t13)) = false] (by kernel_rfl) ⟨b45_e0, trivial⟩ ?_
      have h := Option.some.inj h
      subst h
      exact hk
def f124_sip_Sum (n : Nat) (k_0 : Int) (k_1 : Int) (parts : List (List Int)) : Option (Int) :=
  (f135_sip_begin k_0 k_1).bind fun r41_0 =>
  (f124_sip_Sum_L3 n parts ((parts.length : Nat) : Int) 0 r41_0.1 r41_0.2.1 r41_0.2.2.1 r41_0.2.2.2.1 r41_0.2.2.2.2.1 r41_0.2.2.2.2.2).bind fun w78 =>
  (f137_sip_state_end n w78.1 w78.2.1 w78.2.2.1 w78.2.2.2.1 w78.2.2.2.2.1 w78.2.2.2.2.2).bind fun r80_0 =>
  some r80_0.1
theorem f124_sip_Sum_ok (n : Nat) (k_0 : Int) (k_1 : Int) (parts : List (List Int)) (r : Int) (h : f124_sip_Sum n k_0 k_1 parts = some r) : FnOK Go.Proofs.Try.prog 124 (f124_sip_Sum_in k_0 k_1 parts) (f124_sip_Sum_out r) := by
  unfold f124_sip_Sum at h
  refine At.fn (r := 0) Go.Proofs.Try.func124 rfl (by kernel_rfl) rfl rfl (by kernel_rfl) ?_
  show At Go.Proofs.Try.prog Go.Proofs.Try.f124 0 0 ⟨[(0, .one (.agg [.d (.int .u64 k_0), .d (.int .u64 k_1)])), (1, .one (.c (.d (.sl (.slice (.int .u8)) parts))))], [], [], 0⟩ _
  refine At.step hm ht ⟨[], [], [], [1, 2], [0]⟩ 1 ⟨[(1, .one (.c (.d (.sl (.slice (.int .u8)) parts)))), (2, .one (.c (.ptr 0 0)))], [], [(0, [.d (.int .u64 k_0), .d (.int .u64 k_1)])], 1⟩ [] (by kernel_rfl) trivial ?_
  obtain ⟨r41_0, cr41_0, h⟩ := bindS h
  refine At.step hm ht ⟨[(1, .call [] [] (f135_sip_begin_out r41_0))], [], [], [1, 5], [2]⟩ 2 ⟨[(1, .one (.c (.d (.sl (.slice (.int .u8)) parts)))), (5, .one (.c (.ptr 0 0)))], [], [(0, [.d (.int .u64 r41_0.1), .d (.int .u64 r41_0.2.1), .d (.int .u64 r41_0.2.2.1), .d (.int .u64 r41_0.2.2.2.1), .d (.int .u64 r41_0.2.2.2.2.1), .d (.int .i64 r41_0.2.2.2.2.2)])], 1⟩ [FnOK Go.Proofs.Try.prog 135 (f135_sip_begin_in k_0 k_1) (f135_sip_begin_out r41_0)] (by kernel_rfl) ⟨(f135_sip_begin_ok k_0 k_1 r41_0 cr41_0), trivial⟩ ?_
  refine At.step hm ht ⟨[], [], [], [5, 12, 13, 14], [0]⟩ 3 ⟨[(5, .one (.c (.ptr 0 0))), (12, .one (.c (.d (.sl (.slice (.int .u8)) parts)))), (13, .one (.c (.d (.int .i64 ((parts.length : Nat) : Int))))), (14, .one (.c (.d (.int .i64 0))))], [], [(0, [.d (.int .u64 r41_0.1), .d (.int .u64 r41_0.2.1), .d (.int .u64 r41_0.2.2.1), .d (.int .u64 r41_0.2.2.2.1), .d (.int .u64 r41_0.2.2.2.2.1), .d (.int .i64 r41_0.2.2.2.2.2)])], 1⟩ [] (by kernel_rfl) trivial ?_
  obtain ⟨w78, cw78, h⟩ := bindS h
  refine f124_sip_Sum_L3_ok n parts ((parts.length : Nat) : Int) 0 r41_0.1 r41_0.2.1 r41_0.2.2.1 r41_0.2.2.2.1 r41_0.2.2.2.2.1 r41_0.2.2.2.2.2 w78 cw78 _ ?_
  show At Go.Proofs.Try.prog Go.Proofs.Try.f124 0 11 ⟨[(5, .one (.c (.ptr 0 0)))], [], [(0, [.d (.int .u64 w78.1), .d (.int .u64 w78.2.1), .d (.int .u64 w78.2.2.1), .d (.int .u64 w78.2.2.2.1), .d (.int .u64 w78.2.2.2.2.1), .d (.int .i64 w78.2.2.2.2.2)])], 1⟩ _
  obtain ⟨r80_0, cr80_0, h⟩ := bindS h
  have h := Option.some.inj h
  subst h
  exact At.fin hm ht ⟨[(1, .call [0] [] (f137_sip_state_end_out r80_0))], [], [], [4], []⟩ [FnOK Go.Proofs.Try.prog 137 (f137_sip_state_end_in w78.1 w78.2.1 w78.2.2.1 w78.2.2.2.1 w78.2.2.2.2.1 w78.2.2.2.2.2) (f137_sip_state_end_out r80_0)] (by kernel_rfl) ⟨(f137_sip_state_end_ok n w78.1 w78.2.1 w78.2.2.1 w78.2.2.2.1 w78.2.2.2.2.1 w78.2.2.2.2.2 r80_0 cr80_0), trivial⟩
/-! (*brougham/table.Table).home -/
def f129_table_Table_home_in (name : Int) (t_0 : Int) (t_1 : Int) (t_3 : Int) (t_4 : Int) (t_5 : Int) (b1_0 : List (Int × Int × Int)) : Inn := ⟨[.c (.ptr 0 0), .c (.d (.int .u32 name))], [(1, ⟨169, 2⟩)], [(0, [.d (.int .u64 t_0), .d (.int .u64 t_1), .row 1 (.pair (.int .u8) (.pair (.int .u32) (.int .i64))), .d (.int .i64 t_3), .d (.int .i64 t_4), .d (.int .i64 t_5)]), (1, [.run (.pair (.int .u8) (.pair (.int .u32) (.int .i64))) b1_0])], 2⟩
def f129_table_Table_home_out (r : Int × Int × Int × Int × Int × Int × List (Int × Int × Int)) : Out := ⟨.one (.c (.d (.int .i64 r.1))), [(1, ⟨169, 2⟩)], [(0, [.d (.int .u64 r.2.1), .d (.int .u64 r.2.2.1), .row 1 (.pair (.int .u8) (.pair (.int .u32) (.int .i64))), .d (.int .i64 r.2.2.2.1), .d (.int .i64 r.2.2.2.2.1), .d (.int .i64 r.2.2.2.2.2.1)]), (1, [.run (.pair (.int .u8) (.pair (.int .u32) (.int .i64))) r.2.2.2.2.2.2])], 2⟩
def f129_table_Table_home (n : Nat) (name : Int) (t_0 : Int) (t_1 : Int) (t_3 : Int) (t_4 : Int) (t_5 : Int) (b1_0 : List (Int × Int × Int)) : Option (Int × Int × Int × Int × Int × Int × List (Int × Int × Int)) :=
  (f79_pack_W name).bind fun r19_0 =>
  (f78_pack_Put n [] [r19_0]).bind fun r19_1 =>
  (f124_sip_Sum n t_0 t_1 [r19_1]).bind fun r19_2 =>
  if ((IntKind.wrap .u64 ((b1_0.length : Nat) : Int)) : Int) ≠ 0 then
  some ((IntKind.wrap .i64 (Int.tmod r19_2 (IntKind.wrap .u64 ((b1_0.length : Nat) : Int)))), t_0, t_1, t_3, t_4, t_5, b1_0)
  else none
theorem f129_table_Table_home_ok (n : Nat) (name : Int) (t_0 : Int) (t_1 : Int) (t_3 : Int) (t_4 : Int) (t_5 : Int) (b1_0 : List (Int × Int × Int)) (r : Int × Int × Int × Int × Int × Int × List (Int × Int × Int)) (h : f129_table_Table_home n name t_0 t_1 t_3 t_4 t_5 b1_0 = some r) : FnOK Go.Proofs.Try.prog 129 (f129_table_Table_home_in name t_0 t_1 t_3 t_4 t_5 b1_0) (f129_table_Table_home_out r) := by
  unfold f129_table_Table_home at h
  refine At.fn (r := 0) Go.Proofs.Try.func129 rfl (by kernel_rfl) rfl rfl (by kernel_rfl) ?_
  show At Go.Proofs.Try.prog Go.Proofs.Try.f129 2 0 ⟨[(0, .one (.c (.ptr 0 0))), (1, .one (.c (.d (.int .u32 name))))], [(1, some ⟨169, 2⟩)], [(0, [.d (.int .u64 t_0), .d (.int .u64 t_1), .row 1 (.pair (.int .u8) (.pair (.int .u32) (.int .i64))), .d (.int .i64 t_3), .d (.int .i64 t_4), .d (.int .i64 t_5)]), (1, [.run (.pair (.int .u8) (.pair (.int .u32) (.int .i64))) b1_0])], 2⟩ _
  refine At.step hm ht ⟨[], [], [], [0, 1], [0, 1]⟩ 1 ⟨[(0, .one (.c (.ptr 0 0))), (1, .one (.c (.d (.int .u32 name))))], [(1, some ⟨169, 2⟩)], [(0, [.d (.int .u64 t_0), .d (.int .u64 t_1), .row 1 (.pair (.int .u8) (.pair (.int .u32) (.int .i64))), .d (.int .i64 t_3), .d (.int .i64 t_4), .d (.int .i64 t_5)]), (1, [.run (.pair (.int .u8) (.pair (.int .u32) (.int .i64))) b1_0])], 2⟩ [] (by kernel_rfl) trivial ?_
  obtain ⟨r19_0, cr19_0, h⟩ := bindS h
  obtain ⟨r19_1, cr19_1, h⟩ := bindS h
  obtain ⟨r19_2, cr19_2, h⟩ := bindS h
  obtain ⟨g19_3, h⟩ := ifS h
  have h := Option.some.inj h
  subst h
  exact At.fin hm ht ⟨[(5, .call [] [] (f79_pack_W_out r19_0)), (7, .call [] [(0, 0, (.int .u8))] (f78_pack_Put_out r19_1)), (9, .call [] [] (f124_sip_Sum_out r19_2))], [], [], [4], [0, 1]⟩ [FnOK Go.Proofs.Try.prog 79 (f79_pack_W_in name) (f79_pack_W_out r19_0), FnOK Go.Proofs.Try.prog 78 (f78_pack_Put_in [] [r19_0]) (f78_pack_Put_out r19_1), FnOK Go.Proofs.Try.prog 124 (f124_sip_Sum_in t_0 t_1 [r19_1]) (f124_sip_Sum_out r19_2), ((IntKind.wrap .u64 ((b1_0.length : Nat) : Int)) : Int) ≠ 0] (by kernel_rfl) ⟨(f79_pack_W_ok name r19_0 cr19_0), (f78_pack_Put_ok n [] [r19_0] r19_1 cr19_1), (f124_sip_Sum_ok n t_0 t_1 [r19_1] r19_2 cr19_2), g19_3, trivial⟩
/-! (*brougham/table.Table).find -/
def f96_table_Table_find_in (name : Int) (t_0 : Int) (t_1 : Int) (t_3 : Int) (t_4 : Int) (t_5 : Int) (b1_0 : List (Int × Int × Int)) : Inn := ⟨[.c (.ptr 0 0), .c (.d (.int .u32 name))], [(1, ⟨169, 2⟩)], [(0, [.d (.int .u64 t_0), .d (.int .u64 t_1), .row 1 (.pair (.int .u8) (.pair (.int .u32) (.int .i64))), .d (.int .i64 t_3), .d (.int .i64 t_4), .d (.int .i64 t_5)]), (1, [.run (.pair (.int .u8) (.pair (.int .u32) (.int .i64))) b1_0])], 2⟩
def f96_table_Table_find_out (r : Int × Int × Int × Int × Int × Int × List (Int × Int × Int)) : Out := ⟨.one (.c (.d (.int .i64 r.1))), [(1, ⟨169, 2⟩)], [(0, [.d (.int .u64 r.2.1), .d (.int .u64 r.2.2.1), .row 1 (.pair (.int .u8) (.pair (.int .u32) (.int .i64))), .d (.int .i64 r.2.2.2.1), .d (.int .i64 r.2.2.2.2.1), .d (.int .i64 r.2.2.2.2.2.1)]), (1, [.run (.pair (.int .u8) (.pair (.int .u32) (.int .i64))) r.2.2.2.2.2.2])], 2⟩
def f96_table_Table_find_L3 : Nat → Int → Int → Int → Int → Int → Int → Int → Int → Int → (List (Int × Int × Int)) → Option ((Int × Int × Int × Int × Int × List (Int × Int × Int)) ⊕ (Int × Int × Int × Int × Int × Int × List (Int × Int × Int)))
  | 0, _, _, _, _, _, _, _, _, _, _ => none
  | n + 1, name, at_, t14, t15, t_0, t_1, t_3, t_4, t_5, b1_0 =>
    if (decide ((t15 : Int) < t14)) = true then
      if (0 : Int) ≤ at_ ∧ at_ < (((b1_0).length : Nat) : Int) then
      if ((((b1_0.getD at_.toNat (0, (0, 0))).1) : Int) == 0) = true then
        some (.inl (t_0, t_1, t_3, t_4, t_5, b1_0))
      else
        if ((((b1_0.getD at_.toNat (0, (0, 0))).1) : Int) == 1) = true then
          if (((((b1_0.getD at_.toNat (0, (0, 0))).2).1) : Int) == name) = true then
            some (.inr ((at_, t_0, t_1, t_3, t_4, t_5, b1_0)))
          else
            if (((b1_0.length : Nat) : Int) : Int) ≠ 0 then
            f96_table_Table_find_L3 n name (Int.tmod (IntKind.wrap .i64 (at_ + 1)) ((b1_0.length : Nat) : Int)) t14 (IntKind.wrap .i64 (t15 + 1)) t_0 t_1 t_3 t_4 t_5 b1_0
            else none
        else
          if (((b1_0.length : Nat) : Int) : Int) ≠ 0 then
          f96_table_Table_find_L3 n name (Int.tmod (IntKind.wrap .i64 (at_ + 1)) ((b1_0.length : Nat) : Int)) t14 (IntKind.wrap .i64 (t15 + 1)) t_0 t_1 t_3 t_4 t_5 b1_0
          else none
      else none
    else
      some (.inl (t_0, t_1, t_3, t_4, t_5, b1_0))
def f96_table_Table_find_L3_k (w : (Int × Int × Int × Int × Int × List (Int × Int × Int)) ⊕ (Int × Int × Int × Int × Int × Int × List (Int × Int × Int))) (o : Out) : Prop := match w with
  | .inl e => At Go.Proofs.Try.prog Go.Proofs.Try.f96 2 10 ⟨[], [(1, some ⟨169, 2⟩)], [(0, [.d (.int .u64 e.1), .d (.int .u64 e.2.1), .row 1 (.pair (.int .u8) (.pair (.int .u32) (.int .i64))), .d (.int .i64 e.2.2.1), .d (.int .i64 e.2.2.2.1), .d (.int .i64 e.2.2.2.2.1)]), (1, [.run (.pair (.int .u8) (.pair (.int .u32) (.int .i64))) e.2.2.2.2.2])], 2⟩ o
  | .inr e => o = f96_table_Table_find_out e
theorem f96_table_Table_find_L3_ok (n : Nat) : ∀ (name : Int) (at_ : Int) (t14 : Int) (t15 : Int) (t_0 : Int) (t_1 : Int) (t_3 : Int) (t_4 : Int) (t_5 : Int) (b1_0 : List (Int × Int × Int)) (w : (Int × Int × Int × Int × Int × List (Int × Int × Int)) ⊕ (Int × Int × Int × Int × Int × Int × List (Int × Int × Int))) (h : f96_table_Table_find_L3 n name at_ t14 t15 t_0 t_1 t_3 t_4 t_5 b1_0 = some w) (o : Out) (hk : f96_table_Table_find_L3_k w o), At Go.Proofs.Try.prog Go.Proofs.Try.f96 2 3 ⟨[(0, .one (.c (.ptr 0 0))), (1, .one (.c (.d (.int .u32 name)))), (5, .one (.c (.d (.int .i64 at_)))), (14, .one (.c (.d (.int .i64 t14)))), (15, .one (.c (.d (.int .i64 t15))))], [(1, some ⟨169, 2⟩)], [(0, [.d (.int .u64 t_0), .d (.int .u64 t_1), .row 1 (.pair (.int .u8) (.pair (.int .u32) (.int .i64))), .d (.int .i64 t_3), .d (.int .i64 t_4), .d (.int .i64 t_5)]), (1, [.run (.pair (.int .u8) (.pair (.int .u32) (.int .i64))) b1_0])], 2⟩ o := by
  induction n with
  | zero => intro name at_ t14 t15 t_0 t_1 t_3 t_4 t_5 b1_0 w h; rw [f96_table_Table_find_L3] at h; cases h
  | succ n ih =>
    intro name at_ t14 t15 t_0 t_1 t_3 t_4 t_5 b1_0 w h o hk
    rw [f96_table_Table_find_L3] at h
    rcases iteS h with ⟨b92_e0, h⟩ | ⟨b92_e0, h⟩
    · refine At.step hm ht ⟨[], [true], [], [0, 1, 5, 14, 15], [0, 1]⟩ 4 ⟨[(0, .one (.c (.ptr 0 0))), (1, .one (.c (.d (.int .u32 name)))), (5, .one (.c (.d (.int .i64 at_)))), (14, .one (.c (.d (.int .i64 t14)))), (15, .one (.c (.d (.int .i64 t15))))], [(1, some ⟨169, 2⟩)], [(0, [.d (.int .u64 t_0), .d (.int .u64 t_1), .row 1 (.pair (.int .u8) (.pair (.int .u32) (.int .i64))), .d (.int .i64 t_3), .d (.int .i64 t_4), .d (.int .i64 t_5)]), (1, [.run (.pair (.int .u8) (.pair (.int .u32) (.int .i64))) b1_0])], 2⟩ [(decide ((t15 : Int) < t14)) = true] (by kernel_rfl) ⟨b92_e0, trivial⟩ ?_
      obtain ⟨g93_0, h⟩ := ifS h
      refine At.step hm ht ⟨[], [], [], [0, 1, 5, 6, 14, 15], [0, 1]⟩ 5 ⟨[(0, .one (.c (.ptr 0 0))), (1, .one (.c (.d (.int .u32 name)))), (5, .one (.c (.d (.int .i64 at_)))), (6, .one (.c (.pel 1 (.pair (.int .u8) (.pair (.int .u32) (.int .i64))) at_.toNat 0))), (14, .one (.c (.d (.int .i64 t14)))), (15, .one (.c (.d (.int .i64 t15))))], [(1, some ⟨169, 2⟩)], [(0, [.d (.int .u64 t_0), .d (.int .u64 t_1), .row 1 (.pair (.int .u8) (.pair (.int .u32) (.int .i64))), .d (.int .i64 t_3), .d (.int .i64 t_4), .d (.int .i64 t_5)]), (1, [.run (.pair (.int .u8) (.pair (.int .u32) (.int .i64))) b1_0])], 2⟩ [(0 : Int) ≤ at_ ∧ at_ < (((b1_0).length : Nat) : Int)] (by kernel_rfl) ⟨g93_0, trivial⟩ ?_
      rcases iteS h with ⟨b94_e0, h⟩ | ⟨b94_e0, h⟩
      · refine At.step hm ht ⟨[], [true], [], [], [0, 1]⟩ 10 ⟨[], [(1, some ⟨169, 2⟩)], [(0, [.d (.int .u64 t_0), .d (.int .u64 t_1), .row 1 (.pair (.int .u8) (.pair (.int .u32) (.int .i64))), .d (.int .i64 t_3), .d (.int .i64 t_4), .d (.int .i64 t_5)]), (1, [.run (.pair (.int .u8) (.pair (.int .u32) (.int .i64))) b1_0])], 2⟩ [((((b1_0.getD at_.toNat (0, (0, 0))).1) : Int) == 0) = true] (by kernel_rfl) ⟨b94_e0, trivial⟩ ?_
        have h := Option.some.inj h
        subst h
        exact hk
      · refine At.step hm ht ⟨[], [false], [], [0, 1, 5, 6, 14, 15], [0, 1]⟩ 6 ⟨[(0, .one (.c (.ptr 0 0))), (1, .one (.c (.d (.int .u32 name)))), (5, .one (.c (.d (.int .i64 at_)))), (6, .one (.c (.pel 1 (.pair (.int .u8) (.pair (.int .u32) (.int .i64))) at_.toNat 0))), (14, .one (.c (.d (.int .i64 t14)))), (15, .one (.c (.d (.int .i64 t15))))], [(1, some ⟨169, 2⟩)], [(0, [.d (.int .u64 t_0), .d (.int .u64 t_1), .row 1 (.pair (.int .u8) (.pair (.int .u32) (.int .i64))), .d (.int .i64 t_3), .d (.int .i64 t_4), .d (.int .i64 t_5)]), (1, [.run (.pair (.int .u8) (.pair (.int .u32) (.int .i64))) b1_0])], 2⟩ [((((b1_0.getD at_.toNat (0, (0, 0))).1) : Int) == 0) = false] (by kernel_rfl) ⟨b94_e0, trivial⟩ ?_
        rcases iteS h with ⟨b95_5, h⟩ | ⟨b95_5, h⟩
        · rcases iteS h with ⟨b95_e0, h⟩ | ⟨b95_e0, h⟩
          · refine At.step hm ht ⟨[(5, .b true)], [true], [], [5], [0, 1]⟩ 7 ⟨[(5, .one (.c (.d (.int .i64 at_))))], [(1, some ⟨169, 2⟩)], [(0, [.d (.int .u64 t_0), .d (.int .u64 t_1), .row 1 (.pair (.int .u8) (.pair (.int .u32) (.int .i64))), .d (.int .i64 t_3), .d (.int .i64 t_4), .d (.int .i64 t_5)]), (1, [.run (.pair (.int .u8) (.pair (.int .u32) (.int .i64))) b1_0])], 2⟩ [((((b1_0.getD at_.toNat (0, (0, 0))).1) : Int) == 1) = true, (((((b1_0.getD at_.toNat (0, (0, 0))).2).1) : Int) == name) = true] (by kernel_rfl) ⟨b95_5, b95_e0, trivial⟩ ?_
            have h := Option.some.inj h
            subst h
            have hk : o = f96_table_Table_find_out (at_, t_0, t_1, t_3, t_4, t_5, b1_0) := hk
            subst hk
            exact At.fin hm ht ⟨[], [], [], [4], [0, 1]⟩ [] (by kernel_rfl) trivial
          · refine At.step hm ht ⟨[(5, .b true)], [false], [], [0, 1, 5, 14, 15], [0, 1]⟩ 8 ⟨[(0, .one (.c (.ptr 0 0))), (1, .one (.c (.d (.int .u32 name)))), (5, .one (.c (.d (.int .i64 at_)))), (14, .one (.c (.d (.int .i64 t14)))), (15, .one (.c (.d (.int .i64 t15))))], [(1, some ⟨169, 2⟩)], [(0, [.d (.int .u64 t_0), .d (.int .u64 t_1), .row 1 (.pair (.int .u8) (.pair (.int .u32) (.int .i64))), .d (.int .i64 t_3), .d (.int .i64 t_4), .d (.int .i64 t_5)]), (1, [.run (.pair (.int .u8) (.pair (.int .u32) (.int .i64))) b1_0])], 2⟩ [((((b1_0.getD at_.toNat (0, (0, 0))).1) : Int) == 1) = true, (((((b1_0.getD at_.toNat (0, (0, 0))).2).1) : Int) == name) = false] (by kernel_rfl) ⟨b95_5, b95_e0, trivial⟩ ?_
            obtain ⟨g97_0, h⟩ := ifS h
            refine At.step hm ht ⟨[], [], [], [0, 1, 5, 14, 15], [0, 1]⟩ 9 ⟨[(0, .one (.c (.ptr 0 0))), (1, .one (.c (.d (.int .u32 name)))), (5, .one (.c (.d (.int .i64 (Int.tmod (IntKind.wrap .i64 (at_ + 1)) ((b1_0.length : Nat) : Int)))))), (14, .one (.c (.d (.int .i64 t14)))), (15, .one (.c (.d (.int .i64 t15))))], [(1, some ⟨169, 2⟩)], [(0, [.d (.int .u64 t_0), .d (.int .u64 t_1), .row 1 (.pair (.int .u8) (.pair (.int .u32) (.int .i64))), .d (.int .i64 t_3), .d (.int .i64 t_4), .d (.int .i64 t_5)]), (1, [.run (.pair (.int .u8) (.pair (.int .u32) (.int .i64))) b1_0])], 2⟩ [(((b1_0.length : Nat) : Int) : Int) ≠ 0] (by kernel_rfl) ⟨g97_0, trivial⟩ ?_
            refine At.step hm ht ⟨[], [], [], [0, 1, 5, 14, 15], [0, 1]⟩ 3 ⟨[(0, .one (.c (.ptr 0 0))), (1, .one (.c (.d (.int .u32 name)))), (5, .one (.c (.d (.int .i64 (Int.tmod (IntKind.wrap .i64 (at_ + 1)) ((b1_0.length : Nat) : Int)))))), (14, .one (.c (.d (.int .i64 t14)))), (15, .one (.c (.d (.int .i64 (IntKind.wrap .i64 (t15 + 1))))))], [(1, some ⟨169, 2⟩)], [(0, [.d (.int .u64 t_0), .d (.int .u64 t_1), .row 1 (.pair (.int .u8) (.pair (.int .u32) (.int .i64))), .d (.int .i64 t_3), .d (.int .i64 t_4), .d (.int .i64 t_5)]), (1, [.run (.pair (.int .u8) (.pair (.int .u32) (.int .i64))) b1_0])], 2⟩ [] (by kernel_rfl) trivial ?_
            exact ih name (Int.tmod (IntKind.wrap .i64 (at_ + 1)) ((b1_0.length : Nat) : Int)) t14 (IntKind.wrap .i64 (t15 + 1)) t_0 t_1 t_3 t_4 t_5 b1_0 w h o hk
        · refine At.step hm ht ⟨[(5, .b false)], [false], [], [0, 1, 5, 14, 15], [0, 1]⟩ 8 ⟨[(0, .one (.c (.ptr 0 0))), (1, .one (.c (.d (.int .u32 name)))), (5, .one (.c (.d (.int .i64 at_)))), (14, .one (.c (.d (.int .i64 t14)))), (15, .one (.c (.d (.int .i64 t15))))], [(1, some ⟨169, 2⟩)], [(0, [.d (.int .u64 t_0), .d (.int .u64 t_1), .row 1 (.pair (.int .u8) (.pair (.int .u32) (.int .i64))), .d (.int .i64 t_3), .d (.int .i64 t_4), .d (.int .i64 t_5)]), (1, [.run (.pair (.int .u8) (.pair (.int .u32) (.int .i64))) b1_0])], 2⟩ [((((b1_0.getD at_.toNat (0, (0, 0))).1) : Int) == 1) = false, false = false] (by kernel_rfl) ⟨b95_5, rfl, trivial⟩ ?_
          obtain ⟨g99_0, h⟩ := ifS h
          refine At.step hm ht ⟨[], [], [], [0, 1, 5, 14, 15], [0, 1]⟩ 9 ⟨[(0, .one (.c (.ptr 0 0))), (1, .one (.c (.d (.int .u32 name)))), (5, .one (.c (.d (.int .i64 (Int.tmod (IntKind.wrap .i64 (at_ + 1)) ((b1_0.length : Nat) : Int)))))), (14, .one (.c (.d (.int .i64 t14)))), (15, .one (.c (.d (.int .i64 t15))))], [(1, some ⟨169, 2⟩)], [(0, [.d (.int .u64 t_0), .d (.int .u64 t_1), .row 1 (.pair (.int .u8) (.pair (.int .u32) (.int .i64))), .d (.int .i64 t_3), .d (.int .i64 t_4), .d (.int .i64 t_5)]), (1, [.run (.pair (.int .u8) (.pair (.int .u32) (.int .i64))) b1_0])], 2⟩ [(((b1_0.length : Nat) : Int) : Int) ≠ 0] (by kernel_rfl) ⟨g99_0, trivial⟩ ?_
          refine At.step hm ht ⟨[], [], [], [0, 1, 5, 14, 15], [0, 1]⟩ 3 ⟨[(0, .one (.c (.ptr 0 0))), (1, .one (.c (.d (.int .u32 name)))), (5, .one (.c (.d (.int .i64 (Int.tmod (IntKind.wrap .i64 (at_ + 1)) ((b1_0.length : Nat) : Int)))))), (14, .one (.c (.d (.int .i64 t14)))), (15, .one (.c (.d (.int .i64 (IntKind.wrap .i64 (t15 + 1))))))], [(1, some ⟨169, 2⟩)], [(0, [.d (.int .u64 t_0), .d (.int .u64 t_1), .row 1 (.pair (.int .u8) (.pair (.int .u32) (.int .i64))), .d (.int .i64 t_3), .d (.int .i64 t_4), .d (.int .i64 t_5)]), (1, [.run (.pair (.int .u8) (.pair (.int .u32) (.int .i64))) b1_0])], 2⟩ [] (by kernel_rfl) trivial ?_
          exact ih name (Int.tmod (IntKind.wrap .i64 (at_ + 1)) ((b1_0.length : Nat) : Int)) t14 (IntKind.wrap .i64 (t15 + 1)) t_0 t_1 t_3 t_4 t_5 b1_0 w h o hk
    · refine At.step hm ht ⟨[], [false], [], [], [0, 1]⟩ 10 ⟨[], [(1, some ⟨169, 2⟩)], [(0, [.d (.int .u64 t_0), .d (.int .u64 t_1), .row 1 (.pair (.int .u8) (.pair (.int .u32) (.int .i64))), .d (.int .i64 t_3), .d (.int .i64 t_4), .d (.int .i64 t_5)]), (1, [.run (.pair (.int .u8) (.pair (.int .u32) (.int .i64))) b1_0])], 2⟩ [(decide ((t15 : Int) < t14)) = false] (by kernel_rfl) ⟨b92_e0, trivial⟩ ?_
      have h := Option.some.inj h
      subst h
      exact hk
def f96_table_Table_find (n : Nat) (name : Int) (t_0 : Int) (t_1 : Int) (t_3 : Int) (t_4 : Int) (t_5 : Int) (b1_0 : List (Int × Int × Int)) : Option (Int × Int × Int × Int × Int × Int × List (Int × Int × Int)) :=
  (f129_table_Table_home n name t_0 t_1 t_3 t_4 t_5 b1_0).bind fun r17_0 =>
  (f96_table_Table_find_L3 n name r17_0.1 ((r17_0.2.2.2.2.2.2.length : Nat) : Int) 0 r17_0.2.1 r17_0.2.2.1 r17_0.2.2.2.1 r17_0.2.2.2.2.1 r17_0.2.2.2.2.2.1 r17_0.2.2.2.2.2.2).bind fun w101 =>
  match w101 with
  | .inl e102 =>
    some ((-1), e102.1, e102.2.1, e102.2.2.1, e102.2.2.2.1, e102.2.2.2.2.1, e102.2.2.2.2.2)
  | .inr e104 =>
    some (e104.1, e104.2.1, e104.2.2.1, e104.2.2.2.1, e104.2.2.2.2.1, e104.2.2.2.2.2.1, e104.2.2.2.2.2.2)
theorem f96_table_Table_find_ok (n : Nat) (name : Int) (t_0 : Int) (t_1 : Int) (t_3 : Int) (t_4 : Int) (t_5 : Int) (b1_0 : List (Int × Int × Int)) (r : Int × Int × Int × Int × Int × Int × List (Int × Int × Int)) (h : f96_table_Table_find n name t_0 t_1 t_3 t_4 t_5 b1_0 = some r) : FnOK Go.Proofs.Try.prog 96 (f96_table_Table_find_in name t_0 t_1 t_3 t_4 t_5 b1_0) (f96_table_Table_find_out r) := by
  unfold f96_table_Table_find at h
  refine At.fn (r := 0) Go.Proofs.Try.func96 rfl (by kernel_rfl) rfl rfl (by kernel_rfl) ?_
  show At Go.Proofs.Try.prog Go.Proofs.Try.f96 2 0 ⟨[(0, .one (.c (.ptr 0 0))), (1, .one (.c (.d (.int .u32 name))))], [(1, some ⟨169, 2⟩)], [(0, [.d (.int .u64 t_0), .d (.int .u64 t_1), .row 1 (.pair (.int .u8) (.pair (.int .u32) (.int .i64))), .d (.int .i64 t_3), .d (.int .i64 t_4), .d (.int .i64 t_5)]), (1, [.run (.pair (.int .u8) (.pair (.int .u32) (.int .i64))) b1_0])], 2⟩ _
  refine At.step hm ht ⟨[], [], [], [0, 1], [0, 1]⟩ 1 ⟨[(0, .one (.c (.ptr 0 0))), (1, .one (.c (.d (.int .u32 name))))], [(1, some ⟨169, 2⟩)], [(0, [.d (.int .u64 t_0), .d (.int .u64 t_1), .row 1 (.pair (.int .u8) (.pair (.int .u32) (.int .i64))), .d (.int .i64 t_3), .d (.int .i64 t_4), .d (.int .i64 t_5)]), (1, [.run (.pair (.int .u8) (.pair (.int .u32) (.int .i64))) b1_0])], 2⟩ [] (by kernel_rfl) trivial ?_
  obtain ⟨r17_0, cr17_0, h⟩ := bindS h
  refine At.step hm ht ⟨[(2, .call [0, 1] [] (f129_table_Table_home_out r17_0))], [], [], [0, 1, 5], [0, 1]⟩ 2 ⟨[(0, .one (.c (.ptr 0 0))), (1, .one (.c (.d (.int .u32 name)))), (5, .one (.c (.d (.int .i64 r17_0.1))))], [(1, some ⟨169, 2⟩)], [(0, [.d (.int .u64 r17_0.2.1), .d (.int .u64 r17_0.2.2.1), .row 1 (.pair (.int .u8) (.pair (.int .u32) (.int .i64))), .d (.int .i64 r17_0.2.2.2.1), .d (.int .i64 r17_0.2.2.2.2.1), .d (.int .i64 r17_0.2.2.2.2.2.1)]), (1, [.run (.pair (.int .u8) (.pair (.int .u32) (.int .i64))) r17_0.2.2.2.2.2.2])], 2⟩ [FnOK Go.Proofs.Try.prog 129 (f129_table_Table_home_in name t_0 t_1 t_3 t_4 t_5 b1_0) (f129_table_Table_home_out r17_0)] (by kernel_rfl) ⟨(f129_table_Table_home_ok n name t_0 t_1 t_3 t_4 t_5 b1_0 r17_0 cr17_0), trivial⟩ ?_
  refine At.step hm ht ⟨[], [], [], [0, 1, 5, 14, 15], [0, 1]⟩ 3 ⟨[(0, .one (.c (.ptr 0 0))), (1, .one (.c (.d (.int .u32 name)))), (5, .one (.c (.d (.int .i64 r17_0.1)))), (14, .one (.c (.d (.int .i64 ((r17_0.2.2.2.2.2.2.length : Nat) : Int))))), (15, .one (.c (.d (.int .i64 0))))], [(1, some ⟨169, 2⟩)], [(0, [.d (.int .u64 r17_0.2.1), .d (.int .u64 r17_0.2.2.1), .row 1 (.pair (.int .u8) (.pair (.int .u32) (.int .i64))), .d (.int .i64 r17_0.2.2.2.1), .d (.int .i64 r17_0.2.2.2.2.1), .d (.int .i64 r17_0.2.2.2.2.2.1)]), (1, [.run (.pair (.int .u8) (.pair (.int .u32) (.int .i64))) r17_0.2.2.2.2.2.2])], 2⟩ [] (by kernel_rfl) trivial ?_
  obtain ⟨w101, cw101, h⟩ := bindS h
  refine f96_table_Table_find_L3_ok n name r17_0.1 ((r17_0.2.2.2.2.2.2.length : Nat) : Int) 0 r17_0.2.1 r17_0.2.2.1 r17_0.2.2.2.1 r17_0.2.2.2.2.1 r17_0.2.2.2.2.2.1 r17_0.2.2.2.2.2.2 w101 cw101 _ ?_
  rcases w101 with e102 | e104
  · show At Go.Proofs.Try.prog Go.Proofs.Try.f96 2 10 ⟨[], [(1, some ⟨169, 2⟩)], [(0, [.d (.int .u64 e102.1), .d (.int .u64 e102.2.1), .row 1 (.pair (.int .u8) (.pair (.int .u32) (.int .i64))), .d (.int .i64 e102.2.2.1), .d (.int .i64 e102.2.2.2.1), .d (.int .i64 e102.2.2.2.2.1)]), (1, [.run (.pair (.int .u8) (.pair (.int .u32) (.int .i64))) e102.2.2.2.2.2])], 2⟩ _
    have h := Option.some.inj h
    subst h
    exact At.fin hm ht ⟨[], [], [], [4], [0, 1]⟩ [] (by kernel_rfl) trivial
  · have h := Option.some.inj h
    subst h
    rfl
/-! (*brougham/table.Table).Delete -/
def f51_table_Table_Delete_in (name : Int) (t_0 : Int) (t_1 : Int) (t_3 : Int) (t_4 : Int) (t_5 : Int) (b1_0 : List (Int × Int × Int)) : Inn := ⟨[.c (.ptr 0 0), .c (.d (.int .u32 name))], [(1, ⟨169, 2⟩)], [(0, [.d (.int .u64 t_0), .d (.int .u64 t_1), .row 1 (.pair (.int .u8) (.pair (.int .u32) (.int .i64))), .d (.int .i64 t_3), .d (.int .i64 t_4), .d (.int .i64 t_5)]), (1, [.run (.pair (.int .u8) (.pair (.int .u32) (.int .i64))) b1_0])], 2⟩
def f51_table_Table_Delete_out (r : Bool × Int × Int × Int × Int × Int × List (Int × Int × Int)) : Out := ⟨.one (.c (.d (.bool r.1))), [(1, ⟨169, 2⟩)], [(0, [.d (.int .u64 r.2.1), .d (.int .u64 r.2.2.1), .row 1 (.pair (.int .u8) (.pair (.int .u32) (.int .i64))), .d (.int .i64 r.2.2.2.1), .d (.int .i64 r.2.2.2.2.1), .d (.int .i64 r.2.2.2.2.2.1)]), (1, [.run (.pair (.int .u8) (.pair (.int .u32) (.int .i64))) r.2.2.2.2.2.2])], 2⟩
def f51_table_Table_Delete (n : Nat) (name : Int) (t_0 : Int) (t_1 : Int) (t_3 : Int) (t_4 : Int) (t_5 : Int) (b1_0 : List (Int × Int × Int)) : Option (Bool × Int × Int × Int × Int × Int × List (Int × Int × Int)) :=
  (f96_table_Table_find n name t_0 t_1 t_3 t_4 t_5 b1_0).bind fun r15_0 =>
  if (decide ((r15_0.1 : Int) < 0)) = true then
    some (false, r15_0.2.1, r15_0.2.2.1, r15_0.2.2.2.1, r15_0.2.2.2.2.1, r15_0.2.2.2.2.2.1, r15_0.2.2.2.2.2.2)
  else
    if (0 : Int) ≤ r15_0.1 ∧ r15_0.1 < (((r15_0.2.2.2.2.2.2).length : Nat) : Int) then
    some (true, r15_0.2.1, r15_0.2.2.1, (IntKind.wrap .i64 (r15_0.2.2.2.1 - 1)), r15_0.2.2.2.2.1, r15_0.2.2.2.2.2.1, (r15_0.2.2.2.2.2.2.set r15_0.1.toNat (2, (0, 0))))
    else none
theorem f51_table_Table_Delete_ok (n : Nat) (name : Int) (t_0 : Int) (t_1 : Int) (t_3 : Int) (t_4 : Int) (t_5 : Int) (b1_0 : List (Int × Int × Int)) (r : Bool × Int × Int × Int × Int × Int × List (Int × Int × Int)) (h : f51_table_Table_Delete n name t_0 t_1 t_3 t_4 t_5 b1_0 = some r) : FnOK Go.Proofs.Try.prog 51 (f51_table_Table_Delete_in name t_0 t_1 t_3 t_4 t_5 b1_0) (f51_table_Table_Delete_out r) := by
  unfold f51_table_Table_Delete at h
  refine At.fn (r := 0) Go.Proofs.Try.func51 rfl (by kernel_rfl) rfl rfl (by kernel_rfl) ?_
  show At Go.Proofs.Try.prog Go.Proofs.Try.f51 2 0 ⟨[(0, .one (.c (.ptr 0 0))), (1, .one (.c (.d (.int .u32 name))))], [(1, some ⟨169, 2⟩)], [(0, [.d (.int .u64 t_0), .d (.int .u64 t_1), .row 1 (.pair (.int .u8) (.pair (.int .u32) (.int .i64))), .d (.int .i64 t_3), .d (.int .i64 t_4), .d (.int .i64 t_5)]), (1, [.run (.pair (.int .u8) (.pair (.int .u32) (.int .i64))) b1_0])], 2⟩ _
  refine At.step hm ht ⟨[], [], [], [0, 1], [0, 1]⟩ 1 ⟨[(0, .one (.c (.ptr 0 0))), (1, .one (.c (.d (.int .u32 name))))], [(1, some ⟨169, 2⟩)], [(0, [.d (.int .u64 t_0), .d (.int .u64 t_1), .row 1 (.pair (.int .u8) (.pair (.int .u32) (.int .i64))), .d (.int .i64 t_3), .d (.int .i64 t_4), .d (.int .i64 t_5)]), (1, [.run (.pair (.int .u8) (.pair (.int .u32) (.int .i64))) b1_0])], 2⟩ [] (by kernel_rfl) trivial ?_
  obtain ⟨r15_0, cr15_0, h⟩ := bindS h
  refine At.step hm ht ⟨[(2, .call [0, 1] [] (f96_table_Table_find_out r15_0))], [], [], [0, 5], [0, 1]⟩ 2 ⟨[(0, .one (.c (.ptr 0 0))), (5, .one (.c (.d (.int .i64 r15_0.1))))], [(1, some ⟨169, 2⟩)], [(0, [.d (.int .u64 r15_0.2.1), .d (.int .u64 r15_0.2.2.1), .row 1 (.pair (.int .u8) (.pair (.int .u32) (.int .i64))), .d (.int .i64 r15_0.2.2.2.1), .d (.int .i64 r15_0.2.2.2.2.1), .d (.int .i64 r15_0.2.2.2.2.2.1)]), (1, [.run (.pair (.int .u8) (.pair (.int .u32) (.int .i64))) r15_0.2.2.2.2.2.2])], 2⟩ [FnOK Go.Proofs.Try.prog 96 (f96_table_Table_find_in name t_0 t_1 t_3 t_4 t_5 b1_0) (f96_table_Table_find_out r15_0)] (by kernel_rfl) ⟨(f96_table_Table_find_ok n name t_0 t_1 t_3 t_4 t_5 b1_0 r15_0 cr15_0), trivial⟩ ?_
  rcases iteS h with ⟨b105_e0, h⟩ | ⟨b105_e0, h⟩
  · refine At.step hm ht ⟨[], [true], [], [], [0, 1]⟩ 3 ⟨[], [(1, some ⟨169, 2⟩)], [(0, [.d (.int .u64 r15_0.2.1), .d (.int .u64 r15_0.2.2.1), .row 1 (.pair (.int .u8) (.pair (.int .u32) (.int .i64))), .d (.int .i64 r15_0.2.2.2.1), .d (.int .i64 r15_0.2.2.2.2.1), .d (.int .i64 r15_0.2.2.2.2.2.1)]), (1, [.run (.pair (.int .u8) (.pair (.int .u32) (.int .i64))) r15_0.2.2.2.2.2.2])], 2⟩ [(decide ((r15_0.1 : Int) < 0)) = true] (by kernel_rfl) ⟨b105_e0, trivial⟩ ?_
    have h := Option.some.inj h
    subst h
    exact At.fin hm ht ⟨[], [], [], [4], [0, 1]⟩ [] (by kernel_rfl) trivial
  · refine At.step hm ht ⟨[], [false], [], [0, 5], [0, 1]⟩ 4 ⟨[(0, .one (.c (.ptr 0 0))), (5, .one (.c (.d (.int .i64 r15_0.1))))], [(1, some ⟨169, 2⟩)], [(0, [.d (.int .u64 r15_0.2.1), .d (.int .u64 r15_0.2.2.1), .row 1 (.pair (.int .u8) (.pair (.int .u32) (.int .i64))), .d (.int .i64 r15_0.2.2.2.1), .d (.int .i64 r15_0.2.2.2.2.1), .d (.int .i64 r15_0.2.2.2.2.2.1)]), (1, [.run (.pair (.int .u8) (.pair (.int .u32) (.int .i64))) r15_0.2.2.2.2.2.2])], 2⟩ [(decide ((r15_0.1 : Int) < 0)) = false] (by kernel_rfl) ⟨b105_e0, trivial⟩ ?_
    obtain ⟨g107_0, h⟩ := ifS h
    refine At.step hm ht ⟨[], [], [], [0], [0, 1]⟩ 5 ⟨[(0, .one (.c (.ptr 0 0)))], [(1, some ⟨169, 2⟩)], [(0, [.d (.int .u64 r15_0.2.1), .d (.int .u64 r15_0.2.2.1), .row 1 (.pair (.int .u8) (.pair (.int .u32) (.int .i64))), .d (.int .i64 r15_0.2.2.2.1), .d (.int .i64 r15_0.2.2.2.2.1), .d (.int .i64 r15_0.2.2.2.2.2.1)]), (1, [.run (.pair (.int .u8) (.pair (.int .u32) (.int .i64))) (r15_0.2.2.2.2.2.2.set r15_0.1.toNat (2, (0, 0)))])], 2⟩ [(0 : Int) ≤ r15_0.1 ∧ r15_0.1 < (((r15_0.2.2.2.2.2.2).length : Nat) : Int)] (by kernel_rfl) ⟨g107_0, trivial⟩ ?_
    refine At.step hm ht ⟨[], [], [], [], [0, 1]⟩ 6 ⟨[], [(1, some ⟨169, 2⟩)], [(0, [.d (.int .u64 r15_0.2.1), .d (.int .u64 r15_0.2.2.1), .row 1 (.pair (.int .u8) (.pair (.int .u32) (.int .i64))), .d (.int .i64 (IntKind.wrap .i64 (r15_0.2.2.2.1 - 1))), .d (.int .i64 r15_0.2.2.2.2.1), .d (.int .i64 r15_0.2.2.2.2.2.1)]), (1, [.run (.pair (.int .u8) (.pair (.int .u32) (.int .i64))) (r15_0.2.2.2.2.2.2.set r15_0.1.toNat (2, (0, 0)))])], 2⟩ [3 + 1 ≤ 6] (by kernel_rfl) ⟨(by decide), trivial⟩ ?_
    have h := Option.some.inj h
    subst h
    exact At.fin hm ht ⟨[], [], [], [4], [0, 1]⟩ [] (by kernel_rfl) trivial
/-! (*brougham/table.Table).Get -/
def f53_table_Table_Get_in (name : Int) (t_0 : Int) (t_1 : Int) (t_3 : Int) (t_4 : Int) (t_5 : Int) (b1_0 : List (Int × Int × Int)) : Inn := ⟨[.c (.ptr 0 0), .c (.d (.int .u32 name))], [(1, ⟨169, 2⟩)], [(0, [.d (.int .u64 t_0), .d (.int .u64 t_1), .row 1 (.pair (.int .u8) (.pair (.int .u32) (.int .i64))), .d (.int .i64 t_3), .d (.int .i64 t_4), .d (.int .i64 t_5)]), (1, [.run (.pair (.int .u8) (.pair (.int .u32) (.int .i64))) b1_0])], 2⟩
def f53_table_Table_Get_out (r : Int × Bool × Int × Int × Int × Int × Int × List (Int × Int × Int)) : Out := ⟨.tup [.c (.d (.int .i64 r.1)), .c (.d (.bool r.2.1))], [(1, ⟨169, 2⟩)], [(0, [.d (.int .u64 r.2.2.1), .d (.int .u64 r.2.2.2.1), .row 1 (.pair (.int .u8) (.pair (.int .u32) (.int .i64))), .d (.int .i64 r.2.2.2.2.1), .d (.int .i64 r.2.2.2.2.2.1), .d (.int .i64 r.2.2.2.2.2.2.1)]), (1, [.run (.pair (.int .u8) (.pair (.int .u32) (.int .i64))) r.2.2.2.2.2.2.2])], 2⟩
def f53_table_Table_Get (n : Nat) (name : Int) (t_0 : Int) (t_1 : Int) (t_3 : Int) (t_4 : Int) (t_5 : Int) (b1_0 : List (Int × Int × Int)) : Option (Int × Bool × Int × Int × Int × Int × Int × List (Int × Int × Int)) :=
  (f96_table_Table_find n name t_0 t_1 t_3 t_4 t_5 b1_0).bind fun r112_0 =>
  if (decide ((r112_0.1 : Int) < 0)) = true then
    some (0, false, r112_0.2.1, r112_0.2.2.1, r112_0.2.2.2.1, r112_0.2.2.2.2.1, r112_0.2.2.2.2.2.1, r112_0.2.2.2.2.2.2)
  else
    if (0 : Int) ≤ r112_0.1 ∧ r112_0.1 < (((r112_0.2.2.2.2.2.2).length : Nat) : Int) then
    some (((r112_0.2.2.2.2.2.2.getD r112_0.1.toNat (0, (0, 0))).2).2, true, r112_0.2.1, r112_0.2.2.1, r112_0.2.2.2.1, r112_0.2.2.2.2.1, r112_0.2.2.2.2.2.1, r112_0.2.2.2.2.2.2)
    else none
theorem f53_table_Table_Get_ok (n : Nat) (name : Int) (t_0 : Int) (t_1 : Int) (t_3 : Int) (t_4 : Int) (t_5 : Int) (b1_0 : List (Int × Int × Int)) (r : Int × Bool × Int × Int × Int × Int × Int × List (Int × Int × Int)) (h : f53_table_Table_Get n name t_0 t_1 t_3 t_4 t_5 b1_0 = some r) : FnOK Go.Proofs.Try.prog 53 (f53_table_Table_Get_in name t_0 t_1 t_3 t_4 t_5 b1_0) (f53_table_Table_Get_out r) := by
  unfold f53_table_Table_Get at h
  refine At.fn (r := 0) Go.Proofs.Try.func53 rfl (by kernel_rfl) rfl rfl (by kernel_rfl) ?_
  show At Go.Proofs.Try.prog Go.Proofs.Try.f53 2 0 ⟨[(0, .one (.c (.ptr 0 0))), (1, .one (.c (.d (.int .u32 name))))], [(1, some ⟨169, 2⟩)], [(0, [.d (.int .u64 t_0), .d (.int .u64 t_1), .row 1 (.pair (.int .u8) (.pair (.int .u32) (.int .i64))), .d (.int .i64 t_3), .d (.int .i64 t_4), .d (.int .i64 t_5)]), (1, [.run (.pair (.int .u8) (.pair (.int .u32) (.int .i64))) b1_0])], 2⟩ _
  refine At.step hm ht ⟨[], [], [], [0, 1], [0, 1]⟩ 1 ⟨[(0, .one (.c (.ptr 0 0))), (1, .one (.c (.d (.int .u32 name))))], [(1, some ⟨169, 2⟩)], [(0, [.d (.int .u64 t_0), .d (.int .u64 t_1), .row 1 (.pair (.int .u8) (.pair (.int .u32) (.int .i64))), .d (.int .i64 t_3), .d (.int .i64 t_4), .d (.int .i64 t_5)]), (1, [.run (.pair (.int .u8) (.pair (.int .u32) (.int .i64))) b1_0])], 2⟩ [] (by kernel_rfl) trivial ?_
  obtain ⟨r112_0, cr112_0, h⟩ := bindS h
  refine At.step hm ht ⟨[(2, .call [0, 1] [] (f96_table_Table_find_out r112_0))], [], [], [0, 6], [0, 1]⟩ 2 ⟨[(0, .one (.c (.ptr 0 0))), (6, .one (.c (.d (.int .i64 r112_0.1))))], [(1, some ⟨169, 2⟩)], [(0, [.d (.int .u64 r112_0.2.1), .d (.int .u64 r112_0.2.2.1), .row 1 (.pair (.int .u8) (.pair (.int .u32) (.int .i64))), .d (.int .i64 r112_0.2.2.2.1), .d (.int .i64 r112_0.2.2.2.2.1), .d (.int .i64 r112_0.2.2.2.2.2.1)]), (1, [.run (.pair (.int .u8) (.pair (.int .u32) (.int .i64))) r112_0.2.2.2.2.2.2])], 2⟩ [FnOK Go.Proofs.Try.prog 96 (f96_table_Table_find_in name t_0 t_1 t_3 t_4 t_5 b1_0) (f96_table_Table_find_out r112_0)] (by kernel_rfl) ⟨(f96_table_Table_find_ok n name t_0 t_1 t_3 t_4 t_5 b1_0 r112_0 cr112_0), trivial⟩ ?_
  rcases iteS h with ⟨b113_e0, h⟩ | ⟨b113_e0, h⟩
  · refine At.step hm ht ⟨[], [true], [], [], [0, 1]⟩ 3 ⟨[], [(1, some ⟨169, 2⟩)], [(0, [.d (.int .u64 r112_0.2.1), .d (.int .u64 r112_0.2.2.1), .row 1 (.pair (.int .u8) (.pair (.int .u32) (.int .i64))), .d (.int .i64 r112_0.2.2.2.1), .d (.int .i64 r112_0.2.2.2.2.1), .d (.int .i64 r112_0.2.2.2.2.2.1)]), (1, [.run (.pair (.int .u8) (.pair (.int .u32) (.int .i64))) r112_0.2.2.2.2.2.2])], 2⟩ [(decide ((r112_0.1 : Int) < 0)) = true] (by kernel_rfl) ⟨b113_e0, trivial⟩ ?_
    have h := Option.some.inj h
    subst h
    exact At.fin hm ht ⟨[], [], [], [4, 5], [0, 1]⟩ [] (by kernel_rfl) trivial
  · refine At.step hm ht ⟨[], [false], [], [0, 6], [0, 1]⟩ 4 ⟨[(0, .one (.c (.ptr 0 0))), (6, .one (.c (.d (.int .i64 r112_0.1))))], [(1, some ⟨169, 2⟩)], [(0, [.d (.int .u64 r112_0.2.1), .d (.int .u64 r112_0.2.2.1), .row 1 (.pair (.int .u8) (.pair (.int .u32) (.int .i64))), .d (.int .i64 r112_0.2.2.2.1), .d (.int .i64 r112_0.2.2.2.2.1), .d (.int .i64 r112_0.2.2.2.2.2.1)]), (1, [.run (.pair (.int .u8) (.pair (.int .u32) (.int .i64))) r112_0.2.2.2.2.2.2])], 2⟩ [(decide ((r112_0.1 : Int) < 0)) = false] (by kernel_rfl) ⟨b113_e0, trivial⟩ ?_
    obtain ⟨g115_0, h⟩ := ifS h
    have h := Option.some.inj h
    subst h
    exact At.fin hm ht ⟨[], [], [], [4, 5], [0, 1]⟩ [(0 : Int) ≤ r112_0.1 ∧ r112_0.1 < (((r112_0.2.2.2.2.2.2).length : Nat) : Int)] (by kernel_rfl) ⟨g115_0, trivial⟩
/-! (*brougham/table.Table).Len -/
def f54_table_Table_Len_in (t_0 : Int) (t_1 : Int) (t_3 : Int) (t_4 : Int) (t_5 : Int) (b1_0 : List (Int × Int × Int)) : Inn := ⟨[.c (.ptr 0 0)], [(1, ⟨169, 2⟩)], [(0, [.d (.int .u64 t_0), .d (.int .u64 t_1), .row 1 (.pair (.int .u8) (.pair (.int .u32) (.int .i64))), .d (.int .i64 t_3), .d (.int .i64 t_4), .d (.int .i64 t_5)]), (1, [.run (.pair (.int .u8) (.pair (.int .u32) (.int .i64))) b1_0])], 2⟩
def f54_table_Table_Len_out (r : Int × Int × Int × Int × Int × Int × List (Int × Int × Int)) : Out := ⟨.one (.c (.d (.int .i64 r.1))), [(1, ⟨169, 2⟩)], [(0, [.d (.int .u64 r.2.1), .d (.int .u64 r.2.2.1), .row 1 (.pair (.int .u8) (.pair (.int .u32) (.int .i64))), .d (.int .i64 r.2.2.2.1), .d (.int .i64 r.2.2.2.2.1), .d (.int .i64 r.2.2.2.2.2.1)]), (1, [.run (.pair (.int .u8) (.pair (.int .u32) (.int .i64))) r.2.2.2.2.2.2])], 2⟩
def f54_table_Table_Len (t_0 : Int) (t_1 : Int) (t_3 : Int) (t_4 : Int) (t_5 : Int) (b1_0 : List (Int × Int × Int)) : Option (Int × Int × Int × Int × Int × Int × List (Int × Int × Int)) :=
  some (t_3, t_0, t_1, t_3, t_4, t_5, b1_0)
theorem f54_table_Table_Len_ok (t_0 : Int) (t_1 : Int) (t_3 : Int) (t_4 : Int) (t_5 : Int) (b1_0 : List (Int × Int × Int)) (r : Int × Int × Int × Int × Int × Int × List (Int × Int × Int)) (h : f54_table_Table_Len t_0 t_1 t_3 t_4 t_5 b1_0 = some r) : FnOK Go.Proofs.Try.prog 54 (f54_table_Table_Len_in t_0 t_1 t_3 t_4 t_5 b1_0) (f54_table_Table_Len_out r) := by
  unfold f54_table_Table_Len at h
  refine At.fn (r := 0) Go.Proofs.Try.func54 rfl (by kernel_rfl) rfl rfl (by kernel_rfl) ?_
  show At Go.Proofs.Try.prog Go.Proofs.Try.f54 2 0 ⟨[(0, .one (.c (.ptr 0 0)))], [(1, some ⟨169, 2⟩)], [(0, [.d (.int .u64 t_0), .d (.int .u64 t_1), .row 1 (.pair (.int .u8) (.pair (.int .u32) (.int .i64))), .d (.int .i64 t_3), .d (.int .i64 t_4), .d (.int .i64 t_5)]), (1, [.run (.pair (.int .u8) (.pair (.int .u32) (.int .i64))) b1_0])], 2⟩ _
  refine At.step hm ht ⟨[], [], [], [0], [0, 1]⟩ 1 ⟨[(0, .one (.c (.ptr 0 0)))], [(1, some ⟨169, 2⟩)], [(0, [.d (.int .u64 t_0), .d (.int .u64 t_1), .row 1 (.pair (.int .u8) (.pair (.int .u32) (.int .i64))), .d (.int .i64 t_3), .d (.int .i64 t_4), .d (.int .i64 t_5)]), (1, [.run (.pair (.int .u8) (.pair (.int .u32) (.int .i64))) b1_0])], 2⟩ [] (by kernel_rfl) trivial ?_
  have h := Option.some.inj h
  subst h
  exact At.fin hm ht ⟨[], [], [], [2], [0, 1]⟩ [] (by kernel_rfl) trivial
/-! (*brougham/table.Table).lay -/
def f98_table_Table_lay_in (name : Int) (value : Int) (t_0 : Int) (t_1 : Int) (t_3 : Int) (t_4 : Int) (t_5 : Int) (b1_0 : List (Int × Int × Int)) : Inn := ⟨[.c (.ptr 0 0), .c (.d (.int .u32 name)), .c (.d (.int .i64 value))], [(1, ⟨169, 2⟩)], [(0, [.d (.int .u64 t_0), .d (.int .u64 t_1), .row 1 (.pair (.int .u8) (.pair (.int .u32) (.int .i64))), .d (.int .i64 t_3), .d (.int .i64 t_4), .d (.int .i64 t_5)]), (1, [.run (.pair (.int .u8) (.pair (.int .u32) (.int .i64))) b1_0])], 2⟩
def f98_table_Table_lay_out (r : Int × Int × Int × Int × Int × List (Int × Int × Int)) : Out := ⟨.tup [], [(1, ⟨169, 2⟩)], [(0, [.d (.int .u64 r.1), .d (.int .u64 r.2.1), .row 1 (.pair (.int .u8) (.pair (.int .u32) (.int .i64))), .d (.int .i64 r.2.2.1), .d (.int .i64 r.2.2.2.1), .d (.int .i64 r.2.2.2.2.1)]), (1, [.run (.pair (.int .u8) (.pair (.int .u32) (.int .i64))) r.2.2.2.2.2])], 2⟩
def f98_table_Table_lay_L1 : Nat → Int → Int → Int → Int → Int → Int → Int → Int → (List (Int × Int × Int)) → Option (Int × Int × Int × Int × Int × Int × Int × Int × List (Int × Int × Int))
  | 0, _, _, _, _, _, _, _, _, _ => none
  | n + 1, name, value, at_, t_0, t_1, t_3, t_4, t_5, b1_0 =>
    if (0 : Int) ≤ at_ ∧ at_ < (((b1_0).length : Nat) : Int) then
    if ((((b1_0.getD at_.toNat (0, (0, 0))).1) : Int) == 1) = true then
      if (((b1_0.length : Nat) : Int) : Int) ≠ 0 then
      f98_table_Table_lay_L1 n name value (Int.tmod (IntKind.wrap .i64 (at_ + 1)) ((b1_0.length : Nat) : Int)) t_0 t_1 t_3 t_4 t_5 b1_0
      else none
    else
      some ((name, value, at_, t_0, t_1, t_3, t_4, t_5, b1_0))
    else none
def f98_table_Table_lay_L1_k (e : Int × Int × Int × Int × Int × Int × Int × Int × List (Int × Int × Int)) (o : Out) : Prop := At Go.Proofs.Try.prog Go.Proofs.Try.f98 2 3 ⟨[(0, .one (.c (.ptr 0 0))), (1, .one (.c (.d (.int .u32 e.1)))), (2, .one (.c (.d (.int .i64 e.2.1)))), (6, .one (.c (.d (.int .i64 e.2.2.1))))], [(1, some ⟨169, 2⟩)], [(0, [.d (.int .u64 e.2.2.2.1), .d (.int .u64 e.2.2.2.2.1), .row 1 (.pair (.int .u8) (.pair (.int .u32) (.int .i64))), .d (.int .i64 e.2.2.2.2.2.1), .d (.int .i64 e.2.2.2.2.2.2.1), .d (.int .i64 e.2.2.2.2.2.2.2.1)]), (1, [.run (.pair (.int .u8) (.pair (.int .u32) (.int .i64))) e.2.2.2.2.2.2.2.2])], 2⟩ o
theorem f98_table_Table_lay_L1_ok (n : Nat) : ∀ (name : Int) (value : Int) (at_ : Int) (t_0 : Int) (t_1 : Int) (t_3 : Int) (t_4 : Int) (t_5 : Int) (b1_0 : List (Int × Int × Int)) (w : Int × Int × Int × Int × Int × Int × Int × Int × List (Int × Int × Int)) (h : f98_table_Table_lay_L1 n name value at_ t_0 t_1 t_3 t_4 t_5 b1_0 = some w) (o : Out) (hk : f98_table_Table_lay_L1_k w o), At Go.Proofs.Try.prog Go.Proofs.Try.f98 2 1 ⟨[(0, .one (.c (.ptr 0 0))), (1, .one (.c (.d (.int .u32 name)))), (2, .one (.c (.d (.int .i64 value)))), (6, .one (.c (.d (.int .i64 at_))))], [(1, some ⟨169, 2⟩)], [(0, [.d (.int .u64 t_0), .d (.int .u64 t_1), .row 1 (.pair (.int .u8) (.pair (.int .u32) (.int .i64))), .d (.int .i64 t_3), .d (.int .i64 t_4), .d (.int .i64 t_5)]), (1, [.run (.pair (.int .u8) (.pair (.int .u32) (.int .i64))) b1_0])], 2⟩ o := by
  induction n with
  | zero => intro name value at_ t_0 t_1 t_3 t_4 t_5 b1_0 w h; rw [f98_table_Table_lay_L1] at h; cases h
  | succ n ih =>
    intro name value at_ t_0 t_1 t_3 t_4 t_5 b1_0 w h o hk
    rw [f98_table_Table_lay_L1] at h
    obtain ⟨g146_0, h⟩ := ifS h
    rcases iteS h with ⟨b146_e0, h⟩ | ⟨b146_e0, h⟩
    · refine At.step hm ht ⟨[], [true], [], [0, 1, 2, 6], [0, 1]⟩ 2 ⟨[(0, .one (.c (.ptr 0 0))), (1, .one (.c (.d (.int .u32 name)))), (2, .one (.c (.d (.int .i64 value)))), (6, .one (.c (.d (.int .i64 at_))))], [(1, some ⟨169, 2⟩)], [(0, [.d (.int .u64 t_0), .d (.int .u64 t_1), .row 1 (.pair (.int .u8) (.pair (.int .u32) (.int .i64))), .d (.int .i64 t_3), .d (.int .i64 t_4), .d (.int .i64 t_5)]), (1, [.run (.pair (.int .u8) (.pair (.int .u32) (.int .i64))) b1_0])], 2⟩ [(0 : Int) ≤ at_ ∧ at_ < (((b1_0).length : Nat) : Int), ((((b1_0.getD at_.toNat (0, (0, 0))).1) : Int) == 1) = true] (by kernel_rfl) ⟨g146_0, b146_e0, trivial⟩ ?_
      obtain ⟨g147_0, h⟩ := ifS h
      refine At.step hm ht ⟨[], [], [], [0, 1, 2, 6], [0, 1]⟩ 1 ⟨[(0, .one (.c (.ptr 0 0))), (1, .one (.c (.d (.int .u32 name)))), (2, .one (.c (.d (.int .i64 value)))), (6, .one (.c (.d (.int .i64 (Int.tmod (IntKind.wrap .i64 (at_ + 1)) ((b1_0.length : Nat) : Int))))))], [(1, some ⟨169, 2⟩)], [(0, [.d (.int .u64 t_0), .d (.int .u64 t_1), .row 1 (.pair (.int .u8) (.pair (.int .u32) (.int .i64))), .d (.int .i64 t_3), .d (.int .i64 t_4), .d (.int .i64 t_5)]), (1, [.run (.pair (.int .u8) (.pair (.int .u32) (.int .i64))) b1_0])], 2⟩ [(((b1_0.length : Nat) : Int) : Int) ≠ 0] (by kernel_rfl) ⟨g147_0, trivial⟩ ?_
      exact ih name value (Int.tmod (IntKind.wrap .i64 (at_ + 1)) ((b1_0.length : Nat) : Int)) t_0 t_1 t_3 t_4 t_5 b1_0 w h o hk
    · refine At.step hm ht ⟨[], [false], [], [0, 1, 2, 6], [0, 1]⟩ 3 ⟨[(0, .one (.c (.ptr 0 0))), (1, .one (.c (.d (.int .u32 name)))), (2, .one (.c (.d (.int .i64 value)))), (6, .one (.c (.d (.int .i64 at_))))], [(1, some ⟨169, 2⟩)], [(0, [.d (.int .u64 t_0), .d (.int .u64 t_1), .row 1 (.pair (.int .u8) (.pair (.int .u32) (.int .i64))), .d (.int .i64 t_3), .d (.int .i64 t_4), .d (.int .i64 t_5)]), (1, [.run (.pair (.int .u8) (.pair (.int .u32) (.int .i64))) b1_0])], 2⟩ [(0 : Int) ≤ at_ ∧ at_ < (((b1_0).length : Nat) : Int), ((((b1_0.getD at_.toNat (0, (0, 0))).1) : Int) == 1) = false] (by kernel_rfl) ⟨g146_0, b146_e0, trivial⟩ ?_
      have h := Option.some.inj h
      subst h
      exact hk
def f98_table_Table_lay (n : Nat) (name : Int) (value : Int) (t_0 : Int) (t_1 : Int) (t_3 : Int) (t_4 : Int) (t_5 : Int) (b1_0 : List (Int × Int × Int)) : Option (Int × Int × Int × Int × Int × List (Int × Int × Int)) :=
  (f129_table_Table_home n name t_0 t_1 t_3 t_4 t_5 b1_0).bind fun r145_0 =>
  (f98_table_Table_lay_L1 n name value r145_0.1 r145_0.2.1 r145_0.2.2.1 r145_0.2.2.2.1 r145_0.2.2.2.2.1 r145_0.2.2.2.2.2.1 r145_0.2.2.2.2.2.2).bind fun w148 =>
  if (0 : Int) ≤ w148.2.2.1 ∧ w148.2.2.1 < (((w148.2.2.2.2.2.2.2.2).length : Nat) : Int) then
  if ((((w148.2.2.2.2.2.2.2.2.getD w148.2.2.1.toNat (0, (0, 0))).1) : Int) == 0) = true then
    if (0 : Int) ≤ w148.2.2.1 ∧ w148.2.2.1 < (((w148.2.2.2.2.2.2.2.2).length : Nat) : Int) then
    some (w148.2.2.2.1, w148.2.2.2.2.1, (IntKind.wrap .i64 (w148.2.2.2.2.2.1 + 1)), (IntKind.wrap .i64 (w148.2.2.2.2.2.2.1 + 1)), w148.2.2.2.2.2.2.2.1, (w148.2.2.2.2.2.2.2.2.set w148.2.2.1.toNat (1, (w148.1, w148.2.1))))
    else none
  else
    if (0 : Int) ≤ w148.2.2.1 ∧ w148.2.2.1 < (((w148.2.2.2.2.2.2.2.2).length : Nat) : Int) then
    some (w148.2.2.2.1, w148.2.2.2.2.1, (IntKind.wrap .i64 (w148.2.2.2.2.2.1 + 1)), w148.2.2.2.2.2.2.1, w148.2.2.2.2.2.2.2.1, (w148.2.2.2.2.2.2.2.2.set w148.2.2.1.toNat (1, (w148.1, w148.2.1))))
    else none
  else none
theorem f98_table_Table_lay_ok (n : Nat) (name : Int) (value : Int) (t_0 : Int) (t_1 : Int) (t_3 : Int) (t_4 : Int) (t_5 : Int) (b1_0 : List (Int × Int × Int)) (r : Int × Int × Int × Int × Int × List (Int × Int × Int)) (h : f98_table_Table_lay n name value t_0 t_1 t_3 t_4 t_5 b1_0 = some r) : FnOK Go.Proofs.Try.prog 98 (f98_table_Table_lay_in name value t_0 t_1 t_3 t_4 t_5 b1_0) (f98_table_Table_lay_out r) := by
  unfold f98_table_Table_lay at h
  refine At.fn (r := 0) Go.Proofs.Try.func98 rfl (by kernel_rfl) rfl rfl (by kernel_rfl) ?_
  show At Go.Proofs.Try.prog Go.Proofs.Try.f98 2 0 ⟨[(0, .one (.c (.ptr 0 0))), (1, .one (.c (.d (.int .u32 name)))), (2, .one (.c (.d (.int .i64 value))))], [(1, some ⟨169, 2⟩)], [(0, [.d (.int .u64 t_0), .d (.int .u64 t_1), .row 1 (.pair (.int .u8) (.pair (.int .u32) (.int .i64))), .d (.int .i64 t_3), .d (.int .i64 t_4), .d (.int .i64 t_5)]), (1, [.run (.pair (.int .u8) (.pair (.int .u32) (.int .i64))) b1_0])], 2⟩ _
  obtain ⟨r145_0, cr145_0, h⟩ := bindS h
  refine At.step hm ht ⟨[(2, .call [0, 1] [] (f129_table_Table_home_out r145_0))], [], [], [0, 1, 2, 6], [0, 1]⟩ 1 ⟨[(0, .one (.c (.ptr 0 0))), (1, .one (.c (.d (.int .u32 name)))), (2, .one (.c (.d (.int .i64 value)))), (6, .one (.c (.d (.int .i64 r145_0.1))))], [(1, some ⟨169, 2⟩)], [(0, [.d (.int .u64 r145_0.2.1), .d (.int .u64 r145_0.2.2.1), .row 1 (.pair (.int .u8) (.pair (.int .u32) (.int .i64))), .d (.int .i64 r145_0.2.2.2.1), .d (.int .i64 r145_0.2.2.2.2.1), .d (.int .i64 r145_0.2.2.2.2.2.1)]), (1, [.run (.pair (.int .u8) (.pair (.int .u32) (.int .i64))) r145_0.2.2.2.2.2.2])], 2⟩ [FnOK Go.Proofs.Try.prog 129 (f129_table_Table_home_in name t_0 t_1 t_3 t_4 t_5 b1_0) (f129_table_Table_home_out r145_0)] (by kernel_rfl) ⟨(f129_table_Table_home_ok n name t_0 t_1 t_3 t_4 t_5 b1_0 r145_0 cr145_0), trivial⟩ ?_
  obtain ⟨w148, cw148, h⟩ := bindS h
  refine f98_table_Table_lay_L1_ok n name value r145_0.1 r145_0.2.1 r145_0.2.2.1 r145_0.2.2.2.1 r145_0.2.2.2.2.1 r145_0.2.2.2.2.2.1 r145_0.2.2.2.2.2.2 w148 cw148 _ ?_
  show At Go.Proofs.Try.prog Go.Proofs.Try.f98 2 3 ⟨[(0, .one (.c (.ptr 0 0))), (1, .one (.c (.d (.int .u32 w148.1)))), (2, .one (.c (.d (.int .i64 w148.2.1)))), (6, .one (.c (.d (.int .i64 w148.2.2.1))))], [(1, some ⟨169, 2⟩)], [(0, [.d (.int .u64 w148.2.2.2.1), .d (.int .u64 w148.2.2.2.2.1), .row 1 (.pair (.int .u8) (.pair (.int .u32) (.int .i64))), .d (.int .i64 w148.2.2.2.2.2.1), .d (.int .i64 w148.2.2.2.2.2.2.1), .d (.int .i64 w148.2.2.2.2.2.2.2.1)]), (1, [.run (.pair (.int .u8) (.pair (.int .u32) (.int .i64))) w148.2.2.2.2.2.2.2.2])], 2⟩ _
  obtain ⟨g150_0, h⟩ := ifS h
  rcases iteS h with ⟨b150_e0, h⟩ | ⟨b150_e0, h⟩
  · refine At.step hm ht ⟨[], [true], [], [0, 1, 2, 6], [0, 1]⟩ 4 ⟨[(0, .one (.c (.ptr 0 0))), (1, .one (.c (.d (.int .u32 w148.1)))), (2, .one (.c (.d (.int .i64 w148.2.1)))), (6, .one (.c (.d (.int .i64 w148.2.2.1))))], [(1, some ⟨169, 2⟩)], [(0, [.d (.int .u64 w148.2.2.2.1), .d (.int .u64 w148.2.2.2.2.1), .row 1 (.pair (.int .u8) (.pair (.int .u32) (.int .i64))), .d (.int .i64 w148.2.2.2.2.2.1), .d (.int .i64 w148.2.2.2.2.2.2.1), .d (.int .i64 w148.2.2.2.2.2.2.2.1)]), (1, [.run (.pair (.int .u8) (.pair (.int .u32) (.int .i64))) w148.2.2.2.2.2.2.2.2])], 2⟩ [(0 : Int) ≤ w148.2.2.1 ∧ w148.2.2.1 < (((w148.2.2.2.2.2.2.2.2).length : Nat) : Int), ((((w148.2.2.2.2.2.2.2.2.getD w148.2.2.1.toNat (0, (0, 0))).1) : Int) == 0) = true] (by kernel_rfl) ⟨g150_0, b150_e0, trivial⟩ ?_
    refine At.step hm ht ⟨[], [], [], [0, 1, 2, 6], [0, 1]⟩ 5 ⟨[(0, .one (.c (.ptr 0 0))), (1, .one (.c (.d (.int .u32 w148.1)))), (2, .one (.c (.d (.int .i64 w148.2.1)))), (6, .one (.c (.d (.int .i64 w148.2.2.1))))], [(1, some ⟨169, 2⟩)], [(0, [.d (.int .u64 w148.2.2.2.1), .d (.int .u64 w148.2.2.2.2.1), .row 1 (.pair (.int .u8) (.pair (.int .u32) (.int .i64))), .d (.int .i64 w148.2.2.2.2.2.1), .d (.int .i64 (IntKind.wrap .i64 (w148.2.2.2.2.2.2.1 + 1))), .d (.int .i64 w148.2.2.2.2.2.2.2.1)]), (1, [.run (.pair (.int .u8) (.pair (.int .u32) (.int .i64))) w148.2.2.2.2.2.2.2.2])], 2⟩ [4 + 1 ≤ 6] (by kernel_rfl) ⟨(by decide), trivial⟩ ?_
    obtain ⟨g152_0, h⟩ := ifS h
    refine At.step hm ht ⟨[], [], [], [0], [0, 1]⟩ 6 ⟨[(0, .one (.c (.ptr 0 0)))], [(1, some ⟨169, 2⟩)], [(0, [.d (.int .u64 w148.2.2.2.1), .d (.int .u64 w148.2.2.2.2.1), .row 1 (.pair (.int .u8) (.pair (.int .u32) (.int .i64))), .d (.int .i64 w148.2.2.2.2.2.1), .d (.int .i64 (IntKind.wrap .i64 (w148.2.2.2.2.2.2.1 + 1))), .d (.int .i64 w148.2.2.2.2.2.2.2.1)]), (1, [.run (.pair (.int .u8) (.pair (.int .u32) (.int .i64))) (w148.2.2.2.2.2.2.2.2.set w148.2.2.1.toNat (1, (w148.1, w148.2.1)))])], 2⟩ [(0 : Int) ≤ w148.2.2.1 ∧ w148.2.2.1 < (((w148.2.2.2.2.2.2.2.2).length : Nat) : Int)] (by kernel_rfl) ⟨g152_0, trivial⟩ ?_
    have h := Option.some.inj h
    subst h
    exact At.fin hm ht ⟨[], [], [], [], [0, 1]⟩ [3 + 1 ≤ 6] (by kernel_rfl) ⟨(by decide), trivial⟩
  · refine At.step hm ht ⟨[], [false], [], [0, 1, 2, 6], [0, 1]⟩ 5 ⟨[(0, .one (.c (.ptr 0 0))), (1, .one (.c (.d (.int .u32 w148.1)))), (2, .one (.c (.d (.int .i64 w148.2.1)))), (6, .one (.c (.d (.int .i64 w148.2.2.1))))], [(1, some ⟨169, 2⟩)], [(0, [.d (.int .u64 w148.2.2.2.1), .d (.int .u64 w148.2.2.2.2.1), .row 1 (.pair (.int .u8) (.pair (.int .u32) (.int .i64))), .d (.int .i64 w148.2.2.2.2.2.1), .d (.int .i64 w148.2.2.2.2.2.2.1), .d (.int .i64 w148.2.2.2.2.2.2.2.1)]), (1, [.run (.pair (.int .u8) (.pair (.int .u32) (.int .i64))) w148.2.2.2.2.2.2.2.2])], 2⟩ [(0 : Int) ≤ w148.2.2.1 ∧ w148.2.2.1 < (((w148.2.2.2.2.2.2.2.2).length : Nat) : Int), ((((w148.2.2.2.2.2.2.2.2.getD w148.2.2.1.toNat (0, (0, 0))).1) : Int) == 0) = false] (by kernel_rfl) ⟨g150_0, b150_e0, trivial⟩ ?_
    obtain ⟨g154_0, h⟩ := ifS h
    refine At.step hm ht ⟨[], [], [], [0], [0, 1]⟩ 6 ⟨[(0, .one (.c (.ptr 0 0)))], [(1, some ⟨169, 2⟩)], [(0, [.d (.int .u64 w148.2.2.2.1), .d (.int .u64 w148.2.2.2.2.1), .row 1 (.pair (.int .u8) (.pair (.int .u32) (.int .i64))), .d (.int .i64 w148.2.2.2.2.2.1), .d (.int .i64 w148.2.2.2.2.2.2.1), .d (.int .i64 w148.2.2.2.2.2.2.2.1)]), (1, [.run (.pair (.int .u8) (.pair (.int .u32) (.int .i64))) (w148.2.2.2.2.2.2.2.2.set w148.2.2.1.toNat (1, (w148.1, w148.2.1)))])], 2⟩ [(0 : Int) ≤ w148.2.2.1 ∧ w148.2.2.1 < (((w148.2.2.2.2.2.2.2.2).length : Nat) : Int)] (by kernel_rfl) ⟨g154_0, trivial⟩ ?_
    have h := Option.some.inj h
    subst h
    exact At.fin hm ht ⟨[], [], [], [], [0, 1]⟩ [3 + 1 ≤ 6] (by kernel_rfl) ⟨(by decide), trivial⟩
/-! (*brougham/table.Table).grow -/
def f97_table_Table_grow_in (t_0 : Int) (t_1 : Int) (t_3 : Int) (t_4 : Int) (t_5 : Int) (b1_0 : List (Int × Int × Int)) : Inn := ⟨[.c (.ptr 0 0)], [(1, ⟨169, 2⟩)], [(0, [.d (.int .u64 t_0), .d (.int .u64 t_1), .row 1 (.pair (.int .u8) (.pair (.int .u32) (.int .i64))), .d (.int .i64 t_3), .d (.int .i64 t_4), .d (.int .i64 t_5)]), (1, [.run (.pair (.int .u8) (.pair (.int .u32) (.int .i64))) b1_0])], 2⟩
def f97_table_Table_grow_out (r : Int × Int × Int × Int × Int × (List (Int × Int × Int)) × List (Int × Int × Int)) : Out := ⟨.tup [], [(1, ⟨169, 2⟩), (2, ⟨169, 2⟩)], [(0, [.d (.int .u64 r.1), .d (.int .u64 r.2.1), .row 2 (.pair (.int .u8) (.pair (.int .u32) (.int .i64))), .d (.int .i64 r.2.2.1), .d (.int .i64 r.2.2.2.1), .d (.int .i64 r.2.2.2.2.1)]), (1, [.run (.pair (.int .u8) (.pair (.int .u32) (.int .i64))) r.2.2.2.2.2.1]), (2, [.run (.pair (.int .u8) (.pair (.int .u32) (.int .i64))) r.2.2.2.2.2.2])], 3⟩
def f97_table_Table_grow_L6 : Nat → Int → Int → Int → Int → Int → Int → Int → (List (Int × Int × Int)) → (List (Int × Int × Int)) → Option (Int × Int × Int × Int × Int × (List (Int × Int × Int)) × List (Int × Int × Int))
  | 0, _, _, _, _, _, _, _, _, _ => none
  | n + 1, t34, t35, t_0, t_1, t_3, t_4, t_5, b1_0, b2_0 =>
    if (decide ((t35 : Int) < t34)) = true then
      if (0 : Int) ≤ t35 ∧ t35 < (((b1_0).length : Nat) : Int) then
      if ((((b1_0.getD t35.toNat (0, (0, 0))).1) : Int) == 1) = true then
        (f98_table_Table_lay n (((b1_0.getD t35.toNat (0, (0, 0))).2).1) (((b1_0.getD t35.toNat (0, (0, 0))).2).2) t_0 t_1 t_3 t_4 t_5 b2_0).bind fun r144_0 =>
        f97_table_Table_grow_L6 n t34 (IntKind.wrap .i64 (t35 + 1)) r144_0.1 r144_0.2.1 r144_0.2.2.1 r144_0.2.2.2.1 r144_0.2.2.2.2.1 b1_0 r144_0.2.2.2.2.2
      else
        f97_table_Table_grow_L6 n t34 (IntKind.wrap .i64 (t35 + 1)) t_0 t_1 t_3 t_4 t_5 b1_0 b2_0
      else none
    else
      some ((t_0, t_1, t_3, t_4, t_5, b1_0, b2_0))
def f97_table_Table_grow_L6_k (e : Int × Int × Int × Int × Int × (List (Int × Int × Int)) × List (Int × Int × Int)) (o : Out) : Prop := o = f97_table_Table_grow_out e
theorem f97_table_Table_grow_L6_ok (n : Nat) : ∀ (t34 : Int) (t35 : Int) (t_0 : Int) (t_1 : Int) (t_3 : Int) (t_4 : Int) (t_5 : Int) (b1_0 : List (Int × Int × Int)) (b2_0 : List (Int × Int × Int)) (w : Int × Int × Int × Int × Int × (List (Int × Int × Int)) × List (Int × Int × Int)) (h : f97_table_Table_grow_L6 n t34 t35 t_0 t_1 t_3 t_4 t_5 b1_0 b2_0 = some w) (o : Out) (hk : f97_table_Table_grow_L6_k w o), At Go.Proofs.Try.prog Go.Proofs.Try.f97 2 6 ⟨[(0, .one (.c (.ptr 0 0))), (33, .one (.c (.row 1 (.pair (.int .u8) (.pair (.int .u32) (.int .i64)))))), (34, .one (.c (.d (.int .i64 t34)))), (35, .one (.c (.d (.int .i64 t35))))], [(1, some ⟨169, 2⟩), (2, some ⟨169, 2⟩)], [(0, [.d (.int .u64 t_0), .d (.int .u64 t_1), .row 2 (.pair (.int .u8) (.pair (.int .u32) (.int .i64))), .d (.int .i64 t_3), .d (.int .i64 t_4), .d (.int .i64 t_5)]), (1, [.run (.pair (.int .u8) (.pair (.int .u32) (.int .i64))) b1_0]), (2, [.run (.pair (.int .u8) (.pair (.int .u32) (.int .i64))) b2_0])], 3⟩ o := by
  induction n with
  | zero => intro t34 t35 t_0 t_1 t_3 t_4 t_5 b1_0 b2_0 w h; rw [f97_table_Table_grow_L6] at h; cases h
  | succ n ih =>
    intro t34 t35 t_0 t_1 t_3 t_4 t_5 b1_0 b2_0 w h o hk
    rw [f97_table_Table_grow_L6] at h
    rcases iteS h with ⟨b141_e0, h⟩ | ⟨b141_e0, h⟩
    · refine At.step hm ht ⟨[], [true], [], [0, 33, 34, 35], [0, 1, 2]⟩ 7 ⟨[(0, .one (.c (.ptr 0 0))), (33, .one (.c (.row 1 (.pair (.int .u8) (.pair (.int .u32) (.int .i64)))))), (34, .one (.c (.d (.int .i64 t34)))), (35, .one (.c (.d (.int .i64 t35))))], [(1, some ⟨169, 2⟩), (2, some ⟨169, 2⟩)], [(0, [.d (.int .u64 t_0), .d (.int .u64 t_1), .row 2 (.pair (.int .u8) (.pair (.int .u32) (.int .i64))), .d (.int .i64 t_3), .d (.int .i64 t_4), .d (.int .i64 t_5)]), (1, [.run (.pair (.int .u8) (.pair (.int .u32) (.int .i64))) b1_0]), (2, [.run (.pair (.int .u8) (.pair (.int .u32) (.int .i64))) b2_0])], 3⟩ [(decide ((t35 : Int) < t34)) = true] (by kernel_rfl) ⟨b141_e0, trivial⟩ ?_
      obtain ⟨g142_0, h⟩ := ifS h
      refine At.step hm ht ⟨[], [], [], [0, 5, 33, 34, 35], [0, 1, 5, 2]⟩ 8 ⟨[(0, .one (.c (.ptr 0 0))), (5, .one (.c (.ptr 2 0))), (33, .one (.c (.row 1 (.pair (.int .u8) (.pair (.int .u32) (.int .i64)))))), (34, .one (.c (.d (.int .i64 t34)))), (35, .one (.c (.d (.int .i64 t35))))], [(1, some ⟨169, 2⟩), (3, some ⟨169, 2⟩)], [(0, [.d (.int .u64 t_0), .d (.int .u64 t_1), .row 3 (.pair (.int .u8) (.pair (.int .u32) (.int .i64))), .d (.int .i64 t_3), .d (.int .i64 t_4), .d (.int .i64 t_5)]), (1, [.run (.pair (.int .u8) (.pair (.int .u32) (.int .i64))) b1_0]), (2, [.d (.int .u8 ((b1_0.getD t35.toNat (0, (0, 0))).1)), .d (.int .u32 (((b1_0.getD t35.toNat (0, (0, 0))).2).1)), .d (.int .i64 (((b1_0.getD t35.toNat (0, (0, 0))).2).2))]), (3, [.run (.pair (.int .u8) (.pair (.int .u32) (.int .i64))) b2_0])], 4⟩ [(0 : Int) ≤ t35 ∧ t35 < (((b1_0).length : Nat) : Int), 0 + 3 ≤ 3] (by kernel_rfl) ⟨g142_0, (by decide), trivial⟩ ?_
      rcases iteS h with ⟨b143_e0, h⟩ | ⟨b143_e0, h⟩
      · refine At.step hm ht ⟨[], [true], [], [0, 5, 33, 34, 35], [0, 1, 2, 3]⟩ 9 ⟨[(0, .one (.c (.ptr 0 0))), (5, .one (.c (.ptr 2 0))), (33, .one (.c (.row 1 (.pair (.int .u8) (.pair (.int .u32) (.int .i64)))))), (34, .one (.c (.d (.int .i64 t34)))), (35, .one (.c (.d (.int .i64 t35))))], [(1, some ⟨169, 2⟩), (3, some ⟨169, 2⟩)], [(0, [.d (.int .u64 t_0), .d (.int .u64 t_1), .row 3 (.pair (.int .u8) (.pair (.int .u32) (.int .i64))), .d (.int .i64 t_3), .d (.int .i64 t_4), .d (.int .i64 t_5)]), (1, [.run (.pair (.int .u8) (.pair (.int .u32) (.int .i64))) b1_0]), (2, [.d (.int .u8 ((b1_0.getD t35.toNat (0, (0, 0))).1)), .d (.int .u32 (((b1_0.getD t35.toNat (0, (0, 0))).2).1)), .d (.int .i64 (((b1_0.getD t35.toNat (0, (0, 0))).2).2))]), (3, [.run (.pair (.int .u8) (.pair (.int .u32) (.int .i64))) b2_0])], 4⟩ [((((b1_0.getD t35.toNat (0, (0, 0))).1) : Int) == 1) = true] (by kernel_rfl) ⟨b143_e0, trivial⟩ ?_
        obtain ⟨r144_0, cr144_0, h⟩ := bindS h
        refine At.step hm ht ⟨[(5, .call [0, 3] [] (f98_table_Table_lay_out r144_0))], [], [], [0, 33, 34, 35], [0, 1, 3]⟩ 10 ⟨[(0, .one (.c (.ptr 0 0))), (33, .one (.c (.row 1 (.pair (.int .u8) (.pair (.int .u32) (.int .i64)))))), (34, .one (.c (.d (.int .i64 t34)))), (35, .one (.c (.d (.int .i64 t35))))], [(1, some ⟨169, 2⟩), (2, some ⟨169, 2⟩)], [(0, [.d (.int .u64 r144_0.1), .d (.int .u64 r144_0.2.1), .row 2 (.pair (.int .u8) (.pair (.int .u32) (.int .i64))), .d (.int .i64 r144_0.2.2.1), .d (.int .i64 r144_0.2.2.2.1), .d (.int .i64 r144_0.2.2.2.2.1)]), (1, [.run (.pair (.int .u8) (.pair (.int .u32) (.int .i64))) b1_0]), (2, [.run (.pair (.int .u8) (.pair (.int .u32) (.int .i64))) r144_0.2.2.2.2.2])], 3⟩ [FnOK Go.Proofs.Try.prog 98 (f98_table_Table_lay_in (((b1_0.getD t35.toNat (0, (0, 0))).2).1) (((b1_0.getD t35.toNat (0, (0, 0))).2).2) t_0 t_1 t_3 t_4 t_5 b2_0) (f98_table_Table_lay_out r144_0)] (by kernel_rfl) ⟨(f98_table_Table_lay_ok n (((b1_0.getD t35.toNat (0, (0, 0))).2).1) (((b1_0.getD t35.toNat (0, (0, 0))).2).2) t_0 t_1 t_3 t_4 t_5 b2_0 r144_0 cr144_0), trivial⟩ ?_
        refine At.step hm ht ⟨[], [], [], [0, 33, 34, 35], [0, 1, 2]⟩ 6 ⟨[(0, .one (.c (.ptr 0 0))), (33, .one (.c (.row 1 (.pair (.int .u8) (.pair (.int .u32) (.int .i64)))))), (34, .one (.c (.d (.int .i64 t34)))), (35, .one (.c (.d (.int .i64 (IntKind.wrap .i64 (t35 + 1))))))], [(1, some ⟨169, 2⟩), (2, some ⟨169, 2⟩)], [(0, [.d (.int .u64 r144_0.1), .d (.int .u64 r144_0.2.1), .row 2 (.pair (.int .u8) (.pair (.int .u32) (.int .i64))), .d (.int .i64 r144_0.2.2.1), .d (.int .i64 r144_0.2.2.2.1), .d (.int .i64 r144_0.2.2.2.2.1)]), (1, [.run (.pair (.int .u8) (.pair (.int .u32) (.int .i64))) b1_0]), (2, [.run (.pair (.int .u8) (.pair (.int .u32) (.int .i64))) r144_0.2.2.2.2.2])], 3⟩ [] (by kernel_rfl) trivial ?_
        exact ih t34 (IntKind.wrap .i64 (t35 + 1)) r144_0.1 r144_0.2.1 r144_0.2.2.1 r144_0.2.2.2.1 r144_0.2.2.2.2.1 b1_0 r144_0.2.2.2.2.2 w h o hk
      · refine At.step hm ht ⟨[], [false], [], [0, 33, 34, 35], [0, 1, 3]⟩ 10 ⟨[(0, .one (.c (.ptr 0 0))), (33, .one (.c (.row 1 (.pair (.int .u8) (.pair (.int .u32) (.int .i64)))))), (34, .one (.c (.d (.int .i64 t34)))), (35, .one (.c (.d (.int .i64 t35))))], [(1, some ⟨169, 2⟩), (2, some ⟨169, 2⟩)], [(0, [.d (.int .u64 t_0), .d (.int .u64 t_1), .row 2 (.pair (.int .u8) (.pair (.int .u32) (.int .i64))), .d (.int .i64 t_3), .d (.int .i64 t_4), .d (.int .i64 t_5)]), (1, [.run (.pair (.int .u8) (.pair (.int .u32) (.int .i64))) b1_0]), (2, [.run (.pair (.int .u8) (.pair (.int .u32) (.int .i64))) b2_0])], 3⟩ [((((b1_0.getD t35.toNat (0, (0, 0))).1) : Int) == 1) = false] (by kernel_rfl) ⟨b143_e0, trivial⟩ ?_
        refine At.step hm ht ⟨[], [], [], [0, 33, 34, 35], [0, 1, 2]⟩ 6 ⟨[(0, .one (.c (.ptr 0 0))), (33, .one (.c (.row 1 (.pair (.int .u8) (.pair (.int .u32) (.int .i64)))))), (34, .one (.c (.d (.int .i64 t34)))), (35, .one (.c (.d (.int .i64 (IntKind.wrap .i64 (t35 + 1))))))], [(1, some ⟨169, 2⟩), (2, some ⟨169, 2⟩)], [(0, [.d (.int .u64 t_0), .d (.int .u64 t_1), .row 2 (.pair (.int .u8) (.pair (.int .u32) (.int .i64))), .d (.int .i64 t_3), .d (.int .i64 t_4), .d (.int .i64 t_5)]), (1, [.run (.pair (.int .u8) (.pair (.int .u32) (.int .i64))) b1_0]), (2, [.run (.pair (.int .u8) (.pair (.int .u32) (.int .i64))) b2_0])], 3⟩ [] (by kernel_rfl) trivial ?_
        exact ih t34 (IntKind.wrap .i64 (t35 + 1)) t_0 t_1 t_3 t_4 t_5 b1_0 b2_0 w h o hk
    · have h := Option.some.inj h
      subst h
      have hk : o = f97_table_Table_grow_out (t_0, t_1, t_3, t_4, t_5, b1_0, b2_0) := hk
      subst hk
      exact At.fin hm ht ⟨[], [false], [], [], [0, 1, 2]⟩ [(decide ((t35 : Int) < t34)) = false] (by kernel_rfl) ⟨b141_e0, trivial⟩
def f97_table_Table_grow (n : Nat) (t_0 : Int) (t_1 : Int) (t_3 : Int) (t_4 : Int) (t_5 : Int) (b1_0 : List (Int × Int × Int)) : Option (Int × Int × Int × Int × Int × (List (Int × Int × Int)) × List (Int × Int × Int)) :=
  if (decide (((IntKind.wrap .i64 (2 * (IntKind.wrap .i64 (t_3 + 1)))) : Int) > ((b1_0.length : Nat) : Int))) = true then
    if (((IntKind.wrap .i64 (((b1_0.length : Nat) : Int) * 2)) : Int) = (IntKind.wrap .i64 (((b1_0.length : Nat) : Int) * 2)) ∧ (0 : Int) ≤ (IntKind.wrap .i64 (((b1_0.length : Nat) : Int) * 2))) ∧ ((IntKind.wrap .i64 (((b1_0.length : Nat) : Int) * 2)).toNat * 3 ≤ 16777216 ∧ (IntKind.wrap .i64 (((b1_0.length : Nat) : Int) * 2)).toNat * 16 ≤ 16777216) then
    (f97_table_Table_grow_L6 n ((b1_0.length : Nat) : Int) 0 t_0 t_1 0 0 t_5 b1_0 (List.replicate (IntKind.wrap .i64 (((b1_0.length : Nat) : Int) * 2)).toNat (0, (0, 0)))).bind fun w158 =>
    some (w158.1, w158.2.1, w158.2.2.1, w158.2.2.2.1, w158.2.2.2.2.1, w158.2.2.2.2.2.1, w158.2.2.2.2.2.2)
    else none
  else
    if ((((b1_0.length : Nat) : Int) : Int) = ((b1_0.length : Nat) : Int) ∧ (0 : Int) ≤ ((b1_0.length : Nat) : Int)) ∧ (((b1_0.length : Nat) : Int).toNat * 3 ≤ 16777216 ∧ ((b1_0.length : Nat) : Int).toNat * 16 ≤ 16777216) then
    (f97_table_Table_grow_L6 n ((b1_0.length : Nat) : Int) 0 t_0 t_1 0 0 t_5 b1_0 (List.replicate ((b1_0.length : Nat) : Int).toNat (0, (0, 0)))).bind fun w162 =>
    some (w162.1, w162.2.1, w162.2.2.1, w162.2.2.2.1, w162.2.2.2.2.1, w162.2.2.2.2.2.1, w162.2.2.2.2.2.2)
    else none
theorem f97_table_Table_grow_ok (n : Nat) (t_0 : Int) (t_1 : Int) (t_3 : Int) (t_4 : Int) (t_5 : Int) (b1_0 : List (Int × Int × Int)) (r : Int × Int × Int × Int × Int × (List (Int × Int × Int)) × List (Int × Int × Int)) (h : f97_table_Table_grow n t_0 t_1 t_3 t_4 t_5 b1_0 = some r) : FnOK Go.Proofs.Try.prog 97 (f97_table_Table_grow_in t_0 t_1 t_3 t_4 t_5 b1_0) (f97_table_Table_grow_out r) := by
  unfold f97_table_Table_grow at h
  refine At.fn (r := 0) Go.Proofs.Try.func97 rfl (by kernel_rfl) rfl rfl (by kernel_rfl) ?_
  show At Go.Proofs.Try.prog Go.Proofs.Try.f97 2 0 ⟨[(0, .one (.c (.ptr 0 0)))], [(1, some ⟨169, 2⟩)], [(0, [.d (.int .u64 t_0), .d (.int .u64 t_1), .row 1 (.pair (.int .u8) (.pair (.int .u32) (.int .i64))), .d (.int .i64 t_3), .d (.int .i64 t_4), .d (.int .i64 t_5)]), (1, [.run (.pair (.int .u8) (.pair (.int .u32) (.int .i64))) b1_0])], 2⟩ _
  refine At.step hm ht ⟨[], [], [], [0, 2], [0, 1]⟩ 1 ⟨[(0, .one (.c (.ptr 0 0))), (2, .one (.c (.row 1 (.pair (.int .u8) (.pair (.int .u32) (.int .i64))))))], [(1, some ⟨169, 2⟩)], [(0, [.d (.int .u64 t_0), .d (.int .u64 t_1), .row 1 (.pair (.int .u8) (.pair (.int .u32) (.int .i64))), .d (.int .i64 t_3), .d (.int .i64 t_4), .d (.int .i64 t_5)]), (1, [.run (.pair (.int .u8) (.pair (.int .u32) (.int .i64))) b1_0])], 2⟩ [] (by kernel_rfl) trivial ?_
  refine At.step hm ht ⟨[], [], [], [0, 2, 3], [0, 1]⟩ 2 ⟨[(0, .one (.c (.ptr 0 0))), (2, .one (.c (.row 1 (.pair (.int .u8) (.pair (.int .u32) (.int .i64)))))), (3, .one (.c (.d (.int .i64 ((b1_0.length : Nat) : Int)))))], [(1, some ⟨169, 2⟩)], [(0, [.d (.int .u64 t_0), .d (.int .u64 t_1), .row 1 (.pair (.int .u8) (.pair (.int .u32) (.int .i64))), .d (.int .i64 t_3), .d (.int .i64 t_4), .d (.int .i64 t_5)]), (1, [.run (.pair (.int .u8) (.pair (.int .u32) (.int .i64))) b1_0])], 2⟩ [] (by kernel_rfl) trivial ?_
  rcases iteS h with ⟨b137_e0, h⟩ | ⟨b137_e0, h⟩
  · refine At.step hm ht ⟨[], [true], [], [0, 2, 3], [0, 1]⟩ 3 ⟨[(0, .one (.c (.ptr 0 0))), (2, .one (.c (.row 1 (.pair (.int .u8) (.pair (.int .u32) (.int .i64)))))), (3, .one (.c (.d (.int .i64 ((b1_0.length : Nat) : Int)))))], [(1, some ⟨169, 2⟩)], [(0, [.d (.int .u64 t_0), .d (.int .u64 t_1), .row 1 (.pair (.int .u8) (.pair (.int .u32) (.int .i64))), .d (.int .i64 t_3), .d (.int .i64 t_4), .d (.int .i64 t_5)]), (1, [.run (.pair (.int .u8) (.pair (.int .u32) (.int .i64))) b1_0])], 2⟩ [(decide (((IntKind.wrap .i64 (2 * (IntKind.wrap .i64 (t_3 + 1)))) : Int) > ((b1_0.length : Nat) : Int))) = true] (by kernel_rfl) ⟨b137_e0, trivial⟩ ?_
    refine At.step hm ht ⟨[], [], [], [0, 2, 3], [0, 1]⟩ 4 ⟨[(0, .one (.c (.ptr 0 0))), (2, .one (.c (.row 1 (.pair (.int .u8) (.pair (.int .u32) (.int .i64)))))), (3, .one (.c (.d (.int .i64 (IntKind.wrap .i64 (((b1_0.length : Nat) : Int) * 2))))))], [(1, some ⟨169, 2⟩)], [(0, [.d (.int .u64 t_0), .d (.int .u64 t_1), .row 1 (.pair (.int .u8) (.pair (.int .u32) (.int .i64))), .d (.int .i64 t_3), .d (.int .i64 t_4), .d (.int .i64 t_5)]), (1, [.run (.pair (.int .u8) (.pair (.int .u32) (.int .i64))) b1_0])], 2⟩ [] (by kernel_rfl) trivial ?_
    obtain ⟨g139_0, h⟩ := ifS h
    refine At.step hm ht ⟨[(4, .row)], [], [], [0, 2], [0, 1, 6]⟩ 5 ⟨[(0, .one (.c (.ptr 0 0))), (2, .one (.c (.row 1 (.pair (.int .u8) (.pair (.int .u32) (.int .i64))))))], [(1, some ⟨169, 2⟩), (2, some ⟨169, 2⟩)], [(0, [.d (.int .u64 t_0), .d (.int .u64 t_1), .row 2 (.pair (.int .u8) (.pair (.int .u32) (.int .i64))), .d (.int .i64 0), .d (.int .i64 0), .d (.int .i64 t_5)]), (1, [.run (.pair (.int .u8) (.pair (.int .u32) (.int .i64))) b1_0]), (2, [.run (.pair (.int .u8) (.pair (.int .u32) (.int .i64))) ((List.replicate (IntKind.wrap .i64 (((b1_0.length : Nat) : Int) * 2)).toNat (0, (0, 0))) : List (Int × Int × Int))])], 3⟩ [(((IntKind.wrap .i64 (((b1_0.length : Nat) : Int) * 2)) : Int) = (IntKind.wrap .i64 (((b1_0.length : Nat) : Int) * 2)) ∧ (0 : Int) ≤ (IntKind.wrap .i64 (((b1_0.length : Nat) : Int) * 2))) ∧ ((IntKind.wrap .i64 (((b1_0.length : Nat) : Int) * 2)).toNat * 3 ≤ 16777216 ∧ (IntKind.wrap .i64 (((b1_0.length : Nat) : Int) * 2)).toNat * 16 ≤ 16777216), 2 + 1 ≤ 6, 3 + 1 ≤ 6, 4 + 1 ≤ 6] (by kernel_rfl) ⟨g139_0, (by decide), (by decide), (by decide), trivial⟩ ?_
    refine At.step hm ht ⟨[], [], [], [0, 33, 34, 35], [0, 1, 2]⟩ 6 ⟨[(0, .one (.c (.ptr 0 0))), (33, .one (.c (.row 1 (.pair (.int .u8) (.pair (.int .u32) (.int .i64)))))), (34, .one (.c (.d (.int .i64 ((b1_0.length : Nat) : Int))))), (35, .one (.c (.d (.int .i64 0))))], [(1, some ⟨169, 2⟩), (2, some ⟨169, 2⟩)], [(0, [.d (.int .u64 t_0), .d (.int .u64 t_1), .row 2 (.pair (.int .u8) (.pair (.int .u32) (.int .i64))), .d (.int .i64 0), .d (.int .i64 0), .d (.int .i64 t_5)]), (1, [.run (.pair (.int .u8) (.pair (.int .u32) (.int .i64))) b1_0]), (2, [.run (.pair (.int .u8) (.pair (.int .u32) (.int .i64))) ((List.replicate (IntKind.wrap .i64 (((b1_0.length : Nat) : Int) * 2)).toNat (0, (0, 0))) : List (Int × Int × Int))])], 3⟩ [] (by kernel_rfl) trivial ?_
    obtain ⟨w158, cw158, h⟩ := bindS h
    refine f97_table_Table_grow_L6_ok n ((b1_0.length : Nat) : Int) 0 t_0 t_1 0 0 t_5 b1_0 (List.replicate (IntKind.wrap .i64 (((b1_0.length : Nat) : Int) * 2)).toNat (0, (0, 0))) w158 cw158 _ ?_
    have h := Option.some.inj h
    subst h
    rfl
  · refine At.step hm ht ⟨[], [false], [], [0, 2, 3], [0, 1]⟩ 4 ⟨[(0, .one (.c (.ptr 0 0))), (2, .one (.c (.row 1 (.pair (.int .u8) (.pair (.int .u32) (.int .i64)))))), (3, .one (.c (.d (.int .i64 ((b1_0.length : Nat) : Int)))))], [(1, some ⟨169, 2⟩)], [(0, [.d (.int .u64 t_0), .d (.int .u64 t_1), .row 1 (.pair (.int .u8) (.pair (.int .u32) (.int .i64))), .d (.int .i64 t_3), .d (.int .i64 t_4), .d (.int .i64 t_5)]), (1, [.run (.pair (.int .u8) (.pair (.int .u32) (.int .i64))) b1_0])], 2⟩ [(decide (((IntKind.wrap .i64 (2 * (IntKind.wrap .i64 (t_3 + 1)))) : Int) > ((b1_0.length : Nat) : Int))) = false] (by kernel_rfl) ⟨b137_e0, trivial⟩ ?_
    obtain ⟨g160_0, h⟩ := ifS h
    refine At.step hm ht ⟨[(4, .row)], [], [], [0, 2], [0, 1, 6]⟩ 5 ⟨[(0, .one (.c (.ptr 0 0))), (2, .one (.c (.row 1 (.pair (.int .u8) (.pair (.int .u32) (.int .i64))))))], [(1, some ⟨169, 2⟩), (2, some ⟨169, 2⟩)], [(0, [.d (.int .u64 t_0), .d (.int .u64 t_1), .row 2 (.pair (.int .u8) (.pair (.int .u32) (.int .i64))), .d (.int .i64 0), .d (.int .i64 0), .d (.int .i64 t_5)]), (1, [.run (.pair (.int .u8) (.pair (.int .u32) (.int .i64))) b1_0]), (2, [.run (.pair (.int .u8) (.pair (.int .u32) (.int .i64))) ((List.replicate ((b1_0.length : Nat) : Int).toNat (0, (0, 0))) : List (Int × Int × Int))])], 3⟩ [((((b1_0.length : Nat) : Int) : Int) = ((b1_0.length : Nat) : Int) ∧ (0 : Int) ≤ ((b1_0.length : Nat) : Int)) ∧ (((b1_0.length : Nat) : Int).toNat * 3 ≤ 16777216 ∧ ((b1_0.length : Nat) : Int).toNat * 16 ≤ 16777216), 2 + 1 ≤ 6, 3 + 1 ≤ 6, 4 + 1 ≤ 6] (by kernel_rfl) ⟨g160_0, (by decide), (by decide), (by decide), trivial⟩ ?_
    refine At.step hm ht ⟨[], [], [], [0, 33, 34, 35], [0, 1, 2]⟩ 6 ⟨[(0, .one (.c (.ptr 0 0))), (33, .one (.c (.row 1 (.pair (.int .u8) (.pair (.int .u32) (.int .i64)))))), (34, .one (.c (.d (.int .i64 ((b1_0.length : Nat) : Int))))), (35, .one (.c (.d (.int .i64 0))))], [(1, some ⟨169, 2⟩), (2, some ⟨169, 2⟩)], [(0, [.d (.int .u64 t_0), .d (.int .u64 t_1), .row 2 (.pair (.int .u8) (.pair (.int .u32) (.int .i64))), .d (.int .i64 0), .d (.int .i64 0), .d (.int .i64 t_5)]), (1, [.run (.pair (.int .u8) (.pair (.int .u32) (.int .i64))) b1_0]), (2, [.run (.pair (.int .u8) (.pair (.int .u32) (.int .i64))) ((List.replicate ((b1_0.length : Nat) : Int).toNat (0, (0, 0))) : List (Int × Int × Int))])], 3⟩ [] (by kernel_rfl) trivial ?_
    obtain ⟨w162, cw162, h⟩ := bindS h
    refine f97_table_Table_grow_L6_ok n ((b1_0.length : Nat) : Int) 0 t_0 t_1 0 0 t_5 b1_0 (List.replicate ((b1_0.length : Nat) : Int).toNat (0, (0, 0))) w162 cw162 _ ?_
    have h := Option.some.inj h
    subst h
    rfl
/-! (*brougham/table.Table).Put -/
def f52_table_Table_Put_in (name : Int) (value : Int) (t_0 : Int) (t_1 : Int) (t_3 : Int) (t_4 : Int) (t_5 : Int) (b1_0 : List (Int × Int × Int)) : Inn := ⟨[.c (.ptr 0 0), .c (.d (.int .u32 name)), .c (.d (.int .i64 value))], [(1, ⟨169, 2⟩)], [(0, [.d (.int .u64 t_0), .d (.int .u64 t_1), .row 1 (.pair (.int .u8) (.pair (.int .u32) (.int .i64))), .d (.int .i64 t_3), .d (.int .i64 t_4), .d (.int .i64 t_5)]), (1, [.run (.pair (.int .u8) (.pair (.int .u32) (.int .i64))) b1_0])], 2⟩
def f52_table_Table_Put_out (r : Bool × Int × Int × Int × Int × Int × (List (Int × Int × Int)) × List (Int × Int × Int)) : Out := ⟨.one (.c (.d (.bool r.1))), [(2, ⟨169, 2⟩)], [(0, [.d (.int .u64 r.2.1), .d (.int .u64 r.2.2.1), .row 2 (.pair (.int .u8) (.pair (.int .u32) (.int .i64))), .d (.int .i64 r.2.2.2.1), .d (.int .i64 r.2.2.2.2.1), .d (.int .i64 r.2.2.2.2.2.1)]), (1, [.run (.pair (.int .u8) (.pair (.int .u32) (.int .i64))) r.2.2.2.2.2.2.1]), (2, [.run (.pair (.int .u8) (.pair (.int .u32) (.int .i64))) r.2.2.2.2.2.2.2])], 3⟩
def f52_table_Table_Put (n : Nat) (name : Int) (value : Int) (t_0 : Int) (t_1 : Int) (t_3 : Int) (t_4 : Int) (t_5 : Int) (b1_0 : List (Int × Int × Int)) : Option (Bool × Int × Int × Int × Int × Int × (List (Int × Int × Int)) × List (Int × Int × Int)) :=
  (f96_table_Table_find n name t_0 t_1 t_3 t_4 t_5 b1_0).bind fun r167_0 =>
  if (decide ((r167_0.1 : Int) ≥ 0)) = true then
    if (0 : Int) ≤ r167_0.1 ∧ r167_0.1 < (((r167_0.2.2.2.2.2.2).length : Nat) : Int) then
    some (true, r167_0.2.1, r167_0.2.2.1, r167_0.2.2.2.1, r167_0.2.2.2.2.1, r167_0.2.2.2.2.2.1, (r167_0.2.2.2.2.2.2.set r167_0.1.toNat ((r167_0.2.2.2.2.2.2.getD r167_0.1.toNat (0, (0, 0))).1, (((r167_0.2.2.2.2.2.2.getD r167_0.1.toNat (0, (0, 0))).2).1, value))), (r167_0.2.2.2.2.2.2.set r167_0.1.toNat ((r167_0.2.2.2.2.2.2.getD r167_0.1.toNat (0, (0, 0))).1, (((r167_0.2.2.2.2.2.2.getD r167_0.1.toNat (0, (0, 0))).2).1, value))))
    else none
  else
    if (decide ((r167_0.2.2.2.1 : Int) ≥ r167_0.2.2.2.2.2.1)) = true then
      some (false, r167_0.2.1, r167_0.2.2.1, r167_0.2.2.2.1, r167_0.2.2.2.2.1, r167_0.2.2.2.2.2.1, r167_0.2.2.2.2.2.2, r167_0.2.2.2.2.2.2)
    else
      if (decide (((IntKind.wrap .i64 (4 * (IntKind.wrap .i64 (r167_0.2.2.2.2.1 + 1)))) : Int) > (IntKind.wrap .i64 (3 * ((r167_0.2.2.2.2.2.2.length : Nat) : Int))))) = true then
        (f97_table_Table_grow n r167_0.2.1 r167_0.2.2.1 r167_0.2.2.2.1 r167_0.2.2.2.2.1 r167_0.2.2.2.2.2.1 r167_0.2.2.2.2.2.2).bind fun r174_0 =>
        (f98_table_Table_lay n name value r174_0.1 r174_0.2.1 r174_0.2.2.1 r174_0.2.2.2.1 r174_0.2.2.2.2.1 r174_0.2.2.2.2.2.2).bind fun r175_0 =>
        some (true, r175_0.1, r175_0.2.1, r175_0.2.2.1, r175_0.2.2.2.1, r175_0.2.2.2.2.1, r174_0.2.2.2.2.2.1, r175_0.2.2.2.2.2)
      else
        (f98_table_Table_lay n name value r167_0.2.1 r167_0.2.2.1 r167_0.2.2.2.1 r167_0.2.2.2.2.1 r167_0.2.2.2.2.2.1 r167_0.2.2.2.2.2.2).bind fun r177_0 =>
        some (true, r177_0.1, r177_0.2.1, r177_0.2.2.1, r177_0.2.2.2.1, r177_0.2.2.2.2.1, r177_0.2.2.2.2.2, r177_0.2.2.2.2.2)
theorem f52_table_Table_Put_ok (n : Nat) (name : Int) (value : Int) (t_0 : Int) (t_1 : Int) (t_3 : Int) (t_4 : Int) (t_5 : Int) (b1_0 : List (Int × Int × Int)) (r : Bool × Int × Int × Int × Int × Int × (List (Int × Int × Int)) × List (Int × Int × Int)) (h : f52_table_Table_Put n name value t_0 t_1 t_3 t_4 t_5 b1_0 = some r) : FnOK Go.Proofs.Try.prog 52 (f52_table_Table_Put_in name value t_0 t_1 t_3 t_4 t_5 b1_0) (f52_table_Table_Put_out r) := by
  unfold f52_table_Table_Put at h
  refine At.fn (r := 0) Go.Proofs.Try.func52 rfl (by kernel_rfl) rfl rfl (by kernel_rfl) ?_
  show At Go.Proofs.Try.prog Go.Proofs.Try.f52 2 0 ⟨[(0, .one (.c (.ptr 0 0))), (1, .one (.c (.d (.int .u32 name)))), (2, .one (.c (.d (.int .i64 value))))], [(1, some ⟨169, 2⟩)], [(0, [.d (.int .u64 t_0), .d (.int .u64 t_1), .row 1 (.pair (.int .u8) (.pair (.int .u32) (.int .i64))), .d (.int .i64 t_3), .d (.int .i64 t_4), .d (.int .i64 t_5)]), (1, [.run (.pair (.int .u8) (.pair (.int .u32) (.int .i64))) b1_0])], 2⟩ _
  refine At.step hm ht ⟨[], [], [], [0, 1, 2], [0, 1]⟩ 1 ⟨[(0, .one (.c (.ptr 0 0))), (1, .one (.c (.d (.int .u32 name)))), (2, .one (.c (.d (.int .i64 value))))], [(1, some ⟨169, 2⟩)], [(0, [.d (.int .u64 t_0), .d (.int .u64 t_1), .row 1 (.pair (.int .u8) (.pair (.int .u32) (.int .i64))), .d (.int .i64 t_3), .d (.int .i64 t_4), .d (.int .i64 t_5)]), (1, [.run (.pair (.int .u8) (.pair (.int .u32) (.int .i64))) b1_0])], 2⟩ [] (by kernel_rfl) trivial ?_
  obtain ⟨r167_0, cr167_0, h⟩ := bindS h
  refine At.step hm ht ⟨[(2, .call [0, 1] [] (f96_table_Table_find_out r167_0))], [], [], [0, 1, 2, 7], [0, 1]⟩ 2 ⟨[(0, .one (.c (.ptr 0 0))), (1, .one (.c (.d (.int .u32 name)))), (2, .one (.c (.d (.int .i64 value)))), (7, .one (.c (.d (.int .i64 r167_0.1))))], [(1, some ⟨169, 2⟩)], [(0, [.d (.int .u64 r167_0.2.1), .d (.int .u64 r167_0.2.2.1), .row 1 (.pair (.int .u8) (.pair (.int .u32) (.int .i64))), .d (.int .i64 r167_0.2.2.2.1), .d (.int .i64 r167_0.2.2.2.2.1), .d (.int .i64 r167_0.2.2.2.2.2.1)]), (1, [.run (.pair (.int .u8) (.pair (.int .u32) (.int .i64))) r167_0.2.2.2.2.2.2])], 2⟩ [FnOK Go.Proofs.Try.prog 96 (f96_table_Table_find_in name t_0 t_1 t_3 t_4 t_5 b1_0) (f96_table_Table_find_out r167_0)] (by kernel_rfl) ⟨(f96_table_Table_find_ok n name t_0 t_1 t_3 t_4 t_5 b1_0 r167_0 cr167_0), trivial⟩ ?_
  rcases iteS h with ⟨b168_e0, h⟩ | ⟨b168_e0, h⟩
  · refine At.step hm ht ⟨[], [true], [], [0, 2, 7], [0, 1]⟩ 3 ⟨[(0, .one (.c (.ptr 0 0))), (2, .one (.c (.d (.int .i64 value)))), (7, .one (.c (.d (.int .i64 r167_0.1))))], [(1, some ⟨169, 2⟩)], [(0, [.d (.int .u64 r167_0.2.1), .d (.int .u64 r167_0.2.2.1), .row 1 (.pair (.int .u8) (.pair (.int .u32) (.int .i64))), .d (.int .i64 r167_0.2.2.2.1), .d (.int .i64 r167_0.2.2.2.2.1), .d (.int .i64 r167_0.2.2.2.2.2.1)]), (1, [.run (.pair (.int .u8) (.pair (.int .u32) (.int .i64))) r167_0.2.2.2.2.2.2])], 2⟩ [(decide ((r167_0.1 : Int) ≥ 0)) = true] (by kernel_rfl) ⟨b168_e0, trivial⟩ ?_
    obtain ⟨g169_0, h⟩ := ifS h
    refine At.step hm ht ⟨[], [], [], [], [0, 1]⟩ 4 ⟨[], [(1, some ⟨169, 2⟩)], [(0, [.d (.int .u64 r167_0.2.1), .d (.int .u64 r167_0.2.2.1), .row 1 (.pair (.int .u8) (.pair (.int .u32) (.int .i64))), .d (.int .i64 r167_0.2.2.2.1), .d (.int .i64 r167_0.2.2.2.2.1), .d (.int .i64 r167_0.2.2.2.2.2.1)]), (1, [.run (.pair (.int .u8) (.pair (.int .u32) (.int .i64))) (r167_0.2.2.2.2.2.2.set r167_0.1.toNat ((r167_0.2.2.2.2.2.2.getD r167_0.1.toNat (0, (0, 0))).1, (((r167_0.2.2.2.2.2.2.getD r167_0.1.toNat (0, (0, 0))).2).1, value)))])], 2⟩ [(0 : Int) ≤ r167_0.1 ∧ r167_0.1 < (((r167_0.2.2.2.2.2.2).length : Nat) : Int)] (by kernel_rfl) ⟨g169_0, trivial⟩ ?_
    have h := Option.some.inj h
    subst h
    exact At.fin hm ht ⟨[], [], [.mvrow 1], [6], [0, 1, 3]⟩ [] (by kernel_rfl) trivial
  · refine At.step hm ht ⟨[], [false], [], [0, 1, 2], [0, 1]⟩ 5 ⟨[(0, .one (.c (.ptr 0 0))), (1, .one (.c (.d (.int .u32 name)))), (2, .one (.c (.d (.int .i64 value))))], [(1, some ⟨169, 2⟩)], [(0, [.d (.int .u64 r167_0.2.1), .d (.int .u64 r167_0.2.2.1), .row 1 (.pair (.int .u8) (.pair (.int .u32) (.int .i64))), .d (.int .i64 r167_0.2.2.2.1), .d (.int .i64 r167_0.2.2.2.2.1), .d (.int .i64 r167_0.2.2.2.2.2.1)]), (1, [.run (.pair (.int .u8) (.pair (.int .u32) (.int .i64))) r167_0.2.2.2.2.2.2])], 2⟩ [(decide ((r167_0.1 : Int) ≥ 0)) = false] (by kernel_rfl) ⟨b168_e0, trivial⟩ ?_
    rcases iteS h with ⟨b171_e0, h⟩ | ⟨b171_e0, h⟩
    · refine At.step hm ht ⟨[], [true], [], [], [0, 1]⟩ 6 ⟨[], [(1, some ⟨169, 2⟩)], [(0, [.d (.int .u64 r167_0.2.1), .d (.int .u64 r167_0.2.2.1), .row 1 (.pair (.int .u8) (.pair (.int .u32) (.int .i64))), .d (.int .i64 r167_0.2.2.2.1), .d (.int .i64 r167_0.2.2.2.2.1), .d (.int .i64 r167_0.2.2.2.2.2.1)]), (1, [.run (.pair (.int .u8) (.pair (.int .u32) (.int .i64))) r167_0.2.2.2.2.2.2])], 2⟩ [(decide ((r167_0.2.2.2.1 : Int) ≥ r167_0.2.2.2.2.2.1)) = true] (by kernel_rfl) ⟨b171_e0, trivial⟩ ?_
      have h := Option.some.inj h
      subst h
      exact At.fin hm ht ⟨[], [], [.mvrow 1], [6], [0, 1, 3]⟩ [] (by kernel_rfl) trivial
    · refine At.step hm ht ⟨[], [false], [], [0, 1, 2], [0, 1]⟩ 7 ⟨[(0, .one (.c (.ptr 0 0))), (1, .one (.c (.d (.int .u32 name)))), (2, .one (.c (.d (.int .i64 value))))], [(1, some ⟨169, 2⟩)], [(0, [.d (.int .u64 r167_0.2.1), .d (.int .u64 r167_0.2.2.1), .row 1 (.pair (.int .u8) (.pair (.int .u32) (.int .i64))), .d (.int .i64 r167_0.2.2.2.1), .d (.int .i64 r167_0.2.2.2.2.1), .d (.int .i64 r167_0.2.2.2.2.2.1)]), (1, [.run (.pair (.int .u8) (.pair (.int .u32) (.int .i64))) r167_0.2.2.2.2.2.2])], 2⟩ [(decide ((r167_0.2.2.2.1 : Int) ≥ r167_0.2.2.2.2.2.1)) = false] (by kernel_rfl) ⟨b171_e0, trivial⟩ ?_
      rcases iteS h with ⟨b173_e0, h⟩ | ⟨b173_e0, h⟩
      · refine At.step hm ht ⟨[], [true], [], [0, 1, 2], [0, 1]⟩ 8 ⟨[(0, .one (.c (.ptr 0 0))), (1, .one (.c (.d (.int .u32 name)))), (2, .one (.c (.d (.int .i64 value))))], [(1, some ⟨169, 2⟩)], [(0, [.d (.int .u64 r167_0.2.1), .d (.int .u64 r167_0.2.2.1), .row 1 (.pair (.int .u8) (.pair (.int .u32) (.int .i64))), .d (.int .i64 r167_0.2.2.2.1), .d (.int .i64 r167_0.2.2.2.2.1), .d (.int .i64 r167_0.2.2.2.2.2.1)]), (1, [.run (.pair (.int .u8) (.pair (.int .u32) (.int .i64))) r167_0.2.2.2.2.2.2])], 2⟩ [(decide (((IntKind.wrap .i64 (4 * (IntKind.wrap .i64 (r167_0.2.2.2.2.1 + 1)))) : Int) > (IntKind.wrap .i64 (3 * ((r167_0.2.2.2.2.2.2.length : Nat) : Int))))) = true] (by kernel_rfl) ⟨b173_e0, trivial⟩ ?_
        obtain ⟨r174_0, cr174_0, h⟩ := bindS h
        refine At.step hm ht ⟨[(1, .call [0, 1] [] (f97_table_Table_grow_out r174_0))], [], [], [0, 1, 2], [0, 1, 5]⟩ 9 ⟨[(0, .one (.c (.ptr 0 0))), (1, .one (.c (.d (.int .u32 name)))), (2, .one (.c (.d (.int .i64 value))))], [(1, some ⟨169, 2⟩), (2, some ⟨169, 2⟩)], [(0, [.d (.int .u64 r174_0.1), .d (.int .u64 r174_0.2.1), .row 2 (.pair (.int .u8) (.pair (.int .u32) (.int .i64))), .d (.int .i64 r174_0.2.2.1), .d (.int .i64 r174_0.2.2.2.1), .d (.int .i64 r174_0.2.2.2.2.1)]), (1, [.run (.pair (.int .u8) (.pair (.int .u32) (.int .i64))) r174_0.2.2.2.2.2.1]), (2, [.run (.pair (.int .u8) (.pair (.int .u32) (.int .i64))) r174_0.2.2.2.2.2.2])], 3⟩ [FnOK Go.Proofs.Try.prog 97 (f97_table_Table_grow_in r167_0.2.1 r167_0.2.2.1 r167_0.2.2.2.1 r167_0.2.2.2.2.1 r167_0.2.2.2.2.2.1 r167_0.2.2.2.2.2.2) (f97_table_Table_grow_out r174_0)] (by kernel_rfl) ⟨(f97_table_Table_grow_ok n r167_0.2.1 r167_0.2.2.1 r167_0.2.2.2.1 r167_0.2.2.2.2.1 r167_0.2.2.2.2.2.1 r167_0.2.2.2.2.2.2 r174_0 cr174_0), trivial⟩ ?_
        obtain ⟨r175_0, cr175_0, h⟩ := bindS h
        refine At.step hm ht ⟨[(3, .call [0, 2] [] (f98_table_Table_lay_out r175_0))], [], [], [], [0, 1, 2]⟩ 10 ⟨[], [(1, some ⟨169, 2⟩), (2, some ⟨169, 2⟩)], [(0, [.d (.int .u64 r175_0.1), .d (.int .u64 r175_0.2.1), .row 2 (.pair (.int .u8) (.pair (.int .u32) (.int .i64))), .d (.int .i64 r175_0.2.2.1), .d (.int .i64 r175_0.2.2.2.1), .d (.int .i64 r175_0.2.2.2.2.1)]), (1, [.run (.pair (.int .u8) (.pair (.int .u32) (.int .i64))) r174_0.2.2.2.2.2.1]), (2, [.run (.pair (.int .u8) (.pair (.int .u32) (.int .i64))) r175_0.2.2.2.2.2])], 3⟩ [FnOK Go.Proofs.Try.prog 98 (f98_table_Table_lay_in name value r174_0.1 r174_0.2.1 r174_0.2.2.1 r174_0.2.2.2.1 r174_0.2.2.2.2.1 r174_0.2.2.2.2.2.2) (f98_table_Table_lay_out r175_0)] (by kernel_rfl) ⟨(f98_table_Table_lay_ok n name value r174_0.1 r174_0.2.1 r174_0.2.2.1 r174_0.2.2.2.1 r174_0.2.2.2.2.1 r174_0.2.2.2.2.2.2 r175_0 cr175_0), trivial⟩ ?_
        have h := Option.some.inj h
        subst h
        exact At.fin hm ht ⟨[], [], [.drop 1], [6], [0, 1, 2]⟩ [] (by kernel_rfl) trivial
      · refine At.step hm ht ⟨[], [false], [], [0, 1, 2], [0, 1]⟩ 9 ⟨[(0, .one (.c (.ptr 0 0))), (1, .one (.c (.d (.int .u32 name)))), (2, .one (.c (.d (.int .i64 value))))], [(1, some ⟨169, 2⟩)], [(0, [.d (.int .u64 r167_0.2.1), .d (.int .u64 r167_0.2.2.1), .row 1 (.pair (.int .u8) (.pair (.int .u32) (.int .i64))), .d (.int .i64 r167_0.2.2.2.1), .d (.int .i64 r167_0.2.2.2.2.1), .d (.int .i64 r167_0.2.2.2.2.2.1)]), (1, [.run (.pair (.int .u8) (.pair (.int .u32) (.int .i64))) r167_0.2.2.2.2.2.2])], 2⟩ [(decide (((IntKind.wrap .i64 (4 * (IntKind.wrap .i64 (r167_0.2.2.2.2.1 + 1)))) : Int) > (IntKind.wrap .i64 (3 * ((r167_0.2.2.2.2.2.2.length : Nat) : Int))))) = false] (by kernel_rfl) ⟨b173_e0, trivial⟩ ?_
        obtain ⟨r177_0, cr177_0, h⟩ := bindS h
        refine At.step hm ht ⟨[(3, .call [0, 1] [] (f98_table_Table_lay_out r177_0))], [], [], [], [0, 1]⟩ 10 ⟨[], [(1, some ⟨169, 2⟩)], [(0, [.d (.int .u64 r177_0.1), .d (.int .u64 r177_0.2.1), .row 1 (.pair (.int .u8) (.pair (.int .u32) (.int .i64))), .d (.int .i64 r177_0.2.2.1), .d (.int .i64 r177_0.2.2.2.1), .d (.int .i64 r177_0.2.2.2.2.1)]), (1, [.run (.pair (.int .u8) (.pair (.int .u32) (.int .i64))) r177_0.2.2.2.2.2])], 2⟩ [FnOK Go.Proofs.Try.prog 98 (f98_table_Table_lay_in name value r167_0.2.1 r167_0.2.2.1 r167_0.2.2.2.1 r167_0.2.2.2.2.1 r167_0.2.2.2.2.2.1 r167_0.2.2.2.2.2.2) (f98_table_Table_lay_out r177_0)] (by kernel_rfl) ⟨(f98_table_Table_lay_ok n name value r167_0.2.1 r167_0.2.2.1 r167_0.2.2.2.1 r167_0.2.2.2.2.1 r167_0.2.2.2.2.2.1 r167_0.2.2.2.2.2.2 r177_0 cr177_0), trivial⟩ ?_
        have h := Option.some.inj h
        subst h
        exact At.fin hm ht ⟨[], [], [.mvrow 1], [6], [0, 1, 3]⟩ [] (by kernel_rfl) trivial
/-! brougham/table.insert -/
def f100_table_insert_in (name : Int) : Inn := ⟨[.c (.d (.sl .unit [])), .c (.d (.int .u32 name))], [], [], 0⟩
def f100_table_insert_out (r : List Int) : Out := ⟨.one (.c (.row 0 (.int .u32))), [(0, ⟨26, 2⟩)], [(0, [.run (.int .u32) r])], 1⟩
def f100_table_insert_L3 : Nat → Int → (List Int) → Option (List Int)
  | 0, _, _ => none
  | n + 1, i, b0_0 =>
    if (decide ((i : Int) > 0)) = true then
      if (0 : Int) ≤ i ∧ i < (((b0_0).length : Nat) : Int) then
      if (0 : Int) ≤ (IntKind.wrap .i64 (i - 1)) ∧ (IntKind.wrap .i64 (i - 1)) < (((b0_0).length : Nat) : Int) then
      if (decide (((b0_0.getD i.toNat 0) : Int) < (b0_0.getD ((IntKind.wrap .i64 (i - 1)).toNat) 0))) = true then
        if (0 : Int) ≤ (IntKind.wrap .i64 (i - 1)) ∧ (IntKind.wrap .i64 (i - 1)) < (((b0_0).length : Nat) : Int) then
        if (0 : Int) ≤ i ∧ i < (((b0_0).length : Nat) : Int) then
        if (0 : Int) ≤ i ∧ i < (((b0_0).length : Nat) : Int) then
        if (0 : Int) ≤ (IntKind.wrap .i64 (i - 1)) ∧ (IntKind.wrap .i64 (i - 1)) < ((((b0_0.set i.toNat (b0_0.getD ((IntKind.wrap .i64 (i - 1)).toNat) 0))).length : Nat) : Int) then
        f100_table_insert_L3 n (IntKind.wrap .i64 (i - 1)) ((b0_0.set i.toNat (b0_0.getD ((IntKind.wrap .i64 (i - 1)).toNat) 0)).set ((IntKind.wrap .i64 (i - 1)).toNat) (b0_0.getD i.toNat 0))
        else none
        else none
        else none
        else none
      else
        some (b0_0)
      else none
      else none
    else
      some (b0_0)
def f100_table_insert_L3_k (e : List Int) (o : Out) : Prop := At Go.Proofs.Try.prog Go.Proofs.Try.f100 0 6 ⟨[(0, .one (.c (.row 0 (.int .u32))))], [(0, some ⟨26, 2⟩)], [(0, [.run (.int .u32) e])], 1⟩ o
theorem f100_table_insert_L3_ok (n : Nat) : ∀ (i : Int) (b0_0 : List Int) (w : List Int) (h : f100_table_insert_L3 n i b0_0 = some w) (o : Out) (hk : f100_table_insert_L3_k w o), At Go.Proofs.Try.prog Go.Proofs.Try.f100 0 3 ⟨[(0, .one (.c (.row 0 (.int .u32)))), (5, .one (.c (.d (.int .i64 i))))], [(0, some ⟨26, 2⟩)], [(0, [.run (.int .u32) b0_0])], 1⟩ o := by
  induction n with
  | zero => intro i b0_0 w h; rw [f100_table_insert_L3] at h; cases h
  | succ n ih =>
    intro i b0_0 w h o hk
    rw [f100_table_insert_L3] at h
    rcases iteS h with ⟨b203_2, h⟩ | ⟨b203_2, h⟩
    · obtain ⟨g203_0, h⟩ := ifS h
      obtain ⟨g203_1, h⟩ := ifS h
      rcases iteS h with ⟨b203_e0, h⟩ | ⟨b203_e0, h⟩
      · refine At.step hm ht ⟨[(2, .b true)], [true], [], [0, 5], [0]⟩ 5 ⟨[(0, .one (.c (.row 0 (.int .u32)))), (5, .one (.c (.d (.int .i64 i))))], [(0, some ⟨26, 2⟩)], [(0, [.run (.int .u32) b0_0])], 1⟩ [(decide ((i : Int) > 0)) = true, (0 : Int) ≤ i ∧ i < (((b0_0).length : Nat) : Int), (0 : Int) ≤ (IntKind.wrap .i64 (i - 1)) ∧ (IntKind.wrap .i64 (i - 1)) < (((b0_0).length : Nat) : Int), (decide (((b0_0.getD i.toNat 0) : Int) < (b0_0.getD ((IntKind.wrap .i64 (i - 1)).toNat) 0))) = true] (by kernel_rfl) ⟨b203_2, g203_0, g203_1, b203_e0, trivial⟩ ?_
        obtain ⟨g204_0, h⟩ := ifS h
        obtain ⟨g204_1, h⟩ := ifS h
        obtain ⟨g204_2, h⟩ := ifS h
        obtain ⟨g204_3, h⟩ := ifS h
        refine At.step hm ht ⟨[], [], [], [0, 5], [0]⟩ 4 ⟨[(0, .one (.c (.row 0 (.int .u32)))), (5, .one (.c (.d (.int .i64 i))))], [(0, some ⟨26, 2⟩)], [(0, [.run (.int .u32) ((b0_0.set i.toNat (b0_0.getD ((IntKind.wrap .i64 (i - 1)).toNat) 0)).set ((IntKind.wrap .i64 (i - 1)).toNat) (b0_0.getD i.toNat 0))])], 1⟩ [(0 : Int) ≤ (IntKind.wrap .i64 (i - 1)) ∧ (IntKind.wrap .i64 (i - 1)) < (((b0_0).length : Nat) : Int), (0 : Int) ≤ i ∧ i < (((b0_0).length : Nat) : Int), (0 : Int) ≤ i ∧ i < (((b0_0).length : Nat) : Int), (0 : Int) ≤ (IntKind.wrap .i64 (i - 1)) ∧ (IntKind.wrap .i64 (i - 1)) < ((((b0_0.set i.toNat (b0_0.getD ((IntKind.wrap .i64 (i - 1)).toNat) 0))).length : Nat) : Int)] (by kernel_rfl) ⟨g204_0, g204_1, g204_2, g204_3, trivial⟩ ?_
        refine At.step hm ht ⟨[], [], [], [0, 5], [0]⟩ 3 ⟨[(0, .one (.c (.row 0 (.int .u32)))), (5, .one (.c (.d (.int .i64 (IntKind.wrap .i64 (i - 1))))))], [(0, some ⟨26, 2⟩)], [(0, [.run (.int .u32) ((b0_0.set i.toNat (b0_0.getD ((IntKind.wrap .i64 (i - 1)).toNat) 0)).set ((IntKind.wrap .i64 (i - 1)).toNat) (b0_0.getD i.toNat 0))])], 1⟩ [] (by kernel_rfl) trivial ?_
        exact ih (IntKind.wrap .i64 (i - 1)) ((b0_0.set i.toNat (b0_0.getD ((IntKind.wrap .i64 (i - 1)).toNat) 0)).set ((IntKind.wrap .i64 (i - 1)).toNat) (b0_0.getD i.toNat 0)) w h o hk
      · refine At.step hm ht ⟨[(2, .b true)], [false], [], [0], [0]⟩ 6 ⟨[(0, .one (.c (.row 0 (.int .u32))))], [(0, some ⟨26, 2⟩)], [(0, [.run (.int .u32) b0_0])], 1⟩ [(decide ((i : Int) > 0)) = true, (0 : Int) ≤ i ∧ i < (((b0_0).length : Nat) : Int), (0 : Int) ≤ (IntKind.wrap .i64 (i - 1)) ∧ (IntKind.wrap .i64 (i - 1)) < (((b0_0).length : Nat) : Int), (decide (((b0_0.getD i.toNat 0) : Int) < (b0_0.getD ((IntKind.wrap .i64 (i - 1)).toNat) 0))) = false] (by kernel_rfl) ⟨b203_2, g203_0, g203_1, b203_e0, trivial⟩ ?_
        have h := Option.some.inj h
        subst h
        exact hk
    · refine At.step hm ht ⟨[(2, .b false)], [false], [], [0], [0]⟩ 6 ⟨[(0, .one (.c (.row 0 (.int .u32))))], [(0, some ⟨26, 2⟩)], [(0, [.run (.int .u32) b0_0])], 1⟩ [(decide ((i : Int) > 0)) = false, false = false] (by kernel_rfl) ⟨b203_2, rfl, trivial⟩ ?_
      have h := Option.some.inj h
      subst h
      exact hk
def f100_table_insert (n : Nat) (name : Int) : Option (List Int) :=
  if [name].length ≤ maxLen ∧ [name].length * 4 ≤ 140737488355328 then
  (f100_table_insert_L3 n (IntKind.wrap .i64 ((([name].length : Nat) : Int) - 1)) [name]).bind fun w206 =>
  some w206
  else none
theorem f100_table_insert_ok (n : Nat) (name : Int) (r : List Int) (h : f100_table_insert n name = some r) : FnOK Go.Proofs.Try.prog 100 (f100_table_insert_in name) (f100_table_insert_out r) := by
  unfold f100_table_insert at h
  refine At.fn (r := 0) Go.Proofs.Try.func100 rfl (by kernel_rfl) rfl rfl (by kernel_rfl) ?_
  show At Go.Proofs.Try.prog Go.Proofs.Try.f100 0 0 ⟨[(0, .one (.c (.d (.sl .unit [])))), (1, .one (.c (.d (.int .u32 name))))], [], [], 0⟩ _
  refine At.step hm ht ⟨[], [], [], [0, 1], []⟩ 1 ⟨[(0, .one (.c (.d (.sl .unit [])))), (1, .one (.c (.d (.int .u32 name))))], [], [], 0⟩ [] (by kernel_rfl) trivial ?_
  obtain ⟨g201_0, h⟩ := ifS h
  refine At.step hm ht ⟨[(3, .row)], [], [], [0], [3]⟩ 2 ⟨[(0, .one (.c (.row 0 (.int .u32))))], [(0, some ⟨26, 2⟩)], [(0, [.run (.int .u32) ([name] : List Int)])], 1⟩ [[name].length ≤ maxLen ∧ [name].length * 4 ≤ 140737488355328] (by kernel_rfl) ⟨g201_0, trivial⟩ ?_
  refine At.step hm ht ⟨[], [], [], [0, 5], [0]⟩ 3 ⟨[(0, .one (.c (.row 0 (.int .u32)))), (5, .one (.c (.d (.int .i64 (IntKind.wrap .i64 ((([name].length : Nat) : Int) - 1))))))], [(0, some ⟨26, 2⟩)], [(0, [.run (.int .u32) ([name] : List Int)])], 1⟩ [] (by kernel_rfl) trivial ?_
  obtain ⟨w206, cw206, h⟩ := bindS h
  refine f100_table_insert_L3_ok n (IntKind.wrap .i64 ((([name].length : Nat) : Int) - 1)) [name] w206 cw206 _ ?_
  show At Go.Proofs.Try.prog Go.Proofs.Try.f100 0 6 ⟨[(0, .one (.c (.row 0 (.int .u32))))], [(0, some ⟨26, 2⟩)], [(0, [.run (.int .u32) w206])], 1⟩ _
  have h := Option.some.inj h
  subst h
  exact At.fin hm ht ⟨[], [], [], [4], [0]⟩ [] (by kernel_rfl) trivial
/-! brougham/table.insert -/
def f100_table_insert_v2_in (name : Int) (b0_0 : List Int) : Inn := ⟨[.c (.row 0 (.int .u32)), .c (.d (.int .u32 name))], [(0, ⟨26, 2⟩)], [(0, [.run (.int .u32) b0_0])], 1⟩
def f100_table_insert_v2_out (r : List Int × List Int) : Out := ⟨.one (.c (.row 1 (.int .u32))), [(1, ⟨26, 2⟩)], [(0, [.run (.int .u32) r.1]), (1, [.run (.int .u32) r.2])], 2⟩
def f100_table_insert_v2_L3 : Nat → Int → (List Int) → (List Int) → Option (List Int × List Int)
  | 0, _, _, _ => none
  | n + 1, i, b0_0, b1_0 =>
    if (decide ((i : Int) > 0)) = true then
      if (0 : Int) ≤ i ∧ i < (((b1_0).length : Nat) : Int) then
      if (0 : Int) ≤ (IntKind.wrap .i64 (i - 1)) ∧ (IntKind.wrap .i64 (i - 1)) < (((b1_0).length : Nat) : Int) then
      if (decide (((b1_0.getD i.toNat 0) : Int) < (b1_0.getD ((IntKind.wrap .i64 (i - 1)).toNat) 0))) = true then
        if (0 : Int) ≤ (IntKind.wrap .i64 (i - 1)) ∧ (IntKind.wrap .i64 (i - 1)) < (((b1_0).length : Nat) : Int) then
        if (0 : Int) ≤ i ∧ i < (((b1_0).length : Nat) : Int) then
        if (0 : Int) ≤ i ∧ i < (((b1_0).length : Nat) : Int) then
        if (0 : Int) ≤ (IntKind.wrap .i64 (i - 1)) ∧ (IntKind.wrap .i64 (i - 1)) < ((((b1_0.set i.toNat (b1_0.getD ((IntKind.wrap .i64 (i - 1)).toNat) 0))).length : Nat) : Int) then
        f100_table_insert_v2_L3 n (IntKind.wrap .i64 (i - 1)) b0_0 ((b1_0.set i.toNat (b1_0.getD ((IntKind.wrap .i64 (i - 1)).toNat) 0)).set ((IntKind.wrap .i64 (i - 1)).toNat) (b1_0.getD i.toNat 0))
        else none
        else none
        else none
        else none
      else
        some ((b0_0, b1_0))
      else none
      else none
    else
      some ((b0_0, b1_0))
def f100_table_insert_v2_L3_k (e : List Int × List Int) (o : Out) : Prop := At Go.Proofs.Try.prog Go.Proofs.Try.f100 1 6 ⟨[(0, .one (.c (.row 1 (.int .u32))))], [(1, some ⟨26, 2⟩)], [(0, [.run (.int .u32) e.1]), (1, [.run (.int .u32) e.2])], 2⟩ o
theorem f100_table_insert_v2_L3_ok (n : Nat) : ∀ (i : Int) (b0_0 : List Int) (b1_0 : List Int) (w : List Int × List Int) (h : f100_table_insert_v2_L3 n i b0_0 b1_0 = some w) (o : Out) (hk : f100_table_insert_v2_L3_k w o), At Go.Proofs.Try.prog Go.Proofs.Try.f100 1 3 ⟨[(0, .one (.c (.row 1 (.int .u32)))), (5, .one (.c (.d (.int .i64 i))))], [(1, some ⟨26, 2⟩)], [(0, [.run (.int .u32) b0_0]), (1, [.run (.int .u32) b1_0])], 2⟩ o := by
  induction n with
  | zero => intro i b0_0 b1_0 w h; rw [f100_table_insert_v2_L3] at h; cases h
  | succ n ih =>
    intro i b0_0 b1_0 w h o hk
    rw [f100_table_insert_v2_L3] at h
    rcases iteS h with ⟨b220_2, h⟩ | ⟨b220_2, h⟩
    · obtain ⟨g220_0, h⟩ := ifS h
      obtain ⟨g220_1, h⟩ := ifS h
      rcases iteS h with ⟨b220_e0, h⟩ | ⟨b220_e0, h⟩
      · refine At.step hm ht ⟨[(2, .b true)], [true], [], [0, 5], [0, 1]⟩ 5 ⟨[(0, .one (.c (.row 1 (.int .u32)))), (5, .one (.c (.d (.int .i64 i))))], [(1, some ⟨26, 2⟩)], [(0, [.run (.int .u32) b0_0]), (1, [.run (.int .u32) b1_0])], 2⟩ [(decide ((i : Int) > 0)) = true, (0 : Int) ≤ i ∧ i < (((b1_0).length : Nat) : Int), (0 : Int) ≤ (IntKind.wrap .i64 (i - 1)) ∧ (IntKind.wrap .i64 (i - 1)) < (((b1_0).length : Nat) : Int), (decide (((b1_0.getD i.toNat 0) : Int) < (b1_0.getD ((IntKind.wrap .i64 (i - 1)).toNat) 0))) = true] (by kernel_rfl) ⟨b220_2, g220_0, g220_1, b220_e0, trivial⟩ ?_
        obtain ⟨g221_0, h⟩ := ifS h
        obtain ⟨g221_1, h⟩ := ifS h
        obtain ⟨g221_2, h⟩ := ifS h
        obtain ⟨g221_3, h⟩ := ifS h
        refine At.step hm ht ⟨[], [], [], [0, 5], [0, 1]⟩ 4 ⟨[(0, .one (.c (.row 1 (.int .u32)))), (5, .one (.c (.d (.int .i64 i))))], [(1, some ⟨26, 2⟩)], [(0, [.run (.int .u32) b0_0]), (1, [.run (.int .u32) ((b1_0.set i.toNat (b1_0.getD ((IntKind.wrap .i64 (i - 1)).toNat) 0)).set ((IntKind.wrap .i64 (i - 1)).toNat) (b1_0.getD i.toNat 0))])], 2⟩ [(0 : Int) ≤ (IntKind.wrap .i64 (i - 1)) ∧ (IntKind.wrap .i64 (i - 1)) < (((b1_0).length : Nat) : Int), (0 : Int) ≤ i ∧ i < (((b1_0).length : Nat) : Int), (0 : Int) ≤ i ∧ i < (((b1_0).length : Nat) : Int), (0 : Int) ≤ (IntKind.wrap .i64 (i - 1)) ∧ (IntKind.wrap .i64 (i - 1)) < ((((b1_0.set i.toNat (b1_0.getD ((IntKind.wrap .i64 (i - 1)).toNat) 0))).length : Nat) : Int)] (by kernel_rfl) ⟨g221_0, g221_1, g221_2, g221_3, trivial⟩ ?_
        refine At.step hm ht ⟨[], [], [], [0, 5], [0, 1]⟩ 3 ⟨[(0, .one (.c (.row 1 (.int .u32)))), (5, .one (.c (.d (.int .i64 (IntKind.wrap .i64 (i - 1))))))], [(1, some ⟨26, 2⟩)], [(0, [.run (.int .u32) b0_0]), (1, [.run (.int .u32) ((b1_0.set i.toNat (b1_0.getD ((IntKind.wrap .i64 (i - 1)).toNat) 0)).set ((IntKind.wrap .i64 (i - 1)).toNat) (b1_0.getD i.toNat 0))])], 2⟩ [] (by kernel_rfl) trivial ?_
        exact ih (IntKind.wrap .i64 (i - 1)) b0_0 ((b1_0.set i.toNat (b1_0.getD ((IntKind.wrap .i64 (i - 1)).toNat) 0)).set ((IntKind.wrap .i64 (i - 1)).toNat) (b1_0.getD i.toNat 0)) w h o hk
      · refine At.step hm ht ⟨[(2, .b true)], [false], [], [0], [0, 1]⟩ 6 ⟨[(0, .one (.c (.row 1 (.int .u32))))], [(1, some ⟨26, 2⟩)], [(0, [.run (.int .u32) b0_0]), (1, [.run (.int .u32) b1_0])], 2⟩ [(decide ((i : Int) > 0)) = true, (0 : Int) ≤ i ∧ i < (((b1_0).length : Nat) : Int), (0 : Int) ≤ (IntKind.wrap .i64 (i - 1)) ∧ (IntKind.wrap .i64 (i - 1)) < (((b1_0).length : Nat) : Int), (decide (((b1_0.getD i.toNat 0) : Int) < (b1_0.getD ((IntKind.wrap .i64 (i - 1)).toNat) 0))) = false] (by kernel_rfl) ⟨b220_2, g220_0, g220_1, b220_e0, trivial⟩ ?_
        have h := Option.some.inj h
        subst h
        exact hk
    · refine At.step hm ht ⟨[(2, .b false)], [false], [], [0], [0, 1]⟩ 6 ⟨[(0, .one (.c (.row 1 (.int .u32))))], [(1, some ⟨26, 2⟩)], [(0, [.run (.int .u32) b0_0]), (1, [.run (.int .u32) b1_0])], 2⟩ [(decide ((i : Int) > 0)) = false, false = false] (by kernel_rfl) ⟨b220_2, rfl, trivial⟩ ?_
      have h := Option.some.inj h
      subst h
      exact hk
def f100_table_insert_v2 (n : Nat) (name : Int) (b0_0 : List Int) : Option (List Int × List Int) :=
  if b0_0.length + [name].length ≤ maxLen ∧ (b0_0.length + [name].length) * 4 ≤ 140737488355328 then
  (f100_table_insert_v2_L3 n (IntKind.wrap .i64 ((((b0_0 ++ [name]).length : Nat) : Int) - 1)) b0_0 (b0_0 ++ [name])).bind fun w223 =>
  some (w223.1, w223.2)
  else none
theorem f100_table_insert_v2_ok (n : Nat) (name : Int) (b0_0 : List Int) (r : List Int × List Int) (h : f100_table_insert_v2 n name b0_0 = some r) : FnOK Go.Proofs.Try.prog 100 (f100_table_insert_v2_in name b0_0) (f100_table_insert_v2_out r) := by
  unfold f100_table_insert_v2 at h
  refine At.fn (r := 0) Go.Proofs.Try.func100 rfl (by kernel_rfl) rfl rfl (by kernel_rfl) ?_
  show At Go.Proofs.Try.prog Go.Proofs.Try.f100 1 0 ⟨[(0, .one (.c (.row 0 (.int .u32)))), (1, .one (.c (.d (.int .u32 name))))], [(0, some ⟨26, 2⟩)], [(0, [.run (.int .u32) b0_0])], 1⟩ _
  refine At.step hm ht ⟨[], [], [], [0, 1], [0]⟩ 1 ⟨[(0, .one (.c (.row 0 (.int .u32)))), (1, .one (.c (.d (.int .u32 name))))], [(0, some ⟨26, 2⟩)], [(0, [.run (.int .u32) b0_0])], 1⟩ [] (by kernel_rfl) trivial ?_
  obtain ⟨g218_0, h⟩ := ifS h
  refine At.step hm ht ⟨[], [], [], [0], [0, 4]⟩ 2 ⟨[(0, .one (.c (.row 1 (.int .u32))))], [(1, some ⟨26, 2⟩)], [(0, [.run (.int .u32) b0_0]), (1, [.run (.int .u32) (b0_0 ++ [name])])], 2⟩ [b0_0.length + [name].length ≤ maxLen ∧ (b0_0.length + [name].length) * 4 ≤ 140737488355328] (by kernel_rfl) ⟨g218_0, trivial⟩ ?_
  refine At.step hm ht ⟨[], [], [], [0, 5], [0, 1]⟩ 3 ⟨[(0, .one (.c (.row 1 (.int .u32)))), (5, .one (.c (.d (.int .i64 (IntKind.wrap .i64 ((((b0_0 ++ [name]).length : Nat) : Int) - 1))))))], [(1, some ⟨26, 2⟩)], [(0, [.run (.int .u32) b0_0]), (1, [.run (.int .u32) (b0_0 ++ [name])])], 2⟩ [] (by kernel_rfl) trivial ?_
  obtain ⟨w223, cw223, h⟩ := bindS h
  refine f100_table_insert_v2_L3_ok n (IntKind.wrap .i64 ((((b0_0 ++ [name]).length : Nat) : Int) - 1)) b0_0 (b0_0 ++ [name]) w223 cw223 _ ?_
  show At Go.Proofs.Try.prog Go.Proofs.Try.f100 1 6 ⟨[(0, .one (.c (.row 1 (.int .u32))))], [(1, some ⟨26, 2⟩)], [(0, [.run (.int .u32) w223.1]), (1, [.run (.int .u32) w223.2])], 2⟩ _
  have h := Option.some.inj h
  subst h
  exact At.fin hm ht ⟨[], [], [], [4], [0, 1]⟩ [] (by kernel_rfl) trivial
/-! slices.Index[[]int,int] -/
def f130_slices_Index_int_int_in (s : List Int) (v_ : Int) : Inn := ⟨[.c (.d (.sl (.int .i64) s)), .c (.d (.int .i64 v_))], [], [], 0⟩
def f130_slices_Index_int_int_out (r : Int) : Out := ⟨.one (.c (.d (.int .i64 r))), [], [], 0⟩
def f130_slices_Index_int_int_L2 : Nat → (List Int) → Int → Int → Int → Option ((Int) ⊕ (Unit))
  | 0, _, _, _, _ => none
  | n + 1, s, v_, t7, t8 =>
    if (decide ((t8 : Int) < t7)) = true then
      if (0 : Int) ≤ t8 ∧ t8 < (((s).length : Nat) : Int) then
      if ((v_ : Int) == (s.getD t8.toNat 0)) = true then
        some (.inl t8)
      else
        f130_slices_Index_int_int_L2 n s v_ t7 (IntKind.wrap .i64 (t8 + 1))
      else none
    else
      some (.inr ())
def f130_slices_Index_int_int_L2_k (w : (Int) ⊕ (Unit)) (o : Out) : Prop := match w with
  | .inl e => o = f130_slices_Index_int_int_out e
  | .inr e => At Go.Proofs.Try.prog Go.Proofs.Try.f130 0 7 ⟨[], [], [], 0⟩ o
theorem f130_slices_Index_int_int_L2_ok (n : Nat) : ∀ (s : List Int) (v_ : Int) (t7 : Int) (t8 : Int) (w : (Int) ⊕ (Unit)) (h : f130_slices_Index_int_int_L2 n s v_ t7 t8 = some w) (o : Out) (hk : f130_slices_Index_int_int_L2_k w o), At Go.Proofs.Try.prog Go.Proofs.Try.f130 0 2 ⟨[(0, .one (.c (.d (.sl (.int .i64) s)))), (1, .one (.c (.d (.int .i64 v_)))), (7, .one (.c (.d (.int .i64 t7)))), (8, .one (.c (.d (.int .i64 t8))))], [], [], 0⟩ o := by
  induction n with
  | zero => intro s v_ t7 t8 w h; rw [f130_slices_Index_int_int_L2] at h; cases h
  | succ n ih =>
    intro s v_ t7 t8 w h o hk
    rw [f130_slices_Index_int_int_L2] at h
    rcases iteS h with ⟨b231_e0, h⟩ | ⟨b231_e0, h⟩
    · refine At.step hm ht ⟨[], [true], [], [0, 1, 7, 8], []⟩ 3 ⟨[(0, .one (.c (.d (.sl (.int .i64) s)))), (1, .one (.c (.d (.int .i64 v_)))), (7, .one (.c (.d (.int .i64 t7)))), (8, .one (.c (.d (.int .i64 t8))))], [], [], 0⟩ [(decide ((t8 : Int) < t7)) = true] (by kernel_rfl) ⟨b231_e0, trivial⟩ ?_
      refine At.step hm ht ⟨[], [], [], [0, 1, 5, 7, 8], []⟩ 4 ⟨[(0, .one (.c (.d (.sl (.int .i64) s)))), (1, .one (.c (.d (.int .i64 v_)))), (5, .one (.c (.d (.int .i64 t8)))), (7, .one (.c (.d (.int .i64 t7)))), (8, .one (.c (.d (.int .i64 t8))))], [], [], 0⟩ [] (by kernel_rfl) trivial ?_
      obtain ⟨g233_0, h⟩ := ifS h
      rcases iteS h with ⟨b233_e0, h⟩ | ⟨b233_e0, h⟩
      · refine At.step hm ht ⟨[], [true], [], [5], []⟩ 5 ⟨[(5, .one (.c (.d (.int .i64 t8))))], [], [], 0⟩ [(0 : Int) ≤ t8 ∧ t8 < (((s).length : Nat) : Int), ((v_ : Int) == (s.getD t8.toNat 0)) = true] (by kernel_rfl) ⟨g233_0, b233_e0, trivial⟩ ?_
        have h := Option.some.inj h
        subst h
        have hk : o = f130_slices_Index_int_int_out t8 := hk
        subst hk
        exact At.fin hm ht ⟨[], [], [], [4], []⟩ [] (by kernel_rfl) trivial
      · refine At.step hm ht ⟨[], [false], [], [0, 1, 7, 8], []⟩ 6 ⟨[(0, .one (.c (.d (.sl (.int .i64) s)))), (1, .one (.c (.d (.int .i64 v_)))), (7, .one (.c (.d (.int .i64 t7)))), (8, .one (.c (.d (.int .i64 t8))))], [], [], 0⟩ [(0 : Int) ≤ t8 ∧ t8 < (((s).length : Nat) : Int), ((v_ : Int) == (s.getD t8.toNat 0)) = false] (by kernel_rfl) ⟨g233_0, b233_e0, trivial⟩ ?_
        refine At.step hm ht ⟨[], [], [], [0, 1, 7, 8], []⟩ 2 ⟨[(0, .one (.c (.d (.sl (.int .i64) s)))), (1, .one (.c (.d (.int .i64 v_)))), (7, .one (.c (.d (.int .i64 t7)))), (8, .one (.c (.d (.int .i64 (IntKind.wrap .i64 (t8 + 1))))))], [], [], 0⟩ [] (by kernel_rfl) trivial ?_
        exact ih s v_ t7 (IntKind.wrap .i64 (t8 + 1)) w h o hk
    · refine At.step hm ht ⟨[], [false], [], [], []⟩ 7 ⟨[], [], [], 0⟩ [(decide ((t8 : Int) < t7)) = false] (by kernel_rfl) ⟨b231_e0, trivial⟩ ?_
      have h := Option.some.inj h
      subst h
      exact hk
def f130_slices_Index_int_int (n : Nat) (s : List Int) (v_ : Int) : Option (Int) :=
  (f130_slices_Index_int_int_L2 n s v_ ((s.length : Nat) : Int) 0).bind fun w236 =>
  match w236 with
  | .inl e237 =>
    some e237
  | .inr e238 =>
    some (-1)
theorem f130_slices_Index_int_int_ok (n : Nat) (s : List Int) (v_ : Int) (r : Int) (h : f130_slices_Index_int_int n s v_ = some r) : FnOK Go.Proofs.Try.prog 130 (f130_slices_Index_int_int_in s v_) (f130_slices_Index_int_int_out r) := by
  unfold f130_slices_Index_int_int at h
  refine At.fn (r := 0) Go.Proofs.Try.func130 rfl (by kernel_rfl) rfl rfl (by kernel_rfl) ?_
  show At Go.Proofs.Try.prog Go.Proofs.Try.f130 0 0 ⟨[(0, .one (.c (.d (.sl (.int .i64) s)))), (1, .one (.c (.d (.int .i64 v_))))], [], [], 0⟩ _
  refine At.step hm ht ⟨[], [], [], [0, 1], []⟩ 1 ⟨[(0, .one (.c (.d (.sl (.int .i64) s)))), (1, .one (.c (.d (.int .i64 v_))))], [], [], 0⟩ [] (by kernel_rfl) trivial ?_
  refine At.step hm ht ⟨[], [], [], [0, 1, 7, 8], []⟩ 2 ⟨[(0, .one (.c (.d (.sl (.int .i64) s)))), (1, .one (.c (.d (.int .i64 v_)))), (7, .one (.c (.d (.int .i64 ((s.length : Nat) : Int))))), (8, .one (.c (.d (.int .i64 0))))], [], [], 0⟩ [] (by kernel_rfl) trivial ?_
  obtain ⟨w236, cw236, h⟩ := bindS h
  refine f130_slices_Index_int_int_L2_ok n s v_ ((s.length : Nat) : Int) 0 w236 cw236 _ ?_
  rcases w236 with e237 | e238
  · have h := Option.some.inj h
    subst h
    rfl
  · show At Go.Proofs.Try.prog Go.Proofs.Try.f130 0 7 ⟨[], [], [], 0⟩ _
    have h := Option.some.inj h
    subst h
    exact At.fin hm ht ⟨[], [], [], [4], []⟩ [] (by kernel_rfl) trivial
/-! slices.Contains[[]int,int] -/
def f99_slices_Contains_int_int_in (s : List Int) (v_ : Int) : Inn := ⟨[.c (.d (.sl (.int .i64) s)), .c (.d (.int .i64 v_))], [], [], 0⟩
def f99_slices_Contains_int_int_out (r : Bool) : Out := ⟨.one (.c (.d (.bool r))), [], [], 0⟩
def f99_slices_Contains_int_int (n : Nat) (s : List Int) (v_ : Int) : Option (Bool) :=
  (f130_slices_Index_int_int n s v_).bind fun r228_0 =>
  some (decide ((r228_0 : Int) ≥ 0))
theorem f99_slices_Contains_int_int_ok (n : Nat) (s : List Int) (v_ : Int) (r : Bool) (h : f99_slices_Contains_int_int n s v_ = some r) : FnOK Go.Proofs.Try.prog 99 (f99_slices_Contains_int_int_in s v_) (f99_slices_Contains_int_int_out r) := by
  unfold f99_slices_Contains_int_int at h
  refine At.fn (r := 0) Go.Proofs.Try.func99 rfl (by kernel_rfl) rfl rfl (by kernel_rfl) ?_
  show At Go.Proofs.Try.prog Go.Proofs.Try.f99 0 0 ⟨[(0, .one (.c (.d (.sl (.int .i64) s)))), (1, .one (.c (.d (.int .i64 v_))))], [], [], 0⟩ _
  refine At.step hm ht ⟨[], [], [], [0, 1], []⟩ 1 ⟨[(0, .one (.c (.d (.sl (.int .i64) s)))), (1, .one (.c (.d (.int .i64 v_))))], [], [], 0⟩ [] (by kernel_rfl) trivial ?_
  obtain ⟨r228_0, cr228_0, h⟩ := bindS h
  have h := Option.some.inj h
  subst h
  exact At.fin hm ht ⟨[(2, .call [] [] (f130_slices_Index_int_int_out r228_0))], [], [], [4], []⟩ [FnOK Go.Proofs.Try.prog 130 (f130_slices_Index_int_int_in s v_) (f130_slices_Index_int_int_out r228_0)] (by kernel_rfl) ⟨(f130_slices_Index_int_int_ok n s v_ r228_0 cr228_0), trivial⟩
/-! (*brougham/table.Table).Names -/
def f56_table_Table_Names_in (values : List Int) (t_0 : Int) (t_1 : Int) (t_3 : Int) (t_4 : Int) (t_5 : Int) (b1_0 : List (Int × Int × Int)) : Inn := ⟨[.c (.ptr 0 0), .c (.d (.sl (.int .i64) values))], [(1, ⟨169, 2⟩)], [(0, [.d (.int .u64 t_0), .d (.int .u64 t_1), .row 1 (.pair (.int .u8) (.pair (.int .u32) (.int .i64))), .d (.int .i64 t_3), .d (.int .i64 t_4), .d (.int .i64 t_5)]), (1, [.run (.pair (.int .u8) (.pair (.int .u32) (.int .i64))) b1_0])], 2⟩
def f56_table_Table_Names_out (r : Int × Int × Int × Int × Int × (List (Int × Int × Int)) × List Int) : Out := ⟨.one (.c (.row 2 (.int .u32))), [(1, ⟨169, 2⟩), (2, ⟨26, 2⟩)], [(0, [.d (.int .u64 r.1), .d (.int .u64 r.2.1), .row 1 (.pair (.int .u8) (.pair (.int .u32) (.int .i64))), .d (.int .i64 r.2.2.1), .d (.int .i64 r.2.2.2.1), .d (.int .i64 r.2.2.2.2.1)]), (1, [.run (.pair (.int .u8) (.pair (.int .u32) (.int .i64))) r.2.2.2.2.2.1]), (2, [.run (.int .u32) r.2.2.2.2.2.2])], 3⟩
def f56_table_Table_Names_L3 : Nat → (List Int) → Int → Int → Int → Int → Int → Int → Int → (List (Int × Int × Int)) → (List Int) → Option (Int × Int × Int × Int × Int × (List (Int × Int × Int)) × List Int)
  | 0, _, _, _, _, _, _, _, _, _, _ => none
  | n + 1, values, t12, t13, b0_0, b0_1, b0_3, b0_4, b0_5, b1_0, b2_0 =>
    if (decide ((t13 : Int) < t12)) = true then
      if (0 : Int) ≤ t13 ∧ t13 < (((b1_0).length : Nat) : Int) then
      if ((((b1_0.getD t13.toNat (0, (0, 0))).1) : Int) == 1) = true then
        if ((((values.length : Nat) : Int) : Int) == 0) = true then
          (f100_table_insert_v2 n (((b1_0.getD t13.toNat (0, (0, 0))).2).1) b2_0).bind fun r216_0 =>
          f56_table_Table_Names_L3 n values t12 (IntKind.wrap .i64 (t13 + 1)) b0_0 b0_1 b0_3 b0_4 b0_5 b1_0 r216_0.2
        else
          (f99_slices_Contains_int_int n values (((b1_0.getD t13.toNat (0, (0, 0))).2).2)).bind fun r215_0 =>
          if r215_0 = true then
            (f100_table_insert_v2 n (((b1_0.getD t13.toNat (0, (0, 0))).2).1) b2_0).bind fun r240_0 =>
            f56_table_Table_Names_L3 n values t12 (IntKind.wrap .i64 (t13 + 1)) b0_0 b0_1 b0_3 b0_4 b0_5 b1_0 r240_0.2
          else
            f56_table_Table_Names_L3 n values t12 (IntKind.wrap .i64 (t13 + 1)) b0_0 b0_1 b0_3 b0_4 b0_5 b1_0 b2_0
      else
        f56_table_Table_Names_L3 n values t12 (IntKind.wrap .i64 (t13 + 1)) b0_0 b0_1 b0_3 b0_4 b0_5 b1_0 b2_0
      else none
    else
      some ((b0_0, b0_1, b0_3, b0_4, b0_5, b1_0, b2_0))
def f56_table_Table_Names_L3_k (e : Int × Int × Int × Int × Int × (List (Int × Int × Int)) × List Int) (o : Out) : Prop := At Go.Proofs.Try.prog Go.Proofs.Try.f56 2 8 ⟨[(5, .one (.c (.row 2 (.int .u32))))], [(1, some ⟨169, 2⟩), (2, some ⟨26, 2⟩)], [(0, [.d (.int .u64 e.1), .d (.int .u64 e.2.1), .row 1 (.pair (.int .u8) (.pair (.int .u32) (.int .i64))), .d (.int .i64 e.2.2.1), .d (.int .i64 e.2.2.2.1), .d (.int .i64 e.2.2.2.2.1)]), (1, [.run (.pair (.int .u8) (.pair (.int .u32) (.int .i64))) e.2.2.2.2.2.1]), (2, [.run (.int .u32) e.2.2.2.2.2.2])], 3⟩ o
theorem f56_table_Table_Names_L3_ok (n : Nat) : ∀ (values : List Int) (t12 : Int) (t13 : Int) (b0_0 : Int) (b0_1 : Int) (b0_3 : Int) (b0_4 : Int) (b0_5 : Int) (b1_0 : List (Int × Int × Int)) (b2_0 : List Int) (w : Int × Int × Int × Int × Int × (List (Int × Int × Int)) × List Int) (h : f56_table_Table_Names_L3 n values t12 t13 b0_0 b0_1 b0_3 b0_4 b0_5 b1_0 b2_0 = some w) (o : Out) (hk : f56_table_Table_Names_L3_k w o), At Go.Proofs.Try.prog Go.Proofs.Try.f56 2 3 ⟨[(1, .one (.c (.d (.sl (.int .i64) values)))), (5, .one (.c (.row 2 (.int .u32)))), (11, .one (.c (.row 1 (.pair (.int .u8) (.pair (.int .u32) (.int .i64)))))), (12, .one (.c (.d (.int .i64 t12)))), (13, .one (.c (.d (.int .i64 t13))))], [(1, some ⟨169, 2⟩), (2, some ⟨26, 2⟩)], [(0, [.d (.int .u64 b0_0), .d (.int .u64 b0_1), .row 1 (.pair (.int .u8) (.pair (.int .u32) (.int .i64))), .d (.int .i64 b0_3), .d (.int .i64 b0_4), .d (.int .i64 b0_5)]), (1, [.run (.pair (.int .u8) (.pair (.int .u32) (.int .i64))) b1_0]), (2, [.run (.int .u32) b2_0])], 3⟩ o := by
  induction n with
  | zero => intro values t12 t13 b0_0 b0_1 b0_3 b0_4 b0_5 b1_0 b2_0 w h; rw [f56_table_Table_Names_L3] at h; cases h
  | succ n ih =>
    intro values t12 t13 b0_0 b0_1 b0_3 b0_4 b0_5 b1_0 b2_0 w h o hk
    rw [f56_table_Table_Names_L3] at h
    rcases iteS h with ⟨b213_e0, h⟩ | ⟨b213_e0, h⟩
    · refine At.step hm ht ⟨[], [true], [], [1, 5, 11, 12, 13], [0, 1, 2]⟩ 4 ⟨[(1, .one (.c (.d (.sl (.int .i64) values)))), (5, .one (.c (.row 2 (.int .u32)))), (11, .one (.c (.row 1 (.pair (.int .u8) (.pair (.int .u32) (.int .i64)))))), (12, .one (.c (.d (.int .i64 t12)))), (13, .one (.c (.d (.int .i64 t13))))], [(1, some ⟨169, 2⟩), (2, some ⟨26, 2⟩)], [(0, [.d (.int .u64 b0_0), .d (.int .u64 b0_1), .row 1 (.pair (.int .u8) (.pair (.int .u32) (.int .i64))), .d (.int .i64 b0_3), .d (.int .i64 b0_4), .d (.int .i64 b0_5)]), (1, [.run (.pair (.int .u8) (.pair (.int .u32) (.int .i64))) b1_0]), (2, [.run (.int .u32) b2_0])], 3⟩ [(decide ((t13 : Int) < t12)) = true] (by kernel_rfl) ⟨b213_e0, trivial⟩ ?_
      obtain ⟨g214_0, h⟩ := ifS h
      refine At.step hm ht ⟨[], [], [], [1, 5, 7, 11, 12, 13], [0, 1, 2, 5]⟩ 5 ⟨[(1, .one (.c (.d (.sl (.int .i64) values)))), (5, .one (.c (.row 2 (.int .u32)))), (7, .one (.c (.ptr 3 0))), (11, .one (.c (.row 1 (.pair (.int .u8) (.pair (.int .u32) (.int .i64)))))), (12, .one (.c (.d (.int .i64 t12)))), (13, .one (.c (.d (.int .i64 t13))))], [(1, some ⟨169, 2⟩), (2, some ⟨26, 2⟩)], [(0, [.d (.int .u64 b0_0), .d (.int .u64 b0_1), .row 1 (.pair (.int .u8) (.pair (.int .u32) (.int .i64))), .d (.int .i64 b0_3), .d (.int .i64 b0_4), .d (.int .i64 b0_5)]), (1, [.run (.pair (.int .u8) (.pair (.int .u32) (.int .i64))) b1_0]), (2, [.run (.int .u32) b2_0]), (3, [.d (.int .u8 ((b1_0.getD t13.toNat (0, (0, 0))).1)), .d (.int .u32 (((b1_0.getD t13.toNat (0, (0, 0))).2).1)), .d (.int .i64 (((b1_0.getD t13.toNat (0, (0, 0))).2).2))])], 4⟩ [(0 : Int) ≤ t13 ∧ t13 < (((b1_0).length : Nat) : Int), 0 + 3 ≤ 3] (by kernel_rfl) ⟨g214_0, (by decide), trivial⟩ ?_
      rcases iteS h with ⟨b215_3, h⟩ | ⟨b215_3, h⟩
      · rcases iteS h with ⟨b215_7, h⟩ | ⟨b215_7, h⟩
        · refine At.step hm ht ⟨[(3, .b true), (7, .b true)], [true], [], [1, 5, 7, 11, 12, 13], [0, 1, 2, 3]⟩ 6 ⟨[(1, .one (.c (.d (.sl (.int .i64) values)))), (5, .one (.c (.row 2 (.int .u32)))), (7, .one (.c (.ptr 3 0))), (11, .one (.c (.row 1 (.pair (.int .u8) (.pair (.int .u32) (.int .i64)))))), (12, .one (.c (.d (.int .i64 t12)))), (13, .one (.c (.d (.int .i64 t13))))], [(1, some ⟨169, 2⟩), (2, some ⟨26, 2⟩)], [(0, [.d (.int .u64 b0_0), .d (.int .u64 b0_1), .row 1 (.pair (.int .u8) (.pair (.int .u32) (.int .i64))), .d (.int .i64 b0_3), .d (.int .i64 b0_4), .d (.int .i64 b0_5)]), (1, [.run (.pair (.int .u8) (.pair (.int .u32) (.int .i64))) b1_0]), (2, [.run (.int .u32) b2_0]), (3, [.d (.int .u8 ((b1_0.getD t13.toNat (0, (0, 0))).1)), .d (.int .u32 (((b1_0.getD t13.toNat (0, (0, 0))).2).1)), .d (.int .i64 (((b1_0.getD t13.toNat (0, (0, 0))).2).2))])], 4⟩ [((((b1_0.getD t13.toNat (0, (0, 0))).1) : Int) == 1) = true, ((((values.length : Nat) : Int) : Int) == 0) = true, true = true] (by kernel_rfl) ⟨b215_3, b215_7, rfl, trivial⟩ ?_
          obtain ⟨r216_0, cr216_0, h⟩ := bindS h
          refine At.step hm ht ⟨[(3, .call [2] [] (f100_table_insert_v2_out r216_0))], [], [], [1, 5, 11, 12, 13], [0, 1, 8]⟩ 7 ⟨[(1, .one (.c (.d (.sl (.int .i64) values)))), (5, .one (.c (.row 2 (.int .u32)))), (11, .one (.c (.row 1 (.pair (.int .u8) (.pair (.int .u32) (.int .i64)))))), (12, .one (.c (.d (.int .i64 t12)))), (13, .one (.c (.d (.int .i64 t13))))], [(1, some ⟨169, 2⟩), (2, some ⟨26, 2⟩)], [(0, [.d (.int .u64 b0_0), .d (.int .u64 b0_1), .row 1 (.pair (.int .u8) (.pair (.int .u32) (.int .i64))), .d (.int .i64 b0_3), .d (.int .i64 b0_4), .d (.int .i64 b0_5)]), (1, [.run (.pair (.int .u8) (.pair (.int .u32) (.int .i64))) b1_0]), (2, [.run (.int .u32) r216_0.2])], 3⟩ [FnOK Go.Proofs.Try.prog 100 (f100_table_insert_v2_in (((b1_0.getD t13.toNat (0, (0, 0))).2).1) b2_0) (f100_table_insert_v2_out r216_0)] (by kernel_rfl) ⟨(f100_table_insert_v2_ok n (((b1_0.getD t13.toNat (0, (0, 0))).2).1) b2_0 r216_0 cr216_0), trivial⟩ ?_
          refine At.step hm ht ⟨[], [], [], [1, 5, 11, 12, 13], [0, 1, 2]⟩ 3 ⟨[(1, .one (.c (.d (.sl (.int .i64) values)))), (5, .one (.c (.row 2 (.int .u32)))), (11, .one (.c (.row 1 (.pair (.int .u8) (.pair (.int .u32) (.int .i64)))))), (12, .one (.c (.d (.int .i64 t12)))), (13, .one (.c (.d (.int .i64 (IntKind.wrap .i64 (t13 + 1))))))], [(1, some ⟨169, 2⟩), (2, some ⟨26, 2⟩)], [(0, [.d (.int .u64 b0_0), .d (.int .u64 b0_1), .row 1 (.pair (.int .u8) (.pair (.int .u32) (.int .i64))), .d (.int .i64 b0_3), .d (.int .i64 b0_4), .d (.int .i64 b0_5)]), (1, [.run (.pair (.int .u8) (.pair (.int .u32) (.int .i64))) b1_0]), (2, [.run (.int .u32) r216_0.2])], 3⟩ [] (by kernel_rfl) trivial ?_
          exact ih values t12 (IntKind.wrap .i64 (t13 + 1)) b0_0 b0_1 b0_3 b0_4 b0_5 b1_0 r216_0.2 w h o hk
        · obtain ⟨r215_0, cr215_0, h⟩ := bindS h
          rcases iteS h with ⟨b215_e0, h⟩ | ⟨b215_e0, h⟩
          · refine At.step hm ht ⟨[(3, .b true), (7, .b false), (11, .call [] [] (f99_slices_Contains_int_int_out r215_0))], [true], [], [1, 5, 7, 11, 12, 13], [0, 1, 2, 3]⟩ 6 ⟨[(1, .one (.c (.d (.sl (.int .i64) values)))), (5, .one (.c (.row 2 (.int .u32)))), (7, .one (.c (.ptr 3 0))), (11, .one (.c (.row 1 (.pair (.int .u8) (.pair (.int .u32) (.int .i64)))))), (12, .one (.c (.d (.int .i64 t12)))), (13, .one (.c (.d (.int .i64 t13))))], [(1, some ⟨169, 2⟩), (2, some ⟨26, 2⟩)], [(0, [.d (.int .u64 b0_0), .d (.int .u64 b0_1), .row 1 (.pair (.int .u8) (.pair (.int .u32) (.int .i64))), .d (.int .i64 b0_3), .d (.int .i64 b0_4), .d (.int .i64 b0_5)]), (1, [.run (.pair (.int .u8) (.pair (.int .u32) (.int .i64))) b1_0]), (2, [.run (.int .u32) b2_0]), (3, [.d (.int .u8 ((b1_0.getD t13.toNat (0, (0, 0))).1)), .d (.int .u32 (((b1_0.getD t13.toNat (0, (0, 0))).2).1)), .d (.int .i64 (((b1_0.getD t13.toNat (0, (0, 0))).2).2))])], 4⟩ [((((b1_0.getD t13.toNat (0, (0, 0))).1) : Int) == 1) = true, ((((values.length : Nat) : Int) : Int) == 0) = false, FnOK Go.Proofs.Try.prog 99 (f99_slices_Contains_int_int_in values (((b1_0.getD t13.toNat (0, (0, 0))).2).2)) (f99_slices_Contains_int_int_out r215_0), r215_0 = true] (by kernel_rfl) ⟨b215_3, b215_7, (f99_slices_Contains_int_int_ok n values (((b1_0.getD t13.toNat (0, (0, 0))).2).2) r215_0 cr215_0), b215_e0, trivial⟩ ?_
            obtain ⟨r240_0, cr240_0, h⟩ := bindS h
            refine At.step hm ht ⟨[(3, .call [2] [] (f100_table_insert_v2_out r240_0))], [], [], [1, 5, 11, 12, 13], [0, 1, 8]⟩ 7 ⟨[(1, .one (.c (.d (.sl (.int .i64) values)))), (5, .one (.c (.row 2 (.int .u32)))), (11, .one (.c (.row 1 (.pair (.int .u8) (.pair (.int .u32) (.int .i64)))))), (12, .one (.c (.d (.int .i64 t12)))), (13, .one (.c (.d (.int .i64 t13))))], [(1, some ⟨169, 2⟩), (2, some ⟨26, 2⟩)], [(0, [.d (.int .u64 b0_0), .d (.int .u64 b0_1), .row 1 (.pair (.int .u8) (.pair (.int .u32) (.int .i64))), .d (.int .i64 b0_3), .d (.int .i64 b0_4), .d (.int .i64 b0_5)]), (1, [.run (.pair (.int .u8) (.pair (.int .u32) (.int .i64))) b1_0]), (2, [.run (.int .u32) r240_0.2])], 3⟩ [FnOK Go.Proofs.Try.prog 100 (f100_table_insert_v2_in (((b1_0.getD t13.toNat (0, (0, 0))).2).1) b2_0) (f100_table_insert_v2_out r240_0)] (by kernel_rfl) ⟨(f100_table_insert_v2_ok n (((b1_0.getD t13.toNat (0, (0, 0))).2).1) b2_0 r240_0 cr240_0), trivial⟩ ?_
            refine At.step hm ht ⟨[], [], [], [1, 5, 11, 12, 13], [0, 1, 2]⟩ 3 ⟨[(1, .one (.c (.d (.sl (.int .i64) values)))), (5, .one (.c (.row 2 (.int .u32)))), (11, .one (.c (.row 1 (.pair (.int .u8) (.pair (.int .u32) (.int .i64)))))), (12, .one (.c (.d (.int .i64 t12)))), (13, .one (.c (.d (.int .i64 (IntKind.wrap .i64 (t13 + 1))))))], [(1, some ⟨169, 2⟩), (2, some ⟨26, 2⟩)], [(0, [.d (.int .u64 b0_0), .d (.int .u64 b0_1), .row 1 (.pair (.int .u8) (.pair (.int .u32) (.int .i64))), .d (.int .i64 b0_3), .d (.int .i64 b0_4), .d (.int .i64 b0_5)]), (1, [.run (.pair (.int .u8) (.pair (.int .u32) (.int .i64))) b1_0]), (2, [.run (.int .u32) r240_0.2])], 3⟩ [] (by kernel_rfl) trivial ?_
            exact ih values t12 (IntKind.wrap .i64 (t13 + 1)) b0_0 b0_1 b0_3 b0_4 b0_5 b1_0 r240_0.2 w h o hk
          · refine At.step hm ht ⟨[(3, .b true), (7, .b false), (11, .call [] [] (f99_slices_Contains_int_int_out r215_0))], [false], [], [1, 5, 11, 12, 13], [0, 1, 2]⟩ 7 ⟨[(1, .one (.c (.d (.sl (.int .i64) values)))), (5, .one (.c (.row 2 (.int .u32)))), (11, .one (.c (.row 1 (.pair (.int .u8) (.pair (.int .u32) (.int .i64)))))), (12, .one (.c (.d (.int .i64 t12)))), (13, .one (.c (.d (.int .i64 t13))))], [(1, some ⟨169, 2⟩), (2, some ⟨26, 2⟩)], [(0, [.d (.int .u64 b0_0), .d (.int .u64 b0_1), .row 1 (.pair (.int .u8) (.pair (.int .u32) (.int .i64))), .d (.int .i64 b0_3), .d (.int .i64 b0_4), .d (.int .i64 b0_5)]), (1, [.run (.pair (.int .u8) (.pair (.int .u32) (.int .i64))) b1_0]), (2, [.run (.int .u32) b2_0])], 3⟩ [((((b1_0.getD t13.toNat (0, (0, 0))).1) : Int) == 1) = true, ((((values.length : Nat) : Int) : Int) == 0) = false, FnOK Go.Proofs.Try.prog 99 (f99_slices_Contains_int_int_in values (((b1_0.getD t13.toNat (0, (0, 0))).2).2)) (f99_slices_Contains_int_int_out r215_0), r215_0 = false] (by kernel_rfl) ⟨b215_3, b215_7, (f99_slices_Contains_int_int_ok n values (((b1_0.getD t13.toNat (0, (0, 0))).2).2) r215_0 cr215_0), b215_e0, trivial⟩ ?_
            refine At.step hm ht ⟨[], [], [], [1, 5, 11, 12, 13], [0, 1, 2]⟩ 3 ⟨[(1, .one (.c (.d (.sl (.int .i64) values)))), (5, .one (.c (.row 2 (.int .u32)))), (11, .one (.c (.row 1 (.pair (.int .u8) (.pair (.int .u32) (.int .i64)))))), (12, .one (.c (.d (.int .i64 t12)))), (13, .one (.c (.d (.int .i64 (IntKind.wrap .i64 (t13 + 1))))))], [(1, some ⟨169, 2⟩), (2, some ⟨26, 2⟩)], [(0, [.d (.int .u64 b0_0), .d (.int .u64 b0_1), .row 1 (.pair (.int .u8) (.pair (.int .u32) (.int .i64))), .d (.int .i64 b0_3), .d (.int .i64 b0_4), .d (.int .i64 b0_5)]), (1, [.run (.pair (.int .u8) (.pair (.int .u32) (.int .i64))) b1_0]), (2, [.run (.int .u32) b2_0])], 3⟩ [] (by kernel_rfl) trivial ?_
            exact ih values t12 (IntKind.wrap .i64 (t13 + 1)) b0_0 b0_1 b0_3 b0_4 b0_5 b1_0 b2_0 w h o hk
      · refine At.step hm ht ⟨[(3, .b false)], [false], [], [1, 5, 11, 12, 13], [0, 1, 2]⟩ 7 ⟨[(1, .one (.c (.d (.sl (.int .i64) values)))), (5, .one (.c (.row 2 (.int .u32)))), (11, .one (.c (.row 1 (.pair (.int .u8) (.pair (.int .u32) (.int .i64)))))), (12, .one (.c (.d (.int .i64 t12)))), (13, .one (.c (.d (.int .i64 t13))))], [(1, some ⟨169, 2⟩), (2, some ⟨26, 2⟩)], [(0, [.d (.int .u64 b0_0), .d (.int .u64 b0_1), .row 1 (.pair (.int .u8) (.pair (.int .u32) (.int .i64))), .d (.int .i64 b0_3), .d (.int .i64 b0_4), .d (.int .i64 b0_5)]), (1, [.run (.pair (.int .u8) (.pair (.int .u32) (.int .i64))) b1_0]), (2, [.run (.int .u32) b2_0])], 3⟩ [((((b1_0.getD t13.toNat (0, (0, 0))).1) : Int) == 1) = false, false = false] (by kernel_rfl) ⟨b215_3, rfl, trivial⟩ ?_
        refine At.step hm ht ⟨[], [], [], [1, 5, 11, 12, 13], [0, 1, 2]⟩ 3 ⟨[(1, .one (.c (.d (.sl (.int .i64) values)))), (5, .one (.c (.row 2 (.int .u32)))), (11, .one (.c (.row 1 (.pair (.int .u8) (.pair (.int .u32) (.int .i64)))))), (12, .one (.c (.d (.int .i64 t12)))), (13, .one (.c (.d (.int .i64 (IntKind.wrap .i64 (t13 + 1))))))], [(1, some ⟨169, 2⟩), (2, some ⟨26, 2⟩)], [(0, [.d (.int .u64 b0_0), .d (.int .u64 b0_1), .row 1 (.pair (.int .u8) (.pair (.int .u32) (.int .i64))), .d (.int .i64 b0_3), .d (.int .i64 b0_4), .d (.int .i64 b0_5)]), (1, [.run (.pair (.int .u8) (.pair (.int .u32) (.int .i64))) b1_0]), (2, [.run (.int .u32) b2_0])], 3⟩ [] (by kernel_rfl) trivial ?_
        exact ih values t12 (IntKind.wrap .i64 (t13 + 1)) b0_0 b0_1 b0_3 b0_4 b0_5 b1_0 b2_0 w h o hk
    · refine At.step hm ht ⟨[], [false], [], [5], [0, 1, 2]⟩ 8 ⟨[(5, .one (.c (.row 2 (.int .u32))))], [(1, some ⟨169, 2⟩), (2, some ⟨26, 2⟩)], [(0, [.d (.int .u64 b0_0), .d (.int .u64 b0_1), .row 1 (.pair (.int .u8) (.pair (.int .u32) (.int .i64))), .d (.int .i64 b0_3), .d (.int .i64 b0_4), .d (.int .i64 b0_5)]), (1, [.run (.pair (.int .u8) (.pair (.int .u32) (.int .i64))) b1_0]), (2, [.run (.int .u32) b2_0])], 3⟩ [(decide ((t13 : Int) < t12)) = false] (by kernel_rfl) ⟨b213_e0, trivial⟩ ?_
      have h := Option.some.inj h
      subst h
      exact hk
def f56_table_Table_Names (n : Nat) (values : List Int) (t_0 : Int) (t_1 : Int) (t_3 : Int) (t_4 : Int) (t_5 : Int) (b1_0 : List (Int × Int × Int)) : Option (Int × Int × Int × Int × Int × (List (Int × Int × Int)) × List Int) :=
  (f56_table_Table_Names_L3 n values ((b1_0.length : Nat) : Int) 0 t_0 t_1 t_3 t_4 t_5 b1_0 []).bind fun w244 =>
  some (w244.1, w244.2.1, w244.2.2.1, w244.2.2.2.1, w244.2.2.2.2.1, w244.2.2.2.2.2.1, w244.2.2.2.2.2.2)
theorem f56_table_Table_Names_ok (n : Nat) (values : List Int) (t_0 : Int) (t_1 : Int) (t_3 : Int) (t_4 : Int) (t_5 : Int) (b1_0 : List (Int × Int × Int)) (r : Int × Int × Int × Int × Int × (List (Int × Int × Int)) × List Int) (h : f56_table_Table_Names n values t_0 t_1 t_3 t_4 t_5 b1_0 = some r) : FnOK Go.Proofs.Try.prog 56 (f56_table_Table_Names_in values t_0 t_1 t_3 t_4 t_5 b1_0) (f56_table_Table_Names_out r) := by
  unfold f56_table_Table_Names at h
  refine At.fn (r := 0) Go.Proofs.Try.func56 rfl (by kernel_rfl) rfl rfl (by kernel_rfl) ?_
  show At Go.Proofs.Try.prog Go.Proofs.Try.f56 2 0 ⟨[(0, .one (.c (.ptr 0 0))), (1, .one (.c (.d (.sl (.int .i64) values))))], [(1, some ⟨169, 2⟩)], [(0, [.d (.int .u64 t_0), .d (.int .u64 t_1), .row 1 (.pair (.int .u8) (.pair (.int .u32) (.int .i64))), .d (.int .i64 t_3), .d (.int .i64 t_4), .d (.int .i64 t_5)]), (1, [.run (.pair (.int .u8) (.pair (.int .u32) (.int .i64))) b1_0])], 2⟩ _
  refine At.step hm ht ⟨[], [], [], [0, 1], [0, 1]⟩ 1 ⟨[(0, .one (.c (.ptr 0 0))), (1, .one (.c (.d (.sl (.int .i64) values))))], [(1, some ⟨169, 2⟩)], [(0, [.d (.int .u64 t_0), .d (.int .u64 t_1), .row 1 (.pair (.int .u8) (.pair (.int .u32) (.int .i64))), .d (.int .i64 t_3), .d (.int .i64 t_4), .d (.int .i64 t_5)]), (1, [.run (.pair (.int .u8) (.pair (.int .u32) (.int .i64))) b1_0])], 2⟩ [] (by kernel_rfl) trivial ?_
  refine At.step hm ht ⟨[], [], [], [0, 1, 5], [0, 1]⟩ 2 ⟨[(0, .one (.c (.ptr 0 0))), (1, .one (.c (.d (.sl (.int .i64) values)))), (5, .one (.c (.d (.sl .unit []))))], [(1, some ⟨169, 2⟩)], [(0, [.d (.int .u64 t_0), .d (.int .u64 t_1), .row 1 (.pair (.int .u8) (.pair (.int .u32) (.int .i64))), .d (.int .i64 t_3), .d (.int .i64 t_4), .d (.int .i64 t_5)]), (1, [.run (.pair (.int .u8) (.pair (.int .u32) (.int .i64))) b1_0])], 2⟩ [] (by kernel_rfl) trivial ?_
  refine At.step hm ht ⟨[], [], [.nilrow 5 0 (.int .u32) 26], [1, 5, 11, 12, 13], [0, 1, 8]⟩ 3 ⟨[(1, .one (.c (.d (.sl (.int .i64) values)))), (5, .one (.c (.row 2 (.int .u32)))), (11, .one (.c (.row 1 (.pair (.int .u8) (.pair (.int .u32) (.int .i64)))))), (12, .one (.c (.d (.int .i64 ((b1_0.length : Nat) : Int))))), (13, .one (.c (.d (.int .i64 0))))], [(1, some ⟨169, 2⟩), (2, some ⟨26, 2⟩)], [(0, [.d (.int .u64 t_0), .d (.int .u64 t_1), .row 1 (.pair (.int .u8) (.pair (.int .u32) (.int .i64))), .d (.int .i64 t_3), .d (.int .i64 t_4), .d (.int .i64 t_5)]), (1, [.run (.pair (.int .u8) (.pair (.int .u32) (.int .i64))) b1_0]), (2, [.run (.int .u32) []])], 3⟩ [] (by kernel_rfl) trivial ?_
  obtain ⟨w244, cw244, h⟩ := bindS h
  refine f56_table_Table_Names_L3_ok n values ((b1_0.length : Nat) : Int) 0 t_0 t_1 t_3 t_4 t_5 b1_0 [] w244 cw244 _ ?_
  show At Go.Proofs.Try.prog Go.Proofs.Try.f56 2 8 ⟨[(5, .one (.c (.row 2 (.int .u32))))], [(1, some ⟨169, 2⟩), (2, some ⟨26, 2⟩)], [(0, [.d (.int .u64 w244.1), .d (.int .u64 w244.2.1), .row 1 (.pair (.int .u8) (.pair (.int .u32) (.int .i64))), .d (.int .i64 w244.2.2.1), .d (.int .i64 w244.2.2.2.1), .d (.int .i64 w244.2.2.2.2.1)]), (1, [.run (.pair (.int .u8) (.pair (.int .u32) (.int .i64))) w244.2.2.2.2.2.1]), (2, [.run (.int .u32) w244.2.2.2.2.2.2])], 3⟩ _
  have h := Option.some.inj h
  subst h
  exact At.fin hm ht ⟨[], [], [], [4], [0, 1, 2]⟩ [] (by kernel_rfl) trivial
/-! brougham/broughamlaw40.row -/
def f55_broughamlaw40_row_in (b0_0 : List Int) (b1_0 : List Int) : Inn := ⟨[.c (.row 0 (.int .u32)), .c (.row 1 (.int .u32))], [(0, ⟨26, 2⟩), (1, ⟨26, 2⟩)], [(0, [.run (.int .u32) b0_0]), (1, [.run (.int .u32) b1_0])], 2⟩
def f55_broughamlaw40_row_out (r : Bool × List Int × List Int) : Out := ⟨.one (.c (.d (.bool r.1))), [(0, ⟨26, 2⟩), (1, ⟨26, 2⟩)], [(0, [.run (.int .u32) r.2.1]), (1, [.run (.int .u32) r.2.2])], 2⟩
def f55_broughamlaw40_row_L4 : Nat → Int → (List Int) → (List Int) → Option ((Bool × List Int × List Int) ⊕ (List Int × List Int))
  | 0, _, _, _ => none
  | n + 1, i, b0_0, b1_0 =>
    if (decide ((i : Int) < ((b0_0.length : Nat) : Int))) = true then
      if (0 : Int) ≤ i ∧ i < (((b0_0).length : Nat) : Int) then
      if (0 : Int) ≤ i ∧ i < (((b1_0).length : Nat) : Int) then
      if (((b0_0.getD i.toNat 0) : Int) != (b1_0.getD i.toNat 0)) = true then
        some (.inl (false, b0_0, b1_0))
      else
        f55_broughamlaw40_row_L4 n (IntKind.wrap .i64 (i + 1)) b0_0 b1_0
      else none
      else none
    else
      some (.inr ((b0_0, b1_0)))
def f55_broughamlaw40_row_L4_k (w : (Bool × List Int × List Int) ⊕ (List Int × List Int)) (o : Out) : Prop := match w with
  | .inl e => o = f55_broughamlaw40_row_out e
  | .inr e => At Go.Proofs.Try.prog Go.Proofs.Try.f55 2 8 ⟨[], [(0, some ⟨26, 2⟩), (1, some ⟨26, 2⟩)], [(0, [.run (.int .u32) e.1]), (1, [.run (.int .u32) e.2])], 2⟩ o
theorem f55_broughamlaw40_row_L4_ok (n : Nat) : ∀ (i : Int) (b0_0 : List Int) (b1_0 : List Int) (w : (Bool × List Int × List Int) ⊕ (List Int × List Int)) (h : f55_broughamlaw40_row_L4 n i b0_0 b1_0 = some w) (o : Out) (hk : f55_broughamlaw40_row_L4_k w o), At Go.Proofs.Try.prog Go.Proofs.Try.f55 2 4 ⟨[(0, .one (.c (.row 0 (.int .u32)))), (1, .one (.c (.row 1 (.int .u32)))), (5, .one (.c (.d (.int .i64 i))))], [(0, some ⟨26, 2⟩), (1, some ⟨26, 2⟩)], [(0, [.run (.int .u32) b0_0]), (1, [.run (.int .u32) b1_0])], 2⟩ o := by
  induction n with
  | zero => intro i b0_0 b1_0 w h; rw [f55_broughamlaw40_row_L4] at h; cases h
  | succ n ih =>
    intro i b0_0 b1_0 w h o hk
    rw [f55_broughamlaw40_row_L4] at h
    rcases iteS h with ⟨b251_e0, h⟩ | ⟨b251_e0, h⟩
    · refine At.step hm ht ⟨[], [true], [], [0, 1, 5], [0, 1]⟩ 6 ⟨[(0, .one (.c (.row 0 (.int .u32)))), (1, .one (.c (.row 1 (.int .u32)))), (5, .one (.c (.d (.int .i64 i))))], [(0, some ⟨26, 2⟩), (1, some ⟨26, 2⟩)], [(0, [.run (.int .u32) b0_0]), (1, [.run (.int .u32) b1_0])], 2⟩ [(decide ((i : Int) < ((b0_0.length : Nat) : Int))) = true] (by kernel_rfl) ⟨b251_e0, trivial⟩ ?_
      obtain ⟨g252_0, h⟩ := ifS h
      obtain ⟨g252_1, h⟩ := ifS h
      rcases iteS h with ⟨b252_e0, h⟩ | ⟨b252_e0, h⟩
      · refine At.step hm ht ⟨[], [true], [], [], [0, 1]⟩ 7 ⟨[], [(0, some ⟨26, 2⟩), (1, some ⟨26, 2⟩)], [(0, [.run (.int .u32) b0_0]), (1, [.run (.int .u32) b1_0])], 2⟩ [(0 : Int) ≤ i ∧ i < (((b0_0).length : Nat) : Int), (0 : Int) ≤ i ∧ i < (((b1_0).length : Nat) : Int), (((b0_0.getD i.toNat 0) : Int) != (b1_0.getD i.toNat 0)) = true] (by kernel_rfl) ⟨g252_0, g252_1, b252_e0, trivial⟩ ?_
        have h := Option.some.inj h
        subst h
        have hk : o = f55_broughamlaw40_row_out (false, b0_0, b1_0) := hk
        subst hk
        exact At.fin hm ht ⟨[], [], [], [4], [0, 1]⟩ [] (by kernel_rfl) trivial
      · refine At.step hm ht ⟨[], [false], [], [0, 1, 5], [0, 1]⟩ 5 ⟨[(0, .one (.c (.row 0 (.int .u32)))), (1, .one (.c (.row 1 (.int .u32)))), (5, .one (.c (.d (.int .i64 i))))], [(0, some ⟨26, 2⟩), (1, some ⟨26, 2⟩)], [(0, [.run (.int .u32) b0_0]), (1, [.run (.int .u32) b1_0])], 2⟩ [(0 : Int) ≤ i ∧ i < (((b0_0).length : Nat) : Int), (0 : Int) ≤ i ∧ i < (((b1_0).length : Nat) : Int), (((b0_0.getD i.toNat 0) : Int) != (b1_0.getD i.toNat 0)) = false] (by kernel_rfl) ⟨g252_0, g252_1, b252_e0, trivial⟩ ?_
        refine At.step hm ht ⟨[], [], [], [0, 1, 5], [0, 1]⟩ 4 ⟨[(0, .one (.c (.row 0 (.int .u32)))), (1, .one (.c (.row 1 (.int .u32)))), (5, .one (.c (.d (.int .i64 (IntKind.wrap .i64 (i + 1))))))], [(0, some ⟨26, 2⟩), (1, some ⟨26, 2⟩)], [(0, [.run (.int .u32) b0_0]), (1, [.run (.int .u32) b1_0])], 2⟩ [] (by kernel_rfl) trivial ?_
        exact ih (IntKind.wrap .i64 (i + 1)) b0_0 b1_0 w h o hk
    · refine At.step hm ht ⟨[], [false], [], [], [0, 1]⟩ 8 ⟨[], [(0, some ⟨26, 2⟩), (1, some ⟨26, 2⟩)], [(0, [.run (.int .u32) b0_0]), (1, [.run (.int .u32) b1_0])], 2⟩ [(decide ((i : Int) < ((b0_0.length : Nat) : Int))) = false] (by kernel_rfl) ⟨b251_e0, trivial⟩ ?_
      have h := Option.some.inj h
      subst h
      exact hk
def f55_broughamlaw40_row (n : Nat) (b0_0 : List Int) (b1_0 : List Int) : Option (Bool × List Int × List Int) :=
  if ((((b0_0.length : Nat) : Int) : Int) != ((b1_0.length : Nat) : Int)) = true then
    some (false, b0_0, b1_0)
  else
    (f55_broughamlaw40_row_L4 n 0 b0_0 b1_0).bind fun w255 =>
    match w255 with
    | .inl e256 =>
      some (e256.1, e256.2.1, e256.2.2)
    | .inr e257 =>
      some (true, e257.1, e257.2)
theorem f55_broughamlaw40_row_ok (n : Nat) (b0_0 : List Int) (b1_0 : List Int) (r : Bool × List Int × List Int) (h : f55_broughamlaw40_row n b0_0 b1_0 = some r) : FnOK Go.Proofs.Try.prog 55 (f55_broughamlaw40_row_in b0_0 b1_0) (f55_broughamlaw40_row_out r) := by
  unfold f55_broughamlaw40_row at h
  refine At.fn (r := 0) Go.Proofs.Try.func55 rfl (by kernel_rfl) rfl rfl (by kernel_rfl) ?_
  show At Go.Proofs.Try.prog Go.Proofs.Try.f55 2 0 ⟨[(0, .one (.c (.row 0 (.int .u32)))), (1, .one (.c (.row 1 (.int .u32))))], [(0, some ⟨26, 2⟩), (1, some ⟨26, 2⟩)], [(0, [.run (.int .u32) b0_0]), (1, [.run (.int .u32) b1_0])], 2⟩ _
  refine At.step hm ht ⟨[], [], [], [0, 1], [0, 1]⟩ 1 ⟨[(0, .one (.c (.row 0 (.int .u32)))), (1, .one (.c (.row 1 (.int .u32))))], [(0, some ⟨26, 2⟩), (1, some ⟨26, 2⟩)], [(0, [.run (.int .u32) b0_0]), (1, [.run (.int .u32) b1_0])], 2⟩ [] (by kernel_rfl) trivial ?_
  rcases iteS h with ⟨b248_e0, h⟩ | ⟨b248_e0, h⟩
  · refine At.step hm ht ⟨[], [true], [], [], [0, 1]⟩ 2 ⟨[], [(0, some ⟨26, 2⟩), (1, some ⟨26, 2⟩)], [(0, [.run (.int .u32) b0_0]), (1, [.run (.int .u32) b1_0])], 2⟩ [((((b0_0.length : Nat) : Int) : Int) != ((b1_0.length : Nat) : Int)) = true] (by kernel_rfl) ⟨b248_e0, trivial⟩ ?_
    have h := Option.some.inj h
    subst h
    exact At.fin hm ht ⟨[], [], [], [4], [0, 1]⟩ [] (by kernel_rfl) trivial
  · refine At.step hm ht ⟨[], [false], [], [0, 1], [0, 1]⟩ 3 ⟨[(0, .one (.c (.row 0 (.int .u32)))), (1, .one (.c (.row 1 (.int .u32))))], [(0, some ⟨26, 2⟩), (1, some ⟨26, 2⟩)], [(0, [.run (.int .u32) b0_0]), (1, [.run (.int .u32) b1_0])], 2⟩ [((((b0_0.length : Nat) : Int) : Int) != ((b1_0.length : Nat) : Int)) = false] (by kernel_rfl) ⟨b248_e0, trivial⟩ ?_
    refine At.step hm ht ⟨[], [], [], [0, 1, 5], [0, 1]⟩ 4 ⟨[(0, .one (.c (.row 0 (.int .u32)))), (1, .one (.c (.row 1 (.int .u32)))), (5, .one (.c (.d (.int .i64 0))))], [(0, some ⟨26, 2⟩), (1, some ⟨26, 2⟩)], [(0, [.run (.int .u32) b0_0]), (1, [.run (.int .u32) b1_0])], 2⟩ [] (by kernel_rfl) trivial ?_
    obtain ⟨w255, cw255, h⟩ := bindS h
    refine f55_broughamlaw40_row_L4_ok n 0 b0_0 b1_0 w255 cw255 _ ?_
    rcases w255 with e256 | e257
    · have h := Option.some.inj h
      subst h
      rfl
    · show At Go.Proofs.Try.prog Go.Proofs.Try.f55 2 8 ⟨[], [(0, some ⟨26, 2⟩), (1, some ⟨26, 2⟩)], [(0, [.run (.int .u32) e257.1]), (1, [.run (.int .u32) e257.2])], 2⟩ _
      have h := Option.some.inj h
      subst h
      exact At.fin hm ht ⟨[], [], [], [4], [0, 1]⟩ [] (by kernel_rfl) trivial
/-! brougham/broughamlaw40.alive -/
def f57_broughamlaw40_alive_in : Inn := ⟨[], [], [], 0⟩
def f57_broughamlaw40_alive_out (r : Bool) : Out := ⟨.one (.c (.d (.bool r))), [], [], 0⟩
def f57_broughamlaw40_alive (n : Nat) : Option (Bool) :=
  (f50_table_New 1 0 4).bind fun r260_0 =>
  (f52_table_Table_Put n 7 1 r260_0.1 r260_0.2.1 r260_0.2.2.1 r260_0.2.2.2.1 r260_0.2.2.2.2.1 r260_0.2.2.2.2.2).bind fun r262_0 =>
  (f52_table_Table_Put n 9 1 r262_0.2.1 r262_0.2.2.1 r262_0.2.2.2.1 r262_0.2.2.2.2.1 r262_0.2.2.2.2.2.1 r262_0.2.2.2.2.2.2.2).bind fun r262_1 =>
  (f51_table_Table_Delete n 7 r262_1.2.1 r262_1.2.2.1 r262_1.2.2.2.1 r262_1.2.2.2.2.1 r262_1.2.2.2.2.2.1 r262_1.2.2.2.2.2.2.2).bind fun r262_2 =>
  (f56_table_Table_Names n [] r262_2.2.1 r262_2.2.2.1 r262_2.2.2.2.1 r262_2.2.2.2.2.1 r262_2.2.2.2.2.2.1 r262_2.2.2.2.2.2.2).bind fun r263_0 =>
  if r262_0.1 = true then
    if r262_1.1 = true then
      if r262_2.1 = true then
        if ((((r263_0.2.2.2.2.2.2.length : Nat) : Int) : Int) == 1) = true then
          if (0 : Int) ≤ 0 ∧ 0 < (((r263_0.2.2.2.2.2.2).length : Nat) : Int) then
          if (((r263_0.2.2.2.2.2.2.getD 0 0) : Int) == 9) = true then
            (f54_table_Table_Len r263_0.1 r263_0.2.1 r263_0.2.2.1 r263_0.2.2.2.1 r263_0.2.2.2.2.1 r263_0.2.2.2.2.2.1).bind fun r264_1 =>
            if ((r264_1.1 : Int) == 1) = true then
              some true
            else
              some false
          else
            some false
          else none
        else
          some false
      else
        some false
    else
      some false
  else
    some false
theorem f57_broughamlaw40_alive_ok (n : Nat) (r : Bool) (h : f57_broughamlaw40_alive n = some r) : FnOK Go.Proofs.Try.prog 57 (f57_broughamlaw40_alive_in) (f57_broughamlaw40_alive_out r) := by
  unfold f57_broughamlaw40_alive at h
  refine At.fn (r := 0) Go.Proofs.Try.func57 rfl (by kernel_rfl) rfl rfl (by kernel_rfl) ?_
  show At Go.Proofs.Try.prog Go.Proofs.Try.f57 0 0 ⟨[], [], [], 0⟩ _
  refine At.step hm ht ⟨[], [], [], [], []⟩ 1 ⟨[], [], [], 0⟩ [] (by kernel_rfl) trivial ?_
  obtain ⟨r260_0, cr260_0, h⟩ := bindS h
  refine At.step hm ht ⟨[(1, .call [] [] (f50_table_New_out r260_0))], [], [], [1], [1, 2]⟩ 2 ⟨[(1, .one (.c (.ptr 0 0)))], [(1, some ⟨169, 2⟩)], [(0, [.d (.int .u64 r260_0.1), .d (.int .u64 r260_0.2.1), .row 1 (.pair (.int .u8) (.pair (.int .u32) (.int .i64))), .d (.int .i64 r260_0.2.2.1), .d (.int .i64 r260_0.2.2.2.1), .d (.int .i64 r260_0.2.2.2.2.1)]), (1, [.run (.pair (.int .u8) (.pair (.int .u32) (.int .i64))) r260_0.2.2.2.2.2])], 2⟩ [FnOK Go.Proofs.Try.prog 50 (f50_table_New_in 1 0 4) (f50_table_New_out r260_0)] (by kernel_rfl) ⟨(f50_table_New_ok 1 0 4 r260_0 cr260_0), trivial⟩ ?_
  refine At.step hm ht ⟨[], [false], [], [1], [0, 1]⟩ 4 ⟨[(1, .one (.c (.ptr 0 0)))], [(1, some ⟨169, 2⟩)], [(0, [.d (.int .u64 r260_0.1), .d (.int .u64 r260_0.2.1), .row 1 (.pair (.int .u8) (.pair (.int .u32) (.int .i64))), .d (.int .i64 r260_0.2.2.1), .d (.int .i64 r260_0.2.2.2.1), .d (.int .i64 r260_0.2.2.2.2.1)]), (1, [.run (.pair (.int .u8) (.pair (.int .u32) (.int .i64))) r260_0.2.2.2.2.2])], 2⟩ [false = false] (by kernel_rfl) ⟨rfl, trivial⟩ ?_
  obtain ⟨r262_0, cr262_0, h⟩ := bindS h
  obtain ⟨r262_1, cr262_1, h⟩ := bindS h
  obtain ⟨r262_2, cr262_2, h⟩ := bindS h
  refine At.step hm ht ⟨[(1, .call [0, 1] [] (f52_table_Table_Put_out r262_0)), (3, .call [0, 5] [] (f52_table_Table_Put_out r262_1)), (5, .call [0, 9] [] (f51_table_Table_Delete_out r262_2))], [], [], [1, 2, 3, 4], [0, 9]⟩ 5 ⟨[(1, .one (.c (.ptr 0 0))), (2, .one (.c (.d (.bool r262_0.1)))), (3, .one (.c (.d (.bool r262_1.1)))), (4, .one (.c (.d (.bool r262_2.1))))], [(1, some ⟨169, 2⟩)], [(0, [.d (.int .u64 r262_2.2.1), .d (.int .u64 r262_2.2.2.1), .row 1 (.pair (.int .u8) (.pair (.int .u32) (.int .i64))), .d (.int .i64 r262_2.2.2.2.1), .d (.int .i64 r262_2.2.2.2.2.1), .d (.int .i64 r262_2.2.2.2.2.2.1)]), (1, [.run (.pair (.int .u8) (.pair (.int .u32) (.int .i64))) r262_2.2.2.2.2.2.2])], 2⟩ [FnOK Go.Proofs.Try.prog 52 (f52_table_Table_Put_in 7 1 r260_0.1 r260_0.2.1 r260_0.2.2.1 r260_0.2.2.2.1 r260_0.2.2.2.2.1 r260_0.2.2.2.2.2) (f52_table_Table_Put_out r262_0), FnOK Go.Proofs.Try.prog 52 (f52_table_Table_Put_in 9 1 r262_0.2.1 r262_0.2.2.1 r262_0.2.2.2.1 r262_0.2.2.2.2.1 r262_0.2.2.2.2.2.1 r262_0.2.2.2.2.2.2.2) (f52_table_Table_Put_out r262_1), FnOK Go.Proofs.Try.prog 51 (f51_table_Table_Delete_in 7 r262_1.2.1 r262_1.2.2.1 r262_1.2.2.2.1 r262_1.2.2.2.2.1 r262_1.2.2.2.2.2.1 r262_1.2.2.2.2.2.2.2) (f51_table_Table_Delete_out r262_2)] (by kernel_rfl) ⟨(f52_table_Table_Put_ok n 7 1 r260_0.1 r260_0.2.1 r260_0.2.2.1 r260_0.2.2.2.1 r260_0.2.2.2.2.1 r260_0.2.2.2.2.2 r262_0 cr262_0), (f52_table_Table_Put_ok n 9 1 r262_0.2.1 r262_0.2.2.1 r262_0.2.2.2.1 r262_0.2.2.2.2.1 r262_0.2.2.2.2.2.1 r262_0.2.2.2.2.2.2.2 r262_1 cr262_1), (f51_table_Table_Delete_ok n 7 r262_1.2.1 r262_1.2.2.1 r262_1.2.2.2.1 r262_1.2.2.2.2.1 r262_1.2.2.2.2.2.1 r262_1.2.2.2.2.2.2.2 r262_2 cr262_2), trivial⟩ ?_
  obtain ⟨r263_0, cr263_0, h⟩ := bindS h
  refine At.step hm ht ⟨[(1, .call [0, 1] [(1, 0, (.int .i64))] (f56_table_Table_Names_out r263_0))], [], [], [1, 2, 3, 4, 5], [0, 5, 1]⟩ 6 ⟨[(1, .one (.c (.ptr 0 0))), (2, .one (.c (.d (.bool r262_0.1)))), (3, .one (.c (.d (.bool r262_1.1)))), (4, .one (.c (.d (.bool r262_2.1)))), (5, .one (.c (.row 1 (.int .u32))))], [(1, some ⟨26, 2⟩), (2, some ⟨169, 2⟩)], [(0, [.d (.int .u64 r263_0.1), .d (.int .u64 r263_0.2.1), .row 2 (.pair (.int .u8) (.pair (.int .u32) (.int .i64))), .d (.int .i64 r263_0.2.2.1), .d (.int .i64 r263_0.2.2.2.1), .d (.int .i64 r263_0.2.2.2.2.1)]), (1, [.run (.int .u32) r263_0.2.2.2.2.2.2]), (2, [.run (.pair (.int .u8) (.pair (.int .u32) (.int .i64))) r263_0.2.2.2.2.2.1])], 3⟩ [FnOK Go.Proofs.Try.prog 56 (f56_table_Table_Names_in [] r262_2.2.1 r262_2.2.2.1 r262_2.2.2.2.1 r262_2.2.2.2.2.1 r262_2.2.2.2.2.2.1 r262_2.2.2.2.2.2.2) (f56_table_Table_Names_out r263_0)] (by kernel_rfl) ⟨(f56_table_Table_Names_ok n [] r262_2.2.1 r262_2.2.2.1 r262_2.2.2.2.1 r262_2.2.2.2.2.1 r262_2.2.2.2.2.2.1 r262_2.2.2.2.2.2.2 r263_0 cr263_0), trivial⟩ ?_
  rcases iteS h with ⟨b264_1, h⟩ | ⟨b264_1, h⟩
  · rcases iteS h with ⟨b264_4, h⟩ | ⟨b264_4, h⟩
    · rcases iteS h with ⟨b264_7, h⟩ | ⟨b264_7, h⟩
      · rcases iteS h with ⟨b264_12, h⟩ | ⟨b264_12, h⟩
        · obtain ⟨g264_0, h⟩ := ifS h
          rcases iteS h with ⟨b264_18, h⟩ | ⟨b264_18, h⟩
          · obtain ⟨r264_1, cr264_1, h⟩ := bindS h
            rcases iteS h with ⟨b264_23, h⟩ | ⟨b264_23, h⟩
            · have h := Option.some.inj h
              subst h
              exact At.fin hm ht ⟨[(1, .b true), (4, .b true), (7, .b true), (12, .b true), (18, .b true), (20, .call [0, 2] [] (f54_table_Table_Len_out r264_1)), (23, .b true)], [], [], [0], []⟩ [r262_0.1 = true, r262_1.1 = true, r262_2.1 = true, ((((r263_0.2.2.2.2.2.2.length : Nat) : Int) : Int) == 1) = true, (0 : Int) ≤ 0 ∧ 0 < (((r263_0.2.2.2.2.2.2).length : Nat) : Int), (((r263_0.2.2.2.2.2.2.getD 0 0) : Int) == 9) = true, FnOK Go.Proofs.Try.prog 54 (f54_table_Table_Len_in r263_0.1 r263_0.2.1 r263_0.2.2.1 r263_0.2.2.2.1 r263_0.2.2.2.2.1 r263_0.2.2.2.2.2.1) (f54_table_Table_Len_out r264_1), ((r264_1.1 : Int) == 1) = true] (by kernel_rfl) ⟨b264_1, b264_4, b264_7, b264_12, g264_0, b264_18, (f54_table_Table_Len_ok r263_0.1 r263_0.2.1 r263_0.2.2.1 r263_0.2.2.2.1 r263_0.2.2.2.2.1 r263_0.2.2.2.2.2.1 r264_1 cr264_1), b264_23, trivial⟩
            · have h := Option.some.inj h
              subst h
              exact At.fin hm ht ⟨[(1, .b true), (4, .b true), (7, .b true), (12, .b true), (18, .b true), (20, .call [0, 2] [] (f54_table_Table_Len_out r264_1)), (23, .b false)], [], [], [0], []⟩ [r262_0.1 = true, r262_1.1 = true, r262_2.1 = true, ((((r263_0.2.2.2.2.2.2.length : Nat) : Int) : Int) == 1) = true, (0 : Int) ≤ 0 ∧ 0 < (((r263_0.2.2.2.2.2.2).length : Nat) : Int), (((r263_0.2.2.2.2.2.2.getD 0 0) : Int) == 9) = true, FnOK Go.Proofs.Try.prog 54 (f54_table_Table_Len_in r263_0.1 r263_0.2.1 r263_0.2.2.1 r263_0.2.2.2.1 r263_0.2.2.2.2.1 r263_0.2.2.2.2.2.1) (f54_table_Table_Len_out r264_1), ((r264_1.1 : Int) == 1) = false] (by kernel_rfl) ⟨b264_1, b264_4, b264_7, b264_12, g264_0, b264_18, (f54_table_Table_Len_ok r263_0.1 r263_0.2.1 r263_0.2.2.1 r263_0.2.2.2.1 r263_0.2.2.2.2.1 r263_0.2.2.2.2.2.1 r264_1 cr264_1), b264_23, trivial⟩
          · have h := Option.some.inj h
            subst h
            exact At.fin hm ht ⟨[(1, .b true), (4, .b true), (7, .b true), (12, .b true), (18, .b false)], [], [], [0], []⟩ [r262_0.1 = true, r262_1.1 = true, r262_2.1 = true, ((((r263_0.2.2.2.2.2.2.length : Nat) : Int) : Int) == 1) = true, (0 : Int) ≤ 0 ∧ 0 < (((r263_0.2.2.2.2.2.2).length : Nat) : Int), (((r263_0.2.2.2.2.2.2.getD 0 0) : Int) == 9) = false] (by kernel_rfl) ⟨b264_1, b264_4, b264_7, b264_12, g264_0, b264_18, trivial⟩
        · have h := Option.some.inj h
          subst h
          exact At.fin hm ht ⟨[(1, .b true), (4, .b true), (7, .b true), (12, .b false)], [], [], [0], []⟩ [r262_0.1 = true, r262_1.1 = true, r262_2.1 = true, ((((r263_0.2.2.2.2.2.2.length : Nat) : Int) : Int) == 1) = false] (by kernel_rfl) ⟨b264_1, b264_4, b264_7, b264_12, trivial⟩
      · have h := Option.some.inj h
        subst h
        exact At.fin hm ht ⟨[(1, .b true), (4, .b true), (7, .b false)], [], [], [0], []⟩ [r262_0.1 = true, r262_1.1 = true, r262_2.1 = false] (by kernel_rfl) ⟨b264_1, b264_4, b264_7, trivial⟩
    · have h := Option.some.inj h
      subst h
      exact At.fin hm ht ⟨[(1, .b true), (4, .b false)], [], [], [0], []⟩ [r262_0.1 = true, r262_1.1 = false] (by kernel_rfl) ⟨b264_1, b264_4, trivial⟩
  · have h := Option.some.inj h
    subst h
    exact At.fin hm ht ⟨[(1, .b false)], [], [], [0], []⟩ [r262_0.1 = false] (by kernel_rfl) ⟨b264_1, trivial⟩
/-! brougham/broughamlaw40.TableKeys -/
def f11_broughamlaw40_TableKeys_in (a_0 : Int) (a_1 : Int) (b_0 : Int) (b_1 : Int) (l : List (Int × Int × Int)) : Inn := ⟨[.agg [.d (.int .u64 a_0), .d (.int .u64 a_1)], .agg [.d (.int .u64 b_0), .d (.int .u64 b_1)], .c (.d (.sl (.pair (.int .i64) (.pair (.int .u32) (.int .i64))) l))], [], [], 0⟩
def f11_broughamlaw40_TableKeys_out (r : Bool) : Out := ⟨.one (.c (.d (.bool r))), [], [], 0⟩
def f11_broughamlaw40_TableKeys_L7 : Nat → (List (Int × Int × Int)) → Int → Int → Int → Int → Int → Int → Int → Int → Int → Int → Int → (List (Int × Int × Int)) → (List (Int × Int × Int)) → Option ((Bool) ⊕ (Int × Int × Int × Int × Int × Int × Int × Int × Int × Int × (List (Int × Int × Int)) × List (Int × Int × Int)))
  | 0, _, _, _, _, _, _, _, _, _, _, _, _, _, _ => none
  | n + 1, l, i, x_0, x_1, x_3, x_4, x_5, y_0, y_1, y_3, y_4, y_5, b2_0, b3_0 =>
    if (decide ((i : Int) < ((l.length : Nat) : Int))) = true then
      if (0 : Int) ≤ i ∧ i < (((l).length : Nat) : Int) then
      if (decide (((Int.tmod (IntKind.wrap .i64 ((Int.tmod ((l.getD i.toNat (0, (0, 0))).1) 7) + 7)) 7) : Int) > 3)) = true then
        (f51_table_Table_Delete n (((l.getD i.toNat (0, (0, 0))).2).1) x_0 x_1 x_3 x_4 x_5 b2_0).bind fun r13_0 =>
        (f51_table_Table_Delete n (((l.getD i.toNat (0, (0, 0))).2).1) y_0 y_1 y_3 y_4 y_5 b3_0).bind fun r13_1 =>
        (f53_table_Table_Get n (((l.getD i.toNat (0, (0, 0))).2).1) r13_0.2.1 r13_0.2.2.1 r13_0.2.2.2.1 r13_0.2.2.2.2.1 r13_0.2.2.2.2.2.1 r13_0.2.2.2.2.2.2).bind fun r110_0 =>
        (f53_table_Table_Get n (((l.getD i.toNat (0, (0, 0))).2).1) r13_1.2.1 r13_1.2.2.1 r13_1.2.2.2.1 r13_1.2.2.2.2.1 r13_1.2.2.2.2.2.1 r13_1.2.2.2.2.2.2).bind fun r116_0 =>
        if (!(r13_0.1 == r13_1.1)) = true then
          some (.inl false)
        else
          if ((r110_0.1 : Int) != r116_0.1) = true then
            some (.inl false)
          else
            if (!(r110_0.2.1 == r116_0.2.1)) = true then
              some (.inl false)
            else
              (f54_table_Table_Len r110_0.2.2.1 r110_0.2.2.2.1 r110_0.2.2.2.2.1 r110_0.2.2.2.2.2.1 r110_0.2.2.2.2.2.2.1 r110_0.2.2.2.2.2.2.2).bind fun r117_0 =>
              (f54_table_Table_Len r116_0.2.2.1 r116_0.2.2.2.1 r116_0.2.2.2.2.1 r116_0.2.2.2.2.2.1 r116_0.2.2.2.2.2.2.1 r116_0.2.2.2.2.2.2.2).bind fun r117_1 =>
              if ((r117_0.1 : Int) != r117_1.1) = true then
                some (.inl false)
              else
                f11_broughamlaw40_TableKeys_L7 n l (IntKind.wrap .i64 (i + 1)) r117_0.2.1 r117_0.2.2.1 r117_0.2.2.2.1 r117_0.2.2.2.2.1 r117_0.2.2.2.2.2.1 r117_1.2.1 r117_1.2.2.1 r117_1.2.2.2.1 r117_1.2.2.2.2.1 r117_1.2.2.2.2.2.1 r117_0.2.2.2.2.2.2 r117_1.2.2.2.2.2.2
      else
        (f52_table_Table_Put n (((l.getD i.toNat (0, (0, 0))).2).1) (((l.getD i.toNat (0, (0, 0))).2).2) x_0 x_1 x_3 x_4 x_5 b2_0).bind fun r125_0 =>
        (f52_table_Table_Put n (((l.getD i.toNat (0, (0, 0))).2).1) (((l.getD i.toNat (0, (0, 0))).2).2) y_0 y_1 y_3 y_4 y_5 b3_0).bind fun r125_1 =>
        (f53_table_Table_Get n (((l.getD i.toNat (0, (0, 0))).2).1) r125_0.2.1 r125_0.2.2.1 r125_0.2.2.2.1 r125_0.2.2.2.2.1 r125_0.2.2.2.2.2.1 r125_0.2.2.2.2.2.2.2).bind fun r179_0 =>
        (f53_table_Table_Get n (((l.getD i.toNat (0, (0, 0))).2).1) r125_1.2.1 r125_1.2.2.1 r125_1.2.2.2.1 r125_1.2.2.2.2.1 r125_1.2.2.2.2.2.1 r125_1.2.2.2.2.2.2.2).bind fun r180_0 =>
        if (!(r125_0.1 == r125_1.1)) = true then
          some (.inl false)
        else
          if ((r179_0.1 : Int) != r180_0.1) = true then
            some (.inl false)
          else
            if (!(r179_0.2.1 == r180_0.2.1)) = true then
              some (.inl false)
            else
              (f54_table_Table_Len r179_0.2.2.1 r179_0.2.2.2.1 r179_0.2.2.2.2.1 r179_0.2.2.2.2.2.1 r179_0.2.2.2.2.2.2.1 r179_0.2.2.2.2.2.2.2).bind fun r181_0 =>
              (f54_table_Table_Len r180_0.2.2.1 r180_0.2.2.2.1 r180_0.2.2.2.2.1 r180_0.2.2.2.2.2.1 r180_0.2.2.2.2.2.2.1 r180_0.2.2.2.2.2.2.2).bind fun r181_1 =>
              if ((r181_0.1 : Int) != r181_1.1) = true then
                some (.inl false)
              else
                f11_broughamlaw40_TableKeys_L7 n l (IntKind.wrap .i64 (i + 1)) r181_0.2.1 r181_0.2.2.1 r181_0.2.2.2.1 r181_0.2.2.2.2.1 r181_0.2.2.2.2.2.1 r181_1.2.1 r181_1.2.2.1 r181_1.2.2.2.1 r181_1.2.2.2.2.1 r181_1.2.2.2.2.2.1 r181_0.2.2.2.2.2.2 r181_1.2.2.2.2.2.2
      else none
    else
      some (.inr ((x_0, x_1, x_3, x_4, x_5, y_0, y_1, y_3, y_4, y_5, b2_0, b3_0)))
def f11_broughamlaw40_TableKeys_L7_k (w : (Bool) ⊕ (Int × Int × Int × Int × Int × Int × Int × Int × Int × Int × (List (Int × Int × Int)) × List (Int × Int × Int))) (o : Out) : Prop := match w with
  | .inl e => o = f11_broughamlaw40_TableKeys_out e
  | .inr e => At Go.Proofs.Try.prog Go.Proofs.Try.f11 0 18 ⟨[(7, .one (.c (.ptr 0 0))), (8, .one (.c (.ptr 1 0)))], [(2, some ⟨169, 2⟩), (3, some ⟨169, 2⟩)], [(0, [.d (.int .u64 e.1), .d (.int .u64 e.2.1), .row 2 (.pair (.int .u8) (.pair (.int .u32) (.int .i64))), .d (.int .i64 e.2.2.1), .d (.int .i64 e.2.2.2.1), .d (.int .i64 e.2.2.2.2.1)]), (1, [.d (.int .u64 e.2.2.2.2.2.1), .d (.int .u64 e.2.2.2.2.2.2.1), .row 3 (.pair (.int .u8) (.pair (.int .u32) (.int .i64))), .d (.int .i64 e.2.2.2.2.2.2.2.1), .d (.int .i64 e.2.2.2.2.2.2.2.2.1), .d (.int .i64 e.2.2.2.2.2.2.2.2.2.1)]), (2, [.run (.pair (.int .u8) (.pair (.int .u32) (.int .i64))) e.2.2.2.2.2.2.2.2.2.2.1]), (3, [.run (.pair (.int .u8) (.pair (.int .u32) (.int .i64))) e.2.2.2.2.2.2.2.2.2.2.2])], 4⟩ o
theorem f11_broughamlaw40_TableKeys_L7_ok (n : Nat) : ∀ (l : List (Int × Int × Int)) (i : Int) (x_0 : Int) (x_1 : Int) (x_3 : Int) (x_4 : Int) (x_5 : Int) (y_0 : Int) (y_1 : Int) (y_3 : Int) (y_4 : Int) (y_5 : Int) (b2_0 : List (Int × Int × Int)) (b3_0 : List (Int × Int × Int)) (w : (Bool) ⊕ (Int × Int × Int × Int × Int × Int × Int × Int × Int × Int × (List (Int × Int × Int)) × List (Int × Int × Int))) (h : f11_broughamlaw40_TableKeys_L7 n l i x_0 x_1 x_3 x_4 x_5 y_0 y_1 y_3 y_4 y_5 b2_0 b3_0 = some w) (o : Out) (hk : f11_broughamlaw40_TableKeys_L7_k w o), At Go.Proofs.Try.prog Go.Proofs.Try.f11 0 7 ⟨[(2, .one (.c (.d (.sl (.pair (.int .i64) (.pair (.int .u32) (.int .i64))) l)))), (7, .one (.c (.ptr 0 0))), (8, .one (.c (.ptr 1 0))), (9, .one (.c (.d (.int .i64 i))))], [(2, some ⟨169, 2⟩), (3, some ⟨169, 2⟩)], [(0, [.d (.int .u64 x_0), .d (.int .u64 x_1), .row 2 (.pair (.int .u8) (.pair (.int .u32) (.int .i64))), .d (.int .i64 x_3), .d (.int .i64 x_4), .d (.int .i64 x_5)]), (1, [.d (.int .u64 y_0), .d (.int .u64 y_1), .row 3 (.pair (.int .u8) (.pair (.int .u32) (.int .i64))), .d (.int .i64 y_3), .d (.int .i64 y_4), .d (.int .i64 y_5)]), (2, [.run (.pair (.int .u8) (.pair (.int .u32) (.int .i64))) b2_0]), (3, [.run (.pair (.int .u8) (.pair (.int .u32) (.int .i64))) b3_0])], 4⟩ o := by
  induction n with
  | zero => intro l i x_0 x_1 x_3 x_4 x_5 y_0 y_1 y_3 y_4 y_5 b2_0 b3_0 w h; rw [f11_broughamlaw40_TableKeys_L7] at h; cases h
  | succ n ih =>
    intro l i x_0 x_1 x_3 x_4 x_5 y_0 y_1 y_3 y_4 y_5 b2_0 b3_0 w h o hk
    rw [f11_broughamlaw40_TableKeys_L7] at h
    rcases iteS h with ⟨b9_e0, h⟩ | ⟨b9_e0, h⟩
    · refine At.step hm ht ⟨[], [true], [], [2, 7, 8, 9], [0, 1, 2, 3]⟩ 9 ⟨[(2, .one (.c (.d (.sl (.pair (.int .i64) (.pair (.int .u32) (.int .i64))) l)))), (7, .one (.c (.ptr 0 0))), (8, .one (.c (.ptr 1 0))), (9, .one (.c (.d (.int .i64 i))))], [(2, some ⟨169, 2⟩), (3, some ⟨169, 2⟩)], [(0, [.d (.int .u64 x_0), .d (.int .u64 x_1), .row 2 (.pair (.int .u8) (.pair (.int .u32) (.int .i64))), .d (.int .i64 x_3), .d (.int .i64 x_4), .d (.int .i64 x_5)]), (1, [.d (.int .u64 y_0), .d (.int .u64 y_1), .row 3 (.pair (.int .u8) (.pair (.int .u32) (.int .i64))), .d (.int .i64 y_3), .d (.int .i64 y_4), .d (.int .i64 y_5)]), (2, [.run (.pair (.int .u8) (.pair (.int .u32) (.int .i64))) b2_0]), (3, [.run (.pair (.int .u8) (.pair (.int .u32) (.int .i64))) b3_0])], 4⟩ [(decide ((i : Int) < ((l.length : Nat) : Int))) = true] (by kernel_rfl) ⟨b9_e0, trivial⟩ ?_
      obtain ⟨g10_0, h⟩ := ifS h
      refine At.step hm ht ⟨[], [], [], [2, 7, 8, 9, 10], [0, 1, 8, 2, 3]⟩ 10 ⟨[(2, .one (.c (.d (.sl (.pair (.int .i64) (.pair (.int .u32) (.int .i64))) l)))), (7, .one (.c (.ptr 0 0))), (8, .one (.c (.ptr 1 0))), (9, .one (.c (.d (.int .i64 i)))), (10, .one (.c (.ptr 2 0)))], [(3, some ⟨169, 2⟩), (4, some ⟨169, 2⟩)], [(0, [.d (.int .u64 x_0), .d (.int .u64 x_1), .row 3 (.pair (.int .u8) (.pair (.int .u32) (.int .i64))), .d (.int .i64 x_3), .d (.int .i64 x_4), .d (.int .i64 x_5)]), (1, [.d (.int .u64 y_0), .d (.int .u64 y_1), .row 4 (.pair (.int .u8) (.pair (.int .u32) (.int .i64))), .d (.int .i64 y_3), .d (.int .i64 y_4), .d (.int .i64 y_5)]), (2, [.d (.int .i64 ((l.getD i.toNat (0, (0, 0))).1)), .d (.int .u32 (((l.getD i.toNat (0, (0, 0))).2).1)), .d (.int .i64 (((l.getD i.toNat (0, (0, 0))).2).2))]), (3, [.run (.pair (.int .u8) (.pair (.int .u32) (.int .i64))) b2_0]), (4, [.run (.pair (.int .u8) (.pair (.int .u32) (.int .i64))) b3_0])], 5⟩ [(0 : Int) ≤ i ∧ i < (((l).length : Nat) : Int), 0 + 3 ≤ 3] (by kernel_rfl) ⟨g10_0, (by decide), trivial⟩ ?_
      refine At.step hm ht ⟨[], [], [], [2, 7, 8, 9, 10], [0, 1, 2, 3, 4]⟩ 11 ⟨[(2, .one (.c (.d (.sl (.pair (.int .i64) (.pair (.int .u32) (.int .i64))) l)))), (7, .one (.c (.ptr 0 0))), (8, .one (.c (.ptr 1 0))), (9, .one (.c (.d (.int .i64 i)))), (10, .one (.c (.ptr 2 0)))], [(3, some ⟨169, 2⟩), (4, some ⟨169, 2⟩)], [(0, [.d (.int .u64 x_0), .d (.int .u64 x_1), .row 3 (.pair (.int .u8) (.pair (.int .u32) (.int .i64))), .d (.int .i64 x_3), .d (.int .i64 x_4), .d (.int .i64 x_5)]), (1, [.d (.int .u64 y_0), .d (.int .u64 y_1), .row 4 (.pair (.int .u8) (.pair (.int .u32) (.int .i64))), .d (.int .i64 y_3), .d (.int .i64 y_4), .d (.int .i64 y_5)]), (2, [.d (.int .i64 ((l.getD i.toNat (0, (0, 0))).1)), .d (.int .u32 (((l.getD i.toNat (0, (0, 0))).2).1)), .d (.int .i64 (((l.getD i.toNat (0, (0, 0))).2).2))]), (3, [.run (.pair (.int .u8) (.pair (.int .u32) (.int .i64))) b2_0]), (4, [.run (.pair (.int .u8) (.pair (.int .u32) (.int .i64))) b3_0])], 5⟩ [] (by kernel_rfl) trivial ?_
      rcases iteS h with ⟨b12_e0, h⟩ | ⟨b12_e0, h⟩
      · refine At.step hm ht ⟨[], [true], [], [2, 7, 8, 9, 10], [0, 1, 2, 3, 4]⟩ 12 ⟨[(2, .one (.c (.d (.sl (.pair (.int .i64) (.pair (.int .u32) (.int .i64))) l)))), (7, .one (.c (.ptr 0 0))), (8, .one (.c (.ptr 1 0))), (9, .one (.c (.d (.int .i64 i)))), (10, .one (.c (.ptr 2 0)))], [(3, some ⟨169, 2⟩), (4, some ⟨169, 2⟩)], [(0, [.d (.int .u64 x_0), .d (.int .u64 x_1), .row 3 (.pair (.int .u8) (.pair (.int .u32) (.int .i64))), .d (.int .i64 x_3), .d (.int .i64 x_4), .d (.int .i64 x_5)]), (1, [.d (.int .u64 y_0), .d (.int .u64 y_1), .row 4 (.pair (.int .u8) (.pair (.int .u32) (.int .i64))), .d (.int .i64 y_3), .d (.int .i64 y_4), .d (.int .i64 y_5)]), (2, [.d (.int .i64 ((l.getD i.toNat (0, (0, 0))).1)), .d (.int .u32 (((l.getD i.toNat (0, (0, 0))).2).1)), .d (.int .i64 (((l.getD i.toNat (0, (0, 0))).2).2))]), (3, [.run (.pair (.int .u8) (.pair (.int .u32) (.int .i64))) b2_0]), (4, [.run (.pair (.int .u8) (.pair (.int .u32) (.int .i64))) b3_0])], 5⟩ [(7 : Int) ≠ 0, (7 : Int) ≠ 0, (decide (((Int.tmod (IntKind.wrap .i64 ((Int.tmod ((l.getD i.toNat (0, (0, 0))).1) 7) + 7)) 7) : Int) > 3)) = true] (by kernel_rfl) ⟨(by decide), (by decide), b12_e0, trivial⟩ ?_
        obtain ⟨r13_0, cr13_0, h⟩ := bindS h
        obtain ⟨r13_1, cr13_1, h⟩ := bindS h
        refine At.step hm ht ⟨[(3, .call [0, 3] [] (f51_table_Table_Delete_out r13_0)), (7, .call [1, 4] [] (f51_table_Table_Delete_out r13_1))], [], [], [2, 7, 8, 9, 10, 11, 12], [0, 1, 2, 3, 4]⟩ 14 ⟨[(2, .one (.c (.d (.sl (.pair (.int .i64) (.pair (.int .u32) (.int .i64))) l)))), (7, .one (.c (.ptr 0 0))), (8, .one (.c (.ptr 1 0))), (9, .one (.c (.d (.int .i64 i)))), (10, .one (.c (.ptr 2 0))), (11, .one (.c (.d (.bool r13_0.1)))), (12, .one (.c (.d (.bool r13_1.1))))], [(3, some ⟨169, 2⟩), (4, some ⟨169, 2⟩)], [(0, [.d (.int .u64 r13_0.2.1), .d (.int .u64 r13_0.2.2.1), .row 3 (.pair (.int .u8) (.pair (.int .u32) (.int .i64))), .d (.int .i64 r13_0.2.2.2.1), .d (.int .i64 r13_0.2.2.2.2.1), .d (.int .i64 r13_0.2.2.2.2.2.1)]), (1, [.d (.int .u64 r13_1.2.1), .d (.int .u64 r13_1.2.2.1), .row 4 (.pair (.int .u8) (.pair (.int .u32) (.int .i64))), .d (.int .i64 r13_1.2.2.2.1), .d (.int .i64 r13_1.2.2.2.2.1), .d (.int .i64 r13_1.2.2.2.2.2.1)]), (2, [.d (.int .i64 ((l.getD i.toNat (0, (0, 0))).1)), .d (.int .u32 (((l.getD i.toNat (0, (0, 0))).2).1)), .d (.int .i64 (((l.getD i.toNat (0, (0, 0))).2).2))]), (3, [.run (.pair (.int .u8) (.pair (.int .u32) (.int .i64))) r13_0.2.2.2.2.2.2]), (4, [.run (.pair (.int .u8) (.pair (.int .u32) (.int .i64))) r13_1.2.2.2.2.2.2])], 5⟩ [FnOK Go.Proofs.Try.prog 51 (f51_table_Table_Delete_in (((l.getD i.toNat (0, (0, 0))).2).1) x_0 x_1 x_3 x_4 x_5 b2_0) (f51_table_Table_Delete_out r13_0), FnOK Go.Proofs.Try.prog 51 (f51_table_Table_Delete_in (((l.getD i.toNat (0, (0, 0))).2).1) y_0 y_1 y_3 y_4 y_5 b3_0) (f51_table_Table_Delete_out r13_1)] (by kernel_rfl) ⟨(f51_table_Table_Delete_ok n (((l.getD i.toNat (0, (0, 0))).2).1) x_0 x_1 x_3 x_4 x_5 b2_0 r13_0 cr13_0), (f51_table_Table_Delete_ok n (((l.getD i.toNat (0, (0, 0))).2).1) y_0 y_1 y_3 y_4 y_5 b3_0 r13_1 cr13_1), trivial⟩ ?_
        obtain ⟨r110_0, cr110_0, h⟩ := bindS h
        refine At.step hm ht ⟨[(3, .call [0, 3] [] (f53_table_Table_Get_out r110_0))], [], [], [2, 7, 8, 9, 10, 11, 12, 13, 14], [0, 1, 2, 3, 4]⟩ 15 ⟨[(2, .one (.c (.d (.sl (.pair (.int .i64) (.pair (.int .u32) (.int .i64))) l)))), (7, .one (.c (.ptr 0 0))), (8, .one (.c (.ptr 1 0))), (9, .one (.c (.d (.int .i64 i)))), (10, .one (.c (.ptr 2 0))), (11, .one (.c (.d (.bool r13_0.1)))), (12, .one (.c (.d (.bool r13_1.1)))), (13, .one (.c (.d (.int .i64 r110_0.1)))), (14, .one (.c (.d (.bool r110_0.2.1))))], [(3, some ⟨169, 2⟩), (4, some ⟨169, 2⟩)], [(0, [.d (.int .u64 r110_0.2.2.1), .d (.int .u64 r110_0.2.2.2.1), .row 3 (.pair (.int .u8) (.pair (.int .u32) (.int .i64))), .d (.int .i64 r110_0.2.2.2.2.1), .d (.int .i64 r110_0.2.2.2.2.2.1), .d (.int .i64 r110_0.2.2.2.2.2.2.1)]), (1, [.d (.int .u64 r13_1.2.1), .d (.int .u64 r13_1.2.2.1), .row 4 (.pair (.int .u8) (.pair (.int .u32) (.int .i64))), .d (.int .i64 r13_1.2.2.2.1), .d (.int .i64 r13_1.2.2.2.2.1), .d (.int .i64 r13_1.2.2.2.2.2.1)]), (2, [.d (.int .i64 ((l.getD i.toNat (0, (0, 0))).1)), .d (.int .u32 (((l.getD i.toNat (0, (0, 0))).2).1)), .d (.int .i64 (((l.getD i.toNat (0, (0, 0))).2).2))]), (3, [.run (.pair (.int .u8) (.pair (.int .u32) (.int .i64))) r110_0.2.2.2.2.2.2.2]), (4, [.run (.pair (.int .u8) (.pair (.int .u32) (.int .i64))) r13_1.2.2.2.2.2.2])], 5⟩ [FnOK Go.Proofs.Try.prog 53 (f53_table_Table_Get_in (((l.getD i.toNat (0, (0, 0))).2).1) r13_0.2.1 r13_0.2.2.1 r13_0.2.2.2.1 r13_0.2.2.2.2.1 r13_0.2.2.2.2.2.1 r13_0.2.2.2.2.2.2) (f53_table_Table_Get_out r110_0)] (by kernel_rfl) ⟨(f53_table_Table_Get_ok n (((l.getD i.toNat (0, (0, 0))).2).1) r13_0.2.1 r13_0.2.2.1 r13_0.2.2.2.1 r13_0.2.2.2.2.1 r13_0.2.2.2.2.2.1 r13_0.2.2.2.2.2.2 r110_0 cr110_0), trivial⟩ ?_
        obtain ⟨r116_0, cr116_0, h⟩ := bindS h
        refine At.step hm ht ⟨[(3, .call [1, 4] [] (f53_table_Table_Get_out r116_0))], [], [], [2, 7, 8, 9, 11, 12, 13, 14, 15, 16], [0, 1, 3, 4]⟩ 16 ⟨[(2, .one (.c (.d (.sl (.pair (.int .i64) (.pair (.int .u32) (.int .i64))) l)))), (7, .one (.c (.ptr 0 0))), (8, .one (.c (.ptr 1 0))), (9, .one (.c (.d (.int .i64 i)))), (11, .one (.c (.d (.bool r13_0.1)))), (12, .one (.c (.d (.bool r13_1.1)))), (13, .one (.c (.d (.int .i64 r110_0.1)))), (14, .one (.c (.d (.bool r110_0.2.1)))), (15, .one (.c (.d (.int .i64 r116_0.1)))), (16, .one (.c (.d (.bool r116_0.2.1))))], [(2, some ⟨169, 2⟩), (3, some ⟨169, 2⟩)], [(0, [.d (.int .u64 r110_0.2.2.1), .d (.int .u64 r110_0.2.2.2.1), .row 2 (.pair (.int .u8) (.pair (.int .u32) (.int .i64))), .d (.int .i64 r110_0.2.2.2.2.1), .d (.int .i64 r110_0.2.2.2.2.2.1), .d (.int .i64 r110_0.2.2.2.2.2.2.1)]), (1, [.d (.int .u64 r116_0.2.2.1), .d (.int .u64 r116_0.2.2.2.1), .row 3 (.pair (.int .u8) (.pair (.int .u32) (.int .i64))), .d (.int .i64 r116_0.2.2.2.2.1), .d (.int .i64 r116_0.2.2.2.2.2.1), .d (.int .i64 r116_0.2.2.2.2.2.2.1)]), (2, [.run (.pair (.int .u8) (.pair (.int .u32) (.int .i64))) r110_0.2.2.2.2.2.2.2]), (3, [.run (.pair (.int .u8) (.pair (.int .u32) (.int .i64))) r116_0.2.2.2.2.2.2.2])], 4⟩ [FnOK Go.Proofs.Try.prog 53 (f53_table_Table_Get_in (((l.getD i.toNat (0, (0, 0))).2).1) r13_1.2.1 r13_1.2.2.1 r13_1.2.2.2.1 r13_1.2.2.2.2.1 r13_1.2.2.2.2.2.1 r13_1.2.2.2.2.2.2) (f53_table_Table_Get_out r116_0)] (by kernel_rfl) ⟨(f53_table_Table_Get_ok n (((l.getD i.toNat (0, (0, 0))).2).1) r13_1.2.1 r13_1.2.2.1 r13_1.2.2.2.1 r13_1.2.2.2.2.1 r13_1.2.2.2.2.2.1 r13_1.2.2.2.2.2.2 r116_0 cr116_0), trivial⟩ ?_
        rcases iteS h with ⟨b117_3, h⟩ | ⟨b117_3, h⟩
        · refine At.step hm ht ⟨[(3, .b true)], [true], [], [], []⟩ 17 ⟨[], [], [], 0⟩ [(!(r13_0.1 == r13_1.1)) = true, true = true] (by kernel_rfl) ⟨b117_3, rfl, trivial⟩ ?_
          have h := Option.some.inj h
          subst h
          have hk : o = f11_broughamlaw40_TableKeys_out false := hk
          subst hk
          exact At.fin hm ht ⟨[], [], [], [6], []⟩ [] (by kernel_rfl) trivial
        · rcases iteS h with ⟨b117_8, h⟩ | ⟨b117_8, h⟩
          · refine At.step hm ht ⟨[(3, .b false), (8, .b true)], [true], [], [], []⟩ 17 ⟨[], [], [], 0⟩ [(!(r13_0.1 == r13_1.1)) = false, ((r110_0.1 : Int) != r116_0.1) = true, true = true] (by kernel_rfl) ⟨b117_3, b117_8, rfl, trivial⟩ ?_
            have h := Option.some.inj h
            subst h
            have hk : o = f11_broughamlaw40_TableKeys_out false := hk
            subst hk
            exact At.fin hm ht ⟨[], [], [], [6], []⟩ [] (by kernel_rfl) trivial
          · rcases iteS h with ⟨b117_13, h⟩ | ⟨b117_13, h⟩
            · refine At.step hm ht ⟨[(3, .b false), (8, .b false), (13, .b true)], [true], [], [], []⟩ 17 ⟨[], [], [], 0⟩ [(!(r13_0.1 == r13_1.1)) = false, ((r110_0.1 : Int) != r116_0.1) = false, (!(r110_0.2.1 == r116_0.2.1)) = true, true = true] (by kernel_rfl) ⟨b117_3, b117_8, b117_13, rfl, trivial⟩ ?_
              have h := Option.some.inj h
              subst h
              have hk : o = f11_broughamlaw40_TableKeys_out false := hk
              subst hk
              exact At.fin hm ht ⟨[], [], [], [6], []⟩ [] (by kernel_rfl) trivial
            · obtain ⟨r117_0, cr117_0, h⟩ := bindS h
              obtain ⟨r117_1, cr117_1, h⟩ := bindS h
              rcases iteS h with ⟨b117_e0, h⟩ | ⟨b117_e0, h⟩
              · refine At.step hm ht ⟨[(3, .b false), (8, .b false), (13, .b false), (15, .call [0, 2] [] (f54_table_Table_Len_out r117_0)), (17, .call [1, 3] [] (f54_table_Table_Len_out r117_1))], [true], [], [], []⟩ 17 ⟨[], [], [], 0⟩ [(!(r13_0.1 == r13_1.1)) = false, ((r110_0.1 : Int) != r116_0.1) = false, (!(r110_0.2.1 == r116_0.2.1)) = false, FnOK Go.Proofs.Try.prog 54 (f54_table_Table_Len_in r110_0.2.2.1 r110_0.2.2.2.1 r110_0.2.2.2.2.1 r110_0.2.2.2.2.2.1 r110_0.2.2.2.2.2.2.1 r110_0.2.2.2.2.2.2.2) (f54_table_Table_Len_out r117_0), FnOK Go.Proofs.Try.prog 54 (f54_table_Table_Len_in r116_0.2.2.1 r116_0.2.2.2.1 r116_0.2.2.2.2.1 r116_0.2.2.2.2.2.1 r116_0.2.2.2.2.2.2.1 r116_0.2.2.2.2.2.2.2) (f54_table_Table_Len_out r117_1), ((r117_0.1 : Int) != r117_1.1) = true] (by kernel_rfl) ⟨b117_3, b117_8, b117_13, (f54_table_Table_Len_ok r110_0.2.2.1 r110_0.2.2.2.1 r110_0.2.2.2.2.1 r110_0.2.2.2.2.2.1 r110_0.2.2.2.2.2.2.1 r110_0.2.2.2.2.2.2.2 r117_0 cr117_0), (f54_table_Table_Len_ok r116_0.2.2.1 r116_0.2.2.2.1 r116_0.2.2.2.2.1 r116_0.2.2.2.2.2.1 r116_0.2.2.2.2.2.2.1 r116_0.2.2.2.2.2.2.2 r117_1 cr117_1), b117_e0, trivial⟩ ?_
                have h := Option.some.inj h
                subst h
                have hk : o = f11_broughamlaw40_TableKeys_out false := hk
                subst hk
                exact At.fin hm ht ⟨[], [], [], [6], []⟩ [] (by kernel_rfl) trivial
              · refine At.step hm ht ⟨[(3, .b false), (8, .b false), (13, .b false), (15, .call [0, 2] [] (f54_table_Table_Len_out r117_0)), (17, .call [1, 3] [] (f54_table_Table_Len_out r117_1))], [false], [], [2, 7, 8, 9], [0, 1, 2, 3]⟩ 8 ⟨[(2, .one (.c (.d (.sl (.pair (.int .i64) (.pair (.int .u32) (.int .i64))) l)))), (7, .one (.c (.ptr 0 0))), (8, .one (.c (.ptr 1 0))), (9, .one (.c (.d (.int .i64 i))))], [(2, some ⟨169, 2⟩), (3, some ⟨169, 2⟩)], [(0, [.d (.int .u64 r117_0.2.1), .d (.int .u64 r117_0.2.2.1), .row 2 (.pair (.int .u8) (.pair (.int .u32) (.int .i64))), .d (.int .i64 r117_0.2.2.2.1), .d (.int .i64 r117_0.2.2.2.2.1), .d (.int .i64 r117_0.2.2.2.2.2.1)]), (1, [.d (.int .u64 r117_1.2.1), .d (.int .u64 r117_1.2.2.1), .row 3 (.pair (.int .u8) (.pair (.int .u32) (.int .i64))), .d (.int .i64 r117_1.2.2.2.1), .d (.int .i64 r117_1.2.2.2.2.1), .d (.int .i64 r117_1.2.2.2.2.2.1)]), (2, [.run (.pair (.int .u8) (.pair (.int .u32) (.int .i64))) r117_0.2.2.2.2.2.2]), (3, [.run (.pair (.int .u8) (.pair (.int .u32) (.int .i64))) r117_1.2.2.2.2.2.2])], 4⟩ [(!(r13_0.1 == r13_1.1)) = false, ((r110_0.1 : Int) != r116_0.1) = false, (!(r110_0.2.1 == r116_0.2.1)) = false, FnOK Go.Proofs.Try.prog 54 (f54_table_Table_Len_in r110_0.2.2.1 r110_0.2.2.2.1 r110_0.2.2.2.2.1 r110_0.2.2.2.2.2.1 r110_0.2.2.2.2.2.2.1 r110_0.2.2.2.2.2.2.2) (f54_table_Table_Len_out r117_0), FnOK Go.Proofs.Try.prog 54 (f54_table_Table_Len_in r116_0.2.2.1 r116_0.2.2.2.1 r116_0.2.2.2.2.1 r116_0.2.2.2.2.2.1 r116_0.2.2.2.2.2.2.1 r116_0.2.2.2.2.2.2.2) (f54_table_Table_Len_out r117_1), ((r117_0.1 : Int) != r117_1.1) = false] (by kernel_rfl) ⟨b117_3, b117_8, b117_13, (f54_table_Table_Len_ok r110_0.2.2.1 r110_0.2.2.2.1 r110_0.2.2.2.2.1 r110_0.2.2.2.2.2.1 r110_0.2.2.2.2.2.2.1 r110_0.2.2.2.2.2.2.2 r117_0 cr117_0), (f54_table_Table_Len_ok r116_0.2.2.1 r116_0.2.2.2.1 r116_0.2.2.2.2.1 r116_0.2.2.2.2.2.1 r116_0.2.2.2.2.2.2.1 r116_0.2.2.2.2.2.2.2 r117_1 cr117_1), b117_e0, trivial⟩ ?_
                refine At.step hm ht ⟨[], [], [], [2, 7, 8, 9], [0, 1, 2, 3]⟩ 7 ⟨[(2, .one (.c (.d (.sl (.pair (.int .i64) (.pair (.int .u32) (.int .i64))) l)))), (7, .one (.c (.ptr 0 0))), (8, .one (.c (.ptr 1 0))), (9, .one (.c (.d (.int .i64 (IntKind.wrap .i64 (i + 1))))))], [(2, some ⟨169, 2⟩), (3, some ⟨169, 2⟩)], [(0, [.d (.int .u64 r117_0.2.1), .d (.int .u64 r117_0.2.2.1), .row 2 (.pair (.int .u8) (.pair (.int .u32) (.int .i64))), .d (.int .i64 r117_0.2.2.2.1), .d (.int .i64 r117_0.2.2.2.2.1), .d (.int .i64 r117_0.2.2.2.2.2.1)]), (1, [.d (.int .u64 r117_1.2.1), .d (.int .u64 r117_1.2.2.1), .row 3 (.pair (.int .u8) (.pair (.int .u32) (.int .i64))), .d (.int .i64 r117_1.2.2.2.1), .d (.int .i64 r117_1.2.2.2.2.1), .d (.int .i64 r117_1.2.2.2.2.2.1)]), (2, [.run (.pair (.int .u8) (.pair (.int .u32) (.int .i64))) r117_0.2.2.2.2.2.2]), (3, [.run (.pair (.int .u8) (.pair (.int .u32) (.int .i64))) r117_1.2.2.2.2.2.2])], 4⟩ [] (by kernel_rfl) trivial ?_
                exact ih l (IntKind.wrap .i64 (i + 1)) r117_0.2.1 r117_0.2.2.1 r117_0.2.2.2.1 r117_0.2.2.2.2.1 r117_0.2.2.2.2.2.1 r117_1.2.1 r117_1.2.2.1 r117_1.2.2.2.1 r117_1.2.2.2.2.1 r117_1.2.2.2.2.2.1 r117_0.2.2.2.2.2.2 r117_1.2.2.2.2.2.2 w h o hk
      · refine At.step hm ht ⟨[], [false], [], [2, 7, 8, 9, 10], [0, 1, 2, 3, 4]⟩ 13 ⟨[(2, .one (.c (.d (.sl (.pair (.int .i64) (.pair (.int .u32) (.int .i64))) l)))), (7, .one (.c (.ptr 0 0))), (8, .one (.c (.ptr 1 0))), (9, .one (.c (.d (.int .i64 i)))), (10, .one (.c (.ptr 2 0)))], [(3, some ⟨169, 2⟩), (4, some ⟨169, 2⟩)], [(0, [.d (.int .u64 x_0), .d (.int .u64 x_1), .row 3 (.pair (.int .u8) (.pair (.int .u32) (.int .i64))), .d (.int .i64 x_3), .d (.int .i64 x_4), .d (.int .i64 x_5)]), (1, [.d (.int .u64 y_0), .d (.int .u64 y_1), .row 4 (.pair (.int .u8) (.pair (.int .u32) (.int .i64))), .d (.int .i64 y_3), .d (.int .i64 y_4), .d (.int .i64 y_5)]), (2, [.d (.int .i64 ((l.getD i.toNat (0, (0, 0))).1)), .d (.int .u32 (((l.getD i.toNat (0, (0, 0))).2).1)), .d (.int .i64 (((l.getD i.toNat (0, (0, 0))).2).2))]), (3, [.run (.pair (.int .u8) (.pair (.int .u32) (.int .i64))) b2_0]), (4, [.run (.pair (.int .u8) (.pair (.int .u32) (.int .i64))) b3_0])], 5⟩ [(7 : Int) ≠ 0, (7 : Int) ≠ 0, (decide (((Int.tmod (IntKind.wrap .i64 ((Int.tmod ((l.getD i.toNat (0, (0, 0))).1) 7) + 7)) 7) : Int) > 3)) = false] (by kernel_rfl) ⟨(by decide), (by decide), b12_e0, trivial⟩ ?_
        obtain ⟨r125_0, cr125_0, h⟩ := bindS h
        obtain ⟨r125_1, cr125_1, h⟩ := bindS h
        refine At.step hm ht ⟨[(5, .call [0, 3] [] (f52_table_Table_Put_out r125_0)), (11, .call [1, 4] [] (f52_table_Table_Put_out r125_1))], [], [], [2, 7, 8, 9, 10, 11, 12], [0, 1, 2, 12, 20]⟩ 14 ⟨[(2, .one (.c (.d (.sl (.pair (.int .i64) (.pair (.int .u32) (.int .i64))) l)))), (7, .one (.c (.ptr 0 0))), (8, .one (.c (.ptr 1 0))), (9, .one (.c (.d (.int .i64 i)))), (10, .one (.c (.ptr 2 0))), (11, .one (.c (.d (.bool r125_0.1)))), (12, .one (.c (.d (.bool r125_1.1))))], [(3, some ⟨169, 2⟩), (4, some ⟨169, 2⟩)], [(0, [.d (.int .u64 r125_0.2.1), .d (.int .u64 r125_0.2.2.1), .row 3 (.pair (.int .u8) (.pair (.int .u32) (.int .i64))), .d (.int .i64 r125_0.2.2.2.1), .d (.int .i64 r125_0.2.2.2.2.1), .d (.int .i64 r125_0.2.2.2.2.2.1)]), (1, [.d (.int .u64 r125_1.2.1), .d (.int .u64 r125_1.2.2.1), .row 4 (.pair (.int .u8) (.pair (.int .u32) (.int .i64))), .d (.int .i64 r125_1.2.2.2.1), .d (.int .i64 r125_1.2.2.2.2.1), .d (.int .i64 r125_1.2.2.2.2.2.1)]), (2, [.d (.int .i64 ((l.getD i.toNat (0, (0, 0))).1)), .d (.int .u32 (((l.getD i.toNat (0, (0, 0))).2).1)), .d (.int .i64 (((l.getD i.toNat (0, (0, 0))).2).2))]), (3, [.run (.pair (.int .u8) (.pair (.int .u32) (.int .i64))) r125_0.2.2.2.2.2.2.2]), (4, [.run (.pair (.int .u8) (.pair (.int .u32) (.int .i64))) r125_1.2.2.2.2.2.2.2])], 5⟩ [FnOK Go.Proofs.Try.prog 52 (f52_table_Table_Put_in (((l.getD i.toNat (0, (0, 0))).2).1) (((l.getD i.toNat (0, (0, 0))).2).2) x_0 x_1 x_3 x_4 x_5 b2_0) (f52_table_Table_Put_out r125_0), FnOK Go.Proofs.Try.prog 52 (f52_table_Table_Put_in (((l.getD i.toNat (0, (0, 0))).2).1) (((l.getD i.toNat (0, (0, 0))).2).2) y_0 y_1 y_3 y_4 y_5 b3_0) (f52_table_Table_Put_out r125_1)] (by kernel_rfl) ⟨(f52_table_Table_Put_ok n (((l.getD i.toNat (0, (0, 0))).2).1) (((l.getD i.toNat (0, (0, 0))).2).2) x_0 x_1 x_3 x_4 x_5 b2_0 r125_0 cr125_0), (f52_table_Table_Put_ok n (((l.getD i.toNat (0, (0, 0))).2).1) (((l.getD i.toNat (0, (0, 0))).2).2) y_0 y_1 y_3 y_4 y_5 b3_0 r125_1 cr125_1), trivial⟩ ?_
        obtain ⟨r179_0, cr179_0, h⟩ := bindS h
        refine At.step hm ht ⟨[(3, .call [0, 3] [] (f53_table_Table_Get_out r179_0))], [], [], [2, 7, 8, 9, 10, 11, 12, 13, 14], [0, 1, 2, 3, 4]⟩ 15 ⟨[(2, .one (.c (.d (.sl (.pair (.int .i64) (.pair (.int .u32) (.int .i64))) l)))), (7, .one (.c (.ptr 0 0))), (8, .one (.c (.ptr 1 0))), (9, .one (.c (.d (.int .i64 i)))), (10, .one (.c (.ptr 2 0))), (11, .one (.c (.d (.bool r125_0.1)))), (12, .one (.c (.d (.bool r125_1.1)))), (13, .one (.c (.d (.int .i64 r179_0.1)))), (14, .one (.c (.d (.bool r179_0.2.1))))], [(3, some ⟨169, 2⟩), (4, some ⟨169, 2⟩)], [(0, [.d (.int .u64 r179_0.2.2.1), .d (.int .u64 r179_0.2.2.2.1), .row 3 (.pair (.int .u8) (.pair (.int .u32) (.int .i64))), .d (.int .i64 r179_0.2.2.2.2.1), .d (.int .i64 r179_0.2.2.2.2.2.1), .d (.int .i64 r179_0.2.2.2.2.2.2.1)]), (1, [.d (.int .u64 r125_1.2.1), .d (.int .u64 r125_1.2.2.1), .row 4 (.pair (.int .u8) (.pair (.int .u32) (.int .i64))), .d (.int .i64 r125_1.2.2.2.1), .d (.int .i64 r125_1.2.2.2.2.1), .d (.int .i64 r125_1.2.2.2.2.2.1)]), (2, [.d (.int .i64 ((l.getD i.toNat (0, (0, 0))).1)), .d (.int .u32 (((l.getD i.toNat (0, (0, 0))).2).1)), .d (.int .i64 (((l.getD i.toNat (0, (0, 0))).2).2))]), (3, [.run (.pair (.int .u8) (.pair (.int .u32) (.int .i64))) r179_0.2.2.2.2.2.2.2]), (4, [.run (.pair (.int .u8) (.pair (.int .u32) (.int .i64))) r125_1.2.2.2.2.2.2.2])], 5⟩ [FnOK Go.Proofs.Try.prog 53 (f53_table_Table_Get_in (((l.getD i.toNat (0, (0, 0))).2).1) r125_0.2.1 r125_0.2.2.1 r125_0.2.2.2.1 r125_0.2.2.2.2.1 r125_0.2.2.2.2.2.1 r125_0.2.2.2.2.2.2.2) (f53_table_Table_Get_out r179_0)] (by kernel_rfl) ⟨(f53_table_Table_Get_ok n (((l.getD i.toNat (0, (0, 0))).2).1) r125_0.2.1 r125_0.2.2.1 r125_0.2.2.2.1 r125_0.2.2.2.2.1 r125_0.2.2.2.2.2.1 r125_0.2.2.2.2.2.2.2 r179_0 cr179_0), trivial⟩ ?_
        obtain ⟨r180_0, cr180_0, h⟩ := bindS h
        refine At.step hm ht ⟨[(3, .call [1, 4] [] (f53_table_Table_Get_out r180_0))], [], [], [2, 7, 8, 9, 11, 12, 13, 14, 15, 16], [0, 1, 3, 4]⟩ 16 ⟨[(2, .one (.c (.d (.sl (.pair (.int .i64) (.pair (.int .u32) (.int .i64))) l)))), (7, .one (.c (.ptr 0 0))), (8, .one (.c (.ptr 1 0))), (9, .one (.c (.d (.int .i64 i)))), (11, .one (.c (.d (.bool r125_0.1)))), (12, .one (.c (.d (.bool r125_1.1)))), (13, .one (.c (.d (.int .i64 r179_0.1)))), (14, .one (.c (.d (.bool r179_0.2.1)))), (15, .one (.c (.d (.int .i64 r180_0.1)))), (16, .one (.c (.d (.bool r180_0.2.1))))], [(2, some ⟨169, 2⟩), (3, some ⟨169, 2⟩)], [(0, [.d (.int .u64 r179_0.2.2.1), .d (.int .u64 r179_0.2.2.2.1), .row 2 (.pair (.int .u8) (.pair (.int .u32) (.int .i64))), .d (.int .i64 r179_0.2.2.2.2.1), .d (.int .i64 r179_0.2.2.2.2.2.1), .d (.int .i64 r179_0.2.2.2.2.2.2.1)]), (1, [.d (.int .u64 r180_0.2.2.1), .d (.int .u64 r180_0.2.2.2.1), .row 3 (.pair (.int .u8) (.pair (.int .u32) (.int .i64))), .d (.int .i64 r180_0.2.2.2.2.1), .d (.int .i64 r180_0.2.2.2.2.2.1), .d (.int .i64 r180_0.2.2.2.2.2.2.1)]), (2, [.run (.pair (.int .u8) (.pair (.int .u32) (.int .i64))) r179_0.2.2.2.2.2.2.2]), (3, [.run (.pair (.int .u8) (.pair (.int .u32) (.int .i64))) r180_0.2.2.2.2.2.2.2])], 4⟩ [FnOK Go.Proofs.Try.prog 53 (f53_table_Table_Get_in (((l.getD i.toNat (0, (0, 0))).2).1) r125_1.2.1 r125_1.2.2.1 r125_1.2.2.2.1 r125_1.2.2.2.2.1 r125_1.2.2.2.2.2.1 r125_1.2.2.2.2.2.2.2) (f53_table_Table_Get_out r180_0)] (by kernel_rfl) ⟨(f53_table_Table_Get_ok n (((l.getD i.toNat (0, (0, 0))).2).1) r125_1.2.1 r125_1.2.2.1 r125_1.2.2.2.1 r125_1.2.2.2.2.1 r125_1.2.2.2.2.2.1 r125_1.2.2.2.2.2.2.2 r180_0 cr180_0), trivial⟩ ?_
        rcases iteS h with ⟨b181_3, h⟩ | ⟨b181_3, h⟩
        · refine At.step hm ht ⟨[(3, .b true)], [true], [], [], []⟩ 17 ⟨[], [], [], 0⟩ [(!(r125_0.1 == r125_1.1)) = true, true = true] (by kernel_rfl) ⟨b181_3, rfl, trivial⟩ ?_
          have h := Option.some.inj h
          subst h
          have hk : o = f11_broughamlaw40_TableKeys_out false := hk
          subst hk
          exact At.fin hm ht ⟨[], [], [], [6], []⟩ [] (by kernel_rfl) trivial
        · rcases iteS h with ⟨b181_8, h⟩ | ⟨b181_8, h⟩
          · refine At.step hm ht ⟨[(3, .b false), (8, .b true)], [true], [], [], []⟩ 17 ⟨[], [], [], 0⟩ [(!(r125_0.1 == r125_1.1)) = false, ((r179_0.1 : Int) != r180_0.1) = true, true = true] (by kernel_rfl) ⟨b181_3, b181_8, rfl, trivial⟩ ?_
            have h := Option.some.inj h
            subst h
            have hk : o = f11_broughamlaw40_TableKeys_out false := hk
            subst hk
            exact At.fin hm ht ⟨[], [], [], [6], []⟩ [] (by kernel_rfl) trivial
          · rcases iteS h with ⟨b181_13, h⟩ | ⟨b181_13, h⟩
            · refine At.step hm ht ⟨[(3, .b false), (8, .b false), (13, .b true)], [true], [], [], []⟩ 17 ⟨[], [], [], 0⟩ [(!(r125_0.1 == r125_1.1)) = false, ((r179_0.1 : Int) != r180_0.1) = false, (!(r179_0.2.1 == r180_0.2.1)) = true, true = true] (by kernel_rfl) ⟨b181_3, b181_8, b181_13, rfl, trivial⟩ ?_
              have h := Option.some.inj h
              subst h
              have hk : o = f11_broughamlaw40_TableKeys_out false := hk
              subst hk
              exact At.fin hm ht ⟨[], [], [], [6], []⟩ [] (by kernel_rfl) trivial
            · obtain ⟨r181_0, cr181_0, h⟩ := bindS h
              obtain ⟨r181_1, cr181_1, h⟩ := bindS h
              rcases iteS h with ⟨b181_e0, h⟩ | ⟨b181_e0, h⟩
              · refine At.step hm ht ⟨[(3, .b false), (8, .b false), (13, .b false), (15, .call [0, 2] [] (f54_table_Table_Len_out r181_0)), (17, .call [1, 3] [] (f54_table_Table_Len_out r181_1))], [true], [], [], []⟩ 17 ⟨[], [], [], 0⟩ [(!(r125_0.1 == r125_1.1)) = false, ((r179_0.1 : Int) != r180_0.1) = false, (!(r179_0.2.1 == r180_0.2.1)) = false, FnOK Go.Proofs.Try.prog 54 (f54_table_Table_Len_in r179_0.2.2.1 r179_0.2.2.2.1 r179_0.2.2.2.2.1 r179_0.2.2.2.2.2.1 r179_0.2.2.2.2.2.2.1 r179_0.2.2.2.2.2.2.2) (f54_table_Table_Len_out r181_0), FnOK Go.Proofs.Try.prog 54 (f54_table_Table_Len_in r180_0.2.2.1 r180_0.2.2.2.1 r180_0.2.2.2.2.1 r180_0.2.2.2.2.2.1 r180_0.2.2.2.2.2.2.1 r180_0.2.2.2.2.2.2.2) (f54_table_Table_Len_out r181_1), ((r181_0.1 : Int) != r181_1.1) = true] (by kernel_rfl) ⟨b181_3, b181_8, b181_13, (f54_table_Table_Len_ok r179_0.2.2.1 r179_0.2.2.2.1 r179_0.2.2.2.2.1 r179_0.2.2.2.2.2.1 r179_0.2.2.2.2.2.2.1 r179_0.2.2.2.2.2.2.2 r181_0 cr181_0), (f54_table_Table_Len_ok r180_0.2.2.1 r180_0.2.2.2.1 r180_0.2.2.2.2.1 r180_0.2.2.2.2.2.1 r180_0.2.2.2.2.2.2.1 r180_0.2.2.2.2.2.2.2 r181_1 cr181_1), b181_e0, trivial⟩ ?_
                have h := Option.some.inj h
                subst h
                have hk : o = f11_broughamlaw40_TableKeys_out false := hk
                subst hk
                exact At.fin hm ht ⟨[], [], [], [6], []⟩ [] (by kernel_rfl) trivial
              · refine At.step hm ht ⟨[(3, .b false), (8, .b false), (13, .b false), (15, .call [0, 2] [] (f54_table_Table_Len_out r181_0)), (17, .call [1, 3] [] (f54_table_Table_Len_out r181_1))], [false], [], [2, 7, 8, 9], [0, 1, 2, 3]⟩ 8 ⟨[(2, .one (.c (.d (.sl (.pair (.int .i64) (.pair (.int .u32) (.int .i64))) l)))), (7, .one (.c (.ptr 0 0))), (8, .one (.c (.ptr 1 0))), (9, .one (.c (.d (.int .i64 i))))], [(2, some ⟨169, 2⟩), (3, some ⟨169, 2⟩)], [(0, [.d (.int .u64 r181_0.2.1), .d (.int .u64 r181_0.2.2.1), .row 2 (.pair (.int .u8) (.pair (.int .u32) (.int .i64))), .d (.int .i64 r181_0.2.2.2.1), .d (.int .i64 r181_0.2.2.2.2.1), .d (.int .i64 r181_0.2.2.2.2.2.1)]), (1, [.d (.int .u64 r181_1.2.1), .d (.int .u64 r181_1.2.2.1), .row 3 (.pair (.int .u8) (.pair (.int .u32) (.int .i64))), .d (.int .i64 r181_1.2.2.2.1), .d (.int .i64 r181_1.2.2.2.2.1), .d (.int .i64 r181_1.2.2.2.2.2.1)]), (2, [.run (.pair (.int .u8) (.pair (.int .u32) (.int .i64))) r181_0.2.2.2.2.2.2]), (3, [.run (.pair (.int .u8) (.pair (.int .u32) (.int .i64))) r181_1.2.2.2.2.2.2])], 4⟩ [(!(r125_0.1 == r125_1.1)) = false, ((r179_0.1 : Int) != r180_0.1) = false, (!(r179_0.2.1 == r180_0.2.1)) = false, FnOK Go.Proofs.Try.prog 54 (f54_table_Table_Len_in r179_0.2.2.1 r179_0.2.2.2.1 r179_0.2.2.2.2.1 r179_0.2.2.2.2.2.1 r179_0.2.2.2.2.2.2.1 r179_0.2.2.2.2.2.2.2) (f54_table_Table_Len_out r181_0), FnOK Go.Proofs.Try.prog 54 (f54_table_Table_Len_in r180_0.2.2.1 r180_0.2.2.2.1 r180_0.2.2.2.2.1 r180_0.2.2.2.2.2.1 r180_0.2.2.2.2.2.2.1 r180_0.2.2.2.2.2.2.2) (f54_table_Table_Len_out r181_1), ((r181_0.1 : Int) != r181_1.1) = false] (by kernel_rfl) ⟨b181_3, b181_8, b181_13, (f54_table_Table_Len_ok r179_0.2.2.1 r179_0.2.2.2.1 r179_0.2.2.2.2.1 r179_0.2.2.2.2.2.1 r179_0.2.2.2.2.2.2.1 r179_0.2.2.2.2.2.2.2 r181_0 cr181_0), (f54_table_Table_Len_ok r180_0.2.2.1 r180_0.2.2.2.1 r180_0.2.2.2.2.1 r180_0.2.2.2.2.2.1 r180_0.2.2.2.2.2.2.1 r180_0.2.2.2.2.2.2.2 r181_1 cr181_1), b181_e0, trivial⟩ ?_
                refine At.step hm ht ⟨[], [], [], [2, 7, 8, 9], [0, 1, 2, 3]⟩ 7 ⟨[(2, .one (.c (.d (.sl (.pair (.int .i64) (.pair (.int .u32) (.int .i64))) l)))), (7, .one (.c (.ptr 0 0))), (8, .one (.c (.ptr 1 0))), (9, .one (.c (.d (.int .i64 (IntKind.wrap .i64 (i + 1))))))], [(2, some ⟨169, 2⟩), (3, some ⟨169, 2⟩)], [(0, [.d (.int .u64 r181_0.2.1), .d (.int .u64 r181_0.2.2.1), .row 2 (.pair (.int .u8) (.pair (.int .u32) (.int .i64))), .d (.int .i64 r181_0.2.2.2.1), .d (.int .i64 r181_0.2.2.2.2.1), .d (.int .i64 r181_0.2.2.2.2.2.1)]), (1, [.d (.int .u64 r181_1.2.1), .d (.int .u64 r181_1.2.2.1), .row 3 (.pair (.int .u8) (.pair (.int .u32) (.int .i64))), .d (.int .i64 r181_1.2.2.2.1), .d (.int .i64 r181_1.2.2.2.2.1), .d (.int .i64 r181_1.2.2.2.2.2.1)]), (2, [.run (.pair (.int .u8) (.pair (.int .u32) (.int .i64))) r181_0.2.2.2.2.2.2]), (3, [.run (.pair (.int .u8) (.pair (.int .u32) (.int .i64))) r181_1.2.2.2.2.2.2])], 4⟩ [] (by kernel_rfl) trivial ?_
                exact ih l (IntKind.wrap .i64 (i + 1)) r181_0.2.1 r181_0.2.2.1 r181_0.2.2.2.1 r181_0.2.2.2.2.1 r181_0.2.2.2.2.2.1 r181_1.2.1 r181_1.2.2.1 r181_1.2.2.2.1 r181_1.2.2.2.2.1 r181_1.2.2.2.2.2.1 r181_0.2.2.2.2.2.2 r181_1.2.2.2.2.2.2 w h o hk
    · refine At.step hm ht ⟨[], [false], [], [7, 8], [0, 1, 2, 3]⟩ 18 ⟨[(7, .one (.c (.ptr 0 0))), (8, .one (.c (.ptr 1 0)))], [(2, some ⟨169, 2⟩), (3, some ⟨169, 2⟩)], [(0, [.d (.int .u64 x_0), .d (.int .u64 x_1), .row 2 (.pair (.int .u8) (.pair (.int .u32) (.int .i64))), .d (.int .i64 x_3), .d (.int .i64 x_4), .d (.int .i64 x_5)]), (1, [.d (.int .u64 y_0), .d (.int .u64 y_1), .row 3 (.pair (.int .u8) (.pair (.int .u32) (.int .i64))), .d (.int .i64 y_3), .d (.int .i64 y_4), .d (.int .i64 y_5)]), (2, [.run (.pair (.int .u8) (.pair (.int .u32) (.int .i64))) b2_0]), (3, [.run (.pair (.int .u8) (.pair (.int .u32) (.int .i64))) b3_0])], 4⟩ [(decide ((i : Int) < ((l.length : Nat) : Int))) = false] (by kernel_rfl) ⟨b9_e0, trivial⟩ ?_
      have h := Option.some.inj h
      subst h
      exact hk
def f11_broughamlaw40_TableKeys (n : Nat) (a_0 : Int) (a_1 : Int) (b_0 : Int) (b_1 : Int) (l : List (Int × Int × Int)) : Option (Bool) :=
  if (decide ((((l.length : Nat) : Int) : Int) > 200)) = true then
    some true
  else
    (f50_table_New a_0 a_1 50).bind fun r4_0 =>
    (f50_table_New b_0 b_1 50).bind fun r4_1 =>
    (f11_broughamlaw40_TableKeys_L7 n l 0 r4_0.1 r4_0.2.1 r4_0.2.2.1 r4_0.2.2.2.1 r4_0.2.2.2.2.1 r4_1.1 r4_1.2.1 r4_1.2.2.1 r4_1.2.2.2.1 r4_1.2.2.2.2.1 r4_0.2.2.2.2.2 r4_1.2.2.2.2.2).bind fun w187 =>
    match w187 with
    | .inl e188 =>
      some e188
    | .inr e189 =>
      (f56_table_Table_Names n [] e189.1 e189.2.1 e189.2.2.1 e189.2.2.2.1 e189.2.2.2.2.1 e189.2.2.2.2.2.2.2.2.2.2.1).bind fun r190_0 =>
      (f56_table_Table_Names n [] e189.2.2.2.2.2.1 e189.2.2.2.2.2.2.1 e189.2.2.2.2.2.2.2.1 e189.2.2.2.2.2.2.2.2.1 e189.2.2.2.2.2.2.2.2.2.1 e189.2.2.2.2.2.2.2.2.2.2.2).bind fun r190_1 =>
      (f55_broughamlaw40_row n r190_0.2.2.2.2.2.2 r190_1.2.2.2.2.2.2).bind fun r190_2 =>
      if r190_2.1 = true then
        (f54_table_Table_Len r190_0.1 r190_0.2.1 r190_0.2.2.1 r190_0.2.2.2.1 r190_0.2.2.2.2.1 r190_0.2.2.2.2.2.1).bind fun r190_3 =>
        if (decide ((r190_3.1 : Int) ≤ 50)) = true then
          (f57_broughamlaw40_alive n).bind fun r190_4 =>
          some r190_4
        else
          some false
      else
        some false
theorem f11_broughamlaw40_TableKeys_ok (n : Nat) (a_0 : Int) (a_1 : Int) (b_0 : Int) (b_1 : Int) (l : List (Int × Int × Int)) (r : Bool) (h : f11_broughamlaw40_TableKeys n a_0 a_1 b_0 b_1 l = some r) : FnOK Go.Proofs.Try.prog 11 (f11_broughamlaw40_TableKeys_in a_0 a_1 b_0 b_1 l) (f11_broughamlaw40_TableKeys_out r) := by
  unfold f11_broughamlaw40_TableKeys at h
  refine At.fn (r := 0) Go.Proofs.Try.func11 rfl (by kernel_rfl) rfl rfl (by kernel_rfl) ?_
  show At Go.Proofs.Try.prog Go.Proofs.Try.f11 0 0 ⟨[(0, .one (.agg [.d (.int .u64 a_0), .d (.int .u64 a_1)])), (1, .one (.agg [.d (.int .u64 b_0), .d (.int .u64 b_1)])), (2, .one (.c (.d (.sl (.pair (.int .i64) (.pair (.int .u32) (.int .i64))) l))))], [], [], 0⟩ _
  refine At.step hm ht ⟨[], [], [], [2, 3, 4], [0, 1]⟩ 1 ⟨[(2, .one (.c (.d (.sl (.pair (.int .i64) (.pair (.int .u32) (.int .i64))) l)))), (3, .one (.c (.ptr 0 0))), (4, .one (.c (.ptr 1 0)))], [], [(0, [.d (.int .u64 a_0), .d (.int .u64 a_1)]), (1, [.d (.int .u64 b_0), .d (.int .u64 b_1)])], 2⟩ [] (by kernel_rfl) trivial ?_
  rcases iteS h with ⟨b2_e0, h⟩ | ⟨b2_e0, h⟩
  · refine At.step hm ht ⟨[], [true], [], [], []⟩ 2 ⟨[], [], [], 0⟩ [(decide ((((l.length : Nat) : Int) : Int) > 200)) = true] (by kernel_rfl) ⟨b2_e0, trivial⟩ ?_
    have h := Option.some.inj h
    subst h
    exact At.fin hm ht ⟨[], [], [], [6], []⟩ [] (by kernel_rfl) trivial
  · refine At.step hm ht ⟨[], [false], [], [2, 3, 4], [0, 1]⟩ 3 ⟨[(2, .one (.c (.d (.sl (.pair (.int .i64) (.pair (.int .u32) (.int .i64))) l)))), (3, .one (.c (.ptr 0 0))), (4, .one (.c (.ptr 1 0)))], [], [(0, [.d (.int .u64 a_0), .d (.int .u64 a_1)]), (1, [.d (.int .u64 b_0), .d (.int .u64 b_1)])], 2⟩ [(decide ((((l.length : Nat) : Int) : Int) > 200)) = false] (by kernel_rfl) ⟨b2_e0, trivial⟩ ?_
    obtain ⟨r4_0, cr4_0, h⟩ := bindS h
    obtain ⟨r4_1, cr4_1, h⟩ := bindS h
    refine At.step hm ht ⟨[(1, .call [] [] (f50_table_New_out r4_0)), (3, .call [] [] (f50_table_New_out r4_1))], [], [], [2, 7, 8], [3, 6, 4, 7]⟩ 4 ⟨[(2, .one (.c (.d (.sl (.pair (.int .i64) (.pair (.int .u32) (.int .i64))) l)))), (7, .one (.c (.ptr 0 0))), (8, .one (.c (.ptr 1 0)))], [(2, some ⟨169, 2⟩), (3, some ⟨169, 2⟩)], [(0, [.d (.int .u64 r4_0.1), .d (.int .u64 r4_0.2.1), .row 2 (.pair (.int .u8) (.pair (.int .u32) (.int .i64))), .d (.int .i64 r4_0.2.2.1), .d (.int .i64 r4_0.2.2.2.1), .d (.int .i64 r4_0.2.2.2.2.1)]), (1, [.d (.int .u64 r4_1.1), .d (.int .u64 r4_1.2.1), .row 3 (.pair (.int .u8) (.pair (.int .u32) (.int .i64))), .d (.int .i64 r4_1.2.2.1), .d (.int .i64 r4_1.2.2.2.1), .d (.int .i64 r4_1.2.2.2.2.1)]), (2, [.run (.pair (.int .u8) (.pair (.int .u32) (.int .i64))) r4_0.2.2.2.2.2]), (3, [.run (.pair (.int .u8) (.pair (.int .u32) (.int .i64))) r4_1.2.2.2.2.2])], 4⟩ [FnOK Go.Proofs.Try.prog 50 (f50_table_New_in a_0 a_1 50) (f50_table_New_out r4_0), FnOK Go.Proofs.Try.prog 50 (f50_table_New_in b_0 b_1 50) (f50_table_New_out r4_1)] (by kernel_rfl) ⟨(f50_table_New_ok a_0 a_1 50 r4_0 cr4_0), (f50_table_New_ok b_0 b_1 50 r4_1 cr4_1), trivial⟩ ?_
    refine At.step hm ht ⟨[], [false], [], [2, 7, 8], [0, 1, 2, 3]⟩ 6 ⟨[(2, .one (.c (.d (.sl (.pair (.int .i64) (.pair (.int .u32) (.int .i64))) l)))), (7, .one (.c (.ptr 0 0))), (8, .one (.c (.ptr 1 0)))], [(2, some ⟨169, 2⟩), (3, some ⟨169, 2⟩)], [(0, [.d (.int .u64 r4_0.1), .d (.int .u64 r4_0.2.1), .row 2 (.pair (.int .u8) (.pair (.int .u32) (.int .i64))), .d (.int .i64 r4_0.2.2.1), .d (.int .i64 r4_0.2.2.2.1), .d (.int .i64 r4_0.2.2.2.2.1)]), (1, [.d (.int .u64 r4_1.1), .d (.int .u64 r4_1.2.1), .row 3 (.pair (.int .u8) (.pair (.int .u32) (.int .i64))), .d (.int .i64 r4_1.2.2.1), .d (.int .i64 r4_1.2.2.2.1), .d (.int .i64 r4_1.2.2.2.2.1)]), (2, [.run (.pair (.int .u8) (.pair (.int .u32) (.int .i64))) r4_0.2.2.2.2.2]), (3, [.run (.pair (.int .u8) (.pair (.int .u32) (.int .i64))) r4_1.2.2.2.2.2])], 4⟩ [false = false] (by kernel_rfl) ⟨rfl, trivial⟩ ?_
    refine At.step hm ht ⟨[], [], [], [2, 7, 8, 9], [0, 1, 2, 3]⟩ 7 ⟨[(2, .one (.c (.d (.sl (.pair (.int .i64) (.pair (.int .u32) (.int .i64))) l)))), (7, .one (.c (.ptr 0 0))), (8, .one (.c (.ptr 1 0))), (9, .one (.c (.d (.int .i64 0))))], [(2, some ⟨169, 2⟩), (3, some ⟨169, 2⟩)], [(0, [.d (.int .u64 r4_0.1), .d (.int .u64 r4_0.2.1), .row 2 (.pair (.int .u8) (.pair (.int .u32) (.int .i64))), .d (.int .i64 r4_0.2.2.1), .d (.int .i64 r4_0.2.2.2.1), .d (.int .i64 r4_0.2.2.2.2.1)]), (1, [.d (.int .u64 r4_1.1), .d (.int .u64 r4_1.2.1), .row 3 (.pair (.int .u8) (.pair (.int .u32) (.int .i64))), .d (.int .i64 r4_1.2.2.1), .d (.int .i64 r4_1.2.2.2.1), .d (.int .i64 r4_1.2.2.2.2.1)]), (2, [.run (.pair (.int .u8) (.pair (.int .u32) (.int .i64))) r4_0.2.2.2.2.2]), (3, [.run (.pair (.int .u8) (.pair (.int .u32) (.int .i64))) r4_1.2.2.2.2.2])], 4⟩ [] (by kernel_rfl) trivial ?_
    obtain ⟨w187, cw187, h⟩ := bindS h
    refine f11_broughamlaw40_TableKeys_L7_ok n l 0 r4_0.1 r4_0.2.1 r4_0.2.2.1 r4_0.2.2.2.1 r4_0.2.2.2.2.1 r4_1.1 r4_1.2.1 r4_1.2.2.1 r4_1.2.2.2.1 r4_1.2.2.2.2.1 r4_0.2.2.2.2.2 r4_1.2.2.2.2.2 w187 cw187 _ ?_
    rcases w187 with e188 | e189
    · have h := Option.some.inj h
      subst h
      rfl
    · show At Go.Proofs.Try.prog Go.Proofs.Try.f11 0 18 ⟨[(7, .one (.c (.ptr 0 0))), (8, .one (.c (.ptr 1 0)))], [(2, some ⟨169, 2⟩), (3, some ⟨169, 2⟩)], [(0, [.d (.int .u64 e189.1), .d (.int .u64 e189.2.1), .row 2 (.pair (.int .u8) (.pair (.int .u32) (.int .i64))), .d (.int .i64 e189.2.2.1), .d (.int .i64 e189.2.2.2.1), .d (.int .i64 e189.2.2.2.2.1)]), (1, [.d (.int .u64 e189.2.2.2.2.2.1), .d (.int .u64 e189.2.2.2.2.2.2.1), .row 3 (.pair (.int .u8) (.pair (.int .u32) (.int .i64))), .d (.int .i64 e189.2.2.2.2.2.2.2.1), .d (.int .i64 e189.2.2.2.2.2.2.2.2.1), .d (.int .i64 e189.2.2.2.2.2.2.2.2.2.1)]), (2, [.run (.pair (.int .u8) (.pair (.int .u32) (.int .i64))) e189.2.2.2.2.2.2.2.2.2.2.1]), (3, [.run (.pair (.int .u8) (.pair (.int .u32) (.int .i64))) e189.2.2.2.2.2.2.2.2.2.2.2])], 4⟩ _
      obtain ⟨r190_0, cr190_0, h⟩ := bindS h
      obtain ⟨r190_1, cr190_1, h⟩ := bindS h
      obtain ⟨r190_2, cr190_2, h⟩ := bindS h
      rcases iteS h with ⟨b190_5, h⟩ | ⟨b190_5, h⟩
      · obtain ⟨r190_3, cr190_3, h⟩ := bindS h
        rcases iteS h with ⟨b190_10, h⟩ | ⟨b190_10, h⟩
        · obtain ⟨r190_4, cr190_4, h⟩ := bindS h
          have h := Option.some.inj h
          subst h
          exact At.fin hm ht ⟨[(1, .call [0, 2] [(1, 0, (.int .i64))] (f56_table_Table_Names_out r190_0)), (3, .call [1, 3] [(1, 0, (.int .i64))] (f56_table_Table_Names_out r190_1)), (4, .call [7, 11] [] (f55_broughamlaw40_row_out r190_2)), (5, .b true), (7, .call [0, 2] [] (f54_table_Table_Len_out r190_3)), (10, .b true), (11, .call [] [] (f57_broughamlaw40_alive_out r190_4))], [], [], [6], []⟩ [FnOK Go.Proofs.Try.prog 56 (f56_table_Table_Names_in [] e189.1 e189.2.1 e189.2.2.1 e189.2.2.2.1 e189.2.2.2.2.1 e189.2.2.2.2.2.2.2.2.2.2.1) (f56_table_Table_Names_out r190_0), FnOK Go.Proofs.Try.prog 56 (f56_table_Table_Names_in [] e189.2.2.2.2.2.1 e189.2.2.2.2.2.2.1 e189.2.2.2.2.2.2.2.1 e189.2.2.2.2.2.2.2.2.1 e189.2.2.2.2.2.2.2.2.2.1 e189.2.2.2.2.2.2.2.2.2.2.2) (f56_table_Table_Names_out r190_1), FnOK Go.Proofs.Try.prog 55 (f55_broughamlaw40_row_in r190_0.2.2.2.2.2.2 r190_1.2.2.2.2.2.2) (f55_broughamlaw40_row_out r190_2), r190_2.1 = true, FnOK Go.Proofs.Try.prog 54 (f54_table_Table_Len_in r190_0.1 r190_0.2.1 r190_0.2.2.1 r190_0.2.2.2.1 r190_0.2.2.2.2.1 r190_0.2.2.2.2.2.1) (f54_table_Table_Len_out r190_3), (decide ((r190_3.1 : Int) ≤ 50)) = true, FnOK Go.Proofs.Try.prog 57 (f57_broughamlaw40_alive_in) (f57_broughamlaw40_alive_out r190_4)] (by kernel_rfl) ⟨(f56_table_Table_Names_ok n [] e189.1 e189.2.1 e189.2.2.1 e189.2.2.2.1 e189.2.2.2.2.1 e189.2.2.2.2.2.2.2.2.2.2.1 r190_0 cr190_0), (f56_table_Table_Names_ok n [] e189.2.2.2.2.2.1 e189.2.2.2.2.2.2.1 e189.2.2.2.2.2.2.2.1 e189.2.2.2.2.2.2.2.2.1 e189.2.2.2.2.2.2.2.2.2.1 e189.2.2.2.2.2.2.2.2.2.2.2 r190_1 cr190_1), (f55_broughamlaw40_row_ok n r190_0.2.2.2.2.2.2 r190_1.2.2.2.2.2.2 r190_2 cr190_2), b190_5, (f54_table_Table_Len_ok r190_0.1 r190_0.2.1 r190_0.2.2.1 r190_0.2.2.2.1 r190_0.2.2.2.2.1 r190_0.2.2.2.2.2.1 r190_3 cr190_3), b190_10, (f57_broughamlaw40_alive_ok n r190_4 cr190_4), trivial⟩
        · have h := Option.some.inj h
          subst h
          exact At.fin hm ht ⟨[(1, .call [0, 2] [(1, 0, (.int .i64))] (f56_table_Table_Names_out r190_0)), (3, .call [1, 3] [(1, 0, (.int .i64))] (f56_table_Table_Names_out r190_1)), (4, .call [7, 11] [] (f55_broughamlaw40_row_out r190_2)), (5, .b true), (7, .call [0, 2] [] (f54_table_Table_Len_out r190_3)), (10, .b false)], [], [], [6], []⟩ [FnOK Go.Proofs.Try.prog 56 (f56_table_Table_Names_in [] e189.1 e189.2.1 e189.2.2.1 e189.2.2.2.1 e189.2.2.2.2.1 e189.2.2.2.2.2.2.2.2.2.2.1) (f56_table_Table_Names_out r190_0), FnOK Go.Proofs.Try.prog 56 (f56_table_Table_Names_in [] e189.2.2.2.2.2.1 e189.2.2.2.2.2.2.1 e189.2.2.2.2.2.2.2.1 e189.2.2.2.2.2.2.2.2.1 e189.2.2.2.2.2.2.2.2.2.1 e189.2.2.2.2.2.2.2.2.2.2.2) (f56_table_Table_Names_out r190_1), FnOK Go.Proofs.Try.prog 55 (f55_broughamlaw40_row_in r190_0.2.2.2.2.2.2 r190_1.2.2.2.2.2.2) (f55_broughamlaw40_row_out r190_2), r190_2.1 = true, FnOK Go.Proofs.Try.prog 54 (f54_table_Table_Len_in r190_0.1 r190_0.2.1 r190_0.2.2.1 r190_0.2.2.2.1 r190_0.2.2.2.2.1 r190_0.2.2.2.2.2.1) (f54_table_Table_Len_out r190_3), (decide ((r190_3.1 : Int) ≤ 50)) = false] (by kernel_rfl) ⟨(f56_table_Table_Names_ok n [] e189.1 e189.2.1 e189.2.2.1 e189.2.2.2.1 e189.2.2.2.2.1 e189.2.2.2.2.2.2.2.2.2.2.1 r190_0 cr190_0), (f56_table_Table_Names_ok n [] e189.2.2.2.2.2.1 e189.2.2.2.2.2.2.1 e189.2.2.2.2.2.2.2.1 e189.2.2.2.2.2.2.2.2.1 e189.2.2.2.2.2.2.2.2.2.1 e189.2.2.2.2.2.2.2.2.2.2.2 r190_1 cr190_1), (f55_broughamlaw40_row_ok n r190_0.2.2.2.2.2.2 r190_1.2.2.2.2.2.2 r190_2 cr190_2), b190_5, (f54_table_Table_Len_ok r190_0.1 r190_0.2.1 r190_0.2.2.1 r190_0.2.2.2.1 r190_0.2.2.2.2.1 r190_0.2.2.2.2.2.1 r190_3 cr190_3), b190_10, trivial⟩
      · have h := Option.some.inj h
        subst h
        exact At.fin hm ht ⟨[(1, .call [0, 2] [(1, 0, (.int .i64))] (f56_table_Table_Names_out r190_0)), (3, .call [1, 3] [(1, 0, (.int .i64))] (f56_table_Table_Names_out r190_1)), (4, .call [7, 11] [] (f55_broughamlaw40_row_out r190_2)), (5, .b false)], [], [], [6], []⟩ [FnOK Go.Proofs.Try.prog 56 (f56_table_Table_Names_in [] e189.1 e189.2.1 e189.2.2.1 e189.2.2.2.1 e189.2.2.2.2.1 e189.2.2.2.2.2.2.2.2.2.2.1) (f56_table_Table_Names_out r190_0), FnOK Go.Proofs.Try.prog 56 (f56_table_Table_Names_in [] e189.2.2.2.2.2.1 e189.2.2.2.2.2.2.1 e189.2.2.2.2.2.2.2.1 e189.2.2.2.2.2.2.2.2.1 e189.2.2.2.2.2.2.2.2.2.1 e189.2.2.2.2.2.2.2.2.2.2.2) (f56_table_Table_Names_out r190_1), FnOK Go.Proofs.Try.prog 55 (f55_broughamlaw40_row_in r190_0.2.2.2.2.2.2 r190_1.2.2.2.2.2.2) (f55_broughamlaw40_row_out r190_2), r190_2.1 = false] (by kernel_rfl) ⟨(f56_table_Table_Names_ok n [] e189.1 e189.2.1 e189.2.2.1 e189.2.2.2.1 e189.2.2.2.2.1 e189.2.2.2.2.2.2.2.2.2.2.1 r190_0 cr190_0), (f56_table_Table_Names_ok n [] e189.2.2.2.2.2.1 e189.2.2.2.2.2.2.1 e189.2.2.2.2.2.2.2.1 e189.2.2.2.2.2.2.2.2.1 e189.2.2.2.2.2.2.2.2.2.1 e189.2.2.2.2.2.2.2.2.2.2.2 r190_1 cr190_1), (f55_broughamlaw40_row_ok n r190_0.2.2.2.2.2.2 r190_1.2.2.2.2.2.2 r190_2 cr190_2), b190_5, trivial⟩
end Go.Proofs.YtjoibacjpapncaaF40
