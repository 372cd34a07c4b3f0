/- What the functions compute, and that they do: printed by a program of this session (zgen.py), proved by Zed. -/
import Derived.Test.YtjoibacjpapncaaProg
import Derived.Test.YtjoibacjpapncaaZedYa
namespace Go.Proofs.YtjoibacjpapncaaF40b
open Go Zed
set_option maxRecDepth 100000
set_option linter.unusedVariables false
def tab : Tab := [(3, ⟨.int .i64, 1, 8, [.int .i64 0], some (.int .i64), none⟩), (4, ⟨.bool, 1, 1, [.bool false], some .bool, none⟩), (5, ⟨.int .u8, 1, 1, [.int .u8 0], some (.int .u8), none⟩), (22, ⟨.int .u64, 1, 8, [.int .u64 0], some (.int .u64), none⟩), (24, ⟨.struct [(0, 22), (1, 22)], 2, 16, [.int .u64 0, .int .u64 0], some (.pair (.int .u64) (.int .u64)), some [(0, 22), (1, 22)]⟩), (26, ⟨.int .u32, 1, 4, [.int .u32 0], some (.int .u32), none⟩), (38, ⟨.slice 5, 1, 24, [.sl .unit []], some (.slice (.int .u8)), none⟩), (96, ⟨.slice 100, 1, 24, [.sl .unit []], some (.slice (.pair (.int .i64) (.pair (.int .u32) (.int .i64)))), none⟩), (97, ⟨.ptr 166, 1, 8, [.nilP], none, none⟩), (100, ⟨.struct [(0, 3), (1, 26), (2, 3)], 3, 24, [.int .i64 0, .int .u32 0, .int .i64 0], some (.pair (.int .i64) (.pair (.int .u32) (.int .i64))), some [(0, 3), (1, 26), (2, 3)]⟩), (105, ⟨.slice 26, 1, 24, [.sl .unit []], some (.slice (.int .u32)), none⟩), (109, ⟨.struct [(0, 24), (2, 3)], 3, 24, [.int .u64 0, .int .u64 0, .int .i64 0], some (.pair (.pair (.int .u64) (.int .u64)) (.int .i64)), some [(0, 24), (2, 3)]⟩), (110, ⟨.slice 3, 1, 24, [.sl .unit []], some (.slice (.int .i64)), none⟩), (111, ⟨.slice 174, 1, 24, [.sl .unit []], some (.slice (.pair (.int .u32) (.int .i64))), none⟩), (133, ⟨.int .u64, 1, 8, [.int .u64 0], some (.int .u64), none⟩), (139, ⟨.struct [(0, 3), (1, 22)], 2, 16, [.int .i64 0, .int .u64 0], some (.pair (.int .i64) (.int .u64)), some [(0, 3), (1, 22)]⟩), (164, ⟨.slice 169, 1, 24, [.sl .unit []], some (.slice (.pair (.int .u8) (.pair (.int .u32) (.int .i64)))), none⟩), (166, ⟨.struct [(0, 24), (2, 164), (3, 3), (4, 3), (5, 3)], 6, 64, [.int .u64 0, .int .u64 0, .sl .unit [], .int .i64 0, .int .i64 0, .int .i64 0], some (.pair (.pair (.int .u64) (.int .u64)) (.pair (.slice (.pair (.int .u8) (.pair (.int .u32) (.int .i64)))) (.pair (.int .i64) (.pair (.int .i64) (.int .i64))))), some [(0, 24), (2, 164), (3, 3), (4, 3), (5, 3)]⟩), (169, ⟨.struct [(0, 5), (1, 26), (2, 3)], 3, 16, [.int .u8 0, .int .u32 0, .int .i64 0], some (.pair (.int .u8) (.pair (.int .u32) (.int .i64))), some [(0, 5), (1, 26), (2, 3)]⟩), (174, ⟨.struct [(0, 26), (1, 3)], 2, 16, [.int .u32 0, .int .i64 0], some (.pair (.int .u32) (.int .i64)), some [(0, 26), (1, 3)]⟩), (221, ⟨.slice 139, 1, 24, [.sl .unit []], some (.slice (.pair (.int .i64) (.int .u64))), none⟩), (239, ⟨.slice 38, 1, 24, [.sl .unit []], some (.slice (.slice (.int .u8))), none⟩), (248, ⟨.arr 4 22, 4, 32, [.int .u64 0, .int .u64 0, .int .u64 0, .int .u64 0], some (.pair (.int .u64) (.pair (.int .u64) (.pair (.int .u64) (.int .u64)))), none⟩), (250, ⟨.struct [(0, 248), (4, 22), (5, 3)], 6, 48, [.int .u64 0, .int .u64 0, .int .u64 0, .int .u64 0, .int .u64 0, .int .i64 0], some (.pair (.pair (.int .u64) (.pair (.int .u64) (.pair (.int .u64) (.int .u64)))) (.pair (.int .u64) (.int .i64))), some [(0, 248), (4, 22), (5, 3)]⟩)]
theorem ht : TabOk Go.Proofs.Try.prog tab := tabOk_of (ts := [3, 4, 5, 22, 24, 26, 38, 96, 97, 100, 105, 109, 110, 111, 133, 139, 164, 166, 169, 174, 221, 239, 248, 250]) (by kernel_rfl)
theorem hm : Go.Proofs.Try.prog.follows .mixedOrders = true := by kernel_rfl
/-! brougham/table.New -/
def f50_table_New_in (key_0 : Int) (key_1 : Int) (most : Int) : Inn := ⟨[.agg [.d (.int .u64 key_0), .d (.int .u64 key_1)], .c (.d (.int .i64 most))], [], [], 0⟩
def f50_table_New_out (r : Int × Int × Int × Int × Int × List (Int × Int × Int)) : Out := ⟨.one (.c (.ptr 0 0)), [(1, ⟨169, 2⟩)], [(0, [.d (.int .u64 r.1), .d (.int .u64 r.2.1), .row 1 (.pair (.int .u8) (.pair (.int .u32) (.int .i64))), .d (.int .i64 r.2.2.1), .d (.int .i64 r.2.2.2.1), .d (.int .i64 r.2.2.2.2.1)]), (1, [.run (.pair (.int .u8) (.pair (.int .u32) (.int .i64))) r.2.2.2.2.2])], 2⟩
def f50_table_New (key_0 : Int) (key_1 : Int) (most : Int) : Option (Int × Int × Int × Int × Int × List (Int × Int × Int)) :=
  some (key_0, key_1, 0, 0, (if 256 < (if most < 1 then 1 else most) then 256 else (if most < 1 then 1 else most)), (List.replicate 8 (0, (0, 0))))
theorem f50_table_New_ok (key_0 : Int) (key_1 : Int) (most : Int) (r : Int × Int × Int × Int × Int × List (Int × Int × Int)) (h : f50_table_New key_0 key_1 most = some r) : FnOK Go.Proofs.Try.prog 50 (f50_table_New_in key_0 key_1 most) (f50_table_New_out r) := by
  unfold f50_table_New at h
  refine At.fn (r := 0) Go.Proofs.Try.func50 rfl (by kernel_rfl) rfl rfl (by kernel_rfl) ?_
  show At Go.Proofs.Try.prog Go.Proofs.Try.f50 0 0 ⟨[(0, .one (.agg [.d (.int .u64 key_0), .d (.int .u64 key_1)])), (1, .one (.c (.d (.int .i64 most))))], [], [], 0⟩ _
  refine At.step hm ht ⟨[], [], [], [1, 2], [0]⟩ 1 ⟨[(1, .one (.c (.d (.int .i64 most)))), (2, .one (.c (.ptr 0 0)))], [], [(0, [.d (.int .u64 key_0), .d (.int .u64 key_1)])], 1⟩ [] (by kernel_rfl) trivial ?_
  have h := Option.some.inj h
  subst h
  exact At.fin hm ht ⟨[(1, .row)], [], [], [4], [7, 2]⟩ [((8 : Int) = 8 ∧ (0 : Int) ≤ 8) ∧ (8 * 3 ≤ 16777216 ∧ 8 * 16 ≤ 16777216)] (by kernel_rfl) ⟨(by decide), trivial⟩
/-! brougham/broughamref40.Delete -/
def f58_broughamref40_Delete_in (l : List (Int × Int)) (name : Int) : Inn := ⟨[.c (.d (.sl (.pair (.int .u32) (.int .i64)) l)), .c (.d (.int .u32 name))], [], [], 0⟩
def f58_broughamref40_Delete_out (r : (List (Int × Int)) × Bool) : Out := ⟨.tup [.c (.own 0 (.pair (.int .u32) (.int .i64)) r.1), .c (.d (.bool r.2))], [(0, ⟨174, 0⟩)], [], 1⟩
def f58_broughamref40_Delete_L3 : Nat → (List (Int × Int)) → Int → (List (Int × Int)) → Int → Option ((List (Int × Int)) × List (Int × Int))
  | 0, _, _, _, _ => none
  | n + 1, l, name, out, i =>
    if (decide ((i : Int) < ((l.length : Nat) : Int))) = true then
      if (0 : Int) ≤ i ∧ i < (((l).length : Nat) : Int) then
      if ((((l.getD i.toNat (0, 0)).1) : Int) != name) = true then
        if (0 : Int) ≤ i ∧ i < (((l).length : Nat) : Int) then
        if out.length + [(l.getD i.toNat (0, 0))].length ≤ maxLen ∧ (out.length + [(l.getD i.toNat (0, 0))].length) * 16 ≤ 140737488355328 then
        f58_broughamref40_Delete_L3 n l name (out ++ [(l.getD i.toNat (0, 0))]) (IntKind.wrap .i64 (i + 1))
        else none
        else none
      else
        f58_broughamref40_Delete_L3 n l name out (IntKind.wrap .i64 (i + 1))
      else none
    else
      some ((l, out))
def f58_broughamref40_Delete_L3_k (e : (List (Int × Int)) × List (Int × Int)) (o : Out) : Prop := At Go.Proofs.Try.prog Go.Proofs.Try.f58 0 7 ⟨[(0, .one (.c (.d (.sl (.pair (.int .u32) (.int .i64)) e.1)))), (6, .one (.c (.own 0 (.pair (.int .u32) (.int .i64)) e.2)))], [(0, some ⟨174, 0⟩)], [], 1⟩ o
theorem f58_broughamref40_Delete_L3_ok (n : Nat) : ∀ (l : List (Int × Int)) (name : Int) (out : List (Int × Int)) (i : Int) (w : (List (Int × Int)) × List (Int × Int)) (h : f58_broughamref40_Delete_L3 n l name out i = some w) (o : Out) (hk : f58_broughamref40_Delete_L3_k w o), At Go.Proofs.Try.prog Go.Proofs.Try.f58 0 3 ⟨[(0, .one (.c (.d (.sl (.pair (.int .u32) (.int .i64)) l)))), (1, .one (.c (.d (.int .u32 name)))), (6, .one (.c (.own 0 (.pair (.int .u32) (.int .i64)) out))), (7, .one (.c (.d (.int .i64 i))))], [(0, some ⟨174, 0⟩)], [], 1⟩ o := by
  induction n with
  | zero => intro l name out i w h; rw [f58_broughamref40_Delete_L3] at h; cases h
  | succ n ih =>
    intro l name out i w h o hk
    rw [f58_broughamref40_Delete_L3] at h
    rcases iteS h with ⟨b28_e0, h⟩ | ⟨b28_e0, h⟩
    · refine At.step hm ht ⟨[], [true], [], [0, 1, 6, 7], [0]⟩ 5 ⟨[(0, .one (.c (.d (.sl (.pair (.int .u32) (.int .i64)) l)))), (1, .one (.c (.d (.int .u32 name)))), (6, .one (.c (.own 0 (.pair (.int .u32) (.int .i64)) out))), (7, .one (.c (.d (.int .i64 i))))], [(0, some ⟨174, 0⟩)], [], 1⟩ [(decide ((i : Int) < ((l.length : Nat) : Int))) = true] (by kernel_rfl) ⟨b28_e0, trivial⟩ ?_
      obtain ⟨g29_0, h⟩ := ifS h
      rcases iteS h with ⟨b29_e0, h⟩ | ⟨b29_e0, h⟩
      · refine At.step hm ht ⟨[], [true], [], [0, 1, 6, 7], [0]⟩ 6 ⟨[(0, .one (.c (.d (.sl (.pair (.int .u32) (.int .i64)) l)))), (1, .one (.c (.d (.int .u32 name)))), (6, .one (.c (.own 0 (.pair (.int .u32) (.int .i64)) out))), (7, .one (.c (.d (.int .i64 i))))], [(0, some ⟨174, 0⟩)], [], 1⟩ [(0 : Int) ≤ i ∧ i < (((l).length : Nat) : Int), ((((l.getD i.toNat (0, 0)).1) : Int) != name) = true] (by kernel_rfl) ⟨g29_0, b29_e0, trivial⟩ ?_
        obtain ⟨g30_0, h⟩ := ifS h
        obtain ⟨g30_1, h⟩ := ifS h
        refine At.step hm ht ⟨[], [], [], [0, 1, 6, 7], [7]⟩ 4 ⟨[(0, .one (.c (.d (.sl (.pair (.int .u32) (.int .i64)) l)))), (1, .one (.c (.d (.int .u32 name)))), (6, .one (.c (.own 0 (.pair (.int .u32) (.int .i64)) (out ++ [(l.getD i.toNat (0, 0))])))), (7, .one (.c (.d (.int .i64 i))))], [(0, some ⟨174, 0⟩)], [], 1⟩ [(0 : Int) ≤ i ∧ i < (((l).length : Nat) : Int), out.length + [(l.getD i.toNat (0, 0))].length ≤ maxLen ∧ (out.length + [(l.getD i.toNat (0, 0))].length) * 16 ≤ 140737488355328] (by kernel_rfl) ⟨g30_0, g30_1, trivial⟩ ?_
        refine At.step hm ht ⟨[], [], [], [0, 1, 6, 7], [0]⟩ 3 ⟨[(0, .one (.c (.d (.sl (.pair (.int .u32) (.int .i64)) l)))), (1, .one (.c (.d (.int .u32 name)))), (6, .one (.c (.own 0 (.pair (.int .u32) (.int .i64)) (out ++ [(l.getD i.toNat (0, 0))])))), (7, .one (.c (.d (.int .i64 (IntKind.wrap .i64 (i + 1))))))], [(0, some ⟨174, 0⟩)], [], 1⟩ [] (by kernel_rfl) trivial ?_
        exact ih l name (out ++ [(l.getD i.toNat (0, 0))]) (IntKind.wrap .i64 (i + 1)) w h o hk
      · refine At.step hm ht ⟨[], [false], [], [0, 1, 6, 7], [0]⟩ 4 ⟨[(0, .one (.c (.d (.sl (.pair (.int .u32) (.int .i64)) l)))), (1, .one (.c (.d (.int .u32 name)))), (6, .one (.c (.own 0 (.pair (.int .u32) (.int .i64)) out))), (7, .one (.c (.d (.int .i64 i))))], [(0, some ⟨174, 0⟩)], [], 1⟩ [(0 : Int) ≤ i ∧ i < (((l).length : Nat) : Int), ((((l.getD i.toNat (0, 0)).1) : Int) != name) = false] (by kernel_rfl) ⟨g29_0, b29_e0, trivial⟩ ?_
        refine At.step hm ht ⟨[], [], [], [0, 1, 6, 7], [0]⟩ 3 ⟨[(0, .one (.c (.d (.sl (.pair (.int .u32) (.int .i64)) l)))), (1, .one (.c (.d (.int .u32 name)))), (6, .one (.c (.own 0 (.pair (.int .u32) (.int .i64)) out))), (7, .one (.c (.d (.int .i64 (IntKind.wrap .i64 (i + 1))))))], [(0, some ⟨174, 0⟩)], [], 1⟩ [] (by kernel_rfl) trivial ?_
        exact ih l name out (IntKind.wrap .i64 (i + 1)) w h o hk
    · refine At.step hm ht ⟨[], [false], [], [0, 6], [0]⟩ 7 ⟨[(0, .one (.c (.d (.sl (.pair (.int .u32) (.int .i64)) l)))), (6, .one (.c (.own 0 (.pair (.int .u32) (.int .i64)) out)))], [(0, some ⟨174, 0⟩)], [], 1⟩ [(decide ((i : Int) < ((l.length : Nat) : Int))) = false] (by kernel_rfl) ⟨b28_e0, trivial⟩ ?_
      have h := Option.some.inj h
      subst h
      exact hk
def f58_broughamref40_Delete (n : Nat) (l : List (Int × Int)) (name : Int) : Option ((List (Int × Int)) × Bool) :=
  (f58_broughamref40_Delete_L3 n l name [] 0).bind fun w33 =>
  some (w33.2, (decide ((((w33.2.length : Nat) : Int) : Int) < ((w33.1.length : Nat) : Int))))
theorem f58_broughamref40_Delete_ok (n : Nat) (l : List (Int × Int)) (name : Int) (r : (List (Int × Int)) × Bool) (h : f58_broughamref40_Delete n l name = some r) : FnOK Go.Proofs.Try.prog 58 (f58_broughamref40_Delete_in l name) (f58_broughamref40_Delete_out r) := by
  unfold f58_broughamref40_Delete at h
  refine At.fn (r := 0) Go.Proofs.Try.func58 rfl (by kernel_rfl) rfl rfl (by kernel_rfl) ?_
  show At Go.Proofs.Try.prog Go.Proofs.Try.f58 0 0 ⟨[(0, .one (.c (.d (.sl (.pair (.int .u32) (.int .i64)) l)))), (1, .one (.c (.d (.int .u32 name))))], [], [], 0⟩ _
  refine At.step hm ht ⟨[], [], [], [0, 1], []⟩ 1 ⟨[(0, .one (.c (.d (.sl (.pair (.int .u32) (.int .i64)) l)))), (1, .one (.c (.d (.int .u32 name))))], [], [], 0⟩ [] (by kernel_rfl) trivial ?_
  refine At.step hm ht ⟨[], [], [], [0, 1, 6], []⟩ 2 ⟨[(0, .one (.c (.d (.sl (.pair (.int .u32) (.int .i64)) l)))), (1, .one (.c (.d (.int .u32 name)))), (6, .one (.c (.d (.sl .unit []))))], [], [], 0⟩ [] (by kernel_rfl) trivial ?_
  refine At.step hm ht ⟨[], [], [.nil false 6 0 (.pair (.int .u32) (.int .i64)) (some 174)], [0, 1, 6, 7], [1]⟩ 3 ⟨[(0, .one (.c (.d (.sl (.pair (.int .u32) (.int .i64)) l)))), (1, .one (.c (.d (.int .u32 name)))), (6, .one (.c (.own 0 (.pair (.int .u32) (.int .i64)) []))), (7, .one (.c (.d (.int .i64 0))))], [(0, some ⟨174, 0⟩)], [], 1⟩ [] (by kernel_rfl) trivial ?_
  obtain ⟨w33, cw33, h⟩ := bindS h
  refine f58_broughamref40_Delete_L3_ok n l name [] 0 w33 cw33 _ ?_
  show At Go.Proofs.Try.prog Go.Proofs.Try.f58 0 7 ⟨[(0, .one (.c (.d (.sl (.pair (.int .u32) (.int .i64)) w33.1)))), (6, .one (.c (.own 0 (.pair (.int .u32) (.int .i64)) w33.2)))], [(0, some ⟨174, 0⟩)], [], 1⟩ _
  have h := Option.some.inj h
  subst h
  exact At.fin hm ht ⟨[], [], [], [4, 5], [0]⟩ [] (by kernel_rfl) trivial
/-! brougham/pack.W -/
def f79_pack_W_in (n_ : Int) : Inn := ⟨[.c (.d (.int .u32 n_))], [], [], 0⟩
def f79_pack_W_out (r : Int × Int) : Out := ⟨.one (.agg [.d (.int .i64 r.1), .d (.int .u64 r.2)]), [], [(0, [.d (.int .i64 r.1), .d (.int .u64 r.2)])], 1⟩
def f79_pack_W (n_ : Int) : Option (Int × Int) :=
  some (4, (IntKind.wrap .u64 n_))
theorem f79_pack_W_ok (n_ : Int) (r : Int × Int) (h : f79_pack_W n_ = some r) : FnOK Go.Proofs.Try.prog 79 (f79_pack_W_in n_) (f79_pack_W_out r) := by
  unfold f79_pack_W at h
  refine At.fn (r := 0) Go.Proofs.Try.func79 rfl (by kernel_rfl) rfl rfl (by kernel_rfl) ?_
  show At Go.Proofs.Try.prog Go.Proofs.Try.f79 0 0 ⟨[(0, .one (.c (.d (.int .u32 n_))))], [], [], 0⟩ _
  refine At.step hm ht ⟨[], [], [], [0, 2], [0]⟩ 1 ⟨[(0, .one (.c (.d (.int .u32 n_)))), (2, .one (.c (.ptr 0 0)))], [], [(0, [.d (.int .i64 0), .d (.int .u64 0)])], 1⟩ [] (by kernel_rfl) trivial ?_
  have h := Option.some.inj h
  subst h
  exact At.fin hm ht ⟨[], [], [], [2], [0]⟩ [0 + 2 ≤ 2] (by kernel_rfl) ⟨(by decide), trivial⟩
/-! brougham/pack.Put -/
def f78_pack_Put_in (b : List Int) (l : List (Int × Int)) : Inn := ⟨[.c (.d (.sl (.int .u8) b)), .c (.d (.sl (.pair (.int .i64) (.int .u64)) l))], [], [], 0⟩
def f78_pack_Put_out (r : List Int) : Out := ⟨.one (.c (.own 0 (.int .u8) r)), [(0, ⟨5, 0⟩)], [], 1⟩
def f78_pack_Put_L7 : Nat → (List Int) → Int → (List (Int × Int)) → Int → Int → Int → Int → Option (List Int × (List (Int × Int)) × Int × Int)
  | 0, _, _, _, _, _, _, _ => none
  | n + 1, out, i, t11, t12, t13, f_0, f_1 =>
    if (decide ((i : Int) ≥ 0)) = true then
      if (0 : Int) ≤ (IntKind.wrap .i64 (8 * i)) then
      if out.length + [(IntKind.wrap .u8 (Int.fdiv f_1 (2 ^ (min (IntKind.wrap .i64 (8 * i)).toNat (IntKind.bits .u64)))))].length ≤ maxLen ∧ (out.length + [(IntKind.wrap .u8 (Int.fdiv f_1 (2 ^ (min (IntKind.wrap .i64 (8 * i)).toNat (IntKind.bits .u64)))))].length) * 1 ≤ 140737488355328 then
      f78_pack_Put_L7 n (out ++ [(IntKind.wrap .u8 (Int.fdiv f_1 (2 ^ (min (IntKind.wrap .i64 (8 * i)).toNat (IntKind.bits .u64)))))]) (IntKind.wrap .i64 (i - 1)) t11 t12 t13 f_0 f_1
      else none
      else none
    else
      some ((out, t11, t12, t13))
def f78_pack_Put_L7_k (e : List Int × (List (Int × Int)) × Int × Int) (o : Out) : Prop := At Go.Proofs.Try.prog Go.Proofs.Try.f78 0 10 ⟨[(5, .one (.c (.own 0 (.int .u8) e.1))), (11, .one (.c (.d (.sl (.pair (.int .i64) (.int .u64)) e.2.1)))), (12, .one (.c (.d (.int .i64 e.2.2.1)))), (13, .one (.c (.d (.int .i64 e.2.2.2))))], [(0, some ⟨5, 0⟩)], [], 1⟩ o
theorem f78_pack_Put_L7_ok (n : Nat) : ∀ (out : List Int) (i : Int) (t11 : List (Int × Int)) (t12 : Int) (t13 : Int) (f_0 : Int) (f_1 : Int) (w : List Int × (List (Int × Int)) × Int × Int) (h : f78_pack_Put_L7 n out i t11 t12 t13 f_0 f_1 = some w) (o : Out) (hk : f78_pack_Put_L7_k w o), At Go.Proofs.Try.prog Go.Proofs.Try.f78 0 7 ⟨[(5, .one (.c (.own 0 (.int .u8) out))), (7, .one (.c (.ptr 1 0))), (8, .one (.c (.d (.int .i64 i)))), (11, .one (.c (.d (.sl (.pair (.int .i64) (.int .u64)) t11)))), (12, .one (.c (.d (.int .i64 t12)))), (13, .one (.c (.d (.int .i64 t13))))], [(0, some ⟨5, 0⟩)], [(1, [.d (.int .i64 f_0), .d (.int .u64 f_1)])], 2⟩ o := by
  induction n with
  | zero => intro out i t11 t12 t13 f_0 f_1 w h; rw [f78_pack_Put_L7] at h; cases h
  | succ n ih =>
    intro out i t11 t12 t13 f_0 f_1 w h o hk
    rw [f78_pack_Put_L7] at h
    rcases iteS h with ⟨b54_e0, h⟩ | ⟨b54_e0, h⟩
    · refine At.step hm ht ⟨[], [true], [], [5, 7, 8, 11, 12, 13], [0, 1]⟩ 9 ⟨[(5, .one (.c (.own 0 (.int .u8) out))), (7, .one (.c (.ptr 1 0))), (8, .one (.c (.d (.int .i64 i)))), (11, .one (.c (.d (.sl (.pair (.int .i64) (.int .u64)) t11)))), (12, .one (.c (.d (.int .i64 t12)))), (13, .one (.c (.d (.int .i64 t13))))], [(0, some ⟨5, 0⟩)], [(1, [.d (.int .i64 f_0), .d (.int .u64 f_1)])], 2⟩ [(decide ((i : Int) ≥ 0)) = true] (by kernel_rfl) ⟨b54_e0, trivial⟩ ?_
      obtain ⟨g55_0, h⟩ := ifS h
      obtain ⟨g55_1, h⟩ := ifS h
      refine At.step hm ht ⟨[], [], [], [5, 7, 8, 11, 12, 13], [10, 1]⟩ 8 ⟨[(5, .one (.c (.own 0 (.int .u8) (out ++ [(IntKind.wrap .u8 (Int.fdiv f_1 (2 ^ (min (IntKind.wrap .i64 (8 * i)).toNat (IntKind.bits .u64)))))])))), (7, .one (.c (.ptr 1 0))), (8, .one (.c (.d (.int .i64 i)))), (11, .one (.c (.d (.sl (.pair (.int .i64) (.int .u64)) t11)))), (12, .one (.c (.d (.int .i64 t12)))), (13, .one (.c (.d (.int .i64 t13))))], [(0, some ⟨5, 0⟩)], [(1, [.d (.int .i64 f_0), .d (.int .u64 f_1)])], 2⟩ [(0 : Int) ≤ (IntKind.wrap .i64 (8 * i)), out.length + [(IntKind.wrap .u8 (Int.fdiv f_1 (2 ^ (min (IntKind.wrap .i64 (8 * i)).toNat (IntKind.bits .u64)))))].length ≤ maxLen ∧ (out.length + [(IntKind.wrap .u8 (Int.fdiv f_1 (2 ^ (min (IntKind.wrap .i64 (8 * i)).toNat (IntKind.bits .u64)))))].length) * 1 ≤ 140737488355328] (by kernel_rfl) ⟨g55_0, g55_1, trivial⟩ ?_
      refine At.step hm ht ⟨[], [], [], [5, 7, 8, 11, 12, 13], [0, 1]⟩ 7 ⟨[(5, .one (.c (.own 0 (.int .u8) (out ++ [(IntKind.wrap .u8 (Int.fdiv f_1 (2 ^ (min (IntKind.wrap .i64 (8 * i)).toNat (IntKind.bits .u64)))))])))), (7, .one (.c (.ptr 1 0))), (8, .one (.c (.d (.int .i64 (IntKind.wrap .i64 (i - 1)))))), (11, .one (.c (.d (.sl (.pair (.int .i64) (.int .u64)) t11)))), (12, .one (.c (.d (.int .i64 t12)))), (13, .one (.c (.d (.int .i64 t13))))], [(0, some ⟨5, 0⟩)], [(1, [.d (.int .i64 f_0), .d (.int .u64 f_1)])], 2⟩ [] (by kernel_rfl) trivial ?_
      exact ih (out ++ [(IntKind.wrap .u8 (Int.fdiv f_1 (2 ^ (min (IntKind.wrap .i64 (8 * i)).toNat (IntKind.bits .u64)))))]) (IntKind.wrap .i64 (i - 1)) t11 t12 t13 f_0 f_1 w h o hk
    · refine At.step hm ht ⟨[], [false], [], [5, 11, 12, 13], [0]⟩ 10 ⟨[(5, .one (.c (.own 0 (.int .u8) out))), (11, .one (.c (.d (.sl (.pair (.int .i64) (.int .u64)) t11)))), (12, .one (.c (.d (.int .i64 t12)))), (13, .one (.c (.d (.int .i64 t13))))], [(0, some ⟨5, 0⟩)], [], 1⟩ [(decide ((i : Int) ≥ 0)) = false] (by kernel_rfl) ⟨b54_e0, trivial⟩ ?_
      have h := Option.some.inj h
      subst h
      exact hk
def f78_pack_Put_L3 : Nat → (List Int) → (List (Int × Int)) → Int → Int → Option (List Int)
  | 0, _, _, _, _ => none
  | n + 1, out, t11, t12, t13 =>
    if (decide ((t13 : Int) < t12)) = true then
      if (0 : Int) ≤ t13 ∧ t13 < (((t11).length : Nat) : Int) then
      if (decide ((((t11.getD t13.toNat (0, 0)).1) : Int) < 1)) = true then
        f78_pack_Put_L3 n out t11 t12 (IntKind.wrap .i64 (t13 + 1))
      else
        if (decide ((((t11.getD t13.toNat (0, 0)).1) : Int) > 8)) = true then
          f78_pack_Put_L3 n out t11 t12 (IntKind.wrap .i64 (t13 + 1))
        else
          (f78_pack_Put_L7 n out (IntKind.wrap .i64 (((t11.getD t13.toNat (0, 0)).1) - 1)) t11 t12 t13 ((t11.getD t13.toNat (0, 0)).1) ((t11.getD t13.toNat (0, 0)).2)).bind fun w57 =>
          f78_pack_Put_L3 n w57.1 w57.2.1 w57.2.2.1 (IntKind.wrap .i64 (w57.2.2.2 + 1))
      else none
    else
      some (out)
def f78_pack_Put_L3_k (e : List Int) (o : Out) : Prop := At Go.Proofs.Try.prog Go.Proofs.Try.f78 0 11 ⟨[(5, .one (.c (.own 0 (.int .u8) e)))], [(0, some ⟨5, 0⟩)], [], 1⟩ o
theorem f78_pack_Put_L3_ok (n : Nat) : ∀ (out : List Int) (t11 : List (Int × Int)) (t12 : Int) (t13 : Int) (w : List Int) (h : f78_pack_Put_L3 n out t11 t12 t13 = some w) (o : Out) (hk : f78_pack_Put_L3_k w o), At Go.Proofs.Try.prog Go.Proofs.Try.f78 0 3 ⟨[(5, .one (.c (.own 0 (.int .u8) out))), (11, .one (.c (.d (.sl (.pair (.int .i64) (.int .u64)) t11)))), (12, .one (.c (.d (.int .i64 t12)))), (13, .one (.c (.d (.int .i64 t13))))], [(0, some ⟨5, 0⟩)], [], 1⟩ o := by
  induction n with
  | zero => intro out t11 t12 t13 w h; rw [f78_pack_Put_L3] at h; cases h
  | succ n ih =>
    intro out t11 t12 t13 w h o hk
    rw [f78_pack_Put_L3] at h
    rcases iteS h with ⟨b48_e0, h⟩ | ⟨b48_e0, h⟩
    · refine At.step hm ht ⟨[], [true], [], [5, 11, 12, 13], [0]⟩ 4 ⟨[(5, .one (.c (.own 0 (.int .u8) out))), (11, .one (.c (.d (.sl (.pair (.int .i64) (.int .u64)) t11)))), (12, .one (.c (.d (.int .i64 t12)))), (13, .one (.c (.d (.int .i64 t13))))], [(0, some ⟨5, 0⟩)], [], 1⟩ [(decide ((t13 : Int) < t12)) = true] (by kernel_rfl) ⟨b48_e0, trivial⟩ ?_
      obtain ⟨g49_0, h⟩ := ifS h
      refine At.step hm ht ⟨[], [], [], [5, 7, 11, 12, 13], [0, 3]⟩ 5 ⟨[(5, .one (.c (.own 0 (.int .u8) out))), (7, .one (.c (.ptr 1 0))), (11, .one (.c (.d (.sl (.pair (.int .i64) (.int .u64)) t11)))), (12, .one (.c (.d (.int .i64 t12)))), (13, .one (.c (.d (.int .i64 t13))))], [(0, some ⟨5, 0⟩)], [(1, [.d (.int .i64 ((t11.getD t13.toNat (0, 0)).1)), .d (.int .u64 ((t11.getD t13.toNat (0, 0)).2))])], 2⟩ [(0 : Int) ≤ t13 ∧ t13 < (((t11).length : Nat) : Int), 0 + 2 ≤ 2] (by kernel_rfl) ⟨g49_0, (by decide), trivial⟩ ?_
      rcases iteS h with ⟨b50_3, h⟩ | ⟨b50_3, h⟩
      · refine At.step hm ht ⟨[(3, .b true)], [true], [], [5, 11, 12, 13], [0]⟩ 10 ⟨[(5, .one (.c (.own 0 (.int .u8) out))), (11, .one (.c (.d (.sl (.pair (.int .i64) (.int .u64)) t11)))), (12, .one (.c (.d (.int .i64 t12)))), (13, .one (.c (.d (.int .i64 t13))))], [(0, some ⟨5, 0⟩)], [], 1⟩ [(decide ((((t11.getD t13.toNat (0, 0)).1) : Int) < 1)) = true, true = true] (by kernel_rfl) ⟨b50_3, rfl, trivial⟩ ?_
        refine At.step hm ht ⟨[], [], [], [5, 11, 12, 13], [0]⟩ 3 ⟨[(5, .one (.c (.own 0 (.int .u8) out))), (11, .one (.c (.d (.sl (.pair (.int .i64) (.int .u64)) t11)))), (12, .one (.c (.d (.int .i64 t12)))), (13, .one (.c (.d (.int .i64 (IntKind.wrap .i64 (t13 + 1))))))], [(0, some ⟨5, 0⟩)], [], 1⟩ [] (by kernel_rfl) trivial ?_
        exact ih out t11 t12 (IntKind.wrap .i64 (t13 + 1)) w h o hk
      · rcases iteS h with ⟨b50_e0, h⟩ | ⟨b50_e0, h⟩
        · refine At.step hm ht ⟨[(3, .b false)], [true], [], [5, 11, 12, 13], [0]⟩ 10 ⟨[(5, .one (.c (.own 0 (.int .u8) out))), (11, .one (.c (.d (.sl (.pair (.int .i64) (.int .u64)) t11)))), (12, .one (.c (.d (.int .i64 t12)))), (13, .one (.c (.d (.int .i64 t13))))], [(0, some ⟨5, 0⟩)], [], 1⟩ [(decide ((((t11.getD t13.toNat (0, 0)).1) : Int) < 1)) = false, (decide ((((t11.getD t13.toNat (0, 0)).1) : Int) > 8)) = true] (by kernel_rfl) ⟨b50_3, b50_e0, trivial⟩ ?_
          refine At.step hm ht ⟨[], [], [], [5, 11, 12, 13], [0]⟩ 3 ⟨[(5, .one (.c (.own 0 (.int .u8) out))), (11, .one (.c (.d (.sl (.pair (.int .i64) (.int .u64)) t11)))), (12, .one (.c (.d (.int .i64 t12)))), (13, .one (.c (.d (.int .i64 (IntKind.wrap .i64 (t13 + 1))))))], [(0, some ⟨5, 0⟩)], [], 1⟩ [] (by kernel_rfl) trivial ?_
          exact ih out t11 t12 (IntKind.wrap .i64 (t13 + 1)) w h o hk
        · refine At.step hm ht ⟨[(3, .b false)], [false], [], [5, 7, 11, 12, 13], [0, 1]⟩ 6 ⟨[(5, .one (.c (.own 0 (.int .u8) out))), (7, .one (.c (.ptr 1 0))), (11, .one (.c (.d (.sl (.pair (.int .i64) (.int .u64)) t11)))), (12, .one (.c (.d (.int .i64 t12)))), (13, .one (.c (.d (.int .i64 t13))))], [(0, some ⟨5, 0⟩)], [(1, [.d (.int .i64 ((t11.getD t13.toNat (0, 0)).1)), .d (.int .u64 ((t11.getD t13.toNat (0, 0)).2))])], 2⟩ [(decide ((((t11.getD t13.toNat (0, 0)).1) : Int) < 1)) = false, (decide ((((t11.getD t13.toNat (0, 0)).1) : Int) > 8)) = false] (by kernel_rfl) ⟨b50_3, b50_e0, trivial⟩ ?_
          refine At.step hm ht ⟨[], [], [], [5, 7, 8, 11, 12, 13], [0, 1]⟩ 7 ⟨[(5, .one (.c (.own 0 (.int .u8) out))), (7, .one (.c (.ptr 1 0))), (8, .one (.c (.d (.int .i64 (IntKind.wrap .i64 (((t11.getD t13.toNat (0, 0)).1) - 1)))))), (11, .one (.c (.d (.sl (.pair (.int .i64) (.int .u64)) t11)))), (12, .one (.c (.d (.int .i64 t12)))), (13, .one (.c (.d (.int .i64 t13))))], [(0, some ⟨5, 0⟩)], [(1, [.d (.int .i64 ((t11.getD t13.toNat (0, 0)).1)), .d (.int .u64 ((t11.getD t13.toNat (0, 0)).2))])], 2⟩ [] (by kernel_rfl) trivial ?_
          obtain ⟨w57, cw57, h⟩ := bindS h
          refine f78_pack_Put_L7_ok n out (IntKind.wrap .i64 (((t11.getD t13.toNat (0, 0)).1) - 1)) t11 t12 t13 ((t11.getD t13.toNat (0, 0)).1) ((t11.getD t13.toNat (0, 0)).2) w57 cw57 _ ?_
          show At Go.Proofs.Try.prog Go.Proofs.Try.f78 0 10 ⟨[(5, .one (.c (.own 0 (.int .u8) w57.1))), (11, .one (.c (.d (.sl (.pair (.int .i64) (.int .u64)) w57.2.1)))), (12, .one (.c (.d (.int .i64 w57.2.2.1)))), (13, .one (.c (.d (.int .i64 w57.2.2.2))))], [(0, some ⟨5, 0⟩)], [], 1⟩ _
          refine At.step hm ht ⟨[], [], [], [5, 11, 12, 13], [0]⟩ 3 ⟨[(5, .one (.c (.own 0 (.int .u8) w57.1))), (11, .one (.c (.d (.sl (.pair (.int .i64) (.int .u64)) w57.2.1)))), (12, .one (.c (.d (.int .i64 w57.2.2.1)))), (13, .one (.c (.d (.int .i64 (IntKind.wrap .i64 (w57.2.2.2 + 1))))))], [(0, some ⟨5, 0⟩)], [], 1⟩ [] (by kernel_rfl) trivial ?_
          exact ih w57.1 w57.2.1 w57.2.2.1 (IntKind.wrap .i64 (w57.2.2.2 + 1)) w h o hk
    · refine At.step hm ht ⟨[], [false], [], [5], [0]⟩ 11 ⟨[(5, .one (.c (.own 0 (.int .u8) out)))], [(0, some ⟨5, 0⟩)], [], 1⟩ [(decide ((t13 : Int) < t12)) = false] (by kernel_rfl) ⟨b48_e0, trivial⟩ ?_
      have h := Option.some.inj h
      subst h
      exact hk
def f78_pack_Put (n : Nat) (b : List Int) (l : List (Int × Int)) : Option (List Int) :=
  if b.length ≤ maxLen ∧ b.length * 1 ≤ 140737488355328 then
  (f78_pack_Put_L3 n b l ((l.length : Nat) : Int) 0).bind fun w60 =>
  some w60
  else none
theorem f78_pack_Put_ok (n : Nat) (b : List Int) (l : List (Int × Int)) (r : List Int) (h : f78_pack_Put n b l = some r) : FnOK Go.Proofs.Try.prog 78 (f78_pack_Put_in b l) (f78_pack_Put_out r) := by
  unfold f78_pack_Put at h
  refine At.fn (r := 0) Go.Proofs.Try.func78 rfl (by kernel_rfl) rfl rfl (by kernel_rfl) ?_
  show At Go.Proofs.Try.prog Go.Proofs.Try.f78 0 0 ⟨[(0, .one (.c (.d (.sl (.int .u8) b)))), (1, .one (.c (.d (.sl (.pair (.int .i64) (.int .u64)) l))))], [], [], 0⟩ _
  refine At.step hm ht ⟨[], [], [], [0, 1], []⟩ 1 ⟨[(0, .one (.c (.d (.sl (.int .u8) b)))), (1, .one (.c (.d (.sl (.pair (.int .i64) (.int .u64)) l))))], [], [], 0⟩ [] (by kernel_rfl) trivial ?_
  obtain ⟨g46_0, h⟩ := ifS h
  refine At.step hm ht ⟨[], [], [], [1, 5], [1]⟩ 2 ⟨[(1, .one (.c (.d (.sl (.pair (.int .i64) (.int .u64)) l)))), (5, .one (.c (.own 0 (.int .u8) b)))], [(0, some ⟨5, 0⟩)], [], 1⟩ [b.length ≤ maxLen ∧ b.length * 1 ≤ 140737488355328] (by kernel_rfl) ⟨g46_0, trivial⟩ ?_
  refine At.step hm ht ⟨[], [], [], [5, 11, 12, 13], [0]⟩ 3 ⟨[(5, .one (.c (.own 0 (.int .u8) b))), (11, .one (.c (.d (.sl (.pair (.int .i64) (.int .u64)) l)))), (12, .one (.c (.d (.int .i64 ((l.length : Nat) : Int))))), (13, .one (.c (.d (.int .i64 0))))], [(0, some ⟨5, 0⟩)], [], 1⟩ [] (by kernel_rfl) trivial ?_
  obtain ⟨w60, cw60, h⟩ := bindS h
  refine f78_pack_Put_L3_ok n b l ((l.length : Nat) : Int) 0 w60 cw60 _ ?_
  show At Go.Proofs.Try.prog Go.Proofs.Try.f78 0 11 ⟨[(5, .one (.c (.own 0 (.int .u8) w60)))], [(0, some ⟨5, 0⟩)], [], 1⟩ _
  have h := Option.some.inj h
  subst h
  exact At.fin hm ht ⟨[], [], [], [4], [0]⟩ [] (by kernel_rfl) trivial
/-! brougham/sip.begin -/
def f135_sip_begin_in (k_0 : Int) (k_1 : Int) : Inn := ⟨[.agg [.d (.int .u64 k_0), .d (.int .u64 k_1)]], [], [], 0⟩
def f135_sip_begin_out (r : Int × Int × Int × Int × Int × Int) : Out := ⟨.one (.c (.ptr 0 0)), [], [(0, [.d (.int .u64 r.1), .d (.int .u64 r.2.1), .d (.int .u64 r.2.2.1), .d (.int .u64 r.2.2.2.1), .d (.int .u64 r.2.2.2.2.1), .d (.int .i64 r.2.2.2.2.2)])], 1⟩
def f135_sip_begin (k_0 : Int) (k_1 : Int) : Option (Int × Int × Int × Int × Int × Int) :=
  some ((bits .xor .u64 k_0 8317987319222330741), (bits .xor .u64 k_1 7237128888997146477), (bits .xor .u64 k_0 7816392313619706465), (bits .xor .u64 k_1 8387220255154660723), 0, 0)
theorem f135_sip_begin_ok (k_0 : Int) (k_1 : Int) (r : Int × Int × Int × Int × Int × Int) (h : f135_sip_begin k_0 k_1 = some r) : FnOK Go.Proofs.Try.prog 135 (f135_sip_begin_in k_0 k_1) (f135_sip_begin_out r) := by
  unfold f135_sip_begin at h
  refine At.fn (r := 0) Go.Proofs.Try.func135 rfl (by kernel_rfl) rfl rfl (by kernel_rfl) ?_
  show At Go.Proofs.Try.prog Go.Proofs.Try.f135 0 0 ⟨[(0, .one (.agg [.d (.int .u64 k_0), .d (.int .u64 k_1)]))], [], [], 0⟩ _
  refine At.step hm ht ⟨[], [], [], [1], [0]⟩ 1 ⟨[(1, .one (.c (.ptr 0 0)))], [], [(0, [.d (.int .u64 k_0), .d (.int .u64 k_1)])], 1⟩ [] (by kernel_rfl) trivial ?_
  have h := Option.some.inj h
  subst h
  exact At.fin hm ht ⟨[], [], [], [2], [15]⟩ [] (by kernel_rfl) trivial
/-! math/bits.RotateLeft64 -/
def f145_bits_RotateLeft64_in (x : Int) (k : Int) : Inn := ⟨[.c (.d (.int .u64 x)), .c (.d (.int .i64 k))], [], [], 0⟩
def f145_bits_RotateLeft64_out (r : Int) : Out := ⟨.one (.c (.d (.int .u64 r))), [], [], 0⟩
def f145_bits_RotateLeft64 (x : Int) (k : Int) : Option (Int) :=
  if (0 : Int) ≤ (bits .and .u64 (IntKind.wrap .u64 k) 63) then
  if (0 : Int) ≤ (IntKind.wrap .u64 (64 - (bits .and .u64 (IntKind.wrap .u64 k) 63))) then
  some (bits .or .u64 (IntKind.wrap .u64 (x * 2 ^ (min (bits .and .u64 (IntKind.wrap .u64 k) 63).toNat (IntKind.bits .u64)))) (Int.fdiv x (2 ^ (min (IntKind.wrap .u64 (64 - (bits .and .u64 (IntKind.wrap .u64 k) 63))).toNat (IntKind.bits .u64)))))
  else none
  else none
theorem f145_bits_RotateLeft64_ok (x : Int) (k : Int) (r : Int) (h : f145_bits_RotateLeft64 x k = some r) : FnOK Go.Proofs.Try.prog 145 (f145_bits_RotateLeft64_in x k) (f145_bits_RotateLeft64_out r) := by
  unfold f145_bits_RotateLeft64 at h
  refine At.fn (r := 0) Go.Proofs.Try.func145 rfl (by kernel_rfl) rfl rfl (by kernel_rfl) ?_
  show At Go.Proofs.Try.prog Go.Proofs.Try.f145 0 0 ⟨[(0, .one (.c (.d (.int .u64 x)))), (1, .one (.c (.d (.int .i64 k))))], [], [], 0⟩ _
  refine At.step hm ht ⟨[], [], [], [0, 1], []⟩ 1 ⟨[(0, .one (.c (.d (.int .u64 x)))), (1, .one (.c (.d (.int .i64 k))))], [], [], 0⟩ [] (by kernel_rfl) trivial ?_
  refine At.step hm ht ⟨[], [], [], [0, 5], []⟩ 2 ⟨[(0, .one (.c (.d (.int .u64 x)))), (5, .one (.c (.d (.int .u64 (bits .and .u64 (IntKind.wrap .u64 k) 63)))))], [], [], 0⟩ [] (by kernel_rfl) trivial ?_
  obtain ⟨g86_0, h⟩ := ifS h
  obtain ⟨g86_1, h⟩ := ifS h
  have h := Option.some.inj h
  subst h
  exact At.fin hm ht ⟨[], [], [], [4], []⟩ [(0 : Int) ≤ (bits .and .u64 (IntKind.wrap .u64 k) 63), (0 : Int) ≤ (IntKind.wrap .u64 (64 - (bits .and .u64 (IntKind.wrap .u64 k) 63)))] (by kernel_rfl) ⟨g86_0, g86_1, trivial⟩
/-! (*brougham/sip.state).round -/
def f142_sip_state_round_in (s_0 : Int) (s_1 : Int) (s_2 : Int) (s_3 : Int) (s_4 : Int) (s_5 : Int) : Inn := ⟨[.c (.ptr 0 0)], [], [(0, [.d (.int .u64 s_0), .d (.int .u64 s_1), .d (.int .u64 s_2), .d (.int .u64 s_3), .d (.int .u64 s_4), .d (.int .i64 s_5)])], 1⟩
def f142_sip_state_round_out (r : Int × Int × Int × Int × Int × Int) : Out := ⟨.tup [], [], [(0, [.d (.int .u64 r.1), .d (.int .u64 r.2.1), .d (.int .u64 r.2.2.1), .d (.int .u64 r.2.2.2.1), .d (.int .u64 r.2.2.2.2.1), .d (.int .i64 r.2.2.2.2.2)])], 1⟩
def f142_sip_state_round (s_0 : Int) (s_1 : Int) (s_2 : Int) (s_3 : Int) (s_4 : Int) (s_5 : Int) : Option (Int × Int × Int × Int × Int × Int) :=
  (f145_bits_RotateLeft64 s_1 13).bind fun r83_0 =>
  (f145_bits_RotateLeft64 s_3 16).bind fun r87_0 =>
  (f145_bits_RotateLeft64 (IntKind.wrap .u64 (s_0 + s_1)) 32).bind fun r88_0 =>
  (f145_bits_RotateLeft64 (bits .xor .u64 r83_0 (IntKind.wrap .u64 (s_0 + s_1))) 17).bind fun r91_0 =>
  (f145_bits_RotateLeft64 (bits .xor .u64 r87_0 (IntKind.wrap .u64 (s_2 + s_3))) 21).bind fun r92_0 =>
  (f145_bits_RotateLeft64 (IntKind.wrap .u64 ((IntKind.wrap .u64 (s_2 + s_3)) + (bits .xor .u64 r83_0 (IntKind.wrap .u64 (s_0 + s_1))))) 32).bind fun r93_0 =>
  some ((IntKind.wrap .u64 (r88_0 + (bits .xor .u64 r87_0 (IntKind.wrap .u64 (s_2 + s_3))))), (bits .xor .u64 r91_0 (IntKind.wrap .u64 ((IntKind.wrap .u64 (s_2 + s_3)) + (bits .xor .u64 r83_0 (IntKind.wrap .u64 (s_0 + s_1)))))), r93_0, (bits .xor .u64 r92_0 (IntKind.wrap .u64 (r88_0 + (bits .xor .u64 r87_0 (IntKind.wrap .u64 (s_2 + s_3)))))), s_4, s_5)
theorem f142_sip_state_round_ok (s_0 : Int) (s_1 : Int) (s_2 : Int) (s_3 : Int) (s_4 : Int) (s_5 : Int) (r : Int × Int × Int × Int × Int × Int) (h : f142_sip_state_round s_0 s_1 s_2 s_3 s_4 s_5 = some r) : FnOK Go.Proofs.Try.prog 142 (f142_sip_state_round_in s_0 s_1 s_2 s_3 s_4 s_5) (f142_sip_state_round_out r) := by
  unfold f142_sip_state_round at h
  refine At.fn (r := 0) Go.Proofs.Try.func142 rfl (by kernel_rfl) rfl rfl (by kernel_rfl) ?_
  show At Go.Proofs.Try.prog Go.Proofs.Try.f142 1 0 ⟨[(0, .one (.c (.ptr 0 0)))], [], [(0, [.d (.int .u64 s_0), .d (.int .u64 s_1), .d (.int .u64 s_2), .d (.int .u64 s_3), .d (.int .u64 s_4), .d (.int .i64 s_5)])], 1⟩ _
  refine At.step hm ht ⟨[], [], [], [2], [0]⟩ 1 ⟨[(2, .one (.c (.ptr 0 0)))], [], [(0, [.d (.int .u64 s_0), .d (.int .u64 s_1), .d (.int .u64 s_2), .d (.int .u64 s_3), .d (.int .u64 s_4), .d (.int .i64 s_5)])], 1⟩ [] (by kernel_rfl) trivial ?_
  refine At.step hm ht ⟨[], [], [], [2], [0]⟩ 2 ⟨[(2, .one (.c (.ptr 0 0)))], [], [(0, [.d (.int .u64 (IntKind.wrap .u64 (s_0 + s_1))), .d (.int .u64 s_1), .d (.int .u64 s_2), .d (.int .u64 s_3), .d (.int .u64 s_4), .d (.int .i64 s_5)])], 1⟩ [(0 : Int) ≤ (0 : Int) ∧ (0 : Int) < ((4 : Nat) : Int), (0 : Int) ≤ (1 : Int) ∧ (1 : Int) < ((4 : Nat) : Int), (0 : Int) ≤ (0 : Int) ∧ (0 : Int) < ((4 : Nat) : Int), 0 + 1 ≤ 6] (by kernel_rfl) ⟨(by decide), (by decide), (by decide), (by decide), trivial⟩ ?_
  refine At.step hm ht ⟨[], [], [], [2], [0]⟩ 3 ⟨[(2, .one (.c (.ptr 0 0)))], [], [(0, [.d (.int .u64 (IntKind.wrap .u64 (s_0 + s_1))), .d (.int .u64 s_1), .d (.int .u64 (IntKind.wrap .u64 (s_2 + s_3))), .d (.int .u64 s_3), .d (.int .u64 s_4), .d (.int .i64 s_5)])], 1⟩ [(0 : Int) ≤ (2 : Int) ∧ (2 : Int) < ((4 : Nat) : Int), (0 : Int) ≤ (3 : Int) ∧ (3 : Int) < ((4 : Nat) : Int), (0 : Int) ≤ (2 : Int) ∧ (2 : Int) < ((4 : Nat) : Int), 2 + 1 ≤ 6] (by kernel_rfl) ⟨(by decide), (by decide), (by decide), (by decide), trivial⟩ ?_
  obtain ⟨r83_0, cr83_0, h⟩ := bindS h
  refine At.step hm ht ⟨[(5, .call [] [] (f145_bits_RotateLeft64_out r83_0))], [], [], [2], [0]⟩ 4 ⟨[(2, .one (.c (.ptr 0 0)))], [], [(0, [.d (.int .u64 (IntKind.wrap .u64 (s_0 + s_1))), .d (.int .u64 (bits .xor .u64 r83_0 (IntKind.wrap .u64 (s_0 + s_1)))), .d (.int .u64 (IntKind.wrap .u64 (s_2 + s_3))), .d (.int .u64 s_3), .d (.int .u64 s_4), .d (.int .i64 s_5)])], 1⟩ [(0 : Int) ≤ (1 : Int) ∧ (1 : Int) < ((4 : Nat) : Int), FnOK Go.Proofs.Try.prog 145 (f145_bits_RotateLeft64_in s_1 13) (f145_bits_RotateLeft64_out r83_0), (0 : Int) ≤ (0 : Int) ∧ (0 : Int) < ((4 : Nat) : Int), (0 : Int) ≤ (1 : Int) ∧ (1 : Int) < ((4 : Nat) : Int), 1 + 1 ≤ 6] (by kernel_rfl) ⟨(by decide), (f145_bits_RotateLeft64_ok s_1 13 r83_0 cr83_0), (by decide), (by decide), (by decide), trivial⟩ ?_
  obtain ⟨r87_0, cr87_0, h⟩ := bindS h
  refine At.step hm ht ⟨[(5, .call [] [] (f145_bits_RotateLeft64_out r87_0))], [], [], [2], [0]⟩ 5 ⟨[(2, .one (.c (.ptr 0 0)))], [], [(0, [.d (.int .u64 (IntKind.wrap .u64 (s_0 + s_1))), .d (.int .u64 (bits .xor .u64 r83_0 (IntKind.wrap .u64 (s_0 + s_1)))), .d (.int .u64 (IntKind.wrap .u64 (s_2 + s_3))), .d (.int .u64 (bits .xor .u64 r87_0 (IntKind.wrap .u64 (s_2 + s_3)))), .d (.int .u64 s_4), .d (.int .i64 s_5)])], 1⟩ [(0 : Int) ≤ (3 : Int) ∧ (3 : Int) < ((4 : Nat) : Int), FnOK Go.Proofs.Try.prog 145 (f145_bits_RotateLeft64_in s_3 16) (f145_bits_RotateLeft64_out r87_0), (0 : Int) ≤ (2 : Int) ∧ (2 : Int) < ((4 : Nat) : Int), (0 : Int) ≤ (3 : Int) ∧ (3 : Int) < ((4 : Nat) : Int), 3 + 1 ≤ 6] (by kernel_rfl) ⟨(by decide), (f145_bits_RotateLeft64_ok s_3 16 r87_0 cr87_0), (by decide), (by decide), (by decide), trivial⟩ ?_
  obtain ⟨r88_0, cr88_0, h⟩ := bindS h
  refine At.step hm ht ⟨[(5, .call [] [] (f145_bits_RotateLeft64_out r88_0))], [], [], [2], [0]⟩ 6 ⟨[(2, .one (.c (.ptr 0 0)))], [], [(0, [.d (.int .u64 r88_0), .d (.int .u64 (bits .xor .u64 r83_0 (IntKind.wrap .u64 (s_0 + s_1)))), .d (.int .u64 (IntKind.wrap .u64 (s_2 + s_3))), .d (.int .u64 (bits .xor .u64 r87_0 (IntKind.wrap .u64 (s_2 + s_3)))), .d (.int .u64 s_4), .d (.int .i64 s_5)])], 1⟩ [(0 : Int) ≤ (0 : Int) ∧ (0 : Int) < ((4 : Nat) : Int), FnOK Go.Proofs.Try.prog 145 (f145_bits_RotateLeft64_in (IntKind.wrap .u64 (s_0 + s_1)) 32) (f145_bits_RotateLeft64_out r88_0), (0 : Int) ≤ (0 : Int) ∧ (0 : Int) < ((4 : Nat) : Int), 0 + 1 ≤ 6] (by kernel_rfl) ⟨(by decide), (f145_bits_RotateLeft64_ok (IntKind.wrap .u64 (s_0 + s_1)) 32 r88_0 cr88_0), (by decide), (by decide), trivial⟩ ?_
  refine At.step hm ht ⟨[], [], [], [2], [0]⟩ 7 ⟨[(2, .one (.c (.ptr 0 0)))], [], [(0, [.d (.int .u64 r88_0), .d (.int .u64 (bits .xor .u64 r83_0 (IntKind.wrap .u64 (s_0 + s_1)))), .d (.int .u64 (IntKind.wrap .u64 ((IntKind.wrap .u64 (s_2 + s_3)) + (bits .xor .u64 r83_0 (IntKind.wrap .u64 (s_0 + s_1)))))), .d (.int .u64 (bits .xor .u64 r87_0 (IntKind.wrap .u64 (s_2 + s_3)))), .d (.int .u64 s_4), .d (.int .i64 s_5)])], 1⟩ [(0 : Int) ≤ (2 : Int) ∧ (2 : Int) < ((4 : Nat) : Int), (0 : Int) ≤ (1 : Int) ∧ (1 : Int) < ((4 : Nat) : Int), (0 : Int) ≤ (2 : Int) ∧ (2 : Int) < ((4 : Nat) : Int), 2 + 1 ≤ 6] (by kernel_rfl) ⟨(by decide), (by decide), (by decide), (by decide), trivial⟩ ?_
  refine At.step hm ht ⟨[], [], [], [2], [0]⟩ 8 ⟨[(2, .one (.c (.ptr 0 0)))], [], [(0, [.d (.int .u64 (IntKind.wrap .u64 (r88_0 + (bits .xor .u64 r87_0 (IntKind.wrap .u64 (s_2 + s_3)))))), .d (.int .u64 (bits .xor .u64 r83_0 (IntKind.wrap .u64 (s_0 + s_1)))), .d (.int .u64 (IntKind.wrap .u64 ((IntKind.wrap .u64 (s_2 + s_3)) + (bits .xor .u64 r83_0 (IntKind.wrap .u64 (s_0 + s_1)))))), .d (.int .u64 (bits .xor .u64 r87_0 (IntKind.wrap .u64 (s_2 + s_3)))), .d (.int .u64 s_4), .d (.int .i64 s_5)])], 1⟩ [(0 : Int) ≤ (0 : Int) ∧ (0 : Int) < ((4 : Nat) : Int), (0 : Int) ≤ (3 : Int) ∧ (3 : Int) < ((4 : Nat) : Int), (0 : Int) ≤ (0 : Int) ∧ (0 : Int) < ((4 : Nat) : Int), 0 + 1 ≤ 6] (by kernel_rfl) ⟨(by decide), (by decide), (by decide), (by decide), trivial⟩ ?_
  obtain ⟨r91_0, cr91_0, h⟩ := bindS h
  refine At.step hm ht ⟨[(5, .call [] [] (f145_bits_RotateLeft64_out r91_0))], [], [], [2], [0]⟩ 9 ⟨[(2, .one (.c (.ptr 0 0)))], [], [(0, [.d (.int .u64 (IntKind.wrap .u64 (r88_0 + (bits .xor .u64 r87_0 (IntKind.wrap .u64 (s_2 + s_3)))))), .d (.int .u64 (bits .xor .u64 r91_0 (IntKind.wrap .u64 ((IntKind.wrap .u64 (s_2 + s_3)) + (bits .xor .u64 r83_0 (IntKind.wrap .u64 (s_0 + s_1))))))), .d (.int .u64 (IntKind.wrap .u64 ((IntKind.wrap .u64 (s_2 + s_3)) + (bits .xor .u64 r83_0 (IntKind.wrap .u64 (s_0 + s_1)))))), .d (.int .u64 (bits .xor .u64 r87_0 (IntKind.wrap .u64 (s_2 + s_3)))), .d (.int .u64 s_4), .d (.int .i64 s_5)])], 1⟩ [(0 : Int) ≤ (1 : Int) ∧ (1 : Int) < ((4 : Nat) : Int), FnOK Go.Proofs.Try.prog 145 (f145_bits_RotateLeft64_in (bits .xor .u64 r83_0 (IntKind.wrap .u64 (s_0 + s_1))) 17) (f145_bits_RotateLeft64_out r91_0), (0 : Int) ≤ (2 : Int) ∧ (2 : Int) < ((4 : Nat) : Int), (0 : Int) ≤ (1 : Int) ∧ (1 : Int) < ((4 : Nat) : Int), 1 + 1 ≤ 6] (by kernel_rfl) ⟨(by decide), (f145_bits_RotateLeft64_ok (bits .xor .u64 r83_0 (IntKind.wrap .u64 (s_0 + s_1))) 17 r91_0 cr91_0), (by decide), (by decide), (by decide), trivial⟩ ?_
  obtain ⟨r92_0, cr92_0, h⟩ := bindS h
  refine At.step hm ht ⟨[(5, .call [] [] (f145_bits_RotateLeft64_out r92_0))], [], [], [2], [0]⟩ 10 ⟨[(2, .one (.c (.ptr 0 0)))], [], [(0, [.d (.int .u64 (IntKind.wrap .u64 (r88_0 + (bits .xor .u64 r87_0 (IntKind.wrap .u64 (s_2 + s_3)))))), .d (.int .u64 (bits .xor .u64 r91_0 (IntKind.wrap .u64 ((IntKind.wrap .u64 (s_2 + s_3)) + (bits .xor .u64 r83_0 (IntKind.wrap .u64 (s_0 + s_1))))))), .d (.int .u64 (IntKind.wrap .u64 ((IntKind.wrap .u64 (s_2 + s_3)) + (bits .xor .u64 r83_0 (IntKind.wrap .u64 (s_0 + s_1)))))), .d (.int .u64 (bits .xor .u64 r92_0 (IntKind.wrap .u64 (r88_0 + (bits .xor .u64 r87_0 (IntKind.wrap .u64 (s_2 + s_3))))))), .d (.int .u64 s_4), .d (.int .i64 s_5)])], 1⟩ [(0 : Int) ≤ (3 : Int) ∧ (3 : Int) < ((4 : Nat) : Int), FnOK Go.Proofs.Try.prog 145 (f145_bits_RotateLeft64_in (bits .xor .u64 r87_0 (IntKind.wrap .u64 (s_2 + s_3))) 21) (f145_bits_RotateLeft64_out r92_0), (0 : Int) ≤ (0 : Int) ∧ (0 : Int) < ((4 : Nat) : Int), (0 : Int) ≤ (3 : Int) ∧ (3 : Int) < ((4 : Nat) : Int), 3 + 1 ≤ 6] (by kernel_rfl) ⟨(by decide), (f145_bits_RotateLeft64_ok (bits .xor .u64 r87_0 (IntKind.wrap .u64 (s_2 + s_3))) 21 r92_0 cr92_0), (by decide), (by decide), (by decide), trivial⟩ ?_
  obtain ⟨r93_0, cr93_0, h⟩ := bindS h
  have h := Option.some.inj h
  subst h
  exact At.fin hm ht ⟨[(5, .call [] [] (f145_bits_RotateLeft64_out r93_0))], [], [], [], [0]⟩ [(0 : Int) ≤ (2 : Int) ∧ (2 : Int) < ((4 : Nat) : Int), FnOK Go.Proofs.Try.prog 145 (f145_bits_RotateLeft64_in (IntKind.wrap .u64 ((IntKind.wrap .u64 (s_2 + s_3)) + (bits .xor .u64 r83_0 (IntKind.wrap .u64 (s_0 + s_1))))) 32) (f145_bits_RotateLeft64_out r93_0), (0 : Int) ≤ (2 : Int) ∧ (2 : Int) < ((4 : Nat) : Int), 2 + 1 ≤ 6] (by kernel_rfl) ⟨(by decide), (f145_bits_RotateLeft64_ok (IntKind.wrap .u64 ((IntKind.wrap .u64 (s_2 + s_3)) + (bits .xor .u64 r83_0 (IntKind.wrap .u64 (s_0 + s_1))))) 32 r93_0 cr93_0), (by decide), (by decide), trivial⟩
/-! (*brougham/sip.state).take -/
def f141_sip_state_take_in (m : Int) (s_0 : Int) (s_1 : Int) (s_2 : Int) (s_3 : Int) (s_4 : Int) (s_5 : Int) : Inn := ⟨[.c (.ptr 0 0), .c (.d (.int .u64 m))], [], [(0, [.d (.int .u64 s_0), .d (.int .u64 s_1), .d (.int .u64 s_2), .d (.int .u64 s_3), .d (.int .u64 s_4), .d (.int .i64 s_5)])], 1⟩
def f141_sip_state_take_out (r : Int × Int × Int × Int × Int × Int) : Out := ⟨.tup [], [], [(0, [.d (.int .u64 r.1), .d (.int .u64 r.2.1), .d (.int .u64 r.2.2.1), .d (.int .u64 r.2.2.2.1), .d (.int .u64 r.2.2.2.2.1), .d (.int .i64 r.2.2.2.2.2)])], 1⟩
def f141_sip_state_take (m : Int) (s_0 : Int) (s_1 : Int) (s_2 : Int) (s_3 : Int) (s_4 : Int) (s_5 : Int) : Option (Int × Int × Int × Int × Int × Int) :=
  (f142_sip_state_round s_0 s_1 s_2 (bits .xor .u64 s_3 m) s_4 s_5).bind fun r79_0 =>
  (f142_sip_state_round r79_0.1 r79_0.2.1 r79_0.2.2.1 r79_0.2.2.2.1 r79_0.2.2.2.2.1 r79_0.2.2.2.2.2).bind fun r94_0 =>
  some ((bits .xor .u64 r94_0.1 m), r94_0.2.1, r94_0.2.2.1, r94_0.2.2.2.1, r94_0.2.2.2.2.1, r94_0.2.2.2.2.2)
theorem f141_sip_state_take_ok (m : Int) (s_0 : Int) (s_1 : Int) (s_2 : Int) (s_3 : Int) (s_4 : Int) (s_5 : Int) (r : Int × Int × Int × Int × Int × Int) (h : f141_sip_state_take m s_0 s_1 s_2 s_3 s_4 s_5 = some r) : FnOK Go.Proofs.Try.prog 141 (f141_sip_state_take_in m s_0 s_1 s_2 s_3 s_4 s_5) (f141_sip_state_take_out r) := by
  unfold f141_sip_state_take at h
  refine At.fn (r := 0) Go.Proofs.Try.func141 rfl (by kernel_rfl) rfl rfl (by kernel_rfl) ?_
  show At Go.Proofs.Try.prog Go.Proofs.Try.f141 1 0 ⟨[(0, .one (.c (.ptr 0 0))), (1, .one (.c (.d (.int .u64 m))))], [], [(0, [.d (.int .u64 s_0), .d (.int .u64 s_1), .d (.int .u64 s_2), .d (.int .u64 s_3), .d (.int .u64 s_4), .d (.int .i64 s_5)])], 1⟩ _
  refine At.step hm ht ⟨[], [], [], [0, 1], [0]⟩ 1 ⟨[(0, .one (.c (.ptr 0 0))), (1, .one (.c (.d (.int .u64 m))))], [], [(0, [.d (.int .u64 s_0), .d (.int .u64 s_1), .d (.int .u64 s_2), .d (.int .u64 (bits .xor .u64 s_3 m)), .d (.int .u64 s_4), .d (.int .i64 s_5)])], 1⟩ [(0 : Int) ≤ (3 : Int) ∧ (3 : Int) < ((4 : Nat) : Int), (0 : Int) ≤ (3 : Int) ∧ (3 : Int) < ((4 : Nat) : Int), 3 + 1 ≤ 6] (by kernel_rfl) ⟨(by decide), (by decide), (by decide), trivial⟩ ?_
  obtain ⟨r79_0, cr79_0, h⟩ := bindS h
  refine At.step hm ht ⟨[(1, .call [0] [] (f142_sip_state_round_out r79_0))], [], [], [0, 1], [0]⟩ 2 ⟨[(0, .one (.c (.ptr 0 0))), (1, .one (.c (.d (.int .u64 m))))], [], [(0, [.d (.int .u64 r79_0.1), .d (.int .u64 r79_0.2.1), .d (.int .u64 r79_0.2.2.1), .d (.int .u64 r79_0.2.2.2.1), .d (.int .u64 r79_0.2.2.2.2.1), .d (.int .i64 r79_0.2.2.2.2.2)])], 1⟩ [FnOK Go.Proofs.Try.prog 142 (f142_sip_state_round_in s_0 s_1 s_2 (bits .xor .u64 s_3 m) s_4 s_5) (f142_sip_state_round_out r79_0)] (by kernel_rfl) ⟨(f142_sip_state_round_ok s_0 s_1 s_2 (bits .xor .u64 s_3 m) s_4 s_5 r79_0 cr79_0), trivial⟩ ?_
  obtain ⟨r94_0, cr94_0, h⟩ := bindS h
  refine At.step hm ht ⟨[(1, .call [0] [] (f142_sip_state_round_out r94_0))], [], [], [0, 1], [0]⟩ 3 ⟨[(0, .one (.c (.ptr 0 0))), (1, .one (.c (.d (.int .u64 m))))], [], [(0, [.d (.int .u64 r94_0.1), .d (.int .u64 r94_0.2.1), .d (.int .u64 r94_0.2.2.1), .d (.int .u64 r94_0.2.2.2.1), .d (.int .u64 r94_0.2.2.2.2.1), .d (.int .i64 r94_0.2.2.2.2.2)])], 1⟩ [FnOK Go.Proofs.Try.prog 142 (f142_sip_state_round_in r79_0.1 r79_0.2.1 r79_0.2.2.1 r79_0.2.2.2.1 r79_0.2.2.2.2.1 r79_0.2.2.2.2.2) (f142_sip_state_round_out r94_0)] (by kernel_rfl) ⟨(f142_sip_state_round_ok r79_0.1 r79_0.2.1 r79_0.2.2.1 r79_0.2.2.2.1 r79_0.2.2.2.2.1 r79_0.2.2.2.2.2 r94_0 cr94_0), trivial⟩ ?_
  have h := Option.some.inj h
  subst h
  exact At.fin hm ht ⟨[], [], [], [], [0]⟩ [(0 : Int) ≤ (0 : Int) ∧ (0 : Int) < ((4 : Nat) : Int), (0 : Int) ≤ (0 : Int) ∧ (0 : Int) < ((4 : Nat) : Int), 0 + 1 ≤ 6] (by kernel_rfl) ⟨(by decide), (by decide), (by decide), trivial⟩
/-! (*brougham/sip.state).byte -/
def f136_sip_state_byte_in (c : Int) (s_0 : Int) (s_1 : Int) (s_2 : Int) (s_3 : Int) (s_4 : Int) (s_5 : Int) : Inn := ⟨[.c (.ptr 0 0), .c (.d (.int .u8 c))], [], [(0, [.d (.int .u64 s_0), .d (.int .u64 s_1), .d (.int .u64 s_2), .d (.int .u64 s_3), .d (.int .u64 s_4), .d (.int .i64 s_5)])], 1⟩
def f136_sip_state_byte_out (r : Int × Int × Int × Int × Int × Int) : Out := ⟨.tup [], [], [(0, [.d (.int .u64 r.1), .d (.int .u64 r.2.1), .d (.int .u64 r.2.2.1), .d (.int .u64 r.2.2.2.1), .d (.int .u64 r.2.2.2.2.1), .d (.int .i64 r.2.2.2.2.2)])], 1⟩
def f136_sip_state_byte (c : Int) (s_0 : Int) (s_1 : Int) (s_2 : Int) (s_3 : Int) (s_4 : Int) (s_5 : Int) : Option (Int × Int × Int × Int × Int × Int) :=
  if (0 : Int) ≤ (IntKind.wrap .i64 (8 * (Int.tmod s_5 8))) then
  if (((Int.tmod (IntKind.wrap .i64 (s_5 + 1)) 8) : Int) == 0) = true then
    (f141_sip_state_take (bits .or .u64 s_4 (IntKind.wrap .u64 ((IntKind.wrap .u64 c) * 2 ^ (min (IntKind.wrap .i64 (8 * (Int.tmod s_5 8))).toNat (IntKind.bits .u64))))) s_0 s_1 s_2 s_3 (bits .or .u64 s_4 (IntKind.wrap .u64 ((IntKind.wrap .u64 c) * 2 ^ (min (IntKind.wrap .i64 (8 * (Int.tmod s_5 8))).toNat (IntKind.bits .u64))))) (IntKind.wrap .i64 (s_5 + 1))).bind fun r77_0 =>
    some (r77_0.1, r77_0.2.1, r77_0.2.2.1, r77_0.2.2.2.1, 0, r77_0.2.2.2.2.2)
  else
    some (s_0, s_1, s_2, s_3, (bits .or .u64 s_4 (IntKind.wrap .u64 ((IntKind.wrap .u64 c) * 2 ^ (min (IntKind.wrap .i64 (8 * (Int.tmod s_5 8))).toNat (IntKind.bits .u64))))), (IntKind.wrap .i64 (s_5 + 1)))
  else none
theorem f136_sip_state_byte_ok (c : Int) (s_0 : Int) (s_1 : Int) (s_2 : Int) (s_3 : Int) (s_4 : Int) (s_5 : Int) (r : Int × Int × Int × Int × Int × Int) (h : f136_sip_state_byte c s_0 s_1 s_2 s_3 s_4 s_5 = some r) : FnOK Go.Proofs.Try.prog 136 (f136_sip_state_byte_in c s_0 s_1 s_2 s_3 s_4 s_5) (f136_sip_state_byte_out r) := by
  unfold f136_sip_state_byte at h
  refine At.fn (r := 0) Go.Proofs.Try.func136 rfl (by kernel_rfl) rfl rfl (by kernel_rfl) ?_
  show At Go.Proofs.Try.prog Go.Proofs.Try.f136 1 0 ⟨[(0, .one (.c (.ptr 0 0))), (1, .one (.c (.d (.int .u8 c))))], [], [(0, [.d (.int .u64 s_0), .d (.int .u64 s_1), .d (.int .u64 s_2), .d (.int .u64 s_3), .d (.int .u64 s_4), .d (.int .i64 s_5)])], 1⟩ _
  obtain ⟨g74_0, h⟩ := ifS h
  refine At.step hm ht ⟨[], [], [], [0], [0]⟩ 1 ⟨[(0, .one (.c (.ptr 0 0)))], [], [(0, [.d (.int .u64 s_0), .d (.int .u64 s_1), .d (.int .u64 s_2), .d (.int .u64 s_3), .d (.int .u64 (bits .or .u64 s_4 (IntKind.wrap .u64 ((IntKind.wrap .u64 c) * 2 ^ (min (IntKind.wrap .i64 (8 * (Int.tmod s_5 8))).toNat (IntKind.bits .u64)))))), .d (.int .i64 s_5)])], 1⟩ [(8 : Int) ≠ 0, (0 : Int) ≤ (IntKind.wrap .i64 (8 * (Int.tmod s_5 8))), 4 + 1 ≤ 6] (by kernel_rfl) ⟨(by decide), g74_0, (by decide), trivial⟩ ?_
  refine At.step hm ht ⟨[], [], [], [0], [0]⟩ 2 ⟨[(0, .one (.c (.ptr 0 0)))], [], [(0, [.d (.int .u64 s_0), .d (.int .u64 s_1), .d (.int .u64 s_2), .d (.int .u64 s_3), .d (.int .u64 (bits .or .u64 s_4 (IntKind.wrap .u64 ((IntKind.wrap .u64 c) * 2 ^ (min (IntKind.wrap .i64 (8 * (Int.tmod s_5 8))).toNat (IntKind.bits .u64)))))), .d (.int .i64 (IntKind.wrap .i64 (s_5 + 1)))])], 1⟩ [5 + 1 ≤ 6] (by kernel_rfl) ⟨(by decide), trivial⟩ ?_
  rcases iteS h with ⟨b76_e0, h⟩ | ⟨b76_e0, h⟩
  · refine At.step hm ht ⟨[], [true], [], [0], [0]⟩ 3 ⟨[(0, .one (.c (.ptr 0 0)))], [], [(0, [.d (.int .u64 s_0), .d (.int .u64 s_1), .d (.int .u64 s_2), .d (.int .u64 s_3), .d (.int .u64 (bits .or .u64 s_4 (IntKind.wrap .u64 ((IntKind.wrap .u64 c) * 2 ^ (min (IntKind.wrap .i64 (8 * (Int.tmod s_5 8))).toNat (IntKind.bits .u64)))))), .d (.int .i64 (IntKind.wrap .i64 (s_5 + 1)))])], 1⟩ [(8 : Int) ≠ 0, (((Int.tmod (IntKind.wrap .i64 (s_5 + 1)) 8) : Int) == 0) = true] (by kernel_rfl) ⟨(by decide), b76_e0, trivial⟩ ?_
    obtain ⟨r77_0, cr77_0, h⟩ := bindS h
    refine At.step hm ht ⟨[(5, .call [0] [] (f141_sip_state_take_out r77_0))], [], [], [0], [0]⟩ 4 ⟨[(0, .one (.c (.ptr 0 0)))], [], [(0, [.d (.int .u64 r77_0.1), .d (.int .u64 r77_0.2.1), .d (.int .u64 r77_0.2.2.1), .d (.int .u64 r77_0.2.2.2.1), .d (.int .u64 r77_0.2.2.2.2.1), .d (.int .i64 r77_0.2.2.2.2.2)])], 1⟩ [FnOK Go.Proofs.Try.prog 141 (f141_sip_state_take_in (bits .or .u64 s_4 (IntKind.wrap .u64 ((IntKind.wrap .u64 c) * 2 ^ (min (IntKind.wrap .i64 (8 * (Int.tmod s_5 8))).toNat (IntKind.bits .u64))))) s_0 s_1 s_2 s_3 (bits .or .u64 s_4 (IntKind.wrap .u64 ((IntKind.wrap .u64 c) * 2 ^ (min (IntKind.wrap .i64 (8 * (Int.tmod s_5 8))).toNat (IntKind.bits .u64))))) (IntKind.wrap .i64 (s_5 + 1))) (f141_sip_state_take_out r77_0)] (by kernel_rfl) ⟨(f141_sip_state_take_ok (bits .or .u64 s_4 (IntKind.wrap .u64 ((IntKind.wrap .u64 c) * 2 ^ (min (IntKind.wrap .i64 (8 * (Int.tmod s_5 8))).toNat (IntKind.bits .u64))))) s_0 s_1 s_2 s_3 (bits .or .u64 s_4 (IntKind.wrap .u64 ((IntKind.wrap .u64 c) * 2 ^ (min (IntKind.wrap .i64 (8 * (Int.tmod s_5 8))).toNat (IntKind.bits .u64))))) (IntKind.wrap .i64 (s_5 + 1)) r77_0 cr77_0), trivial⟩ ?_
    have h := Option.some.inj h
    subst h
    exact At.fin hm ht ⟨[], [], [], [], [0]⟩ [4 + 1 ≤ 6] (by kernel_rfl) ⟨(by decide), trivial⟩
  · have h := Option.some.inj h
    subst h
    exact At.fin hm ht ⟨[], [false], [], [], [0]⟩ [(8 : Int) ≠ 0, (((Int.tmod (IntKind.wrap .i64 (s_5 + 1)) 8) : Int) == 0) = false] (by kernel_rfl) ⟨(by decide), b76_e0, trivial⟩
/-! (*brougham/sip.state).end -/
def f137_sip_state_end_in (s_0 : Int) (s_1 : Int) (s_2 : Int) (s_3 : Int) (s_4 : Int) (s_5 : Int) : Inn := ⟨[.c (.ptr 0 0)], [], [(0, [.d (.int .u64 s_0), .d (.int .u64 s_1), .d (.int .u64 s_2), .d (.int .u64 s_3), .d (.int .u64 s_4), .d (.int .i64 s_5)])], 1⟩
def f137_sip_state_end_out (r : Int × Int × Int × Int × Int × Int × Int) : Out := ⟨.one (.c (.d (.int .u64 r.1))), [], [(0, [.d (.int .u64 r.2.1), .d (.int .u64 r.2.2.1), .d (.int .u64 r.2.2.2.1), .d (.int .u64 r.2.2.2.2.1), .d (.int .u64 r.2.2.2.2.2.1), .d (.int .i64 r.2.2.2.2.2.2)])], 1⟩
def f137_sip_state_end_L4 : Nat → Int → Int → Int → Int → Int → Int → Int → Option (Int × Int × Int × Int × Int × Int)
  | 0, _, _, _, _, _, _, _ => none
  | n + 1, t26, s_0, s_1, s_2, s_3, s_4, s_5 =>
    if (decide ((t26 : Int) < 4)) = true then
      (f142_sip_state_round s_0 s_1 s_2 s_3 s_4 s_5).bind fun r109_0 =>
      f137_sip_state_end_L4 n (IntKind.wrap .i64 (t26 + 1)) r109_0.1 r109_0.2.1 r109_0.2.2.1 r109_0.2.2.2.1 r109_0.2.2.2.2.1 r109_0.2.2.2.2.2
    else
      some ((s_0, s_1, s_2, s_3, s_4, s_5))
def f137_sip_state_end_L4_k (e : Int × Int × Int × Int × Int × Int) (o : Out) : Prop := At Go.Proofs.Try.prog Go.Proofs.Try.f137 1 7 ⟨[(0, .one (.c (.ptr 0 0)))], [], [(0, [.d (.int .u64 e.1), .d (.int .u64 e.2.1), .d (.int .u64 e.2.2.1), .d (.int .u64 e.2.2.2.1), .d (.int .u64 e.2.2.2.2.1), .d (.int .i64 e.2.2.2.2.2)])], 1⟩ o
theorem f137_sip_state_end_L4_ok (n : Nat) : ∀ (t26 : Int) (s_0 : Int) (s_1 : Int) (s_2 : Int) (s_3 : Int) (s_4 : Int) (s_5 : Int) (w : Int × Int × Int × Int × Int × Int) (h : f137_sip_state_end_L4 n t26 s_0 s_1 s_2 s_3 s_4 s_5 = some w) (o : Out) (hk : f137_sip_state_end_L4_k w o), At Go.Proofs.Try.prog Go.Proofs.Try.f137 1 4 ⟨[(0, .one (.c (.ptr 0 0))), (26, .one (.c (.d (.int .i64 t26))))], [], [(0, [.d (.int .u64 s_0), .d (.int .u64 s_1), .d (.int .u64 s_2), .d (.int .u64 s_3), .d (.int .u64 s_4), .d (.int .i64 s_5)])], 1⟩ o := by
  induction n with
  | zero => intro t26 s_0 s_1 s_2 s_3 s_4 s_5 w h; rw [f137_sip_state_end_L4] at h; cases h
  | succ n ih =>
    intro t26 s_0 s_1 s_2 s_3 s_4 s_5 w h o hk
    rw [f137_sip_state_end_L4] at h
    rcases iteS h with ⟨b108_e0, h⟩ | ⟨b108_e0, h⟩
    · refine At.step hm ht ⟨[], [true], [], [0, 26], [0]⟩ 5 ⟨[(0, .one (.c (.ptr 0 0))), (26, .one (.c (.d (.int .i64 t26))))], [], [(0, [.d (.int .u64 s_0), .d (.int .u64 s_1), .d (.int .u64 s_2), .d (.int .u64 s_3), .d (.int .u64 s_4), .d (.int .i64 s_5)])], 1⟩ [(decide ((t26 : Int) < 4)) = true] (by kernel_rfl) ⟨b108_e0, trivial⟩ ?_
      obtain ⟨r109_0, cr109_0, h⟩ := bindS h
      refine At.step hm ht ⟨[(1, .call [0] [] (f142_sip_state_round_out r109_0))], [], [], [0, 26], [0]⟩ 6 ⟨[(0, .one (.c (.ptr 0 0))), (26, .one (.c (.d (.int .i64 t26))))], [], [(0, [.d (.int .u64 r109_0.1), .d (.int .u64 r109_0.2.1), .d (.int .u64 r109_0.2.2.1), .d (.int .u64 r109_0.2.2.2.1), .d (.int .u64 r109_0.2.2.2.2.1), .d (.int .i64 r109_0.2.2.2.2.2)])], 1⟩ [FnOK Go.Proofs.Try.prog 142 (f142_sip_state_round_in s_0 s_1 s_2 s_3 s_4 s_5) (f142_sip_state_round_out r109_0)] (by kernel_rfl) ⟨(f142_sip_state_round_ok s_0 s_1 s_2 s_3 s_4 s_5 r109_0 cr109_0), trivial⟩ ?_
      refine At.step hm ht ⟨[], [], [], [0, 26], [0]⟩ 4 ⟨[(0, .one (.c (.ptr 0 0))), (26, .one (.c (.d (.int .i64 (IntKind.wrap .i64 (t26 + 1))))))], [], [(0, [.d (.int .u64 r109_0.1), .d (.int .u64 r109_0.2.1), .d (.int .u64 r109_0.2.2.1), .d (.int .u64 r109_0.2.2.2.1), .d (.int .u64 r109_0.2.2.2.2.1), .d (.int .i64 r109_0.2.2.2.2.2)])], 1⟩ [] (by kernel_rfl) trivial ?_
      exact ih (IntKind.wrap .i64 (t26 + 1)) r109_0.1 r109_0.2.1 r109_0.2.2.1 r109_0.2.2.2.1 r109_0.2.2.2.2.1 r109_0.2.2.2.2.2 w h o hk
    · refine At.step hm ht ⟨[], [false], [], [0], [0]⟩ 7 ⟨[(0, .one (.c (.ptr 0 0)))], [], [(0, [.d (.int .u64 s_0), .d (.int .u64 s_1), .d (.int .u64 s_2), .d (.int .u64 s_3), .d (.int .u64 s_4), .d (.int .i64 s_5)])], 1⟩ [(decide ((t26 : Int) < 4)) = false] (by kernel_rfl) ⟨b108_e0, trivial⟩ ?_
      have h := Option.some.inj h
      subst h
      exact hk
def f137_sip_state_end (n : Nat) (s_0 : Int) (s_1 : Int) (s_2 : Int) (s_3 : Int) (s_4 : Int) (s_5 : Int) : Option (Int × Int × Int × Int × Int × Int × Int) :=
  (f141_sip_state_take (bits .or .u64 s_4 (IntKind.wrap .u64 ((IntKind.wrap .u64 (IntKind.wrap .u8 s_5)) * 2 ^ 56))) s_0 s_1 s_2 s_3 s_4 s_5).bind fun r105_0 =>
  (f137_sip_state_end_L4 n 0 r105_0.1 r105_0.2.1 (bits .xor .u64 r105_0.2.2.1 255) r105_0.2.2.2.1 r105_0.2.2.2.2.1 r105_0.2.2.2.2.2).bind fun w111 =>
  some ((bits .xor .u64 (bits .xor .u64 (bits .xor .u64 w111.1 w111.2.1) w111.2.2.1) w111.2.2.2.1), w111.1, w111.2.1, w111.2.2.1, w111.2.2.2.1, w111.2.2.2.2.1, w111.2.2.2.2.2)
theorem f137_sip_state_end_ok (n : Nat) (s_0 : Int) (s_1 : Int) (s_2 : Int) (s_3 : Int) (s_4 : Int) (s_5 : Int) (r : Int × Int × Int × Int × Int × Int × Int) (h : f137_sip_state_end n s_0 s_1 s_2 s_3 s_4 s_5 = some r) : FnOK Go.Proofs.Try.prog 137 (f137_sip_state_end_in s_0 s_1 s_2 s_3 s_4 s_5) (f137_sip_state_end_out r) := by
  unfold f137_sip_state_end at h
  refine At.fn (r := 0) Go.Proofs.Try.func137 rfl (by kernel_rfl) rfl rfl (by kernel_rfl) ?_
  show At Go.Proofs.Try.prog Go.Proofs.Try.f137 1 0 ⟨[(0, .one (.c (.ptr 0 0)))], [], [(0, [.d (.int .u64 s_0), .d (.int .u64 s_1), .d (.int .u64 s_2), .d (.int .u64 s_3), .d (.int .u64 s_4), .d (.int .i64 s_5)])], 1⟩ _
  refine At.step hm ht ⟨[], [], [], [0], [0]⟩ 1 ⟨[(0, .one (.c (.ptr 0 0)))], [], [(0, [.d (.int .u64 s_0), .d (.int .u64 s_1), .d (.int .u64 s_2), .d (.int .u64 s_3), .d (.int .u64 s_4), .d (.int .i64 s_5)])], 1⟩ [] (by kernel_rfl) trivial ?_
  obtain ⟨r105_0, cr105_0, h⟩ := bindS h
  refine At.step hm ht ⟨[(13, .call [0] [] (f141_sip_state_take_out r105_0))], [], [], [0], [0]⟩ 2 ⟨[(0, .one (.c (.ptr 0 0)))], [], [(0, [.d (.int .u64 r105_0.1), .d (.int .u64 r105_0.2.1), .d (.int .u64 r105_0.2.2.1), .d (.int .u64 r105_0.2.2.2.1), .d (.int .u64 r105_0.2.2.2.2.1), .d (.int .i64 r105_0.2.2.2.2.2)])], 1⟩ [(0 : Int) ≤ 56, FnOK Go.Proofs.Try.prog 141 (f141_sip_state_take_in (bits .or .u64 s_4 (IntKind.wrap .u64 ((IntKind.wrap .u64 (IntKind.wrap .u8 s_5)) * 2 ^ 56))) s_0 s_1 s_2 s_3 s_4 s_5) (f141_sip_state_take_out r105_0)] (by kernel_rfl) ⟨(by decide), (f141_sip_state_take_ok (bits .or .u64 s_4 (IntKind.wrap .u64 ((IntKind.wrap .u64 (IntKind.wrap .u8 s_5)) * 2 ^ 56))) s_0 s_1 s_2 s_3 s_4 s_5 r105_0 cr105_0), trivial⟩ ?_
  refine At.step hm ht ⟨[], [], [], [0], [0]⟩ 3 ⟨[(0, .one (.c (.ptr 0 0)))], [], [(0, [.d (.int .u64 r105_0.1), .d (.int .u64 r105_0.2.1), .d (.int .u64 (bits .xor .u64 r105_0.2.2.1 255)), .d (.int .u64 r105_0.2.2.2.1), .d (.int .u64 r105_0.2.2.2.2.1), .d (.int .i64 r105_0.2.2.2.2.2)])], 1⟩ [(0 : Int) ≤ (2 : Int) ∧ (2 : Int) < ((4 : Nat) : Int), (0 : Int) ≤ (2 : Int) ∧ (2 : Int) < ((4 : Nat) : Int), 2 + 1 ≤ 6] (by kernel_rfl) ⟨(by decide), (by decide), (by decide), trivial⟩ ?_
  refine At.step hm ht ⟨[], [], [], [0, 26], [0]⟩ 4 ⟨[(0, .one (.c (.ptr 0 0))), (26, .one (.c (.d (.int .i64 0))))], [], [(0, [.d (.int .u64 r105_0.1), .d (.int .u64 r105_0.2.1), .d (.int .u64 (bits .xor .u64 r105_0.2.2.1 255)), .d (.int .u64 r105_0.2.2.2.1), .d (.int .u64 r105_0.2.2.2.2.1), .d (.int .i64 r105_0.2.2.2.2.2)])], 1⟩ [] (by kernel_rfl) trivial ?_
  obtain ⟨w111, cw111, h⟩ := bindS h
  refine f137_sip_state_end_L4_ok n 0 r105_0.1 r105_0.2.1 (bits .xor .u64 r105_0.2.2.1 255) r105_0.2.2.2.1 r105_0.2.2.2.2.1 r105_0.2.2.2.2.2 w111 cw111 _ ?_
  show At Go.Proofs.Try.prog Go.Proofs.Try.f137 1 7 ⟨[(0, .one (.c (.ptr 0 0)))], [], [(0, [.d (.int .u64 w111.1), .d (.int .u64 w111.2.1), .d (.int .u64 w111.2.2.1), .d (.int .u64 w111.2.2.2.1), .d (.int .u64 w111.2.2.2.2.1), .d (.int .i64 w111.2.2.2.2.2)])], 1⟩ _
  have h := Option.some.inj h
  subst h
  exact At.fin hm ht ⟨[], [], [], [2], [0]⟩ [(0 : Int) ≤ (0 : Int) ∧ (0 : Int) < ((4 : Nat) : Int), (0 : Int) ≤ (1 : Int) ∧ (1 : Int) < ((4 : Nat) : Int), (0 : Int) ≤ (2 : Int) ∧ (2 : Int) < ((4 : Nat) : Int), (0 : Int) ≤ (3 : Int) ∧ (3 : Int) < ((4 : Nat) : Int)] (by kernel_rfl) ⟨(by decide), (by decide), (by decide), (by decide), trivial⟩
/-! brougham/sip.Sum -/
def f124_sip_Sum_in (k_0 : Int) (k_1 : Int) (parts : List (List Int)) : Inn := ⟨[.agg [.d (.int .u64 k_0), .d (.int .u64 k_1)], .c (.d (.sl (.slice (.int .u8)) parts))], [], [], 0⟩
def f124_sip_Sum_out (r : Int) : Out := ⟨.one (.c (.d (.int .u64 r))), [], [], 0⟩
def f124_sip_Sum_L6 : Nat → (List (List Int)) → Int → Int → (List Int) → Int → Int → Int → Int → Int → Int → Int → Int → Option (List (List Int) × Int × Int × Int × Int × Int × Int × Int × Int)
  | 0, _, _, _, _, _, _, _, _, _, _, _, _ => none
  | n + 1, t12, t13, t14, t18, t19, t20, s_0, s_1, s_2, s_3, s_4, s_5 =>
    if (decide ((t20 : Int) < t19)) = true then
      if (0 : Int) ≤ t20 ∧ t20 < (((t18).length : Nat) : Int) then
      (f136_sip_state_byte (t18.getD t20.toNat 0) s_0 s_1 s_2 s_3 s_4 s_5).bind fun r73_0 =>
      f124_sip_Sum_L6 n t12 t13 t14 t18 t19 (IntKind.wrap .i64 (t20 + 1)) r73_0.1 r73_0.2.1 r73_0.2.2.1 r73_0.2.2.2.1 r73_0.2.2.2.2.1 r73_0.2.2.2.2.2
      else none
    else
      some ((t12, t13, t14, s_0, s_1, s_2, s_3, s_4, s_5))
def f124_sip_Sum_L6_k (e : List (List Int) × Int × Int × Int × Int × Int × Int × Int × Int) (o : Out) : Prop := At Go.Proofs.Try.prog Go.Proofs.Try.f124 0 10 ⟨[(5, .one (.c (.ptr 0 0))), (12, .one (.c (.d (.sl (.slice (.int .u8)) e.1)))), (13, .one (.c (.d (.int .i64 e.2.1)))), (14, .one (.c (.d (.int .i64 e.2.2.1))))], [], [(0, [.d (.int .u64 e.2.2.2.1), .d (.int .u64 e.2.2.2.2.1), .d (.int .u64 e.2.2.2.2.2.1), .d (.int .u64 e.2.2.2.2.2.2.1), .d (.int .u64 e.2.2.2.2.2.2.2.1), .d (.int .i64 e.2.2.2.2.2.2.2.2)])], 1⟩ o
theorem f124_sip_Sum_L6_ok (n : Nat) : ∀ (t12 : List (List Int)) (t13 : Int) (t14 : Int) (t18 : List Int) (t19 : Int) (t20 : Int) (s_0 : Int) (s_1 : Int) (s_2 : Int) (s_3 : Int) (s_4 : Int) (s_5 : Int) (w : List (List Int) × Int × Int × Int × Int × Int × Int × Int × Int) (h : f124_sip_Sum_L6 n t12 t13 t14 t18 t19 t20 s_0 s_1 s_2 s_3 s_4 s_5 = some w) (o : Out) (hk : f124_sip_Sum_L6_k w o), At Go.Proofs.Try.prog Go.Proofs.Try.f124 0 6 ⟨[(5, .one (.c (.ptr 0 0))), (12, .one (.c (.d (.sl (.slice (.int .u8)) t12)))), (13, .one (.c (.d (.int .i64 t13)))), (14, .one (.c (.d (.int .i64 t14)))), (18, .one (.c (.d (.sl (.int .u8) t18)))), (19, .one (.c (.d (.int .i64 t19)))), (20, .one (.c (.d (.int .i64 t20))))], [], [(0, [.d (.int .u64 s_0), .d (.int .u64 s_1), .d (.int .u64 s_2), .d (.int .u64 s_3), .d (.int .u64 s_4), .d (.int .i64 s_5)])], 1⟩ o := by
  induction n with
  | zero => intro t12 t13 t14 t18 t19 t20 s_0 s_1 s_2 s_3 s_4 s_5 w h; rw [f124_sip_Sum_L6] at h; cases h
  | succ n ih =>
    intro t12 t13 t14 t18 t19 t20 s_0 s_1 s_2 s_3 s_4 s_5 w h o hk
    rw [f124_sip_Sum_L6] at h
    rcases iteS h with ⟨b71_e0, h⟩ | ⟨b71_e0, h⟩
    · refine At.step hm ht ⟨[], [true], [], [5, 12, 13, 14, 18, 19, 20], [0]⟩ 7 ⟨[(5, .one (.c (.ptr 0 0))), (12, .one (.c (.d (.sl (.slice (.int .u8)) t12)))), (13, .one (.c (.d (.int .i64 t13)))), (14, .one (.c (.d (.int .i64 t14)))), (18, .one (.c (.d (.sl (.int .u8) t18)))), (19, .one (.c (.d (.int .i64 t19)))), (20, .one (.c (.d (.int .i64 t20))))], [], [(0, [.d (.int .u64 s_0), .d (.int .u64 s_1), .d (.int .u64 s_2), .d (.int .u64 s_3), .d (.int .u64 s_4), .d (.int .i64 s_5)])], 1⟩ [(decide ((t20 : Int) < t19)) = true] (by kernel_rfl) ⟨b71_e0, trivial⟩ ?_
      obtain ⟨g72_0, h⟩ := ifS h
      refine At.step hm ht ⟨[], [], [], [5, 9, 12, 13, 14, 18, 19, 20], [0]⟩ 8 ⟨[(5, .one (.c (.ptr 0 0))), (9, .one (.c (.d (.int .u8 (t18.getD t20.toNat 0))))), (12, .one (.c (.d (.sl (.slice (.int .u8)) t12)))), (13, .one (.c (.d (.int .i64 t13)))), (14, .one (.c (.d (.int .i64 t14)))), (18, .one (.c (.d (.sl (.int .u8) t18)))), (19, .one (.c (.d (.int .i64 t19)))), (20, .one (.c (.d (.int .i64 t20))))], [], [(0, [.d (.int .u64 s_0), .d (.int .u64 s_1), .d (.int .u64 s_2), .d (.int .u64 s_3), .d (.int .u64 s_4), .d (.int .i64 s_5)])], 1⟩ [(0 : Int) ≤ t20 ∧ t20 < (((t18).length : Nat) : Int)] (by kernel_rfl) ⟨g72_0, trivial⟩ ?_
      obtain ⟨r73_0, cr73_0, h⟩ := bindS h
      refine At.step hm ht ⟨[(2, .call [0] [] (f136_sip_state_byte_out r73_0))], [], [], [5, 12, 13, 14, 18, 19, 20], [0]⟩ 9 ⟨[(5, .one (.c (.ptr 0 0))), (12, .one (.c (.d (.sl (.slice (.int .u8)) t12)))), (13, .one (.c (.d (.int .i64 t13)))), (14, .one (.c (.d (.int .i64 t14)))), (18, .one (.c (.d (.sl (.int .u8) t18)))), (19, .one (.c (.d (.int .i64 t19)))), (20, .one (.c (.d (.int .i64 t20))))], [], [(0, [.d (.int .u64 r73_0.1), .d (.int .u64 r73_0.2.1), .d (.int .u64 r73_0.2.2.1), .d (.int .u64 r73_0.2.2.2.1), .d (.int .u64 r73_0.2.2.2.2.1), .d (.int .i64 r73_0.2.2.2.2.2)])], 1⟩ [FnOK Go.Proofs.Try.prog 136 (f136_sip_state_byte_in (t18.getD t20.toNat 0) s_0 s_1 s_2 s_3 s_4 s_5) (f136_sip_state_byte_out r73_0)] (by kernel_rfl) ⟨(f136_sip_state_byte_ok (t18.getD t20.toNat 0) s_0 s_1 s_2 s_3 s_4 s_5 r73_0 cr73_0), trivial⟩ ?_
      refine At.step hm ht ⟨[], [], [], [5, 12, 13, 14, 18, 19, 20], [0]⟩ 6 ⟨[(5, .one (.c (.ptr 0 0))), (12, .one (.c (.d (.sl (.slice (.int .u8)) t12)))), (13, .one (.c (.d (.int .i64 t13)))), (14, .one (.c (.d (.int .i64 t14)))), (18, .one (.c (.d (.sl (.int .u8) t18)))), (19, .one (.c (.d (.int .i64 t19)))), (20, .one (.c (.d (.int .i64 (IntKind.wrap .i64 (t20 + 1))))))], [], [(0, [.d (.int .u64 r73_0.1), .d (.int .u64 r73_0.2.1), .d (.int .u64 r73_0.2.2.1), .d (.int .u64 r73_0.2.2.2.1), .d (.int .u64 r73_0.2.2.2.2.1), .d (.int .i64 r73_0.2.2.2.2.2)])], 1⟩ [] (by kernel_rfl) trivial ?_
      exact ih t12 t13 t14 t18 t19 (IntKind.wrap .i64 (t20 + 1)) r73_0.1 r73_0.2.1 r73_0.2.2.1 r73_0.2.2.2.1 r73_0.2.2.2.2.1 r73_0.2.2.2.2.2 w h o hk
    · refine At.step hm ht ⟨[], [false], [], [5, 12, 13, 14], [0]⟩ 10 ⟨[(5, .one (.c (.ptr 0 0))), (12, .one (.c (.d (.sl (.slice (.int .u8)) t12)))), (13, .one (.c (.d (.int .i64 t13)))), (14, .one (.c (.d (.int .i64 t14))))], [], [(0, [.d (.int .u64 s_0), .d (.int .u64 s_1), .d (.int .u64 s_2), .d (.int .u64 s_3), .d (.int .u64 s_4), .d (.int .i64 s_5)])], 1⟩ [(decide ((t20 : Int) < t19)) = false] (by kernel_rfl) ⟨b71_e0, trivial⟩ ?_
      have h := Option.some.inj h
      subst h
      exact hk
def f124_sip_Sum_L3 : Nat → (List (List Int)) → Int → Int → Int → Int → Int → Int → Int → Int → Option (Int × Int × Int × Int × Int × Int)
  | 0, _, _, _, _, _, _, _, _, _ => none
  | n + 1, t12, t13, t14, s_0, s_1, s_2, s_3, s_4, s_5 =>
    if (decide ((t14 : Int) < t13)) = true then
      if (0 : Int) ≤ t14 ∧ t14 < (((t12).length : Nat) : Int) then
      (f124_sip_Sum_L6 n t12 t13 t14 (t12.getD t14.toNat []) (((t12.getD t14.toNat []).length : Nat) : Int) 0 s_0 s_1 s_2 s_3 s_4 s_5).bind fun w98 =>
      f124_sip_Sum_L3 n w98.1 w98.2.1 (IntKind.wrap .i64 (w98.2.2.1 + 1)) w98.2.2.2.1 w98.2.2.2.2.1 w98.2.2.2.2.2.1 w98.2.2.2.2.2.2.1 w98.2.2.2.2.2.2.2.1 w98.2.2.2.2.2.2.2.2
      else none
    else
      some ((s_0, s_1, s_2, s_3, s_4, s_5))
def f124_sip_Sum_L3_k (e : Int × Int × Int × Int × Int × Int) (o : Out) : Prop := At Go.Proofs.Try.prog Go.Proofs.Try.f124 0 11 ⟨[(5, .one (.c (.ptr 0 0)))], [], [(0, [.d (.int .u64 e.1), .d (.int .u64 e.2.1), .d (.int .u64 e.2.2.1), .d (.int .u64 e.2.2.2.1), .d (.int .u64 e.2.2.2.2.1), .d (.int .i64 e.2.2.2.2.2)])], 1⟩ o
theorem f124_sip_Sum_L3_ok (n : Nat) : ∀ (t12 : List (List Int)) (t13 : Int) (t14 : Int) (s_0 : Int) (s_1 : Int) (s_2 : Int) (s_3 : Int) (s_4 : Int) (s_5 : Int) (w : Int × Int × Int × Int × Int × Int) (h : f124_sip_Sum_L3 n t12 t13 t14 s_0 s_1 s_2 s_3 s_4 s_5 = some w) (o : Out) (hk : f124_sip_Sum_L3_k w o), At Go.Proofs.Try.prog Go.Proofs.Try.f124 0 3 ⟨[(5, .one (.c (.ptr 0 0))), (12, .one (.c (.d (.sl (.slice (.int .u8)) t12)))), (13, .one (.c (.d (.int .i64 t13)))), (14, .one (.c (.d (.int .i64 t14))))], [], [(0, [.d (.int .u64 s_0), .d (.int .u64 s_1), .d (.int .u64 s_2), .d (.int .u64 s_3), .d (.int .u64 s_4), .d (.int .i64 s_5)])], 1⟩ o := by
  induction n with
  | zero => intro t12 t13 t14 s_0 s_1 s_2 s_3 s_4 s_5 w h; rw [f124_sip_Sum_L3] at h; cases h
  | succ n ih =>
    intro t12 t13 t14 s_0 s_1 s_2 s_3 s_4 s_5 w h o hk
    rw [f124_sip_Sum_L3] at h
    rcases iteS h with ⟨b68_e0, h⟩ | ⟨b68_e0, h⟩
    · refine At.step hm ht ⟨[], [true], [], [5, 12, 13, 14], [0]⟩ 4 ⟨[(5, .one (.c (.ptr 0 0))), (12, .one (.c (.d (.sl (.slice (.int .u8)) t12)))), (13, .one (.c (.d (.int .i64 t13)))), (14, .one (.c (.d (.int .i64 t14))))], [], [(0, [.d (.int .u64 s_0), .d (.int .u64 s_1), .d (.int .u64 s_2), .d (.int .u64 s_3), .d (.int .u64 s_4), .d (.int .i64 s_5)])], 1⟩ [(decide ((t14 : Int) < t13)) = true] (by kernel_rfl) ⟨b68_e0, trivial⟩ ?_
      obtain ⟨g69_0, h⟩ := ifS h
      refine At.step hm ht ⟨[], [], [], [5, 7, 12, 13, 14], [0]⟩ 5 ⟨[(5, .one (.c (.ptr 0 0))), (7, .one (.c (.d (.sl (.int .u8) (t12.getD t14.toNat []))))), (12, .one (.c (.d (.sl (.slice (.int .u8)) t12)))), (13, .one (.c (.d (.int .i64 t13)))), (14, .one (.c (.d (.int .i64 t14))))], [], [(0, [.d (.int .u64 s_0), .d (.int .u64 s_1), .d (.int .u64 s_2), .d (.int .u64 s_3), .d (.int .u64 s_4), .d (.int .i64 s_5)])], 1⟩ [(0 : Int) ≤ t14 ∧ t14 < (((t12).length : Nat) : Int)] (by kernel_rfl) ⟨g69_0, trivial⟩ ?_
      refine At.step hm ht ⟨[], [], [], [5, 12, 13, 14, 18, 19, 20], [0]⟩ 6 ⟨[(5, .one (.c (.ptr 0 0))), (12, .one (.c (.d (.sl (.slice (.int .u8)) t12)))), (13, .one (.c (.d (.int .i64 t13)))), (14, .one (.c (.d (.int .i64 t14)))), (18, .one (.c (.d (.sl (.int .u8) (t12.getD t14.toNat []))))), (19, .one (.c (.d (.int .i64 (((t12.getD t14.toNat []).length : Nat) : Int))))), (20, .one (.c (.d (.int .i64 0))))], [], [(0, [.d (.int .u64 s_0), .d (.int .u64 s_1), .d (.int .u64 s_2), .d (.int .u64 s_3), .d (.int .u64 s_4), .d (.int .i64 s_5)])], 1⟩ [] (by kernel_rfl) trivial ?_
      obtain ⟨w98, cw98, h⟩ := bindS h
      refine f124_sip_Sum_L6_ok n t12 t13 t14 (t12.getD t14.toNat []) (((t12.getD t14.toNat []).length : Nat) : Int) 0 s_0 s_1 s_2 s_3 s_4 s_5 w98 cw98 _ ?_
      show At Go.Proofs.Try.prog Go.Proofs.Try.f124 0 10 ⟨[(5, .one (.c (.ptr 0 0))), (12, .one (.c (.d (.sl (.slice (.int .u8)) w98.1)))), (13, .one (.c (.d (.int .i64 w98.2.1)))), (14, .one (.c (.d (.int .i64 w98.2.2.1))))], [], [(0, [.d (.int .u64 w98.2.2.2.1), .d (.int .u64 w98.2.2.2.2.1), .d (.int .u64 w98.2.2.2.2.2.1), .d (.int .u64 w98.2.2.2.2.2.2.1), .d (.int .u64 w98.2.2.2.2.2.2.2.1), .d (.int .i64 w98.2.2.2.2.2.2.2.2)])], 1⟩ _
      refine At.step hm ht ⟨[], [], [], [5, 12, 13, 14], [0]⟩ 3 ⟨[(5, .one (.c (.ptr 0 0))), (12, .one (.c (.d (.sl (.slice (.int .u8)) w98.1)))), (13, .one (.c (.d (.int .i64 w98.2.1)))), (14, .one (.c (.d (.int .i64 (IntKind.wrap .i64 (w98.2.2.1 + 1))))))], [], [(0, [.d (.int .u64 w98.2.2.2.1), .d (.int .u64 w98.2.2.2.2.1), .d (.int .u64 w98.2.2.2.2.2.1), .d (.int .u64 w98.2.2.2.2.2.2.1), .d (.int .u64 w98.2.2.2.2.2.2.2.1), .d (.int .i64 w98.2.2.2.2.2.2.2.2)])], 1⟩ [] (by kernel_rfl) trivial ?_
      exact ih w98.1 w98.2.1 (IntKind.wrap .i64 (w98.2.2.1 + 1)) w98.2.2.2.1 w98.2.2.2.2.1 w98.2.2.2.2.2.1 w98.2.2.2.2.2.2.1 w98.2.2.2.2.2.2.2.1 w98.2.2.2.2.2.2.2.2 w h o hk
    · refine At.step hm ht ⟨[], [false], [], [5], [0]⟩ 11 ⟨[(5, .one (.c (.ptr 0 0)))], [], [(0, [.d (.int .u64 s_0), .d (.int .u64 s_1), .d (.int .u64 s_2), .d (.int .u64 s_3), .d (.int .u64 s_4), .d (.int .i64 s_5)])], 1⟩ [(decide ((t14 : Int) < t13)) = false] (by kernel_rfl) ⟨b68_e0, trivial⟩ ?_
      have h := Option.some.inj h
      subst h
      exact hk
def f124_sip_Sum (n : Nat) (k_0 : Int) (k_1 : Int) (parts : List (List Int)) : Option (Int) :=
  (f135_sip_begin k_0 k_1).bind fun r64_0 =>
  (f124_sip_Sum_L3 n parts ((parts.length : Nat) : Int) 0 r64_0.1 r64_0.2.1 r64_0.2.2.1 r64_0.2.2.2.1 r64_0.2.2.2.2.1 r64_0.2.2.2.2.2).bind fun w101 =>
  (f137_sip_state_end n w101.1 w101.2.1 w101.2.2.1 w101.2.2.2.1 w101.2.2.2.2.1 w101.2.2.2.2.2).bind fun r103_0 =>
  some r103_0.1
theorem f124_sip_Sum_ok (n : Nat) (k_0 : Int) (k_1 : Int) (parts : List (List Int)) (r : Int) (h : f124_sip_Sum n k_0 k_1 parts = some r) : FnOK Go.Proofs.Try.prog 124 (f124_sip_Sum_in k_0 k_1 parts) (f124_sip_Sum_out r) := by
  unfold f124_sip_Sum at h
  refine At.fn (r := 0) Go.Proofs.Try.func124 rfl (by kernel_rfl) rfl rfl (by kernel_rfl) ?_
  show At Go.Proofs.Try.prog Go.Proofs.Try.f124 0 0 ⟨[(0, .one (.agg [.d (.int .u64 k_0), .d (.int .u64 k_1)])), (1, .one (.c (.d (.sl (.slice (.int .u8)) parts))))], [], [], 0⟩ _
  refine At.step hm ht ⟨[], [], [], [1, 2], [0]⟩ 1 ⟨[(1, .one (.c (.d (.sl (.slice (.int .u8)) parts)))), (2, .one (.c (.ptr 0 0)))], [], [(0, [.d (.int .u64 k_0), .d (.int .u64 k_1)])], 1⟩ [] (by kernel_rfl) trivial ?_
  obtain ⟨r64_0, cr64_0, h⟩ := bindS h
  refine At.step hm ht ⟨[(1, .call [] [] (f135_sip_begin_out r64_0))], [], [], [1, 5], [2]⟩ 2 ⟨[(1, .one (.c (.d (.sl (.slice (.int .u8)) parts)))), (5, .one (.c (.ptr 0 0)))], [], [(0, [.d (.int .u64 r64_0.1), .d (.int .u64 r64_0.2.1), .d (.int .u64 r64_0.2.2.1), .d (.int .u64 r64_0.2.2.2.1), .d (.int .u64 r64_0.2.2.2.2.1), .d (.int .i64 r64_0.2.2.2.2.2)])], 1⟩ [FnOK Go.Proofs.Try.prog 135 (f135_sip_begin_in k_0 k_1) (f135_sip_begin_out r64_0)] (by kernel_rfl) ⟨(f135_sip_begin_ok k_0 k_1 r64_0 cr64_0), trivial⟩ ?_
  refine At.step hm ht ⟨[], [], [], [5, 12, 13, 14], [0]⟩ 3 ⟨[(5, .one (.c (.ptr 0 0))), (12, .one (.c (.d (.sl (.slice (.int .u8)) parts)))), (13, .one (.c (.d (.int .i64 ((parts.length : Nat) : Int))))), (14, .one (.c (.d (.int .i64 0))))], [], [(0, [.d (.int .u64 r64_0.1), .d (.int .u64 r64_0.2.1), .d (.int .u64 r64_0.2.2.1), .d (.int .u64 r64_0.2.2.2.1), .d (.int .u64 r64_0.2.2.2.2.1), .d (.int .i64 r64_0.2.2.2.2.2)])], 1⟩ [] (by kernel_rfl) trivial ?_
  obtain ⟨w101, cw101, h⟩ := bindS h
  refine f124_sip_Sum_L3_ok n parts ((parts.length : Nat) : Int) 0 r64_0.1 r64_0.2.1 r64_0.2.2.1 r64_0.2.2.2.1 r64_0.2.2.2.2.1 r64_0.2.2.2.2.2 w101 cw101 _ ?_
  show At Go.Proofs.Try.prog Go.Proofs.Try.f124 0 11 ⟨[(5, .one (.c (.ptr 0 0)))], [], [(0, [.d (.int .u64 w101.1), .d (.int .u64 w101.2.1), .d (.int .u64 w101.2.2.1), .d (.int .u64 w101.2.2.2.1), .d (.int .u64 w101.2.2.2.2.1), .d (.int .i64 w101.2.2.2.2.2)])], 1⟩ _
  obtain ⟨r103_0, cr103_0, h⟩ := bindS h
  have h := Option.some.inj h
  subst h
  exact At.fin hm ht ⟨[(1, .call [0] [] (f137_sip_state_end_out r103_0))], [], [], [4], []⟩ [FnOK Go.Proofs.Try.prog 137 (f137_sip_state_end_in w101.1 w101.2.1 w101.2.2.1 w101.2.2.2.1 w101.2.2.2.2.1 w101.2.2.2.2.2) (f137_sip_state_end_out r103_0)] (by kernel_rfl) ⟨(f137_sip_state_end_ok n w101.1 w101.2.1 w101.2.2.1 w101.2.2.2.1 w101.2.2.2.2.1 w101.2.2.2.2.2 r103_0 cr103_0), trivial⟩
/-! (*brougham/table.Table).home -/
def f129_table_Table_home_in (name : Int) (t_0 : Int) (t_1 : Int) (t_3 : Int) (t_4 : Int) (t_5 : Int) (b1_0 : List (Int × Int × Int)) : Inn := ⟨[.c (.ptr 0 0), .c (.d (.int .u32 name))], [(1, ⟨169, 2⟩)], [(0, [.d (.int .u64 t_0), .d (.int .u64 t_1), .row 1 (.pair (.int .u8) (.pair (.int .u32) (.int .i64))), .d (.int .i64 t_3), .d (.int .i64 t_4), .d (.int .i64 t_5)]), (1, [.run (.pair (.int .u8) (.pair (.int .u32) (.int .i64))) b1_0])], 2⟩
def f129_table_Table_home_out (r : Int × Int × Int × Int × Int × Int × List (Int × Int × Int)) : Out := ⟨.one (.c (.d (.int .i64 r.1))), [(1, ⟨169, 2⟩)], [(0, [.d (.int .u64 r.2.1), .d (.int .u64 r.2.2.1), .row 1 (.pair (.int .u8) (.pair (.int .u32) (.int .i64))), .d (.int .i64 r.2.2.2.1), .d (.int .i64 r.2.2.2.2.1), .d (.int .i64 r.2.2.2.2.2.1)]), (1, [.run (.pair (.int .u8) (.pair (.int .u32) (.int .i64))) r.2.2.2.2.2.2])], 2⟩
def f129_table_Table_home (n : Nat) (name : Int) (t_0 : Int) (t_1 : Int) (t_3 : Int) (t_4 : Int) (t_5 : Int) (b1_0 : List (Int × Int × Int)) : Option (Int × Int × Int × Int × Int × Int × List (Int × Int × Int)) :=
  (f79_pack_W name).bind fun r42_0 =>
  (f78_pack_Put n [] [r42_0]).bind fun r42_1 =>
  (f124_sip_Sum n t_0 t_1 [r42_1]).bind fun r42_2 =>
  if ((IntKind.wrap .u64 ((b1_0.length : Nat) : Int)) : Int) ≠ 0 then
  some ((IntKind.wrap .i64 (Int.tmod r42_2 (IntKind.wrap .u64 ((b1_0.length : Nat) : Int)))), t_0, t_1, t_3, t_4, t_5, b1_0)
  else none
theorem f129_table_Table_home_ok (n : Nat) (name : Int) (t_0 : Int) (t_1 : Int) (t_3 : Int) (t_4 : Int) (t_5 : Int) (b1_0 : List (Int × Int × Int)) (r : Int × Int × Int × Int × Int × Int × List (Int × Int × Int)) (h : f129_table_Table_home n name t_0 t_1 t_3 t_4 t_5 b1_0 = some r) : FnOK Go.Proofs.Try.prog 129 (f129_table_Table_home_in name t_0 t_1 t_3 t_4 t_5 b1_0) (f129_table_Table_home_out r) := by
  unfold f129_table_Table_home at h
  refine At.fn (r := 0) Go.Proofs.Try.func129 rfl (by kernel_rfl) rfl rfl (by kernel_rfl) ?_
  show At Go.Proofs.Try.prog Go.Proofs.Try.f129 2 0 ⟨[(0, .one (.c (.ptr 0 0))), (1, .one (.c (.d (.int .u32 name))))], [(1, some ⟨169, 2⟩)], [(0, [.d (.int .u64 t_0), .d (.int .u64 t_1), .row 1 (.pair (.int .u8) (.pair (.int .u32) (.int .i64))), .d (.int .i64 t_3), .d (.int .i64 t_4), .d (.int .i64 t_5)]), (1, [.run (.pair (.int .u8) (.pair (.int .u32) (.int .i64))) b1_0])], 2⟩ _
  refine At.step hm ht ⟨[], [], [], [0, 1], [0, 1]⟩ 1 ⟨[(0, .one (.c (.ptr 0 0))), (1, .one (.c (.d (.int .u32 name))))], [(1, some ⟨169, 2⟩)], [(0, [.d (.int .u64 t_0), .d (.int .u64 t_1), .row 1 (.pair (.int .u8) (.pair (.int .u32) (.int .i64))), .d (.int .i64 t_3), .d (.int .i64 t_4), .d (.int .i64 t_5)]), (1, [.run (.pair (.int .u8) (.pair (.int .u32) (.int .i64))) b1_0])], 2⟩ [] (by kernel_rfl) trivial ?_
  obtain ⟨r42_0, cr42_0, h⟩ := bindS h
  obtain ⟨r42_1, cr42_1, h⟩ := bindS h
  obtain ⟨r42_2, cr42_2, h⟩ := bindS h
  obtain ⟨g42_3, h⟩ := ifS h
  have h := Option.some.inj h
  subst h
  exact At.fin hm ht ⟨[(5, .call [] [] (f79_pack_W_out r42_0)), (7, .call [] [(0, 0, (.int .u8))] (f78_pack_Put_out r42_1)), (9, .call [] [] (f124_sip_Sum_out r42_2))], [], [], [4], [0, 1]⟩ [FnOK Go.Proofs.Try.prog 79 (f79_pack_W_in name) (f79_pack_W_out r42_0), FnOK Go.Proofs.Try.prog 78 (f78_pack_Put_in [] [r42_0]) (f78_pack_Put_out r42_1), FnOK Go.Proofs.Try.prog 124 (f124_sip_Sum_in t_0 t_1 [r42_1]) (f124_sip_Sum_out r42_2), ((IntKind.wrap .u64 ((b1_0.length : Nat) : Int)) : Int) ≠ 0] (by kernel_rfl) ⟨(f79_pack_W_ok name r42_0 cr42_0), (f78_pack_Put_ok n [] [r42_0] r42_1 cr42_1), (f124_sip_Sum_ok n t_0 t_1 [r42_1] r42_2 cr42_2), g42_3, trivial⟩
/-! (*brougham/table.Table).find -/
def f96_table_Table_find_in (name : Int) (t_0 : Int) (t_1 : Int) (t_3 : Int) (t_4 : Int) (t_5 : Int) (b1_0 : List (Int × Int × Int)) : Inn := ⟨[.c (.ptr 0 0), .c (.d (.int .u32 name))], [(1, ⟨169, 2⟩)], [(0, [.d (.int .u64 t_0), .d (.int .u64 t_1), .row 1 (.pair (.int .u8) (.pair (.int .u32) (.int .i64))), .d (.int .i64 t_3), .d (.int .i64 t_4), .d (.int .i64 t_5)]), (1, [.run (.pair (.int .u8) (.pair (.int .u32) (.int .i64))) b1_0])], 2⟩
def f96_table_Table_find_out (r : Int × Int × Int × Int × Int × Int × List (Int × Int × Int)) : Out := ⟨.one (.c (.d (.int .i64 r.1))), [(1, ⟨169, 2⟩)], [(0, [.d (.int .u64 r.2.1), .d (.int .u64 r.2.2.1), .row 1 (.pair (.int .u8) (.pair (.int .u32) (.int .i64))), .d (.int .i64 r.2.2.2.1), .d (.int .i64 r.2.2.2.2.1), .d (.int .i64 r.2.2.2.2.2.1)]), (1, [.run (.pair (.int .u8) (.pair (.int .u32) (.int .i64))) r.2.2.2.2.2.2])], 2⟩
def f96_table_Table_find_L3 : Nat → Int → Int → Int → Int → Int → Int → Int → Int → Int → (List (Int × Int × Int)) → Option ((Int × Int × Int × Int × Int × List (Int × Int × Int)) ⊕ (Int × Int × Int × Int × Int × Int × List (Int × Int × Int)))
  | 0, _, _, _, _, _, _, _, _, _, _ => none
  | n + 1, name, at_, t14, t15, t_0, t_1, t_3, t_4, t_5, b1_0 =>
    if (decide ((t15 : Int) < t14)) = true then
      if (0 : Int) ≤ at_ ∧ at_ < (((b1_0).length : Nat) : Int) then
      if ((((b1_0.getD at_.toNat (0, (0, 0))).1) : Int) == 0) = true then
        some (.inl (t_0, t_1, t_3, t_4, t_5, b1_0))
      else
        if ((((b1_0.getD at_.toNat (0, (0, 0))).1) : Int) == 1) = true then
          if (((((b1_0.getD at_.toNat (0, (0, 0))).2).1) : Int) == name) = true then
            some (.inr ((at_, t_0, t_1, t_3, t_4, t_5, b1_0)))
          else
            if (((b1_0.length : Nat) : Int) : Int) ≠ 0 then
            f96_table_Table_find_L3 n name (Int.tmod (IntKind.wrap .i64 (at_ + 1)) ((b1_0.length : Nat) : Int)) t14 (IntKind.wrap .i64 (t15 + 1)) t_0 t_1 t_3 t_4 t_5 b1_0
            else none
        else
          if (((b1_0.length : Nat) : Int) : Int) ≠ 0 then
          f96_table_Table_find_L3 n name (Int.tmod (IntKind.wrap .i64 (at_ + 1)) ((b1_0.length : Nat) : Int)) t14 (IntKind.wrap .i64 (t15 + 1)) t_0 t_1 t_3 t_4 t_5 b1_0
          else none
      else none
    else
      some (.inl (t_0, t_1, t_3, t_4, t_5, b1_0))
def f96_table_Table_find_L3_k (w : (Int × Int × Int × Int × Int × List (Int × Int × Int)) ⊕ (Int × Int × Int × Int × Int × Int × List (Int × Int × Int))) (o : Out) : Prop := match w with
  | .inl e => At Go.Proofs.Try.prog Go.Proofs.Try.f96 2 10 ⟨[], [(1, some ⟨169, 2⟩)], [(0, [.d (.int .u64 e.1), .d (.int .u64 e.2.1), .row 1 (.pair (.int .u8) (.pair (.int .u32) (.int .i64))), .d (.int .i64 e.2.2.1), .d (.int .i64 e.2.2.2.1), .d (.int .i64 e.2.2.2.2.1)]), (1, [.run (.pair (.int .u8) (.pair (.int .u32) (.int .i64))) e.2.2.2.2.2])], 2⟩ o
  | .inr e => o = f96_table_Table_find_out e
theorem f96_table_Table_find_L3_ok (n : Nat) : ∀ (name : Int) (at_ : Int) (t14 : Int) (t15 : Int) (t_0 : Int) (t_1 : Int) (t_3 : Int) (t_4 : Int) (t_5 : Int) (b1_0 : List (Int × Int × Int)) (w : (Int × Int × Int × Int × Int × List (Int × Int × Int)) ⊕ (Int × Int × Int × Int × Int × Int × List (Int × Int × Int))) (h : f96_table_Table_find_L3 n name at_ t14 t15 t_0 t_1 t_3 t_4 t_5 b1_0 = some w) (o : Out) (hk : f96_table_Table_find_L3_k w o), At Go.Proofs.Try.prog Go.Proofs.Try.f96 2 3 ⟨[(0, .one (.c (.ptr 0 0))), (1, .one (.c (.d (.int .u32 name)))), (5, .one (.c (.d (.int .i64 at_)))), (14, .one (.c (.d (.int .i64 t14)))), (15, .one (.c (.d (.int .i64 t15))))], [(1, some ⟨169, 2⟩)], [(0, [.d (.int .u64 t_0), .d (.int .u64 t_1), .row 1 (.pair (.int .u8) (.pair (.int .u32) (.int .i64))), .d (.int .i64 t_3), .d (.int .i64 t_4), .d (.int .i64 t_5)]), (1, [.run (.pair (.int .u8) (.pair (.int .u32) (.int .i64))) b1_0])], 2⟩ o := by
  induction n with
  | zero => intro name at_ t14 t15 t_0 t_1 t_3 t_4 t_5 b1_0 w h; rw [f96_table_Table_find_L3] at h; cases h
  | succ n ih =>
    intro name at_ t14 t15 t_0 t_1 t_3 t_4 t_5 b1_0 w h o hk
    rw [f96_table_Table_find_L3] at h
    rcases iteS h with ⟨b115_e0, h⟩ | ⟨b115_e0, h⟩
    · refine At.step hm ht ⟨[], [true], [], [0, 1, 5, 14, 15], [0, 1]⟩ 4 ⟨[(0, .one (.c (.ptr 0 0))), (1, .one (.c (.d (.int .u32 name)))), (5, .one (.c (.d (.int .i64 at_)))), (14, .one (.c (.d (.int .i64 t14)))), (15, .one (.c (.d (.int .i64 t15))))], [(1, some ⟨169, 2⟩)], [(0, [.d (.int .u64 t_0), .d (.int .u64 t_1), .row 1 (.pair (.int .u8) (.pair (.int .u32) (.int .i64))), .d (.int .i64 t_3), .d (.int .i64 t_4), .d (.int .i64 t_5)]), (1, [.run (.pair (.int .u8) (.pair (.int .u32) (.int .i64))) b1_0])], 2⟩ [(decide ((t15 : Int) < t14)) = true] (by kernel_rfl) ⟨b115_e0, trivial⟩ ?_
      obtain ⟨g116_0, h⟩ := ifS h
      refine At.step hm ht ⟨[], [], [], [0, 1, 5, 6, 14, 15], [0, 1]⟩ 5 ⟨[(0, .one (.c (.ptr 0 0))), (1, .one (.c (.d (.int .u32 name)))), (5, .one (.c (.d (.int .i64 at_)))), (6, .one (.c (.pel 1 (.pair (.int .u8) (.pair (.int .u32) (.int .i64))) at_.toNat 0))), (14, .one (.c (.d (.int .i64 t14)))), (15, .one (.c (.d (.int .i64 t15))))], [(1, some ⟨169, 2⟩)], [(0, [.d (.int .u64 t_0), .d (.int .u64 t_1), .row 1 (.pair (.int .u8) (.pair (.int .u32) (.int .i64))), .d (.int .i64 t_3), .d (.int .i64 t_4), .d (.int .i64 t_5)]), (1, [.run (.pair (.int .u8) (.pair (.int .u32) (.int .i64))) b1_0])], 2⟩ [(0 : Int) ≤ at_ ∧ at_ < (((b1_0).length : Nat) : Int)] (by kernel_rfl) ⟨g116_0, trivial⟩ ?_
      rcases iteS h with ⟨b117_e0, h⟩ | ⟨b117_e0, h⟩
      · refine At.step hm ht ⟨[], [true], [], [], [0, 1]⟩ 10 ⟨[], [(1, some ⟨169, 2⟩)], [(0, [.d (.int .u64 t_0), .d (.int .u64 t_1), .row 1 (.pair (.int .u8) (.pair (.int .u32) (.int .i64))), .d (.int .i64 t_3), .d (.int .i64 t_4), .d (.int .i64 t_5)]), (1, [.run (.pair (.int .u8) (.pair (.int .u32) (.int .i64))) b1_0])], 2⟩ [((((b1_0.getD at_.toNat (0, (0, 0))).1) : Int) == 0) = true] (by kernel_rfl) ⟨b117_e0, trivial⟩ ?_
        have h := Option.some.inj h
        subst h
        exact hk
      · refine At.step hm ht ⟨[], [false], [], [0, 1, 5, 6, 14, 15], [0, 1]⟩ 6 ⟨[(0, .one (.c (.ptr 0 0))), (1, .one (.c (.d (.int .u32 name)))), (5, .one (.c (.d (.int .i64 at_)))), (6, .one (.c (.pel 1 (.pair (.int .u8) (.pair (.int .u32) (.int .i64))) at_.toNat 0))), (14, .one (.c (.d (.int .i64 t14)))), (15, .one (.c (.d (.int .i64 t15))))], [(1, some ⟨169, 2⟩)], [(0, [.d (.int .u64 t_0), .d (.int .u64 t_1), .row 1 (.pair (.int .u8) (.pair (.int .u32) (.int .i64))), .d (.int .i64 t_3), .d (.int .i64 t_4), .d (.int .i64 t_5)]), (1, [.run (.pair (.int .u8) (.pair (.int .u32) (.int .i64))) b1_0])], 2⟩ [((((b1_0.getD at_.toNat (0, (0, 0))).1) : Int) == 0) = false] (by kernel_rfl) ⟨b117_e0, trivial⟩ ?_
        rcases iteS h with ⟨b118_5, h⟩ | ⟨b118_5, h⟩
        · rcases iteS h with ⟨b118_e0, h⟩ | ⟨b118_e0, h⟩
          · refine At.step hm ht ⟨[(5, .b true)], [true], [], [5], [0, 1]⟩ 7 ⟨[(5, .one (.c (.d (.int .i64 at_))))], [(1, some ⟨169, 2⟩)], [(0, [.d (.int .u64 t_0), .d (.int .u64 t_1), .row 1 (.pair (.int .u8) (.pair (.int .u32) (.int .i64))), .d (.int .i64 t_3), .d (.int .i64 t_4), .d (.int .i64 t_5)]), (1, [.run (.pair (.int .u8) (.pair (.int .u32) (.int .i64))) b1_0])], 2⟩ [((((b1_0.getD at_.toNat (0, (0, 0))).1) : Int) == 1) = true, (((((b1_0.getD at_.toNat (0, (0, 0))).2).1) : Int) == name) = true] (by kernel_rfl) ⟨b118_5, b118_e0, trivial⟩ ?_
            have h := Option.some.inj h
            subst h
            have hk : o = f96_table_Table_find_out (at_, t_0, t_1, t_3, t_4, t_5, b1_0) := hk
            subst hk
            exact At.fin hm ht ⟨[], [], [], [4], [0, 1]⟩ [] (by kernel_rfl) trivial
          · refine At.step hm ht ⟨[(5, .b true)], [false], [], [0, 1, 5, 14, 15], [0, 1]⟩ 8 ⟨[(0, .one (.c (.ptr 0 0))), (1, .one (.c (.d (.int .u32 name)))), (5, .one (.c (.d (.int .i64 at_)))), (14, .one (.c (.d (.int .i64 t14)))), (15, .one (.c (.d (.int .i64 t15))))], [(1, some ⟨169, 2⟩)], [(0, [.d (.int .u64 t_0), .d (.int .u64 t_1), .row 1 (.pair (.int .u8) (.pair (.int .u32) (.int .i64))), .d (.int .i64 t_3), .d (.int .i64 t_4), .d (.int .i64 t_5)]), (1, [.run (.pair (.int .u8) (.pair (.int .u32) (.int .i64))) b1_0])], 2⟩ [((((b1_0.getD at_.toNat (0, (0, 0))).1) : Int) == 1) = true, (((((b1_0.getD at_.toNat (0, (0, 0))).2).1) : Int) == name) = false] (by kernel_rfl) ⟨b118_5, b118_e0, trivial⟩ ?_
            obtain ⟨g120_0, h⟩ := ifS h
            refine At.step hm ht ⟨[], [], [], [0, 1, 5, 14, 15], [0, 1]⟩ 9 ⟨[(0, .one (.c (.ptr 0 0))), (1, .one (.c (.d (.int .u32 name)))), (5, .one (.c (.d (.int .i64 (Int.tmod (IntKind.wrap .i64 (at_ + 1)) ((b1_0.length : Nat) : Int)))))), (14, .one (.c (.d (.int .i64 t14)))), (15, .one (.c (.d (.int .i64 t15))))], [(1, some ⟨169, 2⟩)], [(0, [.d (.int .u64 t_0), .d (.int .u64 t_1), .row 1 (.pair (.int .u8) (.pair (.int .u32) (.int .i64))), .d (.int .i64 t_3), .d (.int .i64 t_4), .d (.int .i64 t_5)]), (1, [.run (.pair (.int .u8) (.pair (.int .u32) (.int .i64))) b1_0])], 2⟩ [(((b1_0.length : Nat) : Int) : Int) ≠ 0] (by kernel_rfl) ⟨g120_0, trivial⟩ ?_
            refine At.step hm ht ⟨[], [], [], [0, 1, 5, 14, 15], [0, 1]⟩ 3 ⟨[(0, .one (.c (.ptr 0 0))), (1, .one (.c (.d (.int .u32 name)))), (5, .one (.c (.d (.int .i64 (Int.tmod (IntKind.wrap .i64 (at_ + 1)) ((b1_0.length : Nat) : Int)))))), (14, .one (.c (.d (.int .i64 t14)))), (15, .one (.c (.d (.int .i64 (IntKind.wrap .i64 (t15 + 1))))))], [(1, some ⟨169, 2⟩)], [(0, [.d (.int .u64 t_0), .d (.int .u64 t_1), .row 1 (.pair (.int .u8) (.pair (.int .u32) (.int .i64))), .d (.int .i64 t_3), .d (.int .i64 t_4), .d (.int .i64 t_5)]), (1, [.run (.pair (.int .u8) (.pair (.int .u32) (.int .i64))) b1_0])], 2⟩ [] (by kernel_rfl) trivial ?_
            exact ih name (Int.tmod (IntKind.wrap .i64 (at_ + 1)) ((b1_0.length : Nat) : Int)) t14 (IntKind.wrap .i64 (t15 + 1)) t_0 t_1 t_3 t_4 t_5 b1_0 w h o hk
        · refine At.step hm ht ⟨[(5, .b false)], [false], [], [0, 1, 5, 14, 15], [0, 1]⟩ 8 ⟨[(0, .one (.c (.ptr 0 0))), (1, .one (.c (.d (.int .u32 name)))), (5, .one (.c (.d (.int .i64 at_)))), (14, .one (.c (.d (.int .i64 t14)))), (15, .one (.c (.d (.int .i64 t15))))], [(1, some ⟨169, 2⟩)], [(0, [.d (.int .u64 t_0), .d (.int .u64 t_1), .row 1 (.pair (.int .u8) (.pair (.int .u32) (.int .i64))), .d (.int .i64 t_3), .d (.int .i64 t_4), .d (.int .i64 t_5)]), (1, [.run (.pair (.int .u8) (.pair (.int .u32) (.int .i64))) b1_0])], 2⟩ [((((b1_0.getD at_.toNat (0, (0, 0))).1) : Int) == 1) = false, false = false] (by kernel_rfl) ⟨b118_5, rfl, trivial⟩ ?_
          obtain ⟨g122_0, h⟩ := ifS h
          refine At.step hm ht ⟨[], [], [], [0, 1, 5, 14, 15], [0, 1]⟩ 9 ⟨[(0, .one (.c (.ptr 0 0))), (1, .one (.c (.d (.int .u32 name)))), (5, .one (.c (.d (.int .i64 (Int.tmod (IntKind.wrap .i64 (at_ + 1)) ((b1_0.length : Nat) : Int)))))), (14, .one (.c (.d (.int .i64 t14)))), (15, .one (.c (.d (.int .i64 t15))))], [(1, some ⟨169, 2⟩)], [(0, [.d (.int .u64 t_0), .d (.int .u64 t_1), .row 1 (.pair (.int .u8) (.pair (.int .u32) (.int .i64))), .d (.int .i64 t_3), .d (.int .i64 t_4), .d (.int .i64 t_5)]), (1, [.run (.pair (.int .u8) (.pair (.int .u32) (.int .i64))) b1_0])], 2⟩ [(((b1_0.length : Nat) : Int) : Int) ≠ 0] (by kernel_rfl) ⟨g122_0, trivial⟩ ?_
          refine At.step hm ht ⟨[], [], [], [0, 1, 5, 14, 15], [0, 1]⟩ 3 ⟨[(0, .one (.c (.ptr 0 0))), (1, .one (.c (.d (.int .u32 name)))), (5, .one (.c (.d (.int .i64 (Int.tmod (IntKind.wrap .i64 (at_ + 1)) ((b1_0.length : Nat) : Int)))))), (14, .one (.c (.d (.int .i64 t14)))), (15, .one (.c (.d (.int .i64 (IntKind.wrap .i64 (t15 + 1))))))], [(1, some ⟨169, 2⟩)], [(0, [.d (.int .u64 t_0), .d (.int .u64 t_1), .row 1 (.pair (.int .u8) (.pair (.int .u32) (.int .i64))), .d (.int .i64 t_3), .d (.int .i64 t_4), .d (.int .i64 t_5)]), (1, [.run (.pair (.int .u8) (.pair (.int .u32) (.int .i64))) b1_0])], 2⟩ [] (by kernel_rfl) trivial ?_
          exact ih name (Int.tmod (IntKind.wrap .i64 (at_ + 1)) ((b1_0.length : Nat) : Int)) t14 (IntKind.wrap .i64 (t15 + 1)) t_0 t_1 t_3 t_4 t_5 b1_0 w h o hk
    · refine At.step hm ht ⟨[], [false], [], [], [0, 1]⟩ 10 ⟨[], [(1, some ⟨169, 2⟩)], [(0, [.d (.int .u64 t_0), .d (.int .u64 t_1), .row 1 (.pair (.int .u8) (.pair (.int .u32) (.int .i64))), .d (.int .i64 t_3), .d (.int .i64 t_4), .d (.int .i64 t_5)]), (1, [.run (.pair (.int .u8) (.pair (.int .u32) (.int .i64))) b1_0])], 2⟩ [(decide ((t15 : Int) < t14)) = false] (by kernel_rfl) ⟨b115_e0, trivial⟩ ?_
      have h := Option.some.inj h
      subst h
      exact hk
def f96_table_Table_find (n : Nat) (name : Int) (t_0 : Int) (t_1 : Int) (t_3 : Int) (t_4 : Int) (t_5 : Int) (b1_0 : List (Int × Int × Int)) : Option (Int × Int × Int × Int × Int × Int × List (Int × Int × Int)) :=
  (f129_table_Table_home n name t_0 t_1 t_3 t_4 t_5 b1_0).bind fun r40_0 =>
  (f96_table_Table_find_L3 n name r40_0.1 ((r40_0.2.2.2.2.2.2.length : Nat) : Int) 0 r40_0.2.1 r40_0.2.2.1 r40_0.2.2.2.1 r40_0.2.2.2.2.1 r40_0.2.2.2.2.2.1 r40_0.2.2.2.2.2.2).bind fun w124 =>
  match w124 with
  | .inl e125 =>
    some ((-1), e125.1, e125.2.1, e125.2.2.1, e125.2.2.2.1, e125.2.2.2.2.1, e125.2.2.2.2.2)
  | .inr e127 =>
    some (e127.1, e127.2.1, e127.2.2.1, e127.2.2.2.1, e127.2.2.2.2.1, e127.2.2.2.2.2.1, e127.2.2.2.2.2.2)
theorem f96_table_Table_find_ok (n : Nat) (name : Int) (t_0 : Int) (t_1 : Int) (t_3 : Int) (t_4 : Int) (t_5 : Int) (b1_0 : List (Int × Int × Int)) (r : Int × Int × Int × Int × Int × Int × List (Int × Int × Int)) (h : f96_table_Table_find n name t_0 t_1 t_3 t_4 t_5 b1_0 = some r) : FnOK Go.Proofs.Try.prog 96 (f96_table_Table_find_in name t_0 t_1 t_3 t_4 t_5 b1_0) (f96_table_Table_find_out r) := by
  unfold f96_table_Table_find at h
  refine At.fn (r := 0) Go.Proofs.Try.func96 rfl (by kernel_rfl) rfl rfl (by kernel_rfl) ?_
  show At Go.Proofs.Try.prog Go.Proofs.Try.f96 2 0 ⟨[(0, .one (.c (.ptr 0 0))), (1, .one (.c (.d (.int .u32 name))))], [(1, some ⟨169, 2⟩)], [(0, [.d (.int .u64 t_0), .d (.int .u64 t_1), .row 1 (.pair (.int .u8) (.pair (.int .u32) (.int .i64))), .d (.int .i64 t_3), .d (.int .i64 t_4), .d (.int .i64 t_5)]), (1, [.run (.pair (.int .u8) (.pair (.int .u32) (.int .i64))) b1_0])], 2⟩ _
  refine At.step hm ht ⟨[], [], [], [0, 1], [0, 1]⟩ 1 ⟨[(0, .one (.c (.ptr 0 0))), (1, .one (.c (.d (.int .u32 name))))], [(1, some ⟨169, 2⟩)], [(0, [.d (.int .u64 t_0), .d (.int .u64 t_1), .row 1 (.pair (.int .u8) (.pair (.int .u32) (.int .i64))), .d (.int .i64 t_3), .d (.int .i64 t_4), .d (.int .i64 t_5)]), (1, [.run (.pair (.int .u8) (.pair (.int .u32) (.int .i64))) b1_0])], 2⟩ [] (by kernel_rfl) trivial ?_
  obtain ⟨r40_0, cr40_0, h⟩ := bindS h
  refine At.step hm ht ⟨[(2, .call [0, 1] [] (f129_table_Table_home_out r40_0))], [], [], [0, 1, 5], [0, 1]⟩ 2 ⟨[(0, .one (.c (.ptr 0 0))), (1, .one (.c (.d (.int .u32 name)))), (5, .one (.c (.d (.int .i64 r40_0.1))))], [(1, some ⟨169, 2⟩)], [(0, [.d (.int .u64 r40_0.2.1), .d (.int .u64 r40_0.2.2.1), .row 1 (.pair (.int .u8) (.pair (.int .u32) (.int .i64))), .d (.int .i64 r40_0.2.2.2.1), .d (.int .i64 r40_0.2.2.2.2.1), .d (.int .i64 r40_0.2.2.2.2.2.1)]), (1, [.run (.pair (.int .u8) (.pair (.int .u32) (.int .i64))) r40_0.2.2.2.2.2.2])], 2⟩ [FnOK Go.Proofs.Try.prog 129 (f129_table_Table_home_in name t_0 t_1 t_3 t_4 t_5 b1_0) (f129_table_Table_home_out r40_0)] (by kernel_rfl) ⟨(f129_table_Table_home_ok n name t_0 t_1 t_3 t_4 t_5 b1_0 r40_0 cr40_0), trivial⟩ ?_
  refine At.step hm ht ⟨[], [], [], [0, 1, 5, 14, 15], [0, 1]⟩ 3 ⟨[(0, .one (.c (.ptr 0 0))), (1, .one (.c (.d (.int .u32 name)))), (5, .one (.c (.d (.int .i64 r40_0.1)))), (14, .one (.c (.d (.int .i64 ((r40_0.2.2.2.2.2.2.length : Nat) : Int))))), (15, .one (.c (.d (.int .i64 0))))], [(1, some ⟨169, 2⟩)], [(0, [.d (.int .u64 r40_0.2.1), .d (.int .u64 r40_0.2.2.1), .row 1 (.pair (.int .u8) (.pair (.int .u32) (.int .i64))), .d (.int .i64 r40_0.2.2.2.1), .d (.int .i64 r40_0.2.2.2.2.1), .d (.int .i64 r40_0.2.2.2.2.2.1)]), (1, [.run (.pair (.int .u8) (.pair (.int .u32) (.int .i64))) r40_0.2.2.2.2.2.2])], 2⟩ [] (by kernel_rfl) trivial ?_
  obtain ⟨w124, cw124, h⟩ := bindS h
  refine f96_table_Table_find_L3_ok n name r40_0.1 ((r40_0.2.2.2.2.2.2.length : Nat) : Int) 0 r40_0.2.1 r40_0.2.2.1 r40_0.2.2.2.1 r40_0.2.2.2.2.1 r40_0.2.2.2.2.2.1 r40_0.2.2.2.2.2.2 w124 cw124 _ ?_
  rcases w124 with e125 | e127
  · show At Go.Proofs.Try.prog Go.Proofs.Try.f96 2 10 ⟨[], [(1, some ⟨169, 2⟩)], [(0, [.d (.int .u64 e125.1), .d (.int .u64 e125.2.1), .row 1 (.pair (.int .u8) (.pair (.int .u32) (.int .i64))), .d (.int .i64 e125.2.2.1), .d (.int .i64 e125.2.2.2.1), .d (.int .i64 e125.2.2.2.2.1)]), (1, [.run (.pair (.int .u8) (.pair (.int .u32) (.int .i64))) e125.2.2.2.2.2])], 2⟩ _
    have h := Option.some.inj h
    subst h
    exact At.fin hm ht ⟨[], [], [], [4], [0, 1]⟩ [] (by kernel_rfl) trivial
  · have h := Option.some.inj h
    subst h
    rfl
/-! (*brougham/table.Table).Delete -/
def f51_table_Table_Delete_in (name : Int) (t_0 : Int) (t_1 : Int) (t_3 : Int) (t_4 : Int) (t_5 : Int) (b1_0 : List (Int × Int × Int)) : Inn := ⟨[.c (.ptr 0 0), .c (.d (.int .u32 name))], [(1, ⟨169, 2⟩)], [(0, [.d (.int .u64 t_0), .d (.int .u64 t_1), .row 1 (.pair (.int .u8) (.pair (.int .u32) (.int .i64))), .d (.int .i64 t_3), .d (.int .i64 t_4), .d (.int .i64 t_5)]), (1, [.run (.pair (.int .u8) (.pair (.int .u32) (.int .i64))) b1_0])], 2⟩
def f51_table_Table_Delete_out (r : Bool × Int × Int × Int × Int × Int × List (Int × Int × Int)) : Out := ⟨.one (.c (.d (.bool r.1))), [(1, ⟨169, 2⟩)], [(0, [.d (.int .u64 r.2.1), .d (.int .u64 r.2.2.1), .row 1 (.pair (.int .u8) (.pair (.int .u32) (.int .i64))), .d (.int .i64 r.2.2.2.1), .d (.int .i64 r.2.2.2.2.1), .d (.int .i64 r.2.2.2.2.2.1)]), (1, [.run (.pair (.int .u8) (.pair (.int .u32) (.int .i64))) r.2.2.2.2.2.2])], 2⟩
def f51_table_Table_Delete (n : Nat) (name : Int) (t_0 : Int) (t_1 : Int) (t_3 : Int) (t_4 : Int) (t_5 : Int) (b1_0 : List (Int × Int × Int)) : Option (Bool × Int × Int × Int × Int × Int × List (Int × Int × Int)) :=
  (f96_table_Table_find n name t_0 t_1 t_3 t_4 t_5 b1_0).bind fun r38_0 =>
  if (decide ((r38_0.1 : Int) < 0)) = true then
    some (false, r38_0.2.1, r38_0.2.2.1, r38_0.2.2.2.1, r38_0.2.2.2.2.1, r38_0.2.2.2.2.2.1, r38_0.2.2.2.2.2.2)
  else
    if (0 : Int) ≤ r38_0.1 ∧ r38_0.1 < (((r38_0.2.2.2.2.2.2).length : Nat) : Int) then
    some (true, r38_0.2.1, r38_0.2.2.1, (IntKind.wrap .i64 (r38_0.2.2.2.1 - 1)), r38_0.2.2.2.2.1, r38_0.2.2.2.2.2.1, (r38_0.2.2.2.2.2.2.set r38_0.1.toNat (2, (0, 0))))
    else none
theorem f51_table_Table_Delete_ok (n : Nat) (name : Int) (t_0 : Int) (t_1 : Int) (t_3 : Int) (t_4 : Int) (t_5 : Int) (b1_0 : List (Int × Int × Int)) (r : Bool × Int × Int × Int × Int × Int × List (Int × Int × Int)) (h : f51_table_Table_Delete n name t_0 t_1 t_3 t_4 t_5 b1_0 = some r) : FnOK Go.Proofs.Try.prog 51 (f51_table_Table_Delete_in name t_0 t_1 t_3 t_4 t_5 b1_0) (f51_table_Table_Delete_out r) := by
  unfold f51_table_Table_Delete at h
  refine At.fn (r := 0) Go.Proofs.Try.func51 rfl (by kernel_rfl) rfl rfl (by kernel_rfl) ?_
  show At Go.Proofs.Try.prog Go.Proofs.Try.f51 2 0 ⟨[(0, .one (.c (.ptr 0 0))), (1, .one (.c (.d (.int .u32 name))))], [(1, some ⟨169, 2⟩)], [(0, [.d (.int .u64 t_0), .d (.int .u64 t_1), .row 1 (.pair (.int .u8) (.pair (.int .u32) (.int .i64))), .d (.int .i64 t_3), .d (.int .i64 t_4), .d (.int .i64 t_5)]), (1, [.run (.pair (.int .u8) (.pair (.int .u32) (.int .i64))) b1_0])], 2⟩ _
  refine At.step hm ht ⟨[], [], [], [0, 1], [0, 1]⟩ 1 ⟨[(0, .one (.c (.ptr 0 0))), (1, .one (.c (.d (.int .u32 name))))], [(1, some ⟨169, 2⟩)], [(0, [.d (.int .u64 t_0), .d (.int .u64 t_1), .row 1 (.pair (.int .u8) (.pair (.int .u32) (.int .i64))), .d (.int .i64 t_3), .d (.int .i64 t_4), .d (.int .i64 t_5)]), (1, [.run (.pair (.int .u8) (.pair (.int .u32) (.int .i64))) b1_0])], 2⟩ [] (by kernel_rfl) trivial ?_
  obtain ⟨r38_0, cr38_0, h⟩ := bindS h
  refine At.step hm ht ⟨[(2, .call [0, 1] [] (f96_table_Table_find_out r38_0))], [], [], [0, 5], [0, 1]⟩ 2 ⟨[(0, .one (.c (.ptr 0 0))), (5, .one (.c (.d (.int .i64 r38_0.1))))], [(1, some ⟨169, 2⟩)], [(0, [.d (.int .u64 r38_0.2.1), .d (.int .u64 r38_0.2.2.1), .row 1 (.pair (.int .u8) (.pair (.int .u32) (.int .i64))), .d (.int .i64 r38_0.2.2.2.1), .d (.int .i64 r38_0.2.2.2.2.1), .d (.int .i64 r38_0.2.2.2.2.2.1)]), (1, [.run (.pair (.int .u8) (.pair (.int .u32) (.int .i64))) r38_0.2.2.2.2.2.2])], 2⟩ [FnOK Go.Proofs.Try.prog 96 (f96_table_Table_find_in name t_0 t_1 t_3 t_4 t_5 b1_0) (f96_table_Table_find_out r38_0)] (by kernel_rfl) ⟨(f96_table_Table_find_ok n name t_0 t_1 t_3 t_4 t_5 b1_0 r38_0 cr38_0), trivial⟩ ?_
  rcases iteS h with ⟨b128_e0, h⟩ | ⟨b128_e0, h⟩
  · refine At.step hm ht ⟨[], [true], [], [], [0, 1]⟩ 3 ⟨[], [(1, some ⟨169, 2⟩)], [(0, [.d (.int .u64 r38_0.2.1), .d (.int .u64 r38_0.2.2.1), .row 1 (.pair (.int .u8) (.pair (.int .u32) (.int .i64))), .d (.int .i64 r38_0.2.2.2.1), .d (.int .i64 r38_0.2.2.2.2.1), .d (.int .i64 r38_0.2.2.2.2.2.1)]), (1, [.run (.pair (.int .u8) (.pair (.int .u32) (.int .i64))) r38_0.2.2.2.2.2.2])], 2⟩ [(decide ((r38_0.1 : Int) < 0)) = true] (by kernel_rfl) ⟨b128_e0, trivial⟩ ?_
    have h := Option.some.inj h
    subst h
    exact At.fin hm ht ⟨[], [], [], [4], [0, 1]⟩ [] (by kernel_rfl) trivial
  · refine At.step hm ht ⟨[], [false], [], [0, 5], [0, 1]⟩ 4 ⟨[(0, .one (.c (.ptr 0 0))), (5, .one (.c (.d (.int .i64 r38_0.1))))], [(1, some ⟨169, 2⟩)], [(0, [.d (.int .u64 r38_0.2.1), .d (.int .u64 r38_0.2.2.1), .row 1 (.pair (.int .u8) (.pair (.int .u32) (.int .i64))), .d (.int .i64 r38_0.2.2.2.1), .d (.int .i64 r38_0.2.2.2.2.1), .d (.int .i64 r38_0.2.2.2.2.2.1)]), (1, [.run (.pair (.int .u8) (.pair (.int .u32) (.int .i64))) r38_0.2.2.2.2.2.2])], 2⟩ [(decide ((r38_0.1 : Int) < 0)) = false] (by kernel_rfl) ⟨b128_e0, trivial⟩ ?_
    obtain ⟨g130_0, h⟩ := ifS h
    refine At.step hm ht ⟨[], [], [], [0], [0, 1]⟩ 5 ⟨[(0, .one (.c (.ptr 0 0)))], [(1, some ⟨169, 2⟩)], [(0, [.d (.int .u64 r38_0.2.1), .d (.int .u64 r38_0.2.2.1), .row 1 (.pair (.int .u8) (.pair (.int .u32) (.int .i64))), .d (.int .i64 r38_0.2.2.2.1), .d (.int .i64 r38_0.2.2.2.2.1), .d (.int .i64 r38_0.2.2.2.2.2.1)]), (1, [.run (.pair (.int .u8) (.pair (.int .u32) (.int .i64))) (r38_0.2.2.2.2.2.2.set r38_0.1.toNat (2, (0, 0)))])], 2⟩ [(0 : Int) ≤ r38_0.1 ∧ r38_0.1 < (((r38_0.2.2.2.2.2.2).length : Nat) : Int)] (by kernel_rfl) ⟨g130_0, trivial⟩ ?_
    refine At.step hm ht ⟨[], [], [], [], [0, 1]⟩ 6 ⟨[], [(1, some ⟨169, 2⟩)], [(0, [.d (.int .u64 r38_0.2.1), .d (.int .u64 r38_0.2.2.1), .row 1 (.pair (.int .u8) (.pair (.int .u32) (.int .i64))), .d (.int .i64 (IntKind.wrap .i64 (r38_0.2.2.2.1 - 1))), .d (.int .i64 r38_0.2.2.2.2.1), .d (.int .i64 r38_0.2.2.2.2.2.1)]), (1, [.run (.pair (.int .u8) (.pair (.int .u32) (.int .i64))) (r38_0.2.2.2.2.2.2.set r38_0.1.toNat (2, (0, 0)))])], 2⟩ [3 + 1 ≤ 6] (by kernel_rfl) ⟨(by decide), trivial⟩ ?_
    have h := Option.some.inj h
    subst h
    exact At.fin hm ht ⟨[], [], [], [4], [0, 1]⟩ [] (by kernel_rfl) trivial
/-! (*brougham/table.Table).Len -/
def f54_table_Table_Len_in (t_0 : Int) (t_1 : Int) (t_3 : Int) (t_4 : Int) (t_5 : Int) (b1_0 : List (Int × Int × Int)) : Inn := ⟨[.c (.ptr 0 0)], [(1, ⟨169, 2⟩)], [(0, [.d (.int .u64 t_0), .d (.int .u64 t_1), .row 1 (.pair (.int .u8) (.pair (.int .u32) (.int .i64))), .d (.int .i64 t_3), .d (.int .i64 t_4), .d (.int .i64 t_5)]), (1, [.run (.pair (.int .u8) (.pair (.int .u32) (.int .i64))) b1_0])], 2⟩
def f54_table_Table_Len_out (r : Int × Int × Int × Int × Int × Int × List (Int × Int × Int)) : Out := ⟨.one (.c (.d (.int .i64 r.1))), [(1, ⟨169, 2⟩)], [(0, [.d (.int .u64 r.2.1), .d (.int .u64 r.2.2.1), .row 1 (.pair (.int .u8) (.pair (.int .u32) (.int .i64))), .d (.int .i64 r.2.2.2.1), .d (.int .i64 r.2.2.2.2.1), .d (.int .i64 r.2.2.2.2.2.1)]), (1, [.run (.pair (.int .u8) (.pair (.int .u32) (.int .i64))) r.2.2.2.2.2.2])], 2⟩
def f54_table_Table_Len (t_0 : Int) (t_1 : Int) (t_3 : Int) (t_4 : Int) (t_5 : Int) (b1_0 : List (Int × Int × Int)) : Option (Int × Int × Int × Int × Int × Int × List (Int × Int × Int)) :=
  some (t_3, t_0, t_1, t_3, t_4, t_5, b1_0)
theorem f54_table_Table_Len_ok (t_0 : Int) (t_1 : Int) (t_3 : Int) (t_4 : Int) (t_5 : Int) (b1_0 : List (Int × Int × Int)) (r : Int × Int × Int × Int × Int × Int × List (Int × Int × Int)) (h : f54_table_Table_Len t_0 t_1 t_3 t_4 t_5 b1_0 = some r) : FnOK Go.Proofs.Try.prog 54 (f54_table_Table_Len_in t_0 t_1 t_3 t_4 t_5 b1_0) (f54_table_Table_Len_out r) := by
  unfold f54_table_Table_Len at h
  refine At.fn (r := 0) Go.Proofs.Try.func54 rfl (by kernel_rfl) rfl rfl (by kernel_rfl) ?_
  show At Go.Proofs.Try.prog Go.Proofs.Try.f54 2 0 ⟨[(0, .one (.c (.ptr 0 0)))], [(1, some ⟨169, 2⟩)], [(0, [.d (.int .u64 t_0), .d (.int .u64 t_1), .row 1 (.pair (.int .u8) (.pair (.int .u32) (.int .i64))), .d (.int .i64 t_3), .d (.int .i64 t_4), .d (.int .i64 t_5)]), (1, [.run (.pair (.int .u8) (.pair (.int .u32) (.int .i64))) b1_0])], 2⟩ _
  refine At.step hm ht ⟨[], [], [], [0], [0, 1]⟩ 1 ⟨[(0, .one (.c (.ptr 0 0)))], [(1, some ⟨169, 2⟩)], [(0, [.d (.int .u64 t_0), .d (.int .u64 t_1), .row 1 (.pair (.int .u8) (.pair (.int .u32) (.int .i64))), .d (.int .i64 t_3), .d (.int .i64 t_4), .d (.int .i64 t_5)]), (1, [.run (.pair (.int .u8) (.pair (.int .u32) (.int .i64))) b1_0])], 2⟩ [] (by kernel_rfl) trivial ?_
  have h := Option.some.inj h
  subst h
  exact At.fin hm ht ⟨[], [], [], [2], [0, 1]⟩ [] (by kernel_rfl) trivial
/-! (*brougham/table.Table).Places -/
def f62_table_Table_Places_in (t_0 : Int) (t_1 : Int) (t_3 : Int) (t_4 : Int) (t_5 : Int) (b1_0 : List (Int × Int × Int)) : Inn := ⟨[.c (.ptr 0 0)], [(1, ⟨169, 2⟩)], [(0, [.d (.int .u64 t_0), .d (.int .u64 t_1), .row 1 (.pair (.int .u8) (.pair (.int .u32) (.int .i64))), .d (.int .i64 t_3), .d (.int .i64 t_4), .d (.int .i64 t_5)]), (1, [.run (.pair (.int .u8) (.pair (.int .u32) (.int .i64))) b1_0])], 2⟩
def f62_table_Table_Places_out (r : Int × Int × Int × Int × Int × Int × List (Int × Int × Int)) : Out := ⟨.one (.c (.d (.int .i64 r.1))), [(1, ⟨169, 2⟩)], [(0, [.d (.int .u64 r.2.1), .d (.int .u64 r.2.2.1), .row 1 (.pair (.int .u8) (.pair (.int .u32) (.int .i64))), .d (.int .i64 r.2.2.2.1), .d (.int .i64 r.2.2.2.2.1), .d (.int .i64 r.2.2.2.2.2.1)]), (1, [.run (.pair (.int .u8) (.pair (.int .u32) (.int .i64))) r.2.2.2.2.2.2])], 2⟩
def f62_table_Table_Places (t_0 : Int) (t_1 : Int) (t_3 : Int) (t_4 : Int) (t_5 : Int) (b1_0 : List (Int × Int × Int)) : Option (Int × Int × Int × Int × Int × Int × List (Int × Int × Int)) :=
  some (((b1_0.length : Nat) : Int), t_0, t_1, t_3, t_4, t_5, b1_0)
theorem f62_table_Table_Places_ok (t_0 : Int) (t_1 : Int) (t_3 : Int) (t_4 : Int) (t_5 : Int) (b1_0 : List (Int × Int × Int)) (r : Int × Int × Int × Int × Int × Int × List (Int × Int × Int)) (h : f62_table_Table_Places t_0 t_1 t_3 t_4 t_5 b1_0 = some r) : FnOK Go.Proofs.Try.prog 62 (f62_table_Table_Places_in t_0 t_1 t_3 t_4 t_5 b1_0) (f62_table_Table_Places_out r) := by
  unfold f62_table_Table_Places at h
  refine At.fn (r := 0) Go.Proofs.Try.func62 rfl (by kernel_rfl) rfl rfl (by kernel_rfl) ?_
  show At Go.Proofs.Try.prog Go.Proofs.Try.f62 2 0 ⟨[(0, .one (.c (.ptr 0 0)))], [(1, some ⟨169, 2⟩)], [(0, [.d (.int .u64 t_0), .d (.int .u64 t_1), .row 1 (.pair (.int .u8) (.pair (.int .u32) (.int .i64))), .d (.int .i64 t_3), .d (.int .i64 t_4), .d (.int .i64 t_5)]), (1, [.run (.pair (.int .u8) (.pair (.int .u32) (.int .i64))) b1_0])], 2⟩ _
  refine At.step hm ht ⟨[], [], [], [0], [0, 1]⟩ 1 ⟨[(0, .one (.c (.ptr 0 0)))], [(1, some ⟨169, 2⟩)], [(0, [.d (.int .u64 t_0), .d (.int .u64 t_1), .row 1 (.pair (.int .u8) (.pair (.int .u32) (.int .i64))), .d (.int .i64 t_3), .d (.int .i64 t_4), .d (.int .i64 t_5)]), (1, [.run (.pair (.int .u8) (.pair (.int .u32) (.int .i64))) b1_0])], 2⟩ [] (by kernel_rfl) trivial ?_
  have h := Option.some.inj h
  subst h
  exact At.fin hm ht ⟨[], [], [], [2], [0, 1]⟩ [] (by kernel_rfl) trivial
/-! (*brougham/table.Table).Get -/
def f53_table_Table_Get_in (name : Int) (t_0 : Int) (t_1 : Int) (t_3 : Int) (t_4 : Int) (t_5 : Int) (b1_0 : List (Int × Int × Int)) : Inn := ⟨[.c (.ptr 0 0), .c (.d (.int .u32 name))], [(1, ⟨169, 2⟩)], [(0, [.d (.int .u64 t_0), .d (.int .u64 t_1), .row 1 (.pair (.int .u8) (.pair (.int .u32) (.int .i64))), .d (.int .i64 t_3), .d (.int .i64 t_4), .d (.int .i64 t_5)]), (1, [.run (.pair (.int .u8) (.pair (.int .u32) (.int .i64))) b1_0])], 2⟩
def f53_table_Table_Get_out (r : Int × Bool × Int × Int × Int × Int × Int × List (Int × Int × Int)) : Out := ⟨.tup [.c (.d (.int .i64 r.1)), .c (.d (.bool r.2.1))], [(1, ⟨169, 2⟩)], [(0, [.d (.int .u64 r.2.2.1), .d (.int .u64 r.2.2.2.1), .row 1 (.pair (.int .u8) (.pair (.int .u32) (.int .i64))), .d (.int .i64 r.2.2.2.2.1), .d (.int .i64 r.2.2.2.2.2.1), .d (.int .i64 r.2.2.2.2.2.2.1)]), (1, [.run (.pair (.int .u8) (.pair (.int .u32) (.int .i64))) r.2.2.2.2.2.2.2])], 2⟩
def f53_table_Table_Get (n : Nat) (name : Int) (t_0 : Int) (t_1 : Int) (t_3 : Int) (t_4 : Int) (t_5 : Int) (b1_0 : List (Int × Int × Int)) : Option (Int × Bool × Int × Int × Int × Int × Int × List (Int × Int × Int)) :=
  (f96_table_Table_find n name t_0 t_1 t_3 t_4 t_5 b1_0).bind fun r176_0 =>
  if (decide ((r176_0.1 : Int) < 0)) = true then
    some (0, false, r176_0.2.1, r176_0.2.2.1, r176_0.2.2.2.1, r176_0.2.2.2.2.1, r176_0.2.2.2.2.2.1, r176_0.2.2.2.2.2.2)
  else
    if (0 : Int) ≤ r176_0.1 ∧ r176_0.1 < (((r176_0.2.2.2.2.2.2).length : Nat) : Int) then
    some (((r176_0.2.2.2.2.2.2.getD r176_0.1.toNat (0, (0, 0))).2).2, true, r176_0.2.1, r176_0.2.2.1, r176_0.2.2.2.1, r176_0.2.2.2.2.1, r176_0.2.2.2.2.2.1, r176_0.2.2.2.2.2.2)
    else none
theorem f53_table_Table_Get_ok (n : Nat) (name : Int) (t_0 : Int) (t_1 : Int) (t_3 : Int) (t_4 : Int) (t_5 : Int) (b1_0 : List (Int × Int × Int)) (r : Int × Bool × Int × Int × Int × Int × Int × List (Int × Int × Int)) (h : f53_table_Table_Get n name t_0 t_1 t_3 t_4 t_5 b1_0 = some r) : FnOK Go.Proofs.Try.prog 53 (f53_table_Table_Get_in name t_0 t_1 t_3 t_4 t_5 b1_0) (f53_table_Table_Get_out r) := by
  unfold f53_table_Table_Get at h
  refine At.fn (r := 0) Go.Proofs.Try.func53 rfl (by kernel_rfl) rfl rfl (by kernel_rfl) ?_
  show At Go.Proofs.Try.prog Go.Proofs.Try.f53 2 0 ⟨[(0, .one (.c (.ptr 0 0))), (1, .one (.c (.d (.int .u32 name))))], [(1, some ⟨169, 2⟩)], [(0, [.d (.int .u64 t_0), .d (.int .u64 t_1), .row 1 (.pair (.int .u8) (.pair (.int .u32) (.int .i64))), .d (.int .i64 t_3), .d (.int .i64 t_4), .d (.int .i64 t_5)]), (1, [.run (.pair (.int .u8) (.pair (.int .u32) (.int .i64))) b1_0])], 2⟩ _
  refine At.step hm ht ⟨[], [], [], [0, 1], [0, 1]⟩ 1 ⟨[(0, .one (.c (.ptr 0 0))), (1, .one (.c (.d (.int .u32 name))))], [(1, some ⟨169, 2⟩)], [(0, [.d (.int .u64 t_0), .d (.int .u64 t_1), .row 1 (.pair (.int .u8) (.pair (.int .u32) (.int .i64))), .d (.int .i64 t_3), .d (.int .i64 t_4), .d (.int .i64 t_5)]), (1, [.run (.pair (.int .u8) (.pair (.int .u32) (.int .i64))) b1_0])], 2⟩ [] (by kernel_rfl) trivial ?_
  obtain ⟨r176_0, cr176_0, h⟩ := bindS h
  refine At.step hm ht ⟨[(2, .call [0, 1] [] (f96_table_Table_find_out r176_0))], [], [], [0, 6], [0, 1]⟩ 2 ⟨[(0, .one (.c (.ptr 0 0))), (6, .one (.c (.d (.int .i64 r176_0.1))))], [(1, some ⟨169, 2⟩)], [(0, [.d (.int .u64 r176_0.2.1), .d (.int .u64 r176_0.2.2.1), .row 1 (.pair (.int .u8) (.pair (.int .u32) (.int .i64))), .d (.int .i64 r176_0.2.2.2.1), .d (.int .i64 r176_0.2.2.2.2.1), .d (.int .i64 r176_0.2.2.2.2.2.1)]), (1, [.run (.pair (.int .u8) (.pair (.int .u32) (.int .i64))) r176_0.2.2.2.2.2.2])], 2⟩ [FnOK Go.Proofs.Try.prog 96 (f96_table_Table_find_in name t_0 t_1 t_3 t_4 t_5 b1_0) (f96_table_Table_find_out r176_0)] (by kernel_rfl) ⟨(f96_table_Table_find_ok n name t_0 t_1 t_3 t_4 t_5 b1_0 r176_0 cr176_0), trivial⟩ ?_
  rcases iteS h with ⟨b177_e0, h⟩ | ⟨b177_e0, h⟩
  · refine At.step hm ht ⟨[], [true], [], [], [0, 1]⟩ 3 ⟨[], [(1, some ⟨169, 2⟩)], [(0, [.d (.int .u64 r176_0.2.1), .d (.int .u64 r176_0.2.2.1), .row 1 (.pair (.int .u8) (.pair (.int .u32) (.int .i64))), .d (.int .i64 r176_0.2.2.2.1), .d (.int .i64 r176_0.2.2.2.2.1), .d (.int .i64 r176_0.2.2.2.2.2.1)]), (1, [.run (.pair (.int .u8) (.pair (.int .u32) (.int .i64))) r176_0.2.2.2.2.2.2])], 2⟩ [(decide ((r176_0.1 : Int) < 0)) = true] (by kernel_rfl) ⟨b177_e0, trivial⟩ ?_
    have h := Option.some.inj h
    subst h
    exact At.fin hm ht ⟨[], [], [], [4, 5], [0, 1]⟩ [] (by kernel_rfl) trivial
  · refine At.step hm ht ⟨[], [false], [], [0, 6], [0, 1]⟩ 4 ⟨[(0, .one (.c (.ptr 0 0))), (6, .one (.c (.d (.int .i64 r176_0.1))))], [(1, some ⟨169, 2⟩)], [(0, [.d (.int .u64 r176_0.2.1), .d (.int .u64 r176_0.2.2.1), .row 1 (.pair (.int .u8) (.pair (.int .u32) (.int .i64))), .d (.int .i64 r176_0.2.2.2.1), .d (.int .i64 r176_0.2.2.2.2.1), .d (.int .i64 r176_0.2.2.2.2.2.1)]), (1, [.run (.pair (.int .u8) (.pair (.int .u32) (.int .i64))) r176_0.2.2.2.2.2.2])], 2⟩ [(decide ((r176_0.1 : Int) < 0)) = false] (by kernel_rfl) ⟨b177_e0, trivial⟩ ?_
    obtain ⟨g179_0, h⟩ := ifS h
    have h := Option.some.inj h
    subst h
    exact At.fin hm ht ⟨[], [], [], [4, 5], [0, 1]⟩ [(0 : Int) ≤ r176_0.1 ∧ r176_0.1 < (((r176_0.2.2.2.2.2.2).length : Nat) : Int)] (by kernel_rfl) ⟨g179_0, trivial⟩
/-! brougham/broughamref40.Get -/
def f59_broughamref40_Get_in (l : List (Int × Int)) (name : Int) : Inn := ⟨[.c (.d (.sl (.pair (.int .u32) (.int .i64)) l)), .c (.d (.int .u32 name))], [], [], 0⟩
def f59_broughamref40_Get_out (r : Int × Bool) : Out := ⟨.tup [.c (.d (.int .i64 r.1)), .c (.d (.bool r.2))], [], [], 0⟩
def f59_broughamref40_Get_L2 : Nat → (List (Int × Int)) → Int → Int → Option ((Int × Bool) ⊕ (Unit))
  | 0, _, _, _ => none
  | n + 1, l, name, i =>
    if (decide ((i : Int) < ((l.length : Nat) : Int))) = true then
      if (0 : Int) ≤ i ∧ i < (((l).length : Nat) : Int) then
      if ((((l.getD i.toNat (0, 0)).1) : Int) == name) = true then
        if (0 : Int) ≤ i ∧ i < (((l).length : Nat) : Int) then
        some (.inl ((l.getD i.toNat (0, 0)).2, true))
        else none
      else
        f59_broughamref40_Get_L2 n l name (IntKind.wrap .i64 (i + 1))
      else none
    else
      some (.inr ())
def f59_broughamref40_Get_L2_k (w : (Int × Bool) ⊕ (Unit)) (o : Out) : Prop := match w with
  | .inl e => o = f59_broughamref40_Get_out e
  | .inr e => At Go.Proofs.Try.prog Go.Proofs.Try.f59 0 6 ⟨[], [], [], 0⟩ o
theorem f59_broughamref40_Get_L2_ok (n : Nat) : ∀ (l : List (Int × Int)) (name : Int) (i : Int) (w : (Int × Bool) ⊕ (Unit)) (h : f59_broughamref40_Get_L2 n l name i = some w) (o : Out) (hk : f59_broughamref40_Get_L2_k w o), At Go.Proofs.Try.prog Go.Proofs.Try.f59 0 2 ⟨[(0, .one (.c (.d (.sl (.pair (.int .u32) (.int .i64)) l)))), (1, .one (.c (.d (.int .u32 name)))), (6, .one (.c (.d (.int .i64 i))))], [], [], 0⟩ o := by
  induction n with
  | zero => intro l name i w h; rw [f59_broughamref40_Get_L2] at h; cases h
  | succ n ih =>
    intro l name i w h o hk
    rw [f59_broughamref40_Get_L2] at h
    rcases iteS h with ⟨b183_e0, h⟩ | ⟨b183_e0, h⟩
    · refine At.step hm ht ⟨[], [true], [], [0, 1, 6], []⟩ 4 ⟨[(0, .one (.c (.d (.sl (.pair (.int .u32) (.int .i64)) l)))), (1, .one (.c (.d (.int .u32 name)))), (6, .one (.c (.d (.int .i64 i))))], [], [], 0⟩ [(decide ((i : Int) < ((l.length : Nat) : Int))) = true] (by kernel_rfl) ⟨b183_e0, trivial⟩ ?_
      obtain ⟨g184_0, h⟩ := ifS h
      rcases iteS h with ⟨b184_e0, h⟩ | ⟨b184_e0, h⟩
      · refine At.step hm ht ⟨[], [true], [], [0, 6], []⟩ 5 ⟨[(0, .one (.c (.d (.sl (.pair (.int .u32) (.int .i64)) l)))), (6, .one (.c (.d (.int .i64 i))))], [], [], 0⟩ [(0 : Int) ≤ i ∧ i < (((l).length : Nat) : Int), ((((l.getD i.toNat (0, 0)).1) : Int) == name) = true] (by kernel_rfl) ⟨g184_0, b184_e0, trivial⟩ ?_
        obtain ⟨g185_0, h⟩ := ifS h
        have h := Option.some.inj h
        subst h
        have hk : o = f59_broughamref40_Get_out ((l.getD i.toNat (0, 0)).2, true) := hk
        subst hk
        exact At.fin hm ht ⟨[], [], [], [4, 5], []⟩ [(0 : Int) ≤ i ∧ i < (((l).length : Nat) : Int)] (by kernel_rfl) ⟨g185_0, trivial⟩
      · refine At.step hm ht ⟨[], [false], [], [0, 1, 6], []⟩ 3 ⟨[(0, .one (.c (.d (.sl (.pair (.int .u32) (.int .i64)) l)))), (1, .one (.c (.d (.int .u32 name)))), (6, .one (.c (.d (.int .i64 i))))], [], [], 0⟩ [(0 : Int) ≤ i ∧ i < (((l).length : Nat) : Int), ((((l.getD i.toNat (0, 0)).1) : Int) == name) = false] (by kernel_rfl) ⟨g184_0, b184_e0, trivial⟩ ?_
        refine At.step hm ht ⟨[], [], [], [0, 1, 6], []⟩ 2 ⟨[(0, .one (.c (.d (.sl (.pair (.int .u32) (.int .i64)) l)))), (1, .one (.c (.d (.int .u32 name)))), (6, .one (.c (.d (.int .i64 (IntKind.wrap .i64 (i + 1))))))], [], [], 0⟩ [] (by kernel_rfl) trivial ?_
        exact ih l name (IntKind.wrap .i64 (i + 1)) w h o hk
    · refine At.step hm ht ⟨[], [false], [], [], []⟩ 6 ⟨[], [], [], 0⟩ [(decide ((i : Int) < ((l.length : Nat) : Int))) = false] (by kernel_rfl) ⟨b183_e0, trivial⟩ ?_
      have h := Option.some.inj h
      subst h
      exact hk
def f59_broughamref40_Get (n : Nat) (l : List (Int × Int)) (name : Int) : Option (Int × Bool) :=
  (f59_broughamref40_Get_L2 n l name 0).bind fun w187 =>
  match w187 with
  | .inl e188 =>
    some (e188.1, e188.2)
  | .inr e189 =>
    some (0, false)
theorem f59_broughamref40_Get_ok (n : Nat) (l : List (Int × Int)) (name : Int) (r : Int × Bool) (h : f59_broughamref40_Get n l name = some r) : FnOK Go.Proofs.Try.prog 59 (f59_broughamref40_Get_in l name) (f59_broughamref40_Get_out r) := by
  unfold f59_broughamref40_Get at h
  refine At.fn (r := 0) Go.Proofs.Try.func59 rfl (by kernel_rfl) rfl rfl (by kernel_rfl) ?_
  show At Go.Proofs.Try.prog Go.Proofs.Try.f59 0 0 ⟨[(0, .one (.c (.d (.sl (.pair (.int .u32) (.int .i64)) l)))), (1, .one (.c (.d (.int .u32 name))))], [], [], 0⟩ _
  refine At.step hm ht ⟨[], [], [], [0, 1], []⟩ 1 ⟨[(0, .one (.c (.d (.sl (.pair (.int .u32) (.int .i64)) l)))), (1, .one (.c (.d (.int .u32 name))))], [], [], 0⟩ [] (by kernel_rfl) trivial ?_
  refine At.step hm ht ⟨[], [], [], [0, 1, 6], []⟩ 2 ⟨[(0, .one (.c (.d (.sl (.pair (.int .u32) (.int .i64)) l)))), (1, .one (.c (.d (.int .u32 name)))), (6, .one (.c (.d (.int .i64 0))))], [], [], 0⟩ [] (by kernel_rfl) trivial ?_
  obtain ⟨w187, cw187, h⟩ := bindS h
  refine f59_broughamref40_Get_L2_ok n l name 0 w187 cw187 _ ?_
  rcases w187 with e188 | e189
  · have h := Option.some.inj h
    subst h
    rfl
  · show At Go.Proofs.Try.prog Go.Proofs.Try.f59 0 6 ⟨[], [], [], 0⟩ _
    have h := Option.some.inj h
    subst h
    exact At.fin hm ht ⟨[], [], [], [4, 5], []⟩ [] (by kernel_rfl) trivial
/-! brougham/broughamlaw40.most -/
def f61_broughamlaw40_most_in (n_ : Int) : Inn := ⟨[.c (.d (.int .i64 n_))], [], [], 0⟩
def f61_broughamlaw40_most_out (r : Int) : Out := ⟨.one (.c (.d (.int .i64 r))), [], [], 0⟩
def f61_broughamlaw40_most (n_ : Int) : Option (Int) :=
  if (decide ((n_ : Int) < 1)) = true then
    some 1
  else
    if (decide ((n_ : Int) > 256)) = true then
      some 256
    else
      some n_
theorem f61_broughamlaw40_most_ok (n_ : Int) (r : Int) (h : f61_broughamlaw40_most n_ = some r) : FnOK Go.Proofs.Try.prog 61 (f61_broughamlaw40_most_in n_) (f61_broughamlaw40_most_out r) := by
  unfold f61_broughamlaw40_most at h
  refine At.fn (r := 0) Go.Proofs.Try.func61 rfl (by kernel_rfl) rfl rfl (by kernel_rfl) ?_
  show At Go.Proofs.Try.prog Go.Proofs.Try.f61 0 0 ⟨[(0, .one (.c (.d (.int .i64 n_))))], [], [], 0⟩ _
  refine At.step hm ht ⟨[], [], [], [0], []⟩ 1 ⟨[(0, .one (.c (.d (.int .i64 n_))))], [], [], 0⟩ [] (by kernel_rfl) trivial ?_
  rcases iteS h with ⟨b208_e0, h⟩ | ⟨b208_e0, h⟩
  · refine At.step hm ht ⟨[], [true], [], [], []⟩ 2 ⟨[], [], [], 0⟩ [(decide ((n_ : Int) < 1)) = true] (by kernel_rfl) ⟨b208_e0, trivial⟩ ?_
    have h := Option.some.inj h
    subst h
    exact At.fin hm ht ⟨[], [], [], [2], []⟩ [] (by kernel_rfl) trivial
  · refine At.step hm ht ⟨[], [false], [], [0], []⟩ 3 ⟨[(0, .one (.c (.d (.int .i64 n_))))], [], [], 0⟩ [(decide ((n_ : Int) < 1)) = false] (by kernel_rfl) ⟨b208_e0, trivial⟩ ?_
    rcases iteS h with ⟨b210_e0, h⟩ | ⟨b210_e0, h⟩
    · refine At.step hm ht ⟨[], [true], [], [], []⟩ 4 ⟨[], [], [], 0⟩ [(decide ((n_ : Int) > 256)) = true] (by kernel_rfl) ⟨b210_e0, trivial⟩ ?_
      have h := Option.some.inj h
      subst h
      exact At.fin hm ht ⟨[], [], [], [2], []⟩ [] (by kernel_rfl) trivial
    · refine At.step hm ht ⟨[], [false], [], [0], []⟩ 5 ⟨[(0, .one (.c (.d (.int .i64 n_))))], [], [], 0⟩ [(decide ((n_ : Int) > 256)) = false] (by kernel_rfl) ⟨b210_e0, trivial⟩ ?_
      have h := Option.some.inj h
      subst h
      exact At.fin hm ht ⟨[], [], [], [2], []⟩ [] (by kernel_rfl) trivial
/-! brougham/broughamref40.Put -/
def f60_broughamref40_Put_in (l : List (Int × Int)) (name : Int) (value : Int) (most : Int) : Inn := ⟨[.c (.d (.sl (.pair (.int .u32) (.int .i64)) l)), .c (.d (.int .u32 name)), .c (.d (.int .i64 value)), .c (.d (.int .i64 most))], [], [], 0⟩
def f60_broughamref40_Put_out (r : (List (Int × Int)) × Bool) : Out := ⟨.tup [.c (.d (.sl (.pair (.int .u32) (.int .i64)) r.1)), .c (.d (.bool r.2))], [], [], 0⟩
def f60_broughamref40_Put_L7 : Nat → Int → (List (Int × Int)) → Option (List (Int × Int))
  | 0, _, _ => none
  | n + 1, i, b0_0 =>
    if (decide ((i : Int) > 0)) = true then
      if (0 : Int) ≤ i ∧ i < (((b0_0).length : Nat) : Int) then
      if (0 : Int) ≤ (IntKind.wrap .i64 (i - 1)) ∧ (IntKind.wrap .i64 (i - 1)) < (((b0_0).length : Nat) : Int) then
      if (decide ((((b0_0.getD i.toNat (0, 0)).1) : Int) < ((b0_0.getD ((IntKind.wrap .i64 (i - 1)).toNat) (0, 0)).1))) = true then
        if (0 : Int) ≤ (IntKind.wrap .i64 (i - 1)) ∧ (IntKind.wrap .i64 (i - 1)) < (((b0_0).length : Nat) : Int) then
        if (0 : Int) ≤ i ∧ i < (((b0_0).length : Nat) : Int) then
        if (0 : Int) ≤ i ∧ i < (((b0_0).length : Nat) : Int) then
        if (0 : Int) ≤ (IntKind.wrap .i64 (i - 1)) ∧ (IntKind.wrap .i64 (i - 1)) < ((((b0_0.set i.toNat (b0_0.getD ((IntKind.wrap .i64 (i - 1)).toNat) (0, 0)))).length : Nat) : Int) then
        f60_broughamref40_Put_L7 n (IntKind.wrap .i64 (i - 1)) ((b0_0.set i.toNat (b0_0.getD ((IntKind.wrap .i64 (i - 1)).toNat) (0, 0))).set ((IntKind.wrap .i64 (i - 1)).toNat) (b0_0.getD i.toNat (0, 0)))
        else none
        else none
        else none
        else none
      else
        some (b0_0)
      else none
      else none
    else
      some (b0_0)
def f60_broughamref40_Put_L7_k (e : List (Int × Int)) (o : Out) : Prop := At Go.Proofs.Try.prog Go.Proofs.Try.f60 0 10 ⟨[(12, .one (.c (.row 0 (.pair (.int .u32) (.int .i64)))))], [(0, some ⟨174, 2⟩)], [(0, [.run (.pair (.int .u32) (.int .i64)) e])], 1⟩ o
theorem f60_broughamref40_Put_L7_ok (n : Nat) : ∀ (i : Int) (b0_0 : List (Int × Int)) (w : List (Int × Int)) (h : f60_broughamref40_Put_L7 n i b0_0 = some w) (o : Out) (hk : f60_broughamref40_Put_L7_k w o), At Go.Proofs.Try.prog Go.Proofs.Try.f60 0 7 ⟨[(12, .one (.c (.row 0 (.pair (.int .u32) (.int .i64))))), (13, .one (.c (.d (.int .i64 i))))], [(0, some ⟨174, 2⟩)], [(0, [.run (.pair (.int .u32) (.int .i64)) b0_0])], 1⟩ o := by
  induction n with
  | zero => intro i b0_0 w h; rw [f60_broughamref40_Put_L7] at h; cases h
  | succ n ih =>
    intro i b0_0 w h o hk
    rw [f60_broughamref40_Put_L7] at h
    rcases iteS h with ⟨b220_2, h⟩ | ⟨b220_2, h⟩
    · obtain ⟨g220_0, h⟩ := ifS h
      obtain ⟨g220_1, h⟩ := ifS h
      rcases iteS h with ⟨b220_e0, h⟩ | ⟨b220_e0, h⟩
      · refine At.step hm ht ⟨[(2, .b true)], [true], [], [12, 13], [0]⟩ 9 ⟨[(12, .one (.c (.row 0 (.pair (.int .u32) (.int .i64))))), (13, .one (.c (.d (.int .i64 i))))], [(0, some ⟨174, 2⟩)], [(0, [.run (.pair (.int .u32) (.int .i64)) b0_0])], 1⟩ [(decide ((i : Int) > 0)) = true, (0 : Int) ≤ i ∧ i < (((b0_0).length : Nat) : Int), (0 : Int) ≤ (IntKind.wrap .i64 (i - 1)) ∧ (IntKind.wrap .i64 (i - 1)) < (((b0_0).length : Nat) : Int), (decide ((((b0_0.getD i.toNat (0, 0)).1) : Int) < ((b0_0.getD ((IntKind.wrap .i64 (i - 1)).toNat) (0, 0)).1))) = true] (by kernel_rfl) ⟨b220_2, g220_0, g220_1, b220_e0, trivial⟩ ?_
        obtain ⟨g221_0, h⟩ := ifS h
        obtain ⟨g221_1, h⟩ := ifS h
        obtain ⟨g221_2, h⟩ := ifS h
        obtain ⟨g221_3, h⟩ := ifS h
        refine At.step hm ht ⟨[], [], [], [12, 13], [0]⟩ 8 ⟨[(12, .one (.c (.row 0 (.pair (.int .u32) (.int .i64))))), (13, .one (.c (.d (.int .i64 i))))], [(0, some ⟨174, 2⟩)], [(0, [.run (.pair (.int .u32) (.int .i64)) ((b0_0.set i.toNat (b0_0.getD ((IntKind.wrap .i64 (i - 1)).toNat) (0, 0))).set ((IntKind.wrap .i64 (i - 1)).toNat) (b0_0.getD i.toNat (0, 0)))])], 1⟩ [(0 : Int) ≤ (IntKind.wrap .i64 (i - 1)) ∧ (IntKind.wrap .i64 (i - 1)) < (((b0_0).length : Nat) : Int), (0 : Int) ≤ i ∧ i < (((b0_0).length : Nat) : Int), (0 : Int) ≤ i ∧ i < (((b0_0).length : Nat) : Int), (0 : Int) ≤ (IntKind.wrap .i64 (i - 1)) ∧ (IntKind.wrap .i64 (i - 1)) < ((((b0_0.set i.toNat (b0_0.getD ((IntKind.wrap .i64 (i - 1)).toNat) (0, 0)))).length : Nat) : Int)] (by kernel_rfl) ⟨g221_0, g221_1, g221_2, g221_3, trivial⟩ ?_
        refine At.step hm ht ⟨[], [], [], [12, 13], [0]⟩ 7 ⟨[(12, .one (.c (.row 0 (.pair (.int .u32) (.int .i64))))), (13, .one (.c (.d (.int .i64 (IntKind.wrap .i64 (i - 1))))))], [(0, some ⟨174, 2⟩)], [(0, [.run (.pair (.int .u32) (.int .i64)) ((b0_0.set i.toNat (b0_0.getD ((IntKind.wrap .i64 (i - 1)).toNat) (0, 0))).set ((IntKind.wrap .i64 (i - 1)).toNat) (b0_0.getD i.toNat (0, 0)))])], 1⟩ [] (by kernel_rfl) trivial ?_
        exact ih (IntKind.wrap .i64 (i - 1)) ((b0_0.set i.toNat (b0_0.getD ((IntKind.wrap .i64 (i - 1)).toNat) (0, 0))).set ((IntKind.wrap .i64 (i - 1)).toNat) (b0_0.getD i.toNat (0, 0))) w h o hk
      · refine At.step hm ht ⟨[(2, .b true)], [false], [], [12], [0]⟩ 10 ⟨[(12, .one (.c (.row 0 (.pair (.int .u32) (.int .i64)))))], [(0, some ⟨174, 2⟩)], [(0, [.run (.pair (.int .u32) (.int .i64)) b0_0])], 1⟩ [(decide ((i : Int) > 0)) = true, (0 : Int) ≤ i ∧ i < (((b0_0).length : Nat) : Int), (0 : Int) ≤ (IntKind.wrap .i64 (i - 1)) ∧ (IntKind.wrap .i64 (i - 1)) < (((b0_0).length : Nat) : Int), (decide ((((b0_0.getD i.toNat (0, 0)).1) : Int) < ((b0_0.getD ((IntKind.wrap .i64 (i - 1)).toNat) (0, 0)).1))) = false] (by kernel_rfl) ⟨b220_2, g220_0, g220_1, b220_e0, trivial⟩ ?_
        have h := Option.some.inj h
        subst h
        exact hk
    · refine At.step hm ht ⟨[(2, .b false)], [false], [], [12], [0]⟩ 10 ⟨[(12, .one (.c (.row 0 (.pair (.int .u32) (.int .i64)))))], [(0, some ⟨174, 2⟩)], [(0, [.run (.pair (.int .u32) (.int .i64)) b0_0])], 1⟩ [(decide ((i : Int) > 0)) = false, false = false] (by kernel_rfl) ⟨b220_2, rfl, trivial⟩ ?_
      have h := Option.some.inj h
      subst h
      exact hk
def f60_broughamref40_Put (n : Nat) (l : List (Int × Int)) (name : Int) (value : Int) (most : Int) : Option ((List (Int × Int)) × Bool) :=
  (f59_broughamref40_Get n l name).bind fun r214_0 =>
  if (!r214_0.2) = true then
    if (decide ((((l.length : Nat) : Int) : Int) ≥ most)) = true then
      some (l, false)
    else
      (f58_broughamref40_Delete n l name).bind fun r217_0 =>
      if ([] : List (Int × Int)).length + r217_0.1.length ≤ maxLen ∧ (([] : List (Int × Int)).length + r217_0.1.length) * 16 ≤ 140737488355328 then
      if r217_0.1.length + [(name, value)].length ≤ maxLen ∧ (r217_0.1.length + [(name, value)].length) * 16 ≤ 140737488355328 then
      (f60_broughamref40_Put_L7 n (IntKind.wrap .i64 ((((r217_0.1 ++ [(name, value)]).length : Nat) : Int) - 1)) (r217_0.1 ++ [(name, value)])).bind fun w223 =>
      some (w223, true)
      else none
      else none
  else
    (f58_broughamref40_Delete n l name).bind fun r226_0 =>
    if ([] : List (Int × Int)).length + r226_0.1.length ≤ maxLen ∧ (([] : List (Int × Int)).length + r226_0.1.length) * 16 ≤ 140737488355328 then
    if r226_0.1.length + [(name, value)].length ≤ maxLen ∧ (r226_0.1.length + [(name, value)].length) * 16 ≤ 140737488355328 then
    (f60_broughamref40_Put_L7 n (IntKind.wrap .i64 ((((r226_0.1 ++ [(name, value)]).length : Nat) : Int) - 1)) (r226_0.1 ++ [(name, value)])).bind fun w229 =>
    some (w229, true)
    else none
    else none
theorem f60_broughamref40_Put_ok (n : Nat) (l : List (Int × Int)) (name : Int) (value : Int) (most : Int) (r : (List (Int × Int)) × Bool) (h : f60_broughamref40_Put n l name value most = some r) : FnOK Go.Proofs.Try.prog 60 (f60_broughamref40_Put_in l name value most) (f60_broughamref40_Put_out r) := by
  unfold f60_broughamref40_Put at h
  refine At.fn (r := 0) Go.Proofs.Try.func60 rfl (by kernel_rfl) rfl rfl (by kernel_rfl) ?_
  show At Go.Proofs.Try.prog Go.Proofs.Try.f60 0 0 ⟨[(0, .one (.c (.d (.sl (.pair (.int .u32) (.int .i64)) l)))), (1, .one (.c (.d (.int .u32 name)))), (2, .one (.c (.d (.int .i64 value)))), (3, .one (.c (.d (.int .i64 most))))], [], [], 0⟩ _
  refine At.step hm ht ⟨[], [], [], [0, 1, 2, 3], []⟩ 1 ⟨[(0, .one (.c (.d (.sl (.pair (.int .u32) (.int .i64)) l)))), (1, .one (.c (.d (.int .u32 name)))), (2, .one (.c (.d (.int .i64 value)))), (3, .one (.c (.d (.int .i64 most))))], [], [], 0⟩ [] (by kernel_rfl) trivial ?_
  obtain ⟨r214_0, cr214_0, h⟩ := bindS h
  refine At.step hm ht ⟨[(2, .call [] [] (f59_broughamref40_Get_out r214_0))], [], [], [0, 1, 2, 3, 11], []⟩ 2 ⟨[(0, .one (.c (.d (.sl (.pair (.int .u32) (.int .i64)) l)))), (1, .one (.c (.d (.int .u32 name)))), (2, .one (.c (.d (.int .i64 value)))), (3, .one (.c (.d (.int .i64 most)))), (11, .one (.c (.d (.bool r214_0.2))))], [], [], 0⟩ [FnOK Go.Proofs.Try.prog 59 (f59_broughamref40_Get_in l name) (f59_broughamref40_Get_out r214_0)] (by kernel_rfl) ⟨(f59_broughamref40_Get_ok n l name r214_0 cr214_0), trivial⟩ ?_
  rcases iteS h with ⟨b215_2, h⟩ | ⟨b215_2, h⟩
  · rcases iteS h with ⟨b215_e0, h⟩ | ⟨b215_e0, h⟩
    · refine At.step hm ht ⟨[(2, .b true)], [true], [], [0], []⟩ 3 ⟨[(0, .one (.c (.d (.sl (.pair (.int .u32) (.int .i64)) l))))], [], [], 0⟩ [(!r214_0.2) = true, (decide ((((l.length : Nat) : Int) : Int) ≥ most)) = true] (by kernel_rfl) ⟨b215_2, b215_e0, trivial⟩ ?_
      have h := Option.some.inj h
      subst h
      exact At.fin hm ht ⟨[], [], [], [8, 9], []⟩ [] (by kernel_rfl) trivial
    · refine At.step hm ht ⟨[(2, .b true)], [false], [], [0, 1, 2], []⟩ 4 ⟨[(0, .one (.c (.d (.sl (.pair (.int .u32) (.int .i64)) l)))), (1, .one (.c (.d (.int .u32 name)))), (2, .one (.c (.d (.int .i64 value))))], [], [], 0⟩ [(!r214_0.2) = true, (decide ((((l.length : Nat) : Int) : Int) ≥ most)) = false] (by kernel_rfl) ⟨b215_2, b215_e0, trivial⟩ ?_
      obtain ⟨r217_0, cr217_0, h⟩ := bindS h
      refine At.step hm ht ⟨[(2, .call [] [] (f58_broughamref40_Delete_out r217_0))], [], [], [0, 1, 2], [2]⟩ 5 ⟨[(0, .one (.c (.own 0 (.pair (.int .u32) (.int .i64)) r217_0.1))), (1, .one (.c (.d (.int .u32 name)))), (2, .one (.c (.d (.int .i64 value))))], [(0, some ⟨174, 0⟩)], [], 1⟩ [FnOK Go.Proofs.Try.prog 58 (f58_broughamref40_Delete_in l name) (f58_broughamref40_Delete_out r217_0)] (by kernel_rfl) ⟨(f58_broughamref40_Delete_ok n l name r217_0 cr217_0), trivial⟩ ?_
      obtain ⟨g218_0, h⟩ := ifS h
      obtain ⟨g218_1, h⟩ := ifS h
      refine At.step hm ht ⟨[(0, .row)], [], [], [12], [8]⟩ 6 ⟨[(12, .one (.c (.row 0 (.pair (.int .u32) (.int .i64)))))], [(0, some ⟨174, 2⟩)], [(0, [.run (.pair (.int .u32) (.int .i64)) (r217_0.1 ++ [(name, value)])])], 1⟩ [([] : List (Int × Int)).length + r217_0.1.length ≤ maxLen ∧ (([] : List (Int × Int)).length + r217_0.1.length) * 16 ≤ 140737488355328, r217_0.1.length + [(name, value)].length ≤ maxLen ∧ (r217_0.1.length + [(name, value)].length) * 16 ≤ 140737488355328] (by kernel_rfl) ⟨g218_0, g218_1, trivial⟩ ?_
      refine At.step hm ht ⟨[], [], [], [12, 13], [0]⟩ 7 ⟨[(12, .one (.c (.row 0 (.pair (.int .u32) (.int .i64))))), (13, .one (.c (.d (.int .i64 (IntKind.wrap .i64 ((((r217_0.1 ++ [(name, value)]).length : Nat) : Int) - 1))))))], [(0, some ⟨174, 2⟩)], [(0, [.run (.pair (.int .u32) (.int .i64)) (r217_0.1 ++ [(name, value)])])], 1⟩ [] (by kernel_rfl) trivial ?_
      obtain ⟨w223, cw223, h⟩ := bindS h
      refine f60_broughamref40_Put_L7_ok n (IntKind.wrap .i64 ((((r217_0.1 ++ [(name, value)]).length : Nat) : Int) - 1)) (r217_0.1 ++ [(name, value)]) w223 cw223 _ ?_
      show At Go.Proofs.Try.prog Go.Proofs.Try.f60 0 10 ⟨[(12, .one (.c (.row 0 (.pair (.int .u32) (.int .i64)))))], [(0, some ⟨174, 2⟩)], [(0, [.run (.pair (.int .u32) (.int .i64)) w223])], 1⟩ _
      have h := Option.some.inj h
      subst h
      exact At.fin hm ht ⟨[], [], [.pub 0 false], [8, 9], []⟩ [] (by kernel_rfl) trivial
  · refine At.step hm ht ⟨[(2, .b false)], [false], [], [0, 1, 2], []⟩ 4 ⟨[(0, .one (.c (.d (.sl (.pair (.int .u32) (.int .i64)) l)))), (1, .one (.c (.d (.int .u32 name)))), (2, .one (.c (.d (.int .i64 value))))], [], [], 0⟩ [(!r214_0.2) = false, false = false] (by kernel_rfl) ⟨b215_2, rfl, trivial⟩ ?_
    obtain ⟨r226_0, cr226_0, h⟩ := bindS h
    refine At.step hm ht ⟨[(2, .call [] [] (f58_broughamref40_Delete_out r226_0))], [], [], [0, 1, 2], [2]⟩ 5 ⟨[(0, .one (.c (.own 0 (.pair (.int .u32) (.int .i64)) r226_0.1))), (1, .one (.c (.d (.int .u32 name)))), (2, .one (.c (.d (.int .i64 value))))], [(0, some ⟨174, 0⟩)], [], 1⟩ [FnOK Go.Proofs.Try.prog 58 (f58_broughamref40_Delete_in l name) (f58_broughamref40_Delete_out r226_0)] (by kernel_rfl) ⟨(f58_broughamref40_Delete_ok n l name r226_0 cr226_0), trivial⟩ ?_
    obtain ⟨g227_0, h⟩ := ifS h
    obtain ⟨g227_1, h⟩ := ifS h
    refine At.step hm ht ⟨[(0, .row)], [], [], [12], [8]⟩ 6 ⟨[(12, .one (.c (.row 0 (.pair (.int .u32) (.int .i64)))))], [(0, some ⟨174, 2⟩)], [(0, [.run (.pair (.int .u32) (.int .i64)) (r226_0.1 ++ [(name, value)])])], 1⟩ [([] : List (Int × Int)).length + r226_0.1.length ≤ maxLen ∧ (([] : List (Int × Int)).length + r226_0.1.length) * 16 ≤ 140737488355328, r226_0.1.length + [(name, value)].length ≤ maxLen ∧ (r226_0.1.length + [(name, value)].length) * 16 ≤ 140737488355328] (by kernel_rfl) ⟨g227_0, g227_1, trivial⟩ ?_
    refine At.step hm ht ⟨[], [], [], [12, 13], [0]⟩ 7 ⟨[(12, .one (.c (.row 0 (.pair (.int .u32) (.int .i64))))), (13, .one (.c (.d (.int .i64 (IntKind.wrap .i64 ((((r226_0.1 ++ [(name, value)]).length : Nat) : Int) - 1))))))], [(0, some ⟨174, 2⟩)], [(0, [.run (.pair (.int .u32) (.int .i64)) (r226_0.1 ++ [(name, value)])])], 1⟩ [] (by kernel_rfl) trivial ?_
    obtain ⟨w229, cw229, h⟩ := bindS h
    refine f60_broughamref40_Put_L7_ok n (IntKind.wrap .i64 ((((r226_0.1 ++ [(name, value)]).length : Nat) : Int) - 1)) (r226_0.1 ++ [(name, value)]) w229 cw229 _ ?_
    show At Go.Proofs.Try.prog Go.Proofs.Try.f60 0 10 ⟨[(12, .one (.c (.row 0 (.pair (.int .u32) (.int .i64)))))], [(0, some ⟨174, 2⟩)], [(0, [.run (.pair (.int .u32) (.int .i64)) w229])], 1⟩ _
    have h := Option.some.inj h
    subst h
    exact At.fin hm ht ⟨[], [], [.pub 0 false], [8, 9], []⟩ [] (by kernel_rfl) trivial
/-! (*brougham/table.Table).lay -/
def f98_table_Table_lay_in (name : Int) (value : Int) (t_0 : Int) (t_1 : Int) (t_3 : Int) (t_4 : Int) (t_5 : Int) (b1_0 : List (Int × Int × Int)) : Inn := ⟨[.c (.ptr 0 0), .c (.d (.int .u32 name)), .c (.d (.int .i64 value))], [(1, ⟨169, 2⟩)], [(0, [.d (.int .u64 t_0), .d (.int .u64 t_1), .row 1 (.pair (.int .u8) (.pair (.int .u32) (.int .i64))), .d (.int .i64 t_3), .d (.int .i64 t_4), .d (.int .i64 t_5)]), (1, [.run (.pair (.int .u8) (.pair (.int .u32) (.int .i64))) b1_0])], 2⟩
def f98_table_Table_lay_out (r : Int × Int × Int × Int × Int × List (Int × Int × Int)) : Out := ⟨.tup [], [(1, ⟨169, 2⟩)], [(0, [.d (.int .u64 r.1), .d (.int .u64 r.2.1), .row 1 (.pair (.int .u8) (.pair (.int .u32) (.int .i64))), .d (.int .i64 r.2.2.1), .d (.int .i64 r.2.2.2.1), .d (.int .i64 r.2.2.2.2.1)]), (1, [.run (.pair (.int .u8) (.pair (.int .u32) (.int .i64))) r.2.2.2.2.2])], 2⟩
def f98_table_Table_lay_L1 : Nat → Int → Int → Int → Int → Int → Int → Int → Int → (List (Int × Int × Int)) → Option (Int × Int × Int × Int × Int × Int × Int × Int × List (Int × Int × Int))
  | 0, _, _, _, _, _, _, _, _, _ => none
  | n + 1, name, value, at_, t_0, t_1, t_3, t_4, t_5, b1_0 =>
    if (0 : Int) ≤ at_ ∧ at_ < (((b1_0).length : Nat) : Int) then
    if ((((b1_0.getD at_.toNat (0, (0, 0))).1) : Int) == 1) = true then
      if (((b1_0.length : Nat) : Int) : Int) ≠ 0 then
      f98_table_Table_lay_L1 n name value (Int.tmod (IntKind.wrap .i64 (at_ + 1)) ((b1_0.length : Nat) : Int)) t_0 t_1 t_3 t_4 t_5 b1_0
      else none
    else
      some ((name, value, at_, t_0, t_1, t_3, t_4, t_5, b1_0))
    else none
def f98_table_Table_lay_L1_k (e : Int × Int × Int × Int × Int × Int × Int × Int × List (Int × Int × Int)) (o : Out) : Prop := At Go.Proofs.Try.prog Go.Proofs.Try.f98 2 3 ⟨[(0, .one (.c (.ptr 0 0))), (1, .one (.c (.d (.int .u32 e.1)))), (2, .one (.c (.d (.int .i64 e.2.1)))), (6, .one (.c (.d (.int .i64 e.2.2.1))))], [(1, some ⟨169, 2⟩)], [(0, [.d (.int .u64 e.2.2.2.1), .d (.int .u64 e.2.2.2.2.1), .row 1 (.pair (.int .u8) (.pair (.int .u32) (.int .i64))), .d (.int .i64 e.2.2.2.2.2.1), .d (.int .i64 e.2.2.2.2.2.2.1), .d (.int .i64 e.2.2.2.2.2.2.2.1)]), (1, [.run (.pair (.int .u8) (.pair (.int .u32) (.int .i64))) e.2.2.2.2.2.2.2.2])], 2⟩ o
theorem f98_table_Table_lay_L1_ok (n : Nat) : ∀ (name : Int) (value : Int) (at_ : Int) (t_0 : Int) (t_1 : Int) (t_3 : Int) (t_4 : Int) (t_5 : Int) (b1_0 : List (Int × Int × Int)) (w : Int × Int × Int × Int × Int × Int × Int × Int × List (Int × Int × Int)) (h : f98_table_Table_lay_L1 n name value at_ t_0 t_1 t_3 t_4 t_5 b1_0 = some w) (o : Out) (hk : f98_table_Table_lay_L1_k w o), At Go.Proofs.Try.prog Go.Proofs.Try.f98 2 1 ⟨[(0, .one (.c (.ptr 0 0))), (1, .one (.c (.d (.int .u32 name)))), (2, .one (.c (.d (.int .i64 value)))), (6, .one (.c (.d (.int .i64 at_))))], [(1, some ⟨169, 2⟩)], [(0, [.d (.int .u64 t_0), .d (.int .u64 t_1), .row 1 (.pair (.int .u8) (.pair (.int .u32) (.int .i64))), .d (.int .i64 t_3), .d (.int .i64 t_4), .d (.int .i64 t_5)]), (1, [.run (.pair (.int .u8) (.pair (.int .u32) (.int .i64))) b1_0])], 2⟩ o := by
  induction n with
  | zero => intro name value at_ t_0 t_1 t_3 t_4 t_5 b1_0 w h; rw [f98_table_Table_lay_L1] at h; cases h
  | succ n ih =>
    intro name value at_ t_0 t_1 t_3 t_4 t_5 b1_0 w h o hk
    rw [f98_table_Table_lay_L1] at h
    obtain ⟨g253_0, h⟩ := ifS h
    rcases iteS h with ⟨b253_e0, h⟩ | ⟨b253_e0, h⟩
    · refine At.step hm ht ⟨[], [true], [], [0, 1, 2, 6], [0, 1]⟩ 2 ⟨[(0, .one (.c (.ptr 0 0))), (1, .one (.c (.d (.int .u32 name)))), (2, .one (.c (.d (.int .i64 value)))), (6, .one (.c (.d (.int .i64 at_))))], [(1, some ⟨169, 2⟩)], [(0, [.d (.int .u64 t_0), .d (.int .u64 t_1), .row 1 (.pair (.int .u8) (.pair (.int .u32) (.int .i64))), .d (.int .i64 t_3), .d (.int .i64 t_4), .d (.int .i64 t_5)]), (1, [.run (.pair (.int .u8) (.pair (.int .u32) (.int .i64))) b1_0])], 2⟩ [(0 : Int) ≤ at_ ∧ at_ < (((b1_0).length : Nat) : Int), ((((b1_0.getD at_.toNat (0, (0, 0))).1) : Int) == 1) = true] (by kernel_rfl) ⟨g253_0, b253_e0, trivial⟩ ?_
      obtain ⟨g254_0, h⟩ := ifS h
      refine At.step hm ht ⟨[], [], [], [0, 1, 2, 6], [0, 1]⟩ 1 ⟨[(0, .one (.c (.ptr 0 0))), (1, .one (.c (.d (.int .u32 name)))), (2, .one (.c (.d (.int .i64 value)))), (6, .one (.c (.d (.int .i64 (Int.tmod (IntKind.wrap .i64 (at_ + 1)) ((b1_0.length : Nat) : Int))))))], [(1, some ⟨169, 2⟩)], [(0, [.d (.int .u64 t_0), .d (.int .u64 t_1), .row 1 (.pair (.int .u8) (.pair (.int .u32) (.int .i64))), .d (.int .i64 t_3), .d (.int .i64 t_4), .d (.int .i64 t_5)]), (1, [.run (.pair (.int .u8) (.pair (.int .u32) (.int .i64))) b1_0])], 2⟩ [(((b1_0.length : Nat) : Int) : Int) ≠ 0] (by kernel_rfl) ⟨g254_0, trivial⟩ ?_
      exact ih name value (Int.tmod (IntKind.wrap .i64 (at_ + 1)) ((b1_0.length : Nat) : Int)) t_0 t_1 t_3 t_4 t_5 b1_0 w h o hk
    · refine At.step hm ht ⟨[], [false], [], [0, 1, 2, 6], [0, 1]⟩ 3 ⟨[(0, .one (.c (.ptr 0 0))), (1, .one (.c (.d (.int .u32 name)))), (2, .one (.c (.d (.int .i64 value)))), (6, .one (.c (.d (.int .i64 at_))))], [(1, some ⟨169, 2⟩)], [(0, [.d (.int .u64 t_0), .d (.int .u64 t_1), .row 1 (.pair (.int .u8) (.pair (.int .u32) (.int .i64))), .d (.int .i64 t_3), .d (.int .i64 t_4), .d (.int .i64 t_5)]), (1, [.run (.pair (.int .u8) (.pair (.int .u32) (.int .i64))) b1_0])], 2⟩ [(0 : Int) ≤ at_ ∧ at_ < (((b1_0).length : Nat) : Int), ((((b1_0.getD at_.toNat (0, (0, 0))).1) : Int) == 1) = false] (by kernel_rfl) ⟨g253_0, b253_e0, trivial⟩ ?_
      have h := Option.some.inj h
      subst h
      exact hk
def f98_table_Table_lay (n : Nat) (name : Int) (value : Int) (t_0 : Int) (t_1 : Int) (t_3 : Int) (t_4 : Int) (t_5 : Int) (b1_0 : List (Int × Int × Int)) : Option (Int × Int × Int × Int × Int × List (Int × Int × Int)) :=
  (f129_table_Table_home n name t_0 t_1 t_3 t_4 t_5 b1_0).bind fun r252_0 =>
  (f98_table_Table_lay_L1 n name value r252_0.1 r252_0.2.1 r252_0.2.2.1 r252_0.2.2.2.1 r252_0.2.2.2.2.1 r252_0.2.2.2.2.2.1 r252_0.2.2.2.2.2.2).bind fun w255 =>
  if (0 : Int) ≤ w255.2.2.1 ∧ w255.2.2.1 < (((w255.2.2.2.2.2.2.2.2).length : Nat) : Int) then
  if ((((w255.2.2.2.2.2.2.2.2.getD w255.2.2.1.toNat (0, (0, 0))).1) : Int) == 0) = true then
    if (0 : Int) ≤ w255.2.2.1 ∧ w255.2.2.1 < (((w255.2.2.2.2.2.2.2.2).length : Nat) : Int) then
    some (w255.2.2.2.1, w255.2.2.2.2.1, (IntKind.wrap .i64 (w255.2.2.2.2.2.1 + 1)), (IntKind.wrap .i64 (w255.2.2.2.2.2.2.1 + 1)), w255.2.2.2.2.2.2.2.1, (w255.2.2.2.2.2.2.2.2.set w255.2.2.1.toNat (1, (w255.1, w255.2.1))))
    else none
  else
    if (0 : Int) ≤ w255.2.2.1 ∧ w255.2.2.1 < (((w255.2.2.2.2.2.2.2.2).length : Nat) : Int) then
    some (w255.2.2.2.1, w255.2.2.2.2.1, (IntKind.wrap .i64 (w255.2.2.2.2.2.1 + 1)), w255.2.2.2.2.2.2.1, w255.2.2.2.2.2.2.2.1, (w255.2.2.2.2.2.2.2.2.set w255.2.2.1.toNat (1, (w255.1, w255.2.1))))
    else none
  else none
theorem f98_table_Table_lay_ok (n : Nat) (name : Int) (value : Int) (t_0 : Int) (t_1 : Int) (t_3 : Int) (t_4 : Int) (t_5 : Int) (b1_0 : List (Int × Int × Int)) (r : Int × Int × Int × Int × Int × List (Int × Int × Int)) (h : f98_table_Table_lay n name value t_0 t_1 t_3 t_4 t_5 b1_0 = some r) : FnOK Go.Proofs.Try.prog 98 (f98_table_Table_lay_in name value t_0 t_1 t_3 t_4 t_5 b1_0) (f98_table_Table_lay_out r) := by
  unfold f98_table_Table_lay at h
  refine At.fn (r := 0) Go.Proofs.Try.func98 rfl (by kernel_rfl) rfl rfl (by kernel_rfl) ?_
  show At Go.Proofs.Try.prog Go.Proofs.Try.f98 2 0 ⟨[(0, .one (.c (.ptr 0 0))), (1, .one (.c (.d (.int .u32 name)))), (2, .one (.c (.d (.int .i64 value))))], [(1, some ⟨169, 2⟩)], [(0, [.d (.int .u64 t_0), .d (.int .u64 t_1), .row 1 (.pair (.int .u8) (.pair (.int .u32) (.int .i64))), .d (.int .i64 t_3), .d (.int .i64 t_4), .d (.int .i64 t_5)]), (1, [.run (.pair (.int .u8) (.pair (.int .u32) (.int .i64))) b1_0])], 2⟩ _
  obtain ⟨r252_0, cr252_0, h⟩ := bindS h
  refine At.step hm ht ⟨[(2, .call [0, 1] [] (f129_table_Table_home_out r252_0))], [], [], [0, 1, 2, 6], [0, 1]⟩ 1 ⟨[(0, .one (.c (.ptr 0 0))), (1, .one (.c (.d (.int .u32 name)))), (2, .one (.c (.d (.int .i64 value)))), (6, .one (.c (.d (.int .i64 r252_0.1))))], [(1, some ⟨169, 2⟩)], [(0, [.d (.int .u64 r252_0.2.1), .d (.int .u64 r252_0.2.2.1), .row 1 (.pair (.int .u8) (.pair (.int .u32) (.int .i64))), .d (.int .i64 r252_0.2.2.2.1), .d (.int .i64 r252_0.2.2.2.2.1), .d (.int .i64 r252_0.2.2.2.2.2.1)]), (1, [.run (.pair (.int .u8) (.pair (.int .u32) (.int .i64))) r252_0.2.2.2.2.2.2])], 2⟩ [FnOK Go.Proofs.Try.prog 129 (f129_table_Table_home_in name t_0 t_1 t_3 t_4 t_5 b1_0) (f129_table_Table_home_out r252_0)] (by kernel_rfl) ⟨(f129_table_Table_home_ok n name t_0 t_1 t_3 t_4 t_5 b1_0 r252_0 cr252_0), trivial⟩ ?_
  obtain ⟨w255, cw255, h⟩ := bindS h
  refine f98_table_Table_lay_L1_ok n name value r252_0.1 r252_0.2.1 r252_0.2.2.1 r252_0.2.2.2.1 r252_0.2.2.2.2.1 r252_0.2.2.2.2.2.1 r252_0.2.2.2.2.2.2 w255 cw255 _ ?_
  show At Go.Proofs.Try.prog Go.Proofs.Try.f98 2 3 ⟨[(0, .one (.c (.ptr 0 0))), (1, .one (.c (.d (.int .u32 w255.1)))), (2, .one (.c (.d (.int .i64 w255.2.1)))), (6, .one (.c (.d (.int .i64 w255.2.2.1))))], [(1, some ⟨169, 2⟩)], [(0, [.d (.int .u64 w255.2.2.2.1), .d (.int .u64 w255.2.2.2.2.1), .row 1 (.pair (.int .u8) (.pair (.int .u32) (.int .i64))), .d (.int .i64 w255.2.2.2.2.2.1), .d (.int .i64 w255.2.2.2.2.2.2.1), .d (.int .i64 w255.2.2.2.2.2.2.2.1)]), (1, [.run (.pair (.int .u8) (.pair (.int .u32) (.int .i64))) w255.2.2.2.2.2.2.2.2])], 2⟩ _
  obtain ⟨g257_0, h⟩ := ifS h
  rcases iteS h with ⟨b257_e0, h⟩ | ⟨b257_e0, h⟩
  · refine At.step hm ht ⟨[], [true], [], [0, 1, 2, 6], [0, 1]⟩ 4 ⟨[(0, .one (.c (.ptr 0 0))), (1, .one (.c (.d (.int .u32 w255.1)))), (2, .one (.c (.d (.int .i64 w255.2.1)))), (6, .one (.c (.d (.int .i64 w255.2.2.1))))], [(1, some ⟨169, 2⟩)], [(0, [.d (.int .u64 w255.2.2.2.1), .d (.int .u64 w255.2.2.2.2.1), .row 1 (.pair (.int .u8) (.pair (.int .u32) (.int .i64))), .d (.int .i64 w255.2.2.2.2.2.1), .d (.int .i64 w255.2.2.2.2.2.2.1), .d (.int .i64 w255.2.2.2.2.2.2.2.1)]), (1, [.run (.pair (.int .u8) (.pair (.int .u32) (.int .i64))) w255.2.2.2.2.2.2.2.2])], 2⟩ [(0 : Int) ≤ w255.2.2.1 ∧ w255.2.2.1 < (((w255.2.2.2.2.2.2.2.2).length : Nat) : Int), ((((w255.2.2.2.2.2.2.2.2.getD w255.2.2.1.toNat (0, (0, 0))).1) : Int) == 0) = true] (by kernel_rfl) ⟨g257_0, b257_e0, trivial⟩ ?_
    refine At.step hm ht ⟨[], [], [], [0, 1, 2, 6], [0, 1]⟩ 5 ⟨[(0, .one (.c (.ptr 0 0))), (1, .one (.c (.d (.int .u32 w255.1)))), (2, .one (.c (.d (.int .i64 w255.2.1)))), (6, .one (.c (.d (.int .i64 w255.2.2.1))))], [(1, some ⟨169, 2⟩)], [(0, [.d (.int .u64 w255.2.2.2.1), .d (.int .u64 w255.2.2.2.2.1), .row 1 (.pair (.int .u8) (.pair (.int .u32) (.int .i64))), .d (.int .i64 w255.2.2.2.2.2.1), .d (.int .i64 (IntKind.wrap .i64 (w255.2.2.2.2.2.2.1 + 1))), .d (.int .i64 w255.2.2.2.2.2.2.2.1)]), (1, [.run (.pair (.int .u8) (.pair (.int .u32) (.int .i64))) w255.2.2.2.2.2.2.2.2])], 2⟩ [4 + 1 ≤ 6] (by kernel_rfl) ⟨(by decide), trivial⟩ ?_
    obtain ⟨g259_0, h⟩ := ifS h
    refine At.step hm ht ⟨[], [], [], [0], [0, 1]⟩ 6 ⟨[(0, .one (.c (.ptr 0 0)))], [(1, some ⟨169, 2⟩)], [(0, [.d (.int .u64 w255.2.2.2.1), .d (.int .u64 w255.2.2.2.2.1), .row 1 (.pair (.int .u8) (.pair (.int .u32) (.int .i64))), .d (.int .i64 w255.2.2.2.2.2.1), .d (.int .i64 (IntKind.wrap .i64 (w255.2.2.2.2.2.2.1 + 1))), .d (.int .i64 w255.2.2.2.2.2.2.2.1)]), (1, [.run (.pair (.int .u8) (.pair (.int .u32) (.int .i64))) (w255.2.2.2.2.2.2.2.2.set w255.2.2.1.toNat (1, (w255.1, w255.2.1)))])], 2⟩ [(0 : Int) ≤ w255.2.2.1 ∧ w255.2.2.1 < (((w255.2.2.2.2.2.2.2.2).length : Nat) : Int)] (by kernel_rfl) ⟨g259_0, trivial⟩ ?_
    have h := Option.some.inj h
    subst h
    exact At.fin hm ht ⟨[], [], [], [], [0, 1]⟩ [3 + 1 ≤ 6] (by kernel_rfl) ⟨(by decide), trivial⟩
  · refine At.step hm ht ⟨[], [false], [], [0, 1, 2, 6], [0, 1]⟩ 5 ⟨[(0, .one (.c (.ptr 0 0))), (1, .one (.c (.d (.int .u32 w255.1)))), (2, .one (.c (.d (.int .i64 w255.2.1)))), (6, .one (.c (.d (.int .i64 w255.2.2.1))))], [(1, some ⟨169, 2⟩)], [(0, [.d (.int .u64 w255.2.2.2.1), .d (.int .u64 w255.2.2.2.2.1), .row 1 (.pair (.int .u8) (.pair (.int .u32) (.int .i64))), .d (.int .i64 w255.2.2.2.2.2.1), .d (.int .i64 w255.2.2.2.2.2.2.1), .d (.int .i64 w255.2.2.2.2.2.2.2.1)]), (1, [.run (.pair (.int .u8) (.pair (.int .u32) (.int .i64))) w255.2.2.2.2.2.2.2.2])], 2⟩ [(0 : Int) ≤ w255.2.2.1 ∧ w255.2.2.1 < (((w255.2.2.2.2.2.2.2.2).length : Nat) : Int), ((((w255.2.2.2.2.2.2.2.2.getD w255.2.2.1.toNat (0, (0, 0))).1) : Int) == 0) = false] (by kernel_rfl) ⟨g257_0, b257_e0, trivial⟩ ?_
    obtain ⟨g261_0, h⟩ := ifS h
    refine At.step hm ht ⟨[], [], [], [0], [0, 1]⟩ 6 ⟨[(0, .one (.c (.ptr 0 0)))], [(1, some ⟨169, 2⟩)], [(0, [.d (.int .u64 w255.2.2.2.1), .d (.int .u64 w255.2.2.2.2.1), .row 1 (.pair (.int .u8) (.pair (.int .u32) (.int .i64))), .d (.int .i64 w255.2.2.2.2.2.1), .d (.int .i64 w255.2.2.2.2.2.2.1), .d (.int .i64 w255.2.2.2.2.2.2.2.1)]), (1, [.run (.pair (.int .u8) (.pair (.int .u32) (.int .i64))) (w255.2.2.2.2.2.2.2.2.set w255.2.2.1.toNat (1, (w255.1, w255.2.1)))])], 2⟩ [(0 : Int) ≤ w255.2.2.1 ∧ w255.2.2.1 < (((w255.2.2.2.2.2.2.2.2).length : Nat) : Int)] (by kernel_rfl) ⟨g261_0, trivial⟩ ?_
    have h := Option.some.inj h
    subst h
    exact At.fin hm ht ⟨[], [], [], [], [0, 1]⟩ [3 + 1 ≤ 6] (by kernel_rfl) ⟨(by decide), trivial⟩
/-! (*brougham/table.Table).grow -/
def f97_table_Table_grow_in (t_0 : Int) (t_1 : Int) (t_3 : Int) (t_4 : Int) (t_5 : Int) (b1_0 : List (Int × Int × Int)) : Inn := ⟨[.c (.ptr 0 0)], [(1, ⟨169, 2⟩)], [(0, [.d (.int .u64 t_0), .d (.int .u64 t_1), .row 1 (.pair (.int .u8) (.pair (.int .u32) (.int .i64))), .d (.int .i64 t_3), .d (.int .i64 t_4), .d (.int .i64 t_5)]), (1, [.run (.pair (.int .u8) (.pair (.int .u32) (.int .i64))) b1_0])], 2⟩
def f97_table_Table_grow_out (r : Int × Int × Int × Int × Int × (List (Int × Int × Int)) × List (Int × Int × Int)) : Out := ⟨.tup [], [(1, ⟨169, 2⟩), (2, ⟨169, 2⟩)], [(0, [.d (.int .u64 r.1), .d (.int .u64 r.2.1), .row 2 (.pair (.int .u8) (.pair (.int .u32) (.int .i64))), .d (.int .i64 r.2.2.1), .d (.int .i64 r.2.2.2.1), .d (.int .i64 r.2.2.2.2.1)]), (1, [.run (.pair (.int .u8) (.pair (.int .u32) (.int .i64))) r.2.2.2.2.2.1]), (2, [.run (.pair (.int .u8) (.pair (.int .u32) (.int .i64))) r.2.2.2.2.2.2])], 3⟩
def f97_table_Table_grow_L6 : Nat → Int → Int → Int → Int → Int → Int → Int → (List (Int × Int × Int)) → (List (Int × Int × Int)) → Option (Int × Int × Int × Int × Int × (List (Int × Int × Int)) × List (Int × Int × Int))
  | 0, _, _, _, _, _, _, _, _, _ => none
  | n + 1, t34, t35, t_0, t_1, t_3, t_4, t_5, b1_0, b2_0 =>
    if (decide ((t35 : Int) < t34)) = true then
      if (0 : Int) ≤ t35 ∧ t35 < (((b1_0).length : Nat) : Int) then
      if ((((b1_0.getD t35.toNat (0, (0, 0))).1) : Int) == 1) = true then
        (f98_table_Table_lay n (((b1_0.getD t35.toNat (0, (0, 0))).2).1) (((b1_0.getD t35.toNat (0, (0, 0))).2).2) t_0 t_1 t_3 t_4 t_5 b2_0).bind fun r251_0 =>
        f97_table_Table_grow_L6 n t34 (IntKind.wrap .i64 (t35 + 1)) r251_0.1 r251_0.2.1 r251_0.2.2.1 r251_0.2.2.2.1 r251_0.2.2.2.2.1 b1_0 r251_0.2.2.2.2.2
      else
        f97_table_Table_grow_L6 n t34 (IntKind.wrap .i64 (t35 + 1)) t_0 t_1 t_3 t_4 t_5 b1_0 b2_0
      else none
    else
      some ((t_0, t_1, t_3, t_4, t_5, b1_0, b2_0))
def f97_table_Table_grow_L6_k (e : Int × Int × Int × Int × Int × (List (Int × Int × Int)) × List (Int × Int × Int)) (o : Out) : Prop := o = f97_table_Table_grow_out e
theorem f97_table_Table_grow_L6_ok (n : Nat) : ∀ (t34 : Int) (t35 : Int) (t_0 : Int) (t_1 : Int) (t_3 : Int) (t_4 : Int) (t_5 : Int) (b1_0 : List (Int × Int × Int)) (b2_0 : List (Int × Int × Int)) (w : Int × Int × Int × Int × Int × (List (Int × Int × Int)) × List (Int × Int × Int)) (h : f97_table_Table_grow_L6 n t34 t35 t_0 t_1 t_3 t_4 t_5 b1_0 b2_0 = some w) (o : Out) (hk : f97_table_Table_grow_L6_k w o), At Go.Proofs.Try.prog Go.Proofs.Try.f97 2 6 ⟨[(0, .one (.c (.ptr 0 0))), (33, .one (.c (.row 1 (.pair (.int .u8) (.pair (.int .u32) (.int .i64)))))), (34, .one (.c (.d (.int .i64 t34)))), (35, .one (.c (.d (.int .i64 t35))))], [(1, some ⟨169, 2⟩), (2, some ⟨169, 2⟩)], [(0, [.d (.int .u64 t_0), .d (.int .u64 t_1), .row 2 (.pair (.int .u8) (.pair (.int .u32) (.int .i64))), .d (.int .i64 t_3), .d (.int .i64 t_4), .d (.int .i64 t_5)]), (1, [.run (.pair (.int .u8) (.pair (.int .u32) (.int .i64))) b1_0]), (2, [.run (.pair (.int .u8) (.pair (.int .u32) (.int .i64))) b2_0])], 3⟩ o := by
  induction n with
  | zero => intro t34 t35 t_0 t_1 t_3 t_4 t_5 b1_0 b2_0 w h; rw [f97_table_Table_grow_L6] at h; cases h
  | succ n ih =>
    intro t34 t35 t_0 t_1 t_3 t_4 t_5 b1_0 b2_0 w h o hk
    rw [f97_table_Table_grow_L6] at h
    rcases iteS h with ⟨b248_e0, h⟩ | ⟨b248_e0, h⟩
    · refine At.step hm ht ⟨[], [true], [], [0, 33, 34, 35], [0, 1, 2]⟩ 7 ⟨[(0, .one (.c (.ptr 0 0))), (33, .one (.c (.row 1 (.pair (.int .u8) (.pair (.int .u32) (.int .i64)))))), (34, .one (.c (.d (.int .i64 t34)))), (35, .one (.c (.d (.int .i64 t35))))], [(1, some ⟨169, 2⟩), (2, some ⟨169, 2⟩)], [(0, [.d (.int .u64 t_0), .d (.int .u64 t_1), .row 2 (.pair (.int .u8) (.pair (.int .u32) (.int .i64))), .d (.int .i64 t_3), .d (.int .i64 t_4), .d (.int .i64 t_5)]), (1, [.run (.pair (.int .u8) (.pair (.int .u32) (.int .i64))) b1_0]), (2, [.run (.pair (.int .u8) (.pair (.int .u32) (.int .i64))) b2_0])], 3⟩ [(decide ((t35 : Int) < t34)) = true] (by kernel_rfl) ⟨b248_e0, trivial⟩ ?_
      obtain ⟨g249_0, h⟩ := ifS h
      refine At.step hm ht ⟨[], [], [], [0, 5, 33, 34, 35], [0, 1, 5, 2]⟩ 8 ⟨[(0, .one (.c (.ptr 0 0))), (5, .one (.c (.ptr 2 0))), (33, .one (.c (.row 1 (.pair (.int .u8) (.pair (.int .u32) (.int .i64)))))), (34, .one (.c (.d (.int .i64 t34)))), (35, .one (.c (.d (.int .i64 t35))))], [(1, some ⟨169, 2⟩), (3, some ⟨169, 2⟩)], [(0, [.d (.int .u64 t_0), .d (.int .u64 t_1), .row 3 (.pair (.int .u8) (.pair (.int .u32) (.int .i64))), .d (.int .i64 t_3), .d (.int .i64 t_4), .d (.int .i64 t_5)]), (1, [.run (.pair (.int .u8) (.pair (.int .u32) (.int .i64))) b1_0]), (2, [.d (.int .u8 ((b1_0.getD t35.toNat (0, (0, 0))).1)), .d (.int .u32 (((b1_0.getD t35.toNat (0, (0, 0))).2).1)), .d (.int .i64 (((b1_0.getD t35.toNat (0, (0, 0))).2).2))]), (3, [.run (.pair (.int .u8) (.pair (.int .u32) (.int .i64))) b2_0])], 4⟩ [(0 : Int) ≤ t35 ∧ t35 < (((b1_0).length : Nat) : Int), 0 + 3 ≤ 3] (by kernel_rfl) ⟨g249_0, (by decide), trivial⟩ ?_
      rcases iteS h with ⟨b250_e0, h⟩ | ⟨b250_e0, h⟩
      · refine At.step hm ht ⟨[], [true], [], [0, 5, 33, 34, 35], [0, 1, 2, 3]⟩ 9 ⟨[(0, .one (.c (.ptr 0 0))), (5, .one (.c (.ptr 2 0))), (33, .one (.c (.row 1 (.pair (.int .u8) (.pair (.int .u32) (.int .i64)))))), (34, .one (.c (.d (.int .i64 t34)))), (35, .one (.c (.d (.int .i64 t35))))], [(1, some ⟨169, 2⟩), (3, some ⟨169, 2⟩)], [(0, [.d (.int .u64 t_0), .d (.int .u64 t_1), .row 3 (.pair (.int .u8) (.pair (.int .u32) (.int .i64))), .d (.int .i64 t_3), .d (.int .i64 t_4), .d (.int .i64 t_5)]), (1, [.run (.pair (.int .u8) (.pair (.int .u32) (.int .i64))) b1_0]), (2, [.d (.int .u8 ((b1_0.getD t35.toNat (0, (0, 0))).1)), .d (.int .u32 (((b1_0.getD t35.toNat (0, (0, 0))).2).1)), .d (.int .i64 (((b1_0.getD t35.toNat (0, (0, 0))).2).2))]), (3, [.run (.pair (.int .u8) (.pair (.int .u32) (.int .i64))) b2_0])], 4⟩ [((((b1_0.getD t35.toNat (0, (0, 0))).1) : Int) == 1) = true] (by kernel_rfl) ⟨b250_e0, trivial⟩ ?_
        obtain ⟨r251_0, cr251_0, h⟩ := bindS h
        refine At.step hm ht ⟨[(5, .call [0, 3] [] (f98_table_Table_lay_out r251_0))], [], [], [0, 33, 34, 35], [0, 1, 3]⟩ 10 ⟨[(0, .one (.c (.ptr 0 0))), (33, .one (.c (.row 1 (.pair (.int .u8) (.pair (.int .u32) (.int .i64)))))), (34, .one (.c (.d (.int .i64 t34)))), (35, .one (.c (.d (.int .i64 t35))))], [(1, some ⟨169, 2⟩), (2, some ⟨169, 2⟩)], [(0, [.d (.int .u64 r251_0.1), .d (.int .u64 r251_0.2.1), .row 2 (.pair (.int .u8) (.pair (.int .u32) (.int .i64))), .d (.int .i64 r251_0.2.2.1), .d (.int .i64 r251_0.2.2.2.1), .d (.int .i64 r251_0.2.2.2.2.1)]), (1, [.run (.pair (.int .u8) (.pair (.int .u32) (.int .i64))) b1_0]), (2, [.run (.pair (.int .u8) (.pair (.int .u32) (.int .i64))) r251_0.2.2.2.2.2])], 3⟩ [FnOK Go.Proofs.Try.prog 98 (f98_table_Table_lay_in (((b1_0.getD t35.toNat (0, (0, 0))).2).1) (((b1_0.getD t35.toNat (0, (0, 0))).2).2) t_0 t_1 t_3 t_4 t_5 b2_0) (f98_table_Table_lay_out r251_0)] (by kernel_rfl) ⟨(f98_table_Table_lay_ok n (((b1_0.getD t35.toNat (0, (0, 0))).2).1) (((b1_0.getD t35.toNat (0, (0, 0))).2).2) t_0 t_1 t_3 t_4 t_5 b2_0 r251_0 cr251_0), trivial⟩ ?_
        refine At.step hm ht ⟨[], [], [], [0, 33, 34, 35], [0, 1, 2]⟩ 6 ⟨[(0, .one (.c (.ptr 0 0))), (33, .one (.c (.row 1 (.pair (.int .u8) (.pair (.int .u32) (.int .i64)))))), (34, .one (.c (.d (.int .i64 t34)))), (35, .one (.c (.d (.int .i64 (IntKind.wrap .i64 (t35 + 1))))))], [(1, some ⟨169, 2⟩), (2, some ⟨169, 2⟩)], [(0, [.d (.int .u64 r251_0.1), .d (.int .u64 r251_0.2.1), .row 2 (.pair (.int .u8) (.pair (.int .u32) (.int .i64))), .d (.int .i64 r251_0.2.2.1), .d (.int .i64 r251_0.2.2.2.1), .d (.int .i64 r251_0.2.2.2.2.1)]), (1, [.run (.pair (.int .u8) (.pair (.int .u32) (.int .i64))) b1_0]), (2, [.run (.pair (.int .u8) (.pair (.int .u32) (.int .i64))) r251_0.2.2.2.2.2])], 3⟩ [] (by kernel_rfl) trivial ?_
        exact ih t34 (IntKind.wrap .i64 (t35 + 1)) r251_0.1 r251_0.2.1 r251_0.2.2.1 r251_0.2.2.2.1 r251_0.2.2.2.2.1 b1_0 r251_0.2.2.2.2.2 w h o hk
      · refine At.step hm ht ⟨[], [false], [], [0, 33, 34, 35], [0, 1, 3]⟩ 10 ⟨[(0, .one (.c (.ptr 0 0))), (33, .one (.c (.row 1 (.pair (.int .u8) (.pair (.int .u32) (.int .i64)))))), (34, .one (.c (.d (.int .i64 t34)))), (35, .one (.c (.d (.int .i64 t35))))], [(1, some ⟨169, 2⟩), (2, some ⟨169, 2⟩)], [(0, [.d (.int .u64 t_0), .d (.int .u64 t_1), .row 2 (.pair (.int .u8) (.pair (.int .u32) (.int .i64))), .d (.int .i64 t_3), .d (.int .i64 t_4), .d (.int .i64 t_5)]), (1, [.run (.pair (.int .u8) (.pair (.int .u32) (.int .i64))) b1_0]), (2, [.run (.pair (.int .u8) (.pair (.int .u32) (.int .i64))) b2_0])], 3⟩ [((((b1_0.getD t35.toNat (0, (0, 0))).1) : Int) == 1) = false] (by kernel_rfl) ⟨b250_e0, trivial⟩ ?_
        refine At.step hm ht ⟨[], [], [], [0, 33, 34, 35], [0, 1, 2]⟩ 6 ⟨[(0, .one (.c (.ptr 0 0))), (33, .one (.c (.row 1 (.pair (.int .u8) (.pair (.int .u32) (.int .i64)))))), (34, .one (.c (.d (.int .i64 t34)))), (35, .one (.c (.d (.int .i64 (IntKind.wrap .i64 (t35 + 1))))))], [(1, some ⟨169, 2⟩), (2, some ⟨169, 2⟩)], [(0, [.d (.int .u64 t_0), .d (.int .u64 t_1), .row 2 (.pair (.int .u8) (.pair (.int .u32) (.int .i64))), .d (.int .i64 t_3), .d (.int .i64 t_4), .d (.int .i64 t_5)]), (1, [.run (.pair (.int .u8) (.pair (.int .u32) (.int .i64))) b1_0]), (2, [.run (.pair (.int .u8) (.pair (.int .u32) (.int .i64))) b2_0])], 3⟩ [] (by kernel_rfl) trivial ?_
        exact ih t34 (IntKind.wrap .i64 (t35 + 1)) t_0 t_1 t_3 t_4 t_5 b1_0 b2_0 w h o hk
    · have h := Option.some.inj h
      subst h
      have hk : o = f97_table_Table_grow_out (t_0, t_1, t_3, t_4, t_5, b1_0, b2_0) := hk
      subst hk
      exact At.fin hm ht ⟨[], [false], [], [], [0, 1, 2]⟩ [(decide ((t35 : Int) < t34)) = false] (by kernel_rfl) ⟨b248_e0, trivial⟩
def f97_table_Table_grow (n : Nat) (t_0 : Int) (t_1 : Int) (t_3 : Int) (t_4 : Int) (t_5 : Int) (b1_0 : List (Int × Int × Int)) : Option (Int × Int × Int × Int × Int × (List (Int × Int × Int)) × List (Int × Int × Int)) :=
  if (decide (((IntKind.wrap .i64 (2 * (IntKind.wrap .i64 (t_3 + 1)))) : Int) > ((b1_0.length : Nat) : Int))) = true then
    if (((IntKind.wrap .i64 (((b1_0.length : Nat) : Int) * 2)) : Int) = (IntKind.wrap .i64 (((b1_0.length : Nat) : Int) * 2)) ∧ (0 : Int) ≤ (IntKind.wrap .i64 (((b1_0.length : Nat) : Int) * 2))) ∧ ((IntKind.wrap .i64 (((b1_0.length : Nat) : Int) * 2)).toNat * 3 ≤ 16777216 ∧ (IntKind.wrap .i64 (((b1_0.length : Nat) : Int) * 2)).toNat * 16 ≤ 16777216) then
    (f97_table_Table_grow_L6 n ((b1_0.length : Nat) : Int) 0 t_0 t_1 0 0 t_5 b1_0 (List.replicate (IntKind.wrap .i64 (((b1_0.length : Nat) : Int) * 2)).toNat (0, (0, 0)))).bind fun w265 =>
    some (w265.1, w265.2.1, w265.2.2.1, w265.2.2.2.1, w265.2.2.2.2.1, w265.2.2.2.2.2.1, w265.2.2.2.2.2.2)
    else none
  else
    if ((((b1_0.length : Nat) : Int) : Int) = ((b1_0.length : Nat) : Int) ∧ (0 : Int) ≤ ((b1_0.length : Nat) : Int)) ∧ (((b1_0.length : Nat) : Int).toNat * 3 ≤ 16777216 ∧ ((b1_0.length : Nat) : Int).toNat * 16 ≤ 16777216) then
    (f97_table_Table_grow_L6 n ((b1_0.length : Nat) : Int) 0 t_0 t_1 0 0 t_5 b1_0 (List.replicate ((b1_0.length : Nat) : Int).toNat (0, (0, 0)))).bind fun w269 =>
    some (w269.1, w269.2.1, w269.2.2.1, w269.2.2.2.1, w269.2.2.2.2.1, w269.2.2.2.2.2.1, w269.2.2.2.2.2.2)
    else none
theorem f97_table_Table_grow_ok (n : Nat) (t_0 : Int) (t_1 : Int) (t_3 : Int) (t_4 : Int) (t_5 : Int) (b1_0 : List (Int × Int × Int)) (r : Int × Int × Int × Int × Int × (List (Int × Int × Int)) × List (Int × Int × Int)) (h : f97_table_Table_grow n t_0 t_1 t_3 t_4 t_5 b1_0 = some r) : FnOK Go.Proofs.Try.prog 97 (f97_table_Table_grow_in t_0 t_1 t_3 t_4 t_5 b1_0) (f97_table_Table_grow_out r) := by
  unfold f97_table_Table_grow at h
  refine At.fn (r := 0) Go.Proofs.Try.func97 rfl (by kernel_rfl) rfl rfl (by kernel_rfl) ?_
  show At Go.Proofs.Try.prog Go.Proofs.Try.f97 2 0 ⟨[(0, .one (.c (.ptr 0 0)))], [(1, some ⟨169, 2⟩)], [(0, [.d (.int .u64 t_0), .d (.int .u64 t_1), .row 1 (.pair (.int .u8) (.pair (.int .u32) (.int .i64))), .d (.int .i64 t_3), .d (.int .i64 t_4), .d (.int .i64 t_5)]), (1, [.run (.pair (.int .u8) (.pair (.int .u32) (.int .i64))) b1_0])], 2⟩ _
  refine At.step hm ht ⟨[], [], [], [0, 2], [0, 1]⟩ 1 ⟨[(0, .one (.c (.ptr 0 0))), (2, .one (.c (.row 1 (.pair (.int .u8) (.pair (.int .u32) (.int .i64))))))], [(1, some ⟨169, 2⟩)], [(0, [.d (.int .u64 t_0), .d (.int .u64 t_1), .row 1 (.pair (.int .u8) (.pair (.int .u32) (.int .i64))), .d (.int .i64 t_3), .d (.int .i64 t_4), .d (.int .i64 t_5)]), (1, [.run (.pair (.int .u8) (.pair (.int .u32) (.int .i64))) b1_0])], 2⟩ [] (by kernel_rfl) trivial ?_
  refine At.step hm ht ⟨[], [], [], [0, 2, 3], [0, 1]⟩ 2 ⟨[(0, .one (.c (.ptr 0 0))), (2, .one (.c (.row 1 (.pair (.int .u8) (.pair (.int .u32) (.int .i64)))))), (3, .one (.c (.d (.int .i64 ((b1_0.length : Nat) : Int)))))], [(1, some ⟨169, 2⟩)], [(0, [.d (.int .u64 t_0), .d (.int .u64 t_1), .row 1 (.pair (.int .u8) (.pair (.int .u32) (.int .i64))), .d (.int .i64 t_3), .d (.int .i64 t_4), .d (.int .i64 t_5)]), (1, [.run (.pair (.int .u8) (.pair (.int .u32) (.int .i64))) b1_0])], 2⟩ [] (by kernel_rfl) trivial ?_
  rcases iteS h with ⟨b244_e0, h⟩ | ⟨b244_e0, h⟩
  · refine At.step hm ht ⟨[], [true], [], [0, 2, 3], [0, 1]⟩ 3 ⟨[(0, .one (.c (.ptr 0 0))), (2, .one (.c (.row 1 (.pair (.int .u8) (.pair (.int .u32) (.int .i64)))))), (3, .one (.c (.d (.int .i64 ((b1_0.length : Nat) : Int)))))], [(1, some ⟨169, 2⟩)], [(0, [.d (.int .u64 t_0), .d (.int .u64 t_1), .row 1 (.pair (.int .u8) (.pair (.int .u32) (.int .i64))), .d (.int .i64 t_3), .d (.int .i64 t_4), .d (.int .i64 t_5)]), (1, [.run (.pair (.int .u8) (.pair (.int .u32) (.int .i64))) b1_0])], 2⟩ [(decide (((IntKind.wrap .i64 (2 * (IntKind.wrap .i64 (t_3 + 1)))) : Int) > ((b1_0.length : Nat) : Int))) = true] (by kernel_rfl) ⟨b244_e0, trivial⟩ ?_
    refine At.step hm ht ⟨[], [], [], [0, 2, 3], [0, 1]⟩ 4 ⟨[(0, .one (.c (.ptr 0 0))), (2, .one (.c (.row 1 (.pair (.int .u8) (.pair (.int .u32) (.int .i64)))))), (3, .one (.c (.d (.int .i64 (IntKind.wrap .i64 (((b1_0.length : Nat) : Int) * 2))))))], [(1, some ⟨169, 2⟩)], [(0, [.d (.int .u64 t_0), .d (.int .u64 t_1), .row 1 (.pair (.int .u8) (.pair (.int .u32) (.int .i64))), .d (.int .i64 t_3), .d (.int .i64 t_4), .d (.int .i64 t_5)]), (1, [.run (.pair (.int .u8) (.pair (.int .u32) (.int .i64))) b1_0])], 2⟩ [] (by kernel_rfl) trivial ?_
    obtain ⟨g246_0, h⟩ := ifS h
    refine At.step hm ht ⟨[(4, .row)], [], [], [0, 2], [0, 1, 6]⟩ 5 ⟨[(0, .one (.c (.ptr 0 0))), (2, .one (.c (.row 1 (.pair (.int .u8) (.pair (.int .u32) (.int .i64))))))], [(1, some ⟨169, 2⟩), (2, some ⟨169, 2⟩)], [(0, [.d (.int .u64 t_0), .d (.int .u64 t_1), .row 2 (.pair (.int .u8) (.pair (.int .u32) (.int .i64))), .d (.int .i64 0), .d (.int .i64 0), .d (.int .i64 t_5)]), (1, [.run (.pair (.int .u8) (.pair (.int .u32) (.int .i64))) b1_0]), (2, [.run (.pair (.int .u8) (.pair (.int .u32) (.int .i64))) ((List.replicate (IntKind.wrap .i64 (((b1_0.length : Nat) : Int) * 2)).toNat (0, (0, 0))) : List (Int × Int × Int))])], 3⟩ [(((IntKind.wrap .i64 (((b1_0.length : Nat) : Int) * 2)) : Int) = (IntKind.wrap .i64 (((b1_0.length : Nat) : Int) * 2)) ∧ (0 : Int) ≤ (IntKind.wrap .i64 (((b1_0.length : Nat) : Int) * 2))) ∧ ((IntKind.wrap .i64 (((b1_0.length : Nat) : Int) * 2)).toNat * 3 ≤ 16777216 ∧ (IntKind.wrap .i64 (((b1_0.length : Nat) : Int) * 2)).toNat * 16 ≤ 16777216), 2 + 1 ≤ 6, 3 + 1 ≤ 6, 4 + 1 ≤ 6] (by kernel_rfl) ⟨g246_0, (by decide), (by decide), (by decide), trivial⟩ ?_
    refine At.step hm ht ⟨[], [], [], [0, 33, 34, 35], [0, 1, 2]⟩ 6 ⟨[(0, .one (.c (.ptr 0 0))), (33, .one (.c (.row 1 (.pair (.int .u8) (.pair (.int .u32) (.int .i64)))))), (34, .one (.c (.d (.int .i64 ((b1_0.length : Nat) : Int))))), (35, .one (.c (.d (.int .i64 0))))], [(1, some ⟨169, 2⟩), (2, some ⟨169, 2⟩)], [(0, [.d (.int .u64 t_0), .d (.int .u64 t_1), .row 2 (.pair (.int .u8) (.pair (.int .u32) (.int .i64))), .d (.int .i64 0), .d (.int .i64 0), .d (.int .i64 t_5)]), (1, [.run (.pair (.int .u8) (.pair (.int .u32) (.int .i64))) b1_0]), (2, [.run (.pair (.int .u8) (.pair (.int .u32) (.int .i64))) ((List.replicate (IntKind.wrap .i64 (((b1_0.length : Nat) : Int) * 2)).toNat (0, (0, 0))) : List (Int × Int × Int))])], 3⟩ [] (by kernel_rfl) trivial ?_
    obtain ⟨w265, cw265, h⟩ := bindS h
    refine f97_table_Table_grow_L6_ok n ((b1_0.length : Nat) : Int) 0 t_0 t_1 0 0 t_5 b1_0 (List.replicate (IntKind.wrap .i64 (((b1_0.length : Nat) : Int) * 2)).toNat (0, (0, 0))) w265 cw265 _ ?_
    have h := Option.some.inj h
    subst h
    rfl
  · refine At.step hm ht ⟨[], [false], [], [0, 2, 3], [0, 1]⟩ 4 ⟨[(0, .one (.c (.ptr 0 0))), (2, .one (.c (.row 1 (.pair (.int .u8) (.pair (.int .u32) (.int .i64)))))), (3, .one (.c (.d (.int .i64 ((b1_0.length : Nat) : Int)))))], [(1, some ⟨169, 2⟩)], [(0, [.d (.int .u64 t_0), .d (.int .u64 t_1), .row 1 (.pair (.int .u8) (.pair (.int .u32) (.int .i64))), .d (.int .i64 t_3), .d (.int .i64 t_4), .d (.int .i64 t_5)]), (1, [.run (.pair (.int .u8) (.pair (.int .u32) (.int .i64))) b1_0])], 2⟩ [(decide (((IntKind.wrap .i64 (2 * (IntKind.wrap .i64 (t_3 + 1)))) : Int) > ((b1_0.length : Nat) : Int))) = false] (by kernel_rfl) ⟨b244_e0, trivial⟩ ?_
    obtain ⟨g267_0, h⟩ := ifS h
    refine At.step hm ht ⟨[(4, .row)], [], [], [0, 2], [0, 1, 6]⟩ 5 ⟨[(0, .one (.c (.ptr 0 0))), (2, .one (.c (.row 1 (.pair (.int .u8) (.pair (.int .u32) (.int .i64))))))], [(1, some ⟨169, 2⟩), (2, some ⟨169, 2⟩)], [(0, [.d (.int .u64 t_0), .d (.int .u64 t_1), .row 2 (.pair (.int .u8) (.pair (.int .u32) (.int .i64))), .d (.int .i64 0), .d (.int .i64 0), .d (.int .i64 t_5)]), (1, [.run (.pair (.int .u8) (.pair (.int .u32) (.int .i64))) b1_0]), (2, [.run (.pair (.int .u8) (.pair (.int .u32) (.int .i64))) ((List.replicate ((b1_0.length : Nat) : Int).toNat (0, (0, 0))) : List (Int × Int × Int))])], 3⟩ [((((b1_0.length : Nat) : Int) : Int) = ((b1_0.length : Nat) : Int) ∧ (0 : Int) ≤ ((b1_0.length : Nat) : Int)) ∧ (((b1_0.length : Nat) : Int).toNat * 3 ≤ 16777216 ∧ ((b1_0.length : Nat) : Int).toNat * 16 ≤ 16777216), 2 + 1 ≤ 6, 3 + 1 ≤ 6, 4 + 1 ≤ 6] (by kernel_rfl) ⟨g267_0, (by decide), (by decide), (by decide), trivial⟩ ?_
    refine At.step hm ht ⟨[], [], [], [0, 33, 34, 35], [0, 1, 2]⟩ 6 ⟨[(0, .one (.c (.ptr 0 0))), (33, .one (.c (.row 1 (.pair (.int .u8) (.pair (.int .u32) (.int .i64)))))), (34, .one (.c (.d (.int .i64 ((b1_0.length : Nat) : Int))))), (35, .one (.c (.d (.int .i64 0))))], [(1, some ⟨169, 2⟩), (2, some ⟨169, 2⟩)], [(0, [.d (.int .u64 t_0), .d (.int .u64 t_1), .row 2 (.pair (.int .u8) (.pair (.int .u32) (.int .i64))), .d (.int .i64 0), .d (.int .i64 0), .d (.int .i64 t_5)]), (1, [.run (.pair (.int .u8) (.pair (.int .u32) (.int .i64))) b1_0]), (2, [.run (.pair (.int .u8) (.pair (.int .u32) (.int .i64))) ((List.replicate ((b1_0.length : Nat) : Int).toNat (0, (0, 0))) : List (Int × Int × Int))])], 3⟩ [] (by kernel_rfl) trivial ?_
    obtain ⟨w269, cw269, h⟩ := bindS h
    refine f97_table_Table_grow_L6_ok n ((b1_0.length : Nat) : Int) 0 t_0 t_1 0 0 t_5 b1_0 (List.replicate ((b1_0.length : Nat) : Int).toNat (0, (0, 0))) w269 cw269 _ ?_
    have h := Option.some.inj h
    subst h
    rfl
/-! (*brougham/table.Table).Put -/
def f52_table_Table_Put_in (name : Int) (value : Int) (t_0 : Int) (t_1 : Int) (t_3 : Int) (t_4 : Int) (t_5 : Int) (b1_0 : List (Int × Int × Int)) : Inn := ⟨[.c (.ptr 0 0), .c (.d (.int .u32 name)), .c (.d (.int .i64 value))], [(1, ⟨169, 2⟩)], [(0, [.d (.int .u64 t_0), .d (.int .u64 t_1), .row 1 (.pair (.int .u8) (.pair (.int .u32) (.int .i64))), .d (.int .i64 t_3), .d (.int .i64 t_4), .d (.int .i64 t_5)]), (1, [.run (.pair (.int .u8) (.pair (.int .u32) (.int .i64))) b1_0])], 2⟩
def f52_table_Table_Put_out (r : Bool × Int × Int × Int × Int × Int × (List (Int × Int × Int)) × List (Int × Int × Int)) : Out := ⟨.one (.c (.d (.bool r.1))), [(2, ⟨169, 2⟩)], [(0, [.d (.int .u64 r.2.1), .d (.int .u64 r.2.2.1), .row 2 (.pair (.int .u8) (.pair (.int .u32) (.int .i64))), .d (.int .i64 r.2.2.2.1), .d (.int .i64 r.2.2.2.2.1), .d (.int .i64 r.2.2.2.2.2.1)]), (1, [.run (.pair (.int .u8) (.pair (.int .u32) (.int .i64))) r.2.2.2.2.2.2.1]), (2, [.run (.pair (.int .u8) (.pair (.int .u32) (.int .i64))) r.2.2.2.2.2.2.2])], 3⟩
def f52_table_Table_Put (n : Nat) (name : Int) (value : Int) (t_0 : Int) (t_1 : Int) (t_3 : Int) (t_4 : Int) (t_5 : Int) (b1_0 : List (Int × Int × Int)) : Option (Bool × Int × Int × Int × Int × Int × (List (Int × Int × Int)) × List (Int × Int × Int)) :=
  (f96_table_Table_find n name t_0 t_1 t_3 t_4 t_5 b1_0).bind fun r274_0 =>
  if (decide ((r274_0.1 : Int) ≥ 0)) = true then
    if (0 : Int) ≤ r274_0.1 ∧ r274_0.1 < (((r274_0.2.2.2.2.2.2).length : Nat) : Int) then
    some (true, r274_0.2.1, r274_0.2.2.1, r274_0.2.2.2.1, r274_0.2.2.2.2.1, r274_0.2.2.2.2.2.1, (r274_0.2.2.2.2.2.2.set r274_0.1.toNat ((r274_0.2.2.2.2.2.2.getD r274_0.1.toNat (0, (0, 0))).1, (((r274_0.2.2.2.2.2.2.getD r274_0.1.toNat (0, (0, 0))).2).1, value))), (r274_0.2.2.2.2.2.2.set r274_0.1.toNat ((r274_0.2.2.2.2.2.2.getD r274_0.1.toNat (0, (0, 0))).1, (((r274_0.2.2.2.2.2.2.getD r274_0.1.toNat (0, (0, 0))).2).1, value))))
    else none
  else
    if (decide ((r274_0.2.2.2.1 : Int) ≥ r274_0.2.2.2.2.2.1)) = true then
      some (false, r274_0.2.1, r274_0.2.2.1, r274_0.2.2.2.1, r274_0.2.2.2.2.1, r274_0.2.2.2.2.2.1, r274_0.2.2.2.2.2.2, r274_0.2.2.2.2.2.2)
    else
      if (decide (((IntKind.wrap .i64 (4 * (IntKind.wrap .i64 (r274_0.2.2.2.2.1 + 1)))) : Int) > (IntKind.wrap .i64 (3 * ((r274_0.2.2.2.2.2.2.length : Nat) : Int))))) = true then
        (f97_table_Table_grow n r274_0.2.1 r274_0.2.2.1 r274_0.2.2.2.1 r274_0.2.2.2.2.1 r274_0.2.2.2.2.2.1 r274_0.2.2.2.2.2.2).bind fun r281_0 =>
        (f98_table_Table_lay n name value r281_0.1 r281_0.2.1 r281_0.2.2.1 r281_0.2.2.2.1 r281_0.2.2.2.2.1 r281_0.2.2.2.2.2.2).bind fun r282_0 =>
        some (true, r282_0.1, r282_0.2.1, r282_0.2.2.1, r282_0.2.2.2.1, r282_0.2.2.2.2.1, r281_0.2.2.2.2.2.1, r282_0.2.2.2.2.2)
      else
        (f98_table_Table_lay n name value r274_0.2.1 r274_0.2.2.1 r274_0.2.2.2.1 r274_0.2.2.2.2.1 r274_0.2.2.2.2.2.1 r274_0.2.2.2.2.2.2).bind fun r284_0 =>
        some (true, r284_0.1, r284_0.2.1, r284_0.2.2.1, r284_0.2.2.2.1, r284_0.2.2.2.2.1, r284_0.2.2.2.2.2, r284_0.2.2.2.2.2)
theorem f52_table_Table_Put_ok (n : Nat) (name : Int) (value : Int) (t_0 : Int) (t_1 : Int) (t_3 : Int) (t_4 : Int) (t_5 : Int) (b1_0 : List (Int × Int × Int)) (r : Bool × Int × Int × Int × Int × Int × (List (Int × Int × Int)) × List (Int × Int × Int)) (h : f52_table_Table_Put n name value t_0 t_1 t_3 t_4 t_5 b1_0 = some r) : FnOK Go.Proofs.Try.prog 52 (f52_table_Table_Put_in name value t_0 t_1 t_3 t_4 t_5 b1_0) (f52_table_Table_Put_out r) := by
  unfold f52_table_Table_Put at h
  refine At.fn (r := 0) Go.Proofs.Try.func52 rfl (by kernel_rfl) rfl rfl (by kernel_rfl) ?_
  show At Go.Proofs.Try.prog Go.Proofs.Try.f52 2 0 ⟨[(0, .one (.c (.ptr 0 0))), (1, .one (.c (.d (.int .u32 name)))), (2, .one (.c (.d (.int .i64 value))))], [(1, some ⟨169, 2⟩)], [(0, [.d (.int .u64 t_0), .d (.int .u64 t_1), .row 1 (.pair (.int .u8) (.pair (.int .u32) (.int .i64))), .d (.int .i64 t_3), .d (.int .i64 t_4), .d (.int .i64 t_5)]), (1, [.run (.pair (.int .u8) (.pair (.int .u32) (.int .i64))) b1_0])], 2⟩ _
  refine At.step hm ht ⟨[], [], [], [0, 1, 2], [0, 1]⟩ 1 ⟨[(0, .one (.c (.ptr 0 0))), (1, .one (.c (.d (.int .u32 name)))), (2, .one (.c (.d (.int .i64 value))))], [(1, some ⟨169, 2⟩)], [(0, [.d (.int .u64 t_0), .d (.int .u64 t_1), .row 1 (.pair (.int .u8) (.pair (.int .u32) (.int .i64))), .d (.int .i64 t_3), .d (.int .i64 t_4), .d (.int .i64 t_5)]), (1, [.run (.pair (.int .u8) (.pair (.int .u32) (.int .i64))) b1_0])], 2⟩ [] (by kernel_rfl) trivial ?_
  obtain ⟨r274_0, cr274_0, h⟩ := bindS h
  refine At.step hm ht ⟨[(2, .call [0, 1] [] (f96_table_Table_find_out r274_0))], [], [], [0, 1, 2, 7], [0, 1]⟩ 2 ⟨[(0, .one (.c (.ptr 0 0))), (1, .one (.c (.d (.int .u32 name)))), (2, .one (.c (.d (.int .i64 value)))), (7, .one (.c (.d (.int .i64 r274_0.1))))], [(1, some ⟨169, 2⟩)], [(0, [.d (.int .u64 r274_0.2.1), .d (.int .u64 r274_0.2.2.1), .row 1 (.pair (.int .u8) (.pair (.int .u32) (.int .i64))), .d (.int .i64 r274_0.2.2.2.1), .d (.int .i64 r274_0.2.2.2.2.1), .d (.int .i64 r274_0.2.2.2.2.2.1)]), (1, [.run (.pair (.int .u8) (.pair (.int .u32) (.int .i64))) r274_0.2.2.2.2.2.2])], 2⟩ [FnOK Go.Proofs.Try.prog 96 (f96_table_Table_find_in name t_0 t_1 t_3 t_4 t_5 b1_0) (f96_table_Table_find_out r274_0)] (by kernel_rfl) ⟨(f96_table_Table_find_ok n name t_0 t_1 t_3 t_4 t_5 b1_0 r274_0 cr274_0), trivial⟩ ?_
  rcases iteS h with ⟨b275_e0, h⟩ | ⟨b275_e0, h⟩
  · refine At.step hm ht ⟨[], [true], [], [0, 2, 7], [0, 1]⟩ 3 ⟨[(0, .one (.c (.ptr 0 0))), (2, .one (.c (.d (.int .i64 value)))), (7, .one (.c (.d (.int .i64 r274_0.1))))], [(1, some ⟨169, 2⟩)], [(0, [.d (.int .u64 r274_0.2.1), .d (.int .u64 r274_0.2.2.1), .row 1 (.pair (.int .u8) (.pair (.int .u32) (.int .i64))), .d (.int .i64 r274_0.2.2.2.1), .d (.int .i64 r274_0.2.2.2.2.1), .d (.int .i64 r274_0.2.2.2.2.2.1)]), (1, [.run (.pair (.int .u8) (.pair (.int .u32) (.int .i64))) r274_0.2.2.2.2.2.2])], 2⟩ [(decide ((r274_0.1 : Int) ≥ 0)) = true] (by kernel_rfl) ⟨b275_e0, trivial⟩ ?_
    obtain ⟨g276_0, h⟩ := ifS h
    refine At.step hm ht ⟨[], [], [], [], [0, 1]⟩ 4 ⟨[], [(1, some ⟨169, 2⟩)], [(0, [.d (.int .u64 r274_0.2.1), .d (.int .u64 r274_0.2.2.1), .row 1 (.pair (.int .u8) (.pair (.int .u32) (.int .i64))), .d (.int .i64 r274_0.2.2.2.1), .d (.int .i64 r274_0.2.2.2.2.1), .d (.int .i64 r274_0.2.2.2.2.2.1)]), (1, [.run (.pair (.int .u8) (.pair (.int .u32) (.int .i64))) (r274_0.2.2.2.2.2.2.set r274_0.1.toNat ((r274_0.2.2.2.2.2.2.getD r274_0.1.toNat (0, (0, 0))).1, (((r274_0.2.2.2.2.2.2.getD r274_0.1.toNat (0, (0, 0))).2).1, value)))])], 2⟩ [(0 : Int) ≤ r274_0.1 ∧ r274_0.1 < (((r274_0.2.2.2.2.2.2).length : Nat) : Int)] (by kernel_rfl) ⟨g276_0, trivial⟩ ?_
    have h := Option.some.inj h
    subst h
    exact At.fin hm ht ⟨[], [], [.mvrow 1], [6], [0, 1, 3]⟩ [] (by kernel_rfl) trivial
  · refine At.step hm ht ⟨[], [false], [], [0, 1, 2], [0, 1]⟩ 5 ⟨[(0, .one (.c (.ptr 0 0))), (1, .one (.c (.d (.int .u32 name)))), (2, .one (.c (.d (.int .i64 value))))], [(1, some ⟨169, 2⟩)], [(0, [.d (.int .u64 r274_0.2.1), .d (.int .u64 r274_0.2.2.1), .row 1 (.pair (.int .u8) (.pair (.int .u32) (.int .i64))), .d (.int .i64 r274_0.2.2.2.1), .d (.int .i64 r274_0.2.2.2.2.1), .d (.int .i64 r274_0.2.2.2.2.2.1)]), (1, [.run (.pair (.int .u8) (.pair (.int .u32) (.int .i64))) r274_0.2.2.2.2.2.2])], 2⟩ [(decide ((r274_0.1 : Int) ≥ 0)) = false] (by kernel_rfl) ⟨b275_e0, trivial⟩ ?_
    rcases iteS h with ⟨b278_e0, h⟩ | ⟨b278_e0, h⟩
    · refine At.step hm ht ⟨[], [true], [], [], [0, 1]⟩ 6 ⟨[], [(1, some ⟨169, 2⟩)], [(0, [.d (.int .u64 r274_0.2.1), .d (.int .u64 r274_0.2.2.1), .row 1 (.pair (.int .u8) (.pair (.int .u32) (.int .i64))), .d (.int .i64 r274_0.2.2.2.1), .d (.int .i64 r274_0.2.2.2.2.1), .d (.int .i64 r274_0.2.2.2.2.2.1)]), (1, [.run (.pair (.int .u8) (.pair (.int .u32) (.int .i64))) r274_0.2.2.2.2.2.2])], 2⟩ [(decide ((r274_0.2.2.2.1 : Int) ≥ r274_0.2.2.2.2.2.1)) = true] (by kernel_rfl) ⟨b278_e0, trivial⟩ ?_
      have h := Option.some.inj h
      subst h
      exact At.fin hm ht ⟨[], [], [.mvrow 1], [6], [0, 1, 3]⟩ [] (by kernel_rfl) trivial
    · refine At.step hm ht ⟨[], [false], [], [0, 1, 2], [0, 1]⟩ 7 ⟨[(0, .one (.c (.ptr 0 0))), (1, .one (.c (.d (.int .u32 name)))), (2, .one (.c (.d (.int .i64 value))))], [(1, some ⟨169, 2⟩)], [(0, [.d (.int .u64 r274_0.2.1), .d (.int .u64 r274_0.2.2.1), .row 1 (.pair (.int .u8) (.pair (.int .u32) (.int .i64))), .d (.int .i64 r274_0.2.2.2.1), .d (.int .i64 r274_0.2.2.2.2.1), .d (.int .i64 r274_0.2.2.2.2.2.1)]), (1, [.run (.pair (.int .u8) (.pair (.int .u32) (.int .i64))) r274_0.2.2.2.2.2.2])], 2⟩ [(decide ((r274_0.2.2.2.1 : Int) ≥ r274_0.2.2.2.2.2.1)) = false] (by kernel_rfl) ⟨b278_e0, trivial⟩ ?_
      rcases iteS h with ⟨b280_e0, h⟩ | ⟨b280_e0, h⟩
      · refine At.step hm ht ⟨[], [true], [], [0, 1, 2], [0, 1]⟩ 8 ⟨[(0, .one (.c (.ptr 0 0))), (1, .one (.c (.d (.int .u32 name)))), (2, .one (.c (.d (.int .i64 value))))], [(1, some ⟨169, 2⟩)], [(0, [.d (.int .u64 r274_0.2.1), .d (.int .u64 r274_0.2.2.1), .row 1 (.pair (.int .u8) (.pair (.int .u32) (.int .i64))), .d (.int .i64 r274_0.2.2.2.1), .d (.int .i64 r274_0.2.2.2.2.1), .d (.int .i64 r274_0.2.2.2.2.2.1)]), (1, [.run (.pair (.int .u8) (.pair (.int .u32) (.int .i64))) r274_0.2.2.2.2.2.2])], 2⟩ [(decide (((IntKind.wrap .i64 (4 * (IntKind.wrap .i64 (r274_0.2.2.2.2.1 + 1)))) : Int) > (IntKind.wrap .i64 (3 * ((r274_0.2.2.2.2.2.2.length : Nat) : Int))))) = true] (by kernel_rfl) ⟨b280_e0, trivial⟩ ?_
        obtain ⟨r281_0, cr281_0, h⟩ := bindS h
        refine At.step hm ht ⟨[(1, .call [0, 1] [] (f97_table_Table_grow_out r281_0))], [], [], [0, 1, 2], [0, 1, 5]⟩ 9 ⟨[(0, .one (.c (.ptr 0 0))), (1, .one (.c (.d (.int .u32 name)))), (2, .one (.c (.d (.int .i64 value))))], [(1, some ⟨169, 2⟩), (2, some ⟨169, 2⟩)], [(0, [.d (.int .u64 r281_0.1), .d (.int .u64 r281_0.2.1), .row 2 (.pair (.int .u8) (.pair (.int .u32) (.int .i64))), .d (.int .i64 r281_0.2.2.1), .d (.int .i64 r281_0.2.2.2.1), .d (.int .i64 r281_0.2.2.2.2.1)]), (1, [.run (.pair (.int .u8) (.pair (.int .u32) (.int .i64))) r281_0.2.2.2.2.2.1]), (2, [.run (.pair (.int .u8) (.pair (.int .u32) (.int .i64))) r281_0.2.2.2.2.2.2])], 3⟩ [FnOK Go.Proofs.Try.prog 97 (f97_table_Table_grow_in r274_0.2.1 r274_0.2.2.1 r274_0.2.2.2.1 r274_0.2.2.2.2.1 r274_0.2.2.2.2.2.1 r274_0.2.2.2.2.2.2) (f97_table_Table_grow_out r281_0)] (by kernel_rfl) ⟨(f97_table_Table_grow_ok n r274_0.2.1 r274_0.2.2.1 r274_0.2.2.2.1 r274_0.2.2.2.2.1 r274_0.2.2.2.2.2.1 r274_0.2.2.2.2.2.2 r281_0 cr281_0), trivial⟩ ?_
        obtain ⟨r282_0, cr282_0, h⟩ := bindS h
        refine At.step hm ht ⟨[(3, .call [0, 2] [] (f98_table_Table_lay_out r282_0))], [], [], [], [0, 1, 2]⟩ 10 ⟨[], [(1, some ⟨169, 2⟩), (2, some ⟨169, 2⟩)], [(0, [.d (.int .u64 r282_0.1), .d (.int .u64 r282_0.2.1), .row 2 (.pair (.int .u8) (.pair (.int .u32) (.int .i64))), .d (.int .i64 r282_0.2.2.1), .d (.int .i64 r282_0.2.2.2.1), .d (.int .i64 r282_0.2.2.2.2.1)]), (1, [.run (.pair (.int .u8) (.pair (.int .u32) (.int .i64))) r281_0.2.2.2.2.2.1]), (2, [.run (.pair (.int .u8) (.pair (.int .u32) (.int .i64))) r282_0.2.2.2.2.2])], 3⟩ [FnOK Go.Proofs.Try.prog 98 (f98_table_Table_lay_in name value r281_0.1 r281_0.2.1 r281_0.2.2.1 r281_0.2.2.2.1 r281_0.2.2.2.2.1 r281_0.2.2.2.2.2.2) (f98_table_Table_lay_out r282_0)] (by kernel_rfl) ⟨(f98_table_Table_lay_ok n name value r281_0.1 r281_0.2.1 r281_0.2.2.1 r281_0.2.2.2.1 r281_0.2.2.2.2.1 r281_0.2.2.2.2.2.2 r282_0 cr282_0), trivial⟩ ?_
        have h := Option.some.inj h
        subst h
        exact At.fin hm ht ⟨[], [], [.drop 1], [6], [0, 1, 2]⟩ [] (by kernel_rfl) trivial
      · refine At.step hm ht ⟨[], [false], [], [0, 1, 2], [0, 1]⟩ 9 ⟨[(0, .one (.c (.ptr 0 0))), (1, .one (.c (.d (.int .u32 name)))), (2, .one (.c (.d (.int .i64 value))))], [(1, some ⟨169, 2⟩)], [(0, [.d (.int .u64 r274_0.2.1), .d (.int .u64 r274_0.2.2.1), .row 1 (.pair (.int .u8) (.pair (.int .u32) (.int .i64))), .d (.int .i64 r274_0.2.2.2.1), .d (.int .i64 r274_0.2.2.2.2.1), .d (.int .i64 r274_0.2.2.2.2.2.1)]), (1, [.run (.pair (.int .u8) (.pair (.int .u32) (.int .i64))) r274_0.2.2.2.2.2.2])], 2⟩ [(decide (((IntKind.wrap .i64 (4 * (IntKind.wrap .i64 (r274_0.2.2.2.2.1 + 1)))) : Int) > (IntKind.wrap .i64 (3 * ((r274_0.2.2.2.2.2.2.length : Nat) : Int))))) = false] (by kernel_rfl) ⟨b280_e0, trivial⟩ ?_
        obtain ⟨r284_0, cr284_0, h⟩ := bindS h
        refine At.step hm ht ⟨[(3, .call [0, 1] [] (f98_table_Table_lay_out r284_0))], [], [], [], [0, 1]⟩ 10 ⟨[], [(1, some ⟨169, 2⟩)], [(0, [.d (.int .u64 r284_0.1), .d (.int .u64 r284_0.2.1), .row 1 (.pair (.int .u8) (.pair (.int .u32) (.int .i64))), .d (.int .i64 r284_0.2.2.1), .d (.int .i64 r284_0.2.2.2.1), .d (.int .i64 r284_0.2.2.2.2.1)]), (1, [.run (.pair (.int .u8) (.pair (.int .u32) (.int .i64))) r284_0.2.2.2.2.2])], 2⟩ [FnOK Go.Proofs.Try.prog 98 (f98_table_Table_lay_in name value r274_0.2.1 r274_0.2.2.1 r274_0.2.2.2.1 r274_0.2.2.2.2.1 r274_0.2.2.2.2.2.1 r274_0.2.2.2.2.2.2) (f98_table_Table_lay_out r284_0)] (by kernel_rfl) ⟨(f98_table_Table_lay_ok n name value r274_0.2.1 r274_0.2.2.1 r274_0.2.2.2.1 r274_0.2.2.2.2.1 r274_0.2.2.2.2.2.1 r274_0.2.2.2.2.2.2 r284_0 cr284_0), trivial⟩ ?_
        have h := Option.some.inj h
        subst h
        exact At.fin hm ht ⟨[], [], [.mvrow 1], [6], [0, 1, 3]⟩ [] (by kernel_rfl) trivial
/-! brougham/table.insert -/
def f100_table_insert_in (name : Int) : Inn := ⟨[.c (.d (.sl .unit [])), .c (.d (.int .u32 name))], [], [], 0⟩
def f100_table_insert_out (r : List Int) : Out := ⟨.one (.c (.row 0 (.int .u32))), [(0, ⟨26, 2⟩)], [(0, [.run (.int .u32) r])], 1⟩
def f100_table_insert_L3 : Nat → Int → (List Int) → Option (List Int)
  | 0, _, _ => none
  | n + 1, i, b0_0 =>
    if (decide ((i : Int) > 0)) = true then
      if (0 : Int) ≤ i ∧ i < (((b0_0).length : Nat) : Int) then
      if (0 : Int) ≤ (IntKind.wrap .i64 (i - 1)) ∧ (IntKind.wrap .i64 (i - 1)) < (((b0_0).length : Nat) : Int) then
      if (decide (((b0_0.getD i.toNat 0) : Int) < (b0_0.getD ((IntKind.wrap .i64 (i - 1)).toNat) 0))) = true then
        if (0 : Int) ≤ (IntKind.wrap .i64 (i - 1)) ∧ (IntKind.wrap .i64 (i - 1)) < (((b0_0).length : Nat) : Int) then
        if (0 : Int) ≤ i ∧ i < (((b0_0).length : Nat) : Int) then
        if (0 : Int) ≤ i ∧ i < (((b0_0).length : Nat) : Int) then
        if (0 : Int) ≤ (IntKind.wrap .i64 (i - 1)) ∧ (IntKind.wrap .i64 (i - 1)) < ((((b0_0.set i.toNat (b0_0.getD ((IntKind.wrap .i64 (i - 1)).toNat) 0))).length : Nat) : Int) then
        f100_table_insert_L3 n (IntKind.wrap .i64 (i - 1)) ((b0_0.set i.toNat (b0_0.getD ((IntKind.wrap .i64 (i - 1)).toNat) 0)).set ((IntKind.wrap .i64 (i - 1)).toNat) (b0_0.getD i.toNat 0))
        else none
        else none
        else none
        else none
      else
        some (b0_0)
      else none
      else none
    else
      some (b0_0)
def f100_table_insert_L3_k (e : List Int) (o : Out) : Prop := At Go.Proofs.Try.prog Go.Proofs.Try.f100 0 6 ⟨[(0, .one (.c (.row 0 (.int .u32))))], [(0, some ⟨26, 2⟩)], [(0, [.run (.int .u32) e])], 1⟩ o
theorem f100_table_insert_L3_ok (n : Nat) : ∀ (i : Int) (b0_0 : List Int) (w : List Int) (h : f100_table_insert_L3 n i b0_0 = some w) (o : Out) (hk : f100_table_insert_L3_k w o), At Go.Proofs.Try.prog Go.Proofs.Try.f100 0 3 ⟨[(0, .one (.c (.row 0 (.int .u32)))), (5, .one (.c (.d (.int .i64 i))))], [(0, some ⟨26, 2⟩)], [(0, [.run (.int .u32) b0_0])], 1⟩ o := by
  induction n with
  | zero => intro i b0_0 w h; rw [f100_table_insert_L3] at h; cases h
  | succ n ih =>
    intro i b0_0 w h o hk
    rw [f100_table_insert_L3] at h
    rcases iteS h with ⟨b420_2, h⟩ | ⟨b420_2, h⟩
    · obtain ⟨g420_0, h⟩ := ifS h
      obtain ⟨g420_1, h⟩ := ifS h
      rcases iteS h with ⟨b420_e0, h⟩ | ⟨b420_e0, h⟩
      · refine At.step hm ht ⟨[(2, .b true)], [true], [], [0, 5], [0]⟩ 5 ⟨[(0, .one (.c (.row 0 (.int .u32)))), (5, .one (.c (.d (.int .i64 i))))], [(0, some ⟨26, 2⟩)], [(0, [.run (.int .u32) b0_0])], 1⟩ [(decide ((i : Int) > 0)) = true, (0 : Int) ≤ i ∧ i < (((b0_0).length : Nat) : Int), (0 : Int) ≤ (IntKind.wrap .i64 (i - 1)) ∧ (IntKind.wrap .i64 (i - 1)) < (((b0_0).length : Nat) : Int), (decide (((b0_0.getD i.toNat 0) : Int) < (b0_0.getD ((IntKind.wrap .i64 (i - 1)).toNat) 0))) = true] (by kernel_rfl) ⟨b420_2, g420_0, g420_1, b420_e0, trivial⟩ ?_
        obtain ⟨g421_0, h⟩ := ifS h
        obtain ⟨g421_1, h⟩ := ifS h
        obtain ⟨g421_2, h⟩ := ifS h
        obtain ⟨g421_3, h⟩ := ifS h
        refine At.step hm ht ⟨[], [], [], [0, 5], [0]⟩ 4 ⟨[(0, .one (.c (.row 0 (.int .u32)))), (5, .one (.c (.d (.int .i64 i))))], [(0, some ⟨26, 2⟩)], [(0, [.run (.int .u32) ((b0_0.set i.toNat (b0_0.getD ((IntKind.wrap .i64 (i - 1)).toNat) 0)).set ((IntKind.wrap .i64 (i - 1)).toNat) (b0_0.getD i.toNat 0))])], 1⟩ [(0 : Int) ≤ (IntKind.wrap .i64 (i - 1)) ∧ (IntKind.wrap .i64 (i - 1)) < (((b0_0).length : Nat) : Int), (0 : Int) ≤ i ∧ i < (((b0_0).length : Nat) : Int), (0 : Int) ≤ i ∧ i < (((b0_0).length : Nat) : Int), (0 : Int) ≤ (IntKind.wrap .i64 (i - 1)) ∧ (IntKind.wrap .i64 (i - 1)) < ((((b0_0.set i.toNat (b0_0.getD ((IntKind.wrap .i64 (i - 1)).toNat) 0))).length : Nat) : Int)] (by kernel_rfl) ⟨g421_0, g421_1, g421_2, g421_3, trivial⟩ ?_
        refine At.step hm ht ⟨[], [], [], [0, 5], [0]⟩ 3 ⟨[(0, .one (.c (.row 0 (.int .u32)))), (5, .one (.c (.d (.int .i64 (IntKind.wrap .i64 (i - 1))))))], [(0, some ⟨26, 2⟩)], [(0, [.run (.int .u32) ((b0_0.set i.toNat (b0_0.getD ((IntKind.wrap .i64 (i - 1)).toNat) 0)).set ((IntKind.wrap .i64 (i - 1)).toNat) (b0_0.getD i.toNat 0))])], 1⟩ [] (by kernel_rfl) trivial ?_
        exact ih (IntKind.wrap .i64 (i - 1)) ((b0_0.set i.toNat (b0_0.getD ((IntKind.wrap .i64 (i - 1)).toNat) 0)).set ((IntKind.wrap .i64 (i - 1)).toNat) (b0_0.getD i.toNat 0)) w h o hk
      · refine At.step hm ht ⟨[(2, .b true)], [false], [], [0], [0]⟩ 6 ⟨[(0, .one (.c (.row 0 (.int .u32))))], [(0, some ⟨26, 2⟩)], [(0, [.run (.int .u32) b0_0])], 1⟩ [(decide ((i : Int) > 0)) = true, (0 : Int) ≤ i ∧ i < (((b0_0).length : Nat) : Int), (0 : Int) ≤ (IntKind.wrap .i64 (i - 1)) ∧ (IntKind.wrap .i64 (i - 1)) < (((b0_0).length : Nat) : Int), (decide (((b0_0.getD i.toNat 0) : Int) < (b0_0.getD ((IntKind.wrap .i64 (i - 1)).toNat) 0))) = false] (by kernel_rfl) ⟨b420_2, g420_0, g420_1, b420_e0, trivial⟩ ?_
        have h := Option.some.inj h
        subst h
        exact hk
    · refine At.step hm ht ⟨[(2, .b false)], [false], [], [0], [0]⟩ 6 ⟨[(0, .one (.c (.row 0 (.int .u32))))], [(0, some ⟨26, 2⟩)], [(0, [.run (.int .u32) b0_0])], 1⟩ [(decide ((i : Int) > 0)) = false, false = false] (by kernel_rfl) ⟨b420_2, rfl, trivial⟩ ?_
      have h := Option.some.inj h
      subst h
      exact hk
def f100_table_insert (n : Nat) (name : Int) : Option (List Int) :=
  if [name].length ≤ maxLen ∧ [name].length * 4 ≤ 140737488355328 then
  (f100_table_insert_L3 n (IntKind.wrap .i64 ((([name].length : Nat) : Int) - 1)) [name]).bind fun w423 =>
  some w423
  else none
theorem f100_table_insert_ok (n : Nat) (name : Int) (r : List Int) (h : f100_table_insert n name = some r) : FnOK Go.Proofs.Try.prog 100 (f100_table_insert_in name) (f100_table_insert_out r) := by
  unfold f100_table_insert at h
  refine At.fn (r := 0) Go.Proofs.Try.func100 rfl (by kernel_rfl) rfl rfl (by kernel_rfl) ?_
  show At Go.Proofs.Try.prog Go.Proofs.Try.f100 0 0 ⟨[(0, .one (.c (.d (.sl .unit [])))), (1, .one (.c (.d (.int .u32 name))))], [], [], 0⟩ _
  refine At.step hm ht ⟨[], [], [], [0, 1], []⟩ 1 ⟨[(0, .one (.c (.d (.sl .unit [])))), (1, .one (.c (.d (.int .u32 name))))], [], [], 0⟩ [] (by kernel_rfl) trivial ?_
  obtain ⟨g418_0, h⟩ := ifS h
  refine At.step hm ht ⟨[(3, .row)], [], [], [0], [3]⟩ 2 ⟨[(0, .one (.c (.row 0 (.int .u32))))], [(0, some ⟨26, 2⟩)], [(0, [.run (.int .u32) ([name] : List Int)])], 1⟩ [[name].length ≤ maxLen ∧ [name].length * 4 ≤ 140737488355328] (by kernel_rfl) ⟨g418_0, trivial⟩ ?_
  refine At.step hm ht ⟨[], [], [], [0, 5], [0]⟩ 3 ⟨[(0, .one (.c (.row 0 (.int .u32)))), (5, .one (.c (.d (.int .i64 (IntKind.wrap .i64 ((([name].length : Nat) : Int) - 1))))))], [(0, some ⟨26, 2⟩)], [(0, [.run (.int .u32) ([name] : List Int)])], 1⟩ [] (by kernel_rfl) trivial ?_
  obtain ⟨w423, cw423, h⟩ := bindS h
  refine f100_table_insert_L3_ok n (IntKind.wrap .i64 ((([name].length : Nat) : Int) - 1)) [name] w423 cw423 _ ?_
  show At Go.Proofs.Try.prog Go.Proofs.Try.f100 0 6 ⟨[(0, .one (.c (.row 0 (.int .u32))))], [(0, some ⟨26, 2⟩)], [(0, [.run (.int .u32) w423])], 1⟩ _
  have h := Option.some.inj h
  subst h
  exact At.fin hm ht ⟨[], [], [], [4], [0]⟩ [] (by kernel_rfl) trivial
/-! brougham/table.insert -/
def f100_table_insert_v2_in (name : Int) (b0_0 : List Int) : Inn := ⟨[.c (.row 0 (.int .u32)), .c (.d (.int .u32 name))], [(0, ⟨26, 2⟩)], [(0, [.run (.int .u32) b0_0])], 1⟩
def f100_table_insert_v2_out (r : List Int × List Int) : Out := ⟨.one (.c (.row 1 (.int .u32))), [(1, ⟨26, 2⟩)], [(0, [.run (.int .u32) r.1]), (1, [.run (.int .u32) r.2])], 2⟩
def f100_table_insert_v2_L3 : Nat → Int → (List Int) → (List Int) → Option (List Int × List Int)
  | 0, _, _, _ => none
  | n + 1, i, b0_0, b1_0 =>
    if (decide ((i : Int) > 0)) = true then
      if (0 : Int) ≤ i ∧ i < (((b1_0).length : Nat) : Int) then
      if (0 : Int) ≤ (IntKind.wrap .i64 (i - 1)) ∧ (IntKind.wrap .i64 (i - 1)) < (((b1_0).length : Nat) : Int) then
      if (decide (((b1_0.getD i.toNat 0) : Int) < (b1_0.getD ((IntKind.wrap .i64 (i - 1)).toNat) 0))) = true then
        if (0 : Int) ≤ (IntKind.wrap .i64 (i - 1)) ∧ (IntKind.wrap .i64 (i - 1)) < (((b1_0).length : Nat) : Int) then
        if (0 : Int) ≤ i ∧ i < (((b1_0).length : Nat) : Int) then
        if (0 : Int) ≤ i ∧ i < (((b1_0).length : Nat) : Int) then
        if (0 : Int) ≤ (IntKind.wrap .i64 (i - 1)) ∧ (IntKind.wrap .i64 (i - 1)) < ((((b1_0.set i.toNat (b1_0.getD ((IntKind.wrap .i64 (i - 1)).toNat) 0))).length : Nat) : Int) then
        f100_table_insert_v2_L3 n (IntKind.wrap .i64 (i - 1)) b0_0 ((b1_0.set i.toNat (b1_0.getD ((IntKind.wrap .i64 (i - 1)).toNat) 0)).set ((IntKind.wrap .i64 (i - 1)).toNat) (b1_0.getD i.toNat 0))
        else none
        else none
        else none
        else none
      else
        some ((b0_0, b1_0))
      else none
      else none
    else
      some ((b0_0, b1_0))
def f100_table_insert_v2_L3_k (e : List Int × List Int) (o : Out) : Prop := At Go.Proofs.Try.prog Go.Proofs.Try.f100 1 6 ⟨[(0, .one (.c (.row 1 (.int .u32))))], [(1, some ⟨26, 2⟩)], [(0, [.run (.int .u32) e.1]), (1, [.run (.int .u32) e.2])], 2⟩ o
theorem f100_table_insert_v2_L3_ok (n : Nat) : ∀ (i : Int) (b0_0 : List Int) (b1_0 : List Int) (w : List Int × List Int) (h : f100_table_insert_v2_L3 n i b0_0 b1_0 = some w) (o : Out) (hk : f100_table_insert_v2_L3_k w o), At Go.Proofs.Try.prog Go.Proofs.Try.f100 1 3 ⟨[(0, .one (.c (.row 1 (.int .u32)))), (5, .one (.c (.d (.int .i64 i))))], [(1, some ⟨26, 2⟩)], [(0, [.run (.int .u32) b0_0]), (1, [.run (.int .u32) b1_0])], 2⟩ o := by
  induction n with
  | zero => intro i b0_0 b1_0 w h; rw [f100_table_insert_v2_L3] at h; cases h
  | succ n ih =>
    intro i b0_0 b1_0 w h o hk
    rw [f100_table_insert_v2_L3] at h
    rcases iteS h with ⟨b437_2, h⟩ | ⟨b437_2, h⟩
    · obtain ⟨g437_0, h⟩ := ifS h
      obtain ⟨g437_1, h⟩ := ifS h
      rcases iteS h with ⟨b437_e0, h⟩ | ⟨b437_e0, h⟩
      · refine At.step hm ht ⟨[(2, .b true)], [true], [], [0, 5], [0, 1]⟩ 5 ⟨[(0, .one (.c (.row 1 (.int .u32)))), (5, .one (.c (.d (.int .i64 i))))], [(1, some ⟨26, 2⟩)], [(0, [.run (.int .u32) b0_0]), (1, [.run (.int .u32) b1_0])], 2⟩ [(decide ((i : Int) > 0)) = true, (0 : Int) ≤ i ∧ i < (((b1_0).length : Nat) : Int), (0 : Int) ≤ (IntKind.wrap .i64 (i - 1)) ∧ (IntKind.wrap .i64 (i - 1)) < (((b1_0).length : Nat) : Int), (decide (((b1_0.getD i.toNat 0) : Int) < (b1_0.getD ((IntKind.wrap .i64 (i - 1)).toNat) 0))) = true] (by kernel_rfl) ⟨b437_2, g437_0, g437_1, b437_e0, trivial⟩ ?_
        obtain ⟨g438_0, h⟩ := ifS h
        obtain ⟨g438_1, h⟩ := ifS h
        obtain ⟨g438_2, h⟩ := ifS h
        obtain ⟨g438_3, h⟩ := ifS h
        refine At.step hm ht ⟨[], [], [], [0, 5], [0, 1]⟩ 4 ⟨[(0, .one (.c (.row 1 (.int .u32)))), (5, .one (.c (.d (.int .i64 i))))], [(1, some ⟨26, 2⟩)], [(0, [.run (.int .u32) b0_0]), (1, [.run (.int .u32) ((b1_0.set i.toNat (b1_0.getD ((IntKind.wrap .i64 (i - 1)).toNat) 0)).set ((IntKind.wrap .i64 (i - 1)).toNat) (b1_0.getD i.toNat 0))])], 2⟩ [(0 : Int) ≤ (IntKind.wrap .i64 (i - 1)) ∧ (IntKind.wrap .i64 (i - 1)) < (((b1_0).length : Nat) : Int), (0 : Int) ≤ i ∧ i < (((b1_0).length : Nat) : Int), (0 : Int) ≤ i ∧ i < (((b1_0).length : Nat) : Int), (0 : Int) ≤ (IntKind.wrap .i64 (i - 1)) ∧ (IntKind.wrap .i64 (i - 1)) < ((((b1_0.set i.toNat (b1_0.getD ((IntKind.wrap .i64 (i - 1)).toNat) 0))).length : Nat) : Int)] (by kernel_rfl) ⟨g438_0, g438_1, g438_2, g438_3, trivial⟩ ?_
        refine At.step hm ht ⟨[], [], [], [0, 5], [0, 1]⟩ 3 ⟨[(0, .one (.c (.row 1 (.int .u32)))), (5, .one (.c (.d (.int .i64 (IntKind.wrap .i64 (i - 1))))))], [(1, some ⟨26, 2⟩)], [(0, [.run (.int .u32) b0_0]), (1, [.run (.int .u32) ((b1_0.set i.toNat (b1_0.getD ((IntKind.wrap .i64 (i - 1)).toNat) 0)).set ((IntKind.wrap .i64 (i - 1)).toNat) (b1_0.getD i.toNat 0))])], 2⟩ [] (by kernel_rfl) trivial ?_
        exact ih (IntKind.wrap .i64 (i - 1)) b0_0 ((b1_0.set i.toNat (b1_0.getD ((IntKind.wrap .i64 (i - 1)).toNat) 0)).set ((IntKind.wrap .i64 (i - 1)).toNat) (b1_0.getD i.toNat 0)) w h o hk
      · refine At.step hm ht ⟨[(2, .b true)], [false], [], [0], [0, 1]⟩ 6 ⟨[(0, .one (.c (.row 1 (.int .u32))))], [(1, some ⟨26, 2⟩)], [(0, [.run (.int .u32) b0_0]), (1, [.run (.int .u32) b1_0])], 2⟩ [(decide ((i : Int) > 0)) = true, (0 : Int) ≤ i ∧ i < (((b1_0).length : Nat) : Int), (0 : Int) ≤ (IntKind.wrap .i64 (i - 1)) ∧ (IntKind.wrap .i64 (i - 1)) < (((b1_0).length : Nat) : Int), (decide (((b1_0.getD i.toNat 0) : Int) < (b1_0.getD ((IntKind.wrap .i64 (i - 1)).toNat) 0))) = false] (by kernel_rfl) ⟨b437_2, g437_0, g437_1, b437_e0, trivial⟩ ?_
        have h := Option.some.inj h
        subst h
        exact hk
    · refine At.step hm ht ⟨[(2, .b false)], [false], [], [0], [0, 1]⟩ 6 ⟨[(0, .one (.c (.row 1 (.int .u32))))], [(1, some ⟨26, 2⟩)], [(0, [.run (.int .u32) b0_0]), (1, [.run (.int .u32) b1_0])], 2⟩ [(decide ((i : Int) > 0)) = false, false = false] (by kernel_rfl) ⟨b437_2, rfl, trivial⟩ ?_
      have h := Option.some.inj h
      subst h
      exact hk
def f100_table_insert_v2 (n : Nat) (name : Int) (b0_0 : List Int) : Option (List Int × List Int) :=
  if b0_0.length + [name].length ≤ maxLen ∧ (b0_0.length + [name].length) * 4 ≤ 140737488355328 then
  (f100_table_insert_v2_L3 n (IntKind.wrap .i64 ((((b0_0 ++ [name]).length : Nat) : Int) - 1)) b0_0 (b0_0 ++ [name])).bind fun w440 =>
  some (w440.1, w440.2)
  else none
theorem f100_table_insert_v2_ok (n : Nat) (name : Int) (b0_0 : List Int) (r : List Int × List Int) (h : f100_table_insert_v2 n name b0_0 = some r) : FnOK Go.Proofs.Try.prog 100 (f100_table_insert_v2_in name b0_0) (f100_table_insert_v2_out r) := by
  unfold f100_table_insert_v2 at h
  refine At.fn (r := 0) Go.Proofs.Try.func100 rfl (by kernel_rfl) rfl rfl (by kernel_rfl) ?_
  show At Go.Proofs.Try.prog Go.Proofs.Try.f100 1 0 ⟨[(0, .one (.c (.row 0 (.int .u32)))), (1, .one (.c (.d (.int .u32 name))))], [(0, some ⟨26, 2⟩)], [(0, [.run (.int .u32) b0_0])], 1⟩ _
  refine At.step hm ht ⟨[], [], [], [0, 1], [0]⟩ 1 ⟨[(0, .one (.c (.row 0 (.int .u32)))), (1, .one (.c (.d (.int .u32 name))))], [(0, some ⟨26, 2⟩)], [(0, [.run (.int .u32) b0_0])], 1⟩ [] (by kernel_rfl) trivial ?_
  obtain ⟨g435_0, h⟩ := ifS h
  refine At.step hm ht ⟨[], [], [], [0], [0, 4]⟩ 2 ⟨[(0, .one (.c (.row 1 (.int .u32))))], [(1, some ⟨26, 2⟩)], [(0, [.run (.int .u32) b0_0]), (1, [.run (.int .u32) (b0_0 ++ [name])])], 2⟩ [b0_0.length + [name].length ≤ maxLen ∧ (b0_0.length + [name].length) * 4 ≤ 140737488355328] (by kernel_rfl) ⟨g435_0, trivial⟩ ?_
  refine At.step hm ht ⟨[], [], [], [0, 5], [0, 1]⟩ 3 ⟨[(0, .one (.c (.row 1 (.int .u32)))), (5, .one (.c (.d (.int .i64 (IntKind.wrap .i64 ((((b0_0 ++ [name]).length : Nat) : Int) - 1))))))], [(1, some ⟨26, 2⟩)], [(0, [.run (.int .u32) b0_0]), (1, [.run (.int .u32) (b0_0 ++ [name])])], 2⟩ [] (by kernel_rfl) trivial ?_
  obtain ⟨w440, cw440, h⟩ := bindS h
  refine f100_table_insert_v2_L3_ok n (IntKind.wrap .i64 ((((b0_0 ++ [name]).length : Nat) : Int) - 1)) b0_0 (b0_0 ++ [name]) w440 cw440 _ ?_
  show At Go.Proofs.Try.prog Go.Proofs.Try.f100 1 6 ⟨[(0, .one (.c (.row 1 (.int .u32))))], [(1, some ⟨26, 2⟩)], [(0, [.run (.int .u32) w440.1]), (1, [.run (.int .u32) w440.2])], 2⟩ _
  have h := Option.some.inj h
  subst h
  exact At.fin hm ht ⟨[], [], [], [4], [0, 1]⟩ [] (by kernel_rfl) trivial
/-! slices.Index[[]int,int] -/
def f130_slices_Index_int_int_in (s : List Int) (v_ : Int) : Inn := ⟨[.c (.d (.sl (.int .i64) s)), .c (.d (.int .i64 v_))], [], [], 0⟩
def f130_slices_Index_int_int_out (r : Int) : Out := ⟨.one (.c (.d (.int .i64 r))), [], [], 0⟩
def f130_slices_Index_int_int_L2 : Nat → (List Int) → Int → Int → Int → Option ((Int) ⊕ (Unit))
  | 0, _, _, _, _ => none
  | n + 1, s, v_, t7, t8 =>
    if (decide ((t8 : Int) < t7)) = true then
      if (0 : Int) ≤ t8 ∧ t8 < (((s).length : Nat) : Int) then
      if ((v_ : Int) == (s.getD t8.toNat 0)) = true then
        some (.inl t8)
      else
        f130_slices_Index_int_int_L2 n s v_ t7 (IntKind.wrap .i64 (t8 + 1))
      else none
    else
      some (.inr ())
def f130_slices_Index_int_int_L2_k (w : (Int) ⊕ (Unit)) (o : Out) : Prop := match w with
  | .inl e => o = f130_slices_Index_int_int_out e
  | .inr e => At Go.Proofs.Try.prog Go.Proofs.Try.f130 0 7 ⟨[], [], [], 0⟩ o
theorem f130_slices_Index_int_int_L2_ok (n : Nat) : ∀ (s : List Int) (v_ : Int) (t7 : Int) (t8 : Int) (w : (Int) ⊕ (Unit)) (h : f130_slices_Index_int_int_L2 n s v_ t7 t8 = some w) (o : Out) (hk : f130_slices_Index_int_int_L2_k w o), At Go.Proofs.Try.prog Go.Proofs.Try.f130 0 2 ⟨[(0, .one (.c (.d (.sl (.int .i64) s)))), (1, .one (.c (.d (.int .i64 v_)))), (7, .one (.c (.d (.int .i64 t7)))), (8, .one (.c (.d (.int .i64 t8))))], [], [], 0⟩ o := by
  induction n with
  | zero => intro s v_ t7 t8 w h; rw [f130_slices_Index_int_int_L2] at h; cases h
  | succ n ih =>
    intro s v_ t7 t8 w h o hk
    rw [f130_slices_Index_int_int_L2] at h
    rcases iteS h with ⟨b448_e0, h⟩ | ⟨b448_e0, h⟩
    · refine At.step hm ht ⟨[], [true], [], [0, 1, 7, 8], []⟩ 3 ⟨[(0, .one (.c (.d (.sl (.int .i64) s)))), (1, .one (.c (.d (.int .i64 v_)))), (7, .one (.c (.d (.int .i64 t7)))), (8, .one (.c (.d (.int .i64 t8))))], [], [], 0⟩ [(decide ((t8 : Int) < t7)) = true] (by kernel_rfl) ⟨b448_e0, trivial⟩ ?_
      refine At.step hm ht ⟨[], [], [], [0, 1, 5, 7, 8], []⟩ 4 ⟨[(0, .one (.c (.d (.sl (.int .i64) s)))), (1, .one (.c (.d (.int .i64 v_)))), (5, .one (.c (.d (.int .i64 t8)))), (7, .one (.c (.d (.int .i64 t7)))), (8, .one (.c (.d (.int .i64 t8))))], [], [], 0⟩ [] (by kernel_rfl) trivial ?_
      obtain ⟨g450_0, h⟩ := ifS h
      rcases iteS h with ⟨b450_e0, h⟩ | ⟨b450_e0, h⟩
      · refine At.step hm ht ⟨[], [true], [], [5], []⟩ 5 ⟨[(5, .one (.c (.d (.int .i64 t8))))], [], [], 0⟩ [(0 : Int) ≤ t8 ∧ t8 < (((s).length : Nat) : Int), ((v_ : Int) == (s.getD t8.toNat 0)) = true] (by kernel_rfl) ⟨g450_0, b450_e0, trivial⟩ ?_
        have h := Option.some.inj h
        subst h
        have hk : o = f130_slices_Index_int_int_out t8 := hk
        subst hk
        exact At.fin hm ht ⟨[], [], [], [4], []⟩ [] (by kernel_rfl) trivial
      · refine At.step hm ht ⟨[], [false], [], [0, 1, 7, 8], []⟩ 6 ⟨[(0, .one (.c (.d (.sl (.int .i64) s)))), (1, .one (.c (.d (.int .i64 v_)))), (7, .one (.c (.d (.int .i64 t7)))), (8, .one (.c (.d (.int .i64 t8))))], [], [], 0⟩ [(0 : Int) ≤ t8 ∧ t8 < (((s).length : Nat) : Int), ((v_ : Int) == (s.getD t8.toNat 0)) = false] (by kernel_rfl) ⟨g450_0, b450_e0, trivial⟩ ?_
        refine At.step hm ht ⟨[], [], [], [0, 1, 7, 8], []⟩ 2 ⟨[(0, .one (.c (.d (.sl (.int .i64) s)))), (1, .one (.c (.d (.int .i64 v_)))), (7, .one (.c (.d (.int .i64 t7)))), (8, .one (.c (.d (.int .i64 (IntKind.wrap .i64 (t8 + 1))))))], [], [], 0⟩ [] (by kernel_rfl) trivial ?_
        exact ih s v_ t7 (IntKind.wrap .i64 (t8 + 1)) w h o hk
    · refine At.step hm ht ⟨[], [false], [], [], []⟩ 7 ⟨[], [], [], 0⟩ [(decide ((t8 : Int) < t7)) = false] (by kernel_rfl) ⟨b448_e0, trivial⟩ ?_
      have h := Option.some.inj h
      subst h
      exact hk
def f130_slices_Index_int_int (n : Nat) (s : List Int) (v_ : Int) : Option (Int) :=
  (f130_slices_Index_int_int_L2 n s v_ ((s.length : Nat) : Int) 0).bind fun w453 =>
  match w453 with
  | .inl e454 =>
    some e454
  | .inr e455 =>
    some (-1)
theorem f130_slices_Index_int_int_ok (n : Nat) (s : List Int) (v_ : Int) (r : Int) (h : f130_slices_Index_int_int n s v_ = some r) : FnOK Go.Proofs.Try.prog 130 (f130_slices_Index_int_int_in s v_) (f130_slices_Index_int_int_out r) := by
  unfold f130_slices_Index_int_int at h
  refine At.fn (r := 0) Go.Proofs.Try.func130 rfl (by kernel_rfl) rfl rfl (by kernel_rfl) ?_
  show At Go.Proofs.Try.prog Go.Proofs.Try.f130 0 0 ⟨[(0, .one (.c (.d (.sl (.int .i64) s)))), (1, .one (.c (.d (.int .i64 v_))))], [], [], 0⟩ _
  refine At.step hm ht ⟨[], [], [], [0, 1], []⟩ 1 ⟨[(0, .one (.c (.d (.sl (.int .i64) s)))), (1, .one (.c (.d (.int .i64 v_))))], [], [], 0⟩ [] (by kernel_rfl) trivial ?_
  refine At.step hm ht ⟨[], [], [], [0, 1, 7, 8], []⟩ 2 ⟨[(0, .one (.c (.d (.sl (.int .i64) s)))), (1, .one (.c (.d (.int .i64 v_)))), (7, .one (.c (.d (.int .i64 ((s.length : Nat) : Int))))), (8, .one (.c (.d (.int .i64 0))))], [], [], 0⟩ [] (by kernel_rfl) trivial ?_
  obtain ⟨w453, cw453, h⟩ := bindS h
  refine f130_slices_Index_int_int_L2_ok n s v_ ((s.length : Nat) : Int) 0 w453 cw453 _ ?_
  rcases w453 with e454 | e455
  · have h := Option.some.inj h
    subst h
    rfl
  · show At Go.Proofs.Try.prog Go.Proofs.Try.f130 0 7 ⟨[], [], [], 0⟩ _
    have h := Option.some.inj h
    subst h
    exact At.fin hm ht ⟨[], [], [], [4], []⟩ [] (by kernel_rfl) trivial
/-! slices.Contains[[]int,int] -/
def f99_slices_Contains_int_int_in (s : List Int) (v_ : Int) : Inn := ⟨[.c (.d (.sl (.int .i64) s)), .c (.d (.int .i64 v_))], [], [], 0⟩
def f99_slices_Contains_int_int_out (r : Bool) : Out := ⟨.one (.c (.d (.bool r))), [], [], 0⟩
def f99_slices_Contains_int_int (n : Nat) (s : List Int) (v_ : Int) : Option (Bool) :=
  (f130_slices_Index_int_int n s v_).bind fun r445_0 =>
  some (decide ((r445_0 : Int) ≥ 0))
theorem f99_slices_Contains_int_int_ok (n : Nat) (s : List Int) (v_ : Int) (r : Bool) (h : f99_slices_Contains_int_int n s v_ = some r) : FnOK Go.Proofs.Try.prog 99 (f99_slices_Contains_int_int_in s v_) (f99_slices_Contains_int_int_out r) := by
  unfold f99_slices_Contains_int_int at h
  refine At.fn (r := 0) Go.Proofs.Try.func99 rfl (by kernel_rfl) rfl rfl (by kernel_rfl) ?_
  show At Go.Proofs.Try.prog Go.Proofs.Try.f99 0 0 ⟨[(0, .one (.c (.d (.sl (.int .i64) s)))), (1, .one (.c (.d (.int .i64 v_))))], [], [], 0⟩ _
  refine At.step hm ht ⟨[], [], [], [0, 1], []⟩ 1 ⟨[(0, .one (.c (.d (.sl (.int .i64) s)))), (1, .one (.c (.d (.int .i64 v_))))], [], [], 0⟩ [] (by kernel_rfl) trivial ?_
  obtain ⟨r445_0, cr445_0, h⟩ := bindS h
  have h := Option.some.inj h
  subst h
  exact At.fin hm ht ⟨[(2, .call [] [] (f130_slices_Index_int_int_out r445_0))], [], [], [4], []⟩ [FnOK Go.Proofs.Try.prog 130 (f130_slices_Index_int_int_in s v_) (f130_slices_Index_int_int_out r445_0)] (by kernel_rfl) ⟨(f130_slices_Index_int_int_ok n s v_ r445_0 cr445_0), trivial⟩
/-! (*brougham/table.Table).Names -/
def f56_table_Table_Names_in (values : List Int) (t_0 : Int) (t_1 : Int) (t_3 : Int) (t_4 : Int) (t_5 : Int) (b1_0 : List (Int × Int × Int)) : Inn := ⟨[.c (.ptr 0 0), .c (.d (.sl (.int .i64) values))], [(1, ⟨169, 2⟩)], [(0, [.d (.int .u64 t_0), .d (.int .u64 t_1), .row 1 (.pair (.int .u8) (.pair (.int .u32) (.int .i64))), .d (.int .i64 t_3), .d (.int .i64 t_4), .d (.int .i64 t_5)]), (1, [.run (.pair (.int .u8) (.pair (.int .u32) (.int .i64))) b1_0])], 2⟩
def f56_table_Table_Names_out (r : Int × Int × Int × Int × Int × (List (Int × Int × Int)) × List Int) : Out := ⟨.one (.c (.row 2 (.int .u32))), [(1, ⟨169, 2⟩), (2, ⟨26, 2⟩)], [(0, [.d (.int .u64 r.1), .d (.int .u64 r.2.1), .row 1 (.pair (.int .u8) (.pair (.int .u32) (.int .i64))), .d (.int .i64 r.2.2.1), .d (.int .i64 r.2.2.2.1), .d (.int .i64 r.2.2.2.2.1)]), (1, [.run (.pair (.int .u8) (.pair (.int .u32) (.int .i64))) r.2.2.2.2.2.1]), (2, [.run (.int .u32) r.2.2.2.2.2.2])], 3⟩
def f56_table_Table_Names_L3 : Nat → (List Int) → Int → Int → Int → Int → Int → Int → Int → (List (Int × Int × Int)) → (List Int) → Option (Int × Int × Int × Int × Int × (List (Int × Int × Int)) × List Int)
  | 0, _, _, _, _, _, _, _, _, _, _ => none
  | n + 1, values, t12, t13, b0_0, b0_1, b0_3, b0_4, b0_5, b1_0, b2_0 =>
    if (decide ((t13 : Int) < t12)) = true then
      if (0 : Int) ≤ t13 ∧ t13 < (((b1_0).length : Nat) : Int) then
      if ((((b1_0.getD t13.toNat (0, (0, 0))).1) : Int) == 1) = true then
        if ((((values.length : Nat) : Int) : Int) == 0) = true then
          (f100_table_insert_v2 n (((b1_0.getD t13.toNat (0, (0, 0))).2).1) b2_0).bind fun r433_0 =>
          f56_table_Table_Names_L3 n values t12 (IntKind.wrap .i64 (t13 + 1)) b0_0 b0_1 b0_3 b0_4 b0_5 b1_0 r433_0.2
        else
          (f99_slices_Contains_int_int n values (((b1_0.getD t13.toNat (0, (0, 0))).2).2)).bind fun r432_0 =>
          if r432_0 = true then
            (f100_table_insert_v2 n (((b1_0.getD t13.toNat (0, (0, 0))).2).1) b2_0).bind fun r457_0 =>
            f56_table_Table_Names_L3 n values t12 (IntKind.wrap .i64 (t13 + 1)) b0_0 b0_1 b0_3 b0_4 b0_5 b1_0 r457_0.2
          else
            f56_table_Table_Names_L3 n values t12 (IntKind.wrap .i64 (t13 + 1)) b0_0 b0_1 b0_3 b0_4 b0_5 b1_0 b2_0
      else
        f56_table_Table_Names_L3 n values t12 (IntKind.wrap .i64 (t13 + 1)) b0_0 b0_1 b0_3 b0_4 b0_5 b1_0 b2_0
      else none
    else
      some ((b0_0, b0_1, b0_3, b0_4, b0_5, b1_0, b2_0))
def f56_table_Table_Names_L3_k (e : Int × Int × Int × Int × Int × (List (Int × Int × Int)) × List Int) (o : Out) : Prop := At Go.Proofs.Try.prog Go.Proofs.Try.f56 2 8 ⟨[(5, .one (.c (.row 2 (.int .u32))))], [(1, some ⟨169, 2⟩), (2, some ⟨26, 2⟩)], [(0, [.d (.int .u64 e.1), .d (.int .u64 e.2.1), .row 1 (.pair (.int .u8) (.pair (.int .u32) (.int .i64))), .d (.int .i64 e.2.2.1), .d (.int .i64 e.2.2.2.1), .d (.int .i64 e.2.2.2.2.1)]), (1, [.run (.pair (.int .u8) (.pair (.int .u32) (.int .i64))) e.2.2.2.2.2.1]), (2, [.run (.int .u32) e.2.2.2.2.2.2])], 3⟩ o
theorem f56_table_Table_Names_L3_ok (n : Nat) : ∀ (values : List Int) (t12 : Int) (t13 : Int) (b0_0 : Int) (b0_1 : Int) (b0_3 : Int) (b0_4 : Int) (b0_5 : Int) (b1_0 : List (Int × Int × Int)) (b2_0 : List Int) (w : Int × Int × Int × Int × Int × (List (Int × Int × Int)) × List Int) (h : f56_table_Table_Names_L3 n values t12 t13 b0_0 b0_1 b0_3 b0_4 b0_5 b1_0 b2_0 = some w) (o : Out) (hk : f56_table_Table_Names_L3_k w o), At Go.Proofs.Try.prog Go.Proofs.Try.f56 2 3 ⟨[(1, .one (.c (.d (.sl (.int .i64) values)))), (5, .one (.c (.row 2 (.int .u32)))), (11, .one (.c (.row 1 (.pair (.int .u8) (.pair (.int .u32) (.int .i64)))))), (12, .one (.c (.d (.int .i64 t12)))), (13, .one (.c (.d (.int .i64 t13))))], [(1, some ⟨169, 2⟩), (2, some ⟨26, 2⟩)], [(0, [.d (.int .u64 b0_0), .d (.int .u64 b0_1), .row 1 (.pair (.int .u8) (.pair (.int .u32) (.int .i64))), .d (.int .i64 b0_3), .d (.int .i64 b0_4), .d (.int .i64 b0_5)]), (1, [.run (.pair (.int .u8) (.pair (.int .u32) (.int .i64))) b1_0]), (2, [.run (.int .u32) b2_0])], 3⟩ o := by
  induction n with
  | zero => intro values t12 t13 b0_0 b0_1 b0_3 b0_4 b0_5 b1_0 b2_0 w h; rw [f56_table_Table_Names_L3] at h; cases h
  | succ n ih =>
    intro values t12 t13 b0_0 b0_1 b0_3 b0_4 b0_5 b1_0 b2_0 w h o hk
    rw [f56_table_Table_Names_L3] at h
    rcases iteS h with ⟨b430_e0, h⟩ | ⟨b430_e0, h⟩
    · refine At.step hm ht ⟨[], [true], [], [1, 5, 11, 12, 13], [0, 1, 2]⟩ 4 ⟨[(1, .one (.c (.d (.sl (.int .i64) values)))), (5, .one (.c (.row 2 (.int .u32)))), (11, .one (.c (.row 1 (.pair (.int .u8) (.pair (.int .u32) (.int .i64)))))), (12, .one (.c (.d (.int .i64 t12)))), (13, .one (.c (.d (.int .i64 t13))))], [(1, some ⟨169, 2⟩), (2, some ⟨26, 2⟩)], [(0, [.d (.int .u64 b0_0), .d (.int .u64 b0_1), .row 1 (.pair (.int .u8) (.pair (.int .u32) (.int .i64))), .d (.int .i64 b0_3), .d (.int .i64 b0_4), .d (.int .i64 b0_5)]), (1, [.run (.pair (.int .u8) (.pair (.int .u32) (.int .i64))) b1_0]), (2, [.run (.int .u32) b2_0])], 3⟩ [(decide ((t13 : Int) < t12)) = true] (by kernel_rfl) ⟨b430_e0, trivial⟩ ?_
      obtain ⟨g431_0, h⟩ := ifS h
      refine At.step hm ht ⟨[], [], [], [1, 5, 7, 11, 12, 13], [0, 1, 2, 5]⟩ 5 ⟨[(1, .one (.c (.d (.sl (.int .i64) values)))), (5, .one (.c (.row 2 (.int .u32)))), (7, .one (.c (.ptr 3 0))), (11, .one (.c (.row 1 (.pair (.int .u8) (.pair (.int .u32) (.int .i64)))))), (12, .one (.c (.d (.int .i64 t12)))), (13, .one (.c (.d (.int .i64 t13))))], [(1, some ⟨169, 2⟩), (2, some ⟨26, 2⟩)], [(0, [.d (.int .u64 b0_0), .d (.int .u64 b0_1), .row 1 (.pair (.int .u8) (.pair (.int .u32) (.int .i64))), .d (.int .i64 b0_3), .d (.int .i64 b0_4), .d (.int .i64 b0_5)]), (1, [.run (.pair (.int .u8) (.pair (.int .u32) (.int .i64))) b1_0]), (2, [.run (.int .u32) b2_0]), (3, [.d (.int .u8 ((b1_0.getD t13.toNat (0, (0, 0))).1)), .d (.int .u32 (((b1_0.getD t13.toNat (0, (0, 0))).2).1)), .d (.int .i64 (((b1_0.getD t13.toNat (0, (0, 0))).2).2))])], 4⟩ [(0 : Int) ≤ t13 ∧ t13 < (((b1_0).length : Nat) : Int), 0 + 3 ≤ 3] (by kernel_rfl) ⟨g431_0, (by decide), trivial⟩ ?_
      rcases iteS h with ⟨b432_3, h⟩ | ⟨b432_3, h⟩
      · rcases iteS h with ⟨b432_7, h⟩ | ⟨b432_7, h⟩
        · refine At.step hm ht ⟨[(3, .b true), (7, .b true)], [true], [], [1, 5, 7, 11, 12, 13], [0, 1, 2, 3]⟩ 6 ⟨[(1, .one (.c (.d (.sl (.int .i64) values)))), (5, .one (.c (.row 2 (.int .u32)))), (7, .one (.c (.ptr 3 0))), (11, .one (.c (.row 1 (.pair (.int .u8) (.pair (.int .u32) (.int .i64)))))), (12, .one (.c (.d (.int .i64 t12)))), (13, .one (.c (.d (.int .i64 t13))))], [(1, some ⟨169, 2⟩), (2, some ⟨26, 2⟩)], [(0, [.d (.int .u64 b0_0), .d (.int .u64 b0_1), .row 1 (.pair (.int .u8) (.pair (.int .u32) (.int .i64))), .d (.int .i64 b0_3), .d (.int .i64 b0_4), .d (.int .i64 b0_5)]), (1, [.run (.pair (.int .u8) (.pair (.int .u32) (.int .i64))) b1_0]), (2, [.run (.int .u32) b2_0]), (3, [.d (.int .u8 ((b1_0.getD t13.toNat (0, (0, 0))).1)), .d (.int .u32 (((b1_0.getD t13.toNat (0, (0, 0))).2).1)), .d (.int .i64 (((b1_0.getD t13.toNat (0, (0, 0))).2).2))])], 4⟩ [((((b1_0.getD t13.toNat (0, (0, 0))).1) : Int) == 1) = true, ((((values.length : Nat) : Int) : Int) == 0) = true, true = true] (by kernel_rfl) ⟨b432_3, b432_7, rfl, trivial⟩ ?_
          obtain ⟨r433_0, cr433_0, h⟩ := bindS h
          refine At.step hm ht ⟨[(3, .call [2] [] (f100_table_insert_v2_out r433_0))], [], [], [1, 5, 11, 12, 13], [0, 1, 8]⟩ 7 ⟨[(1, .one (.c (.d (.sl (.int .i64) values)))), (5, .one (.c (.row 2 (.int .u32)))), (11, .one (.c (.row 1 (.pair (.int .u8) (.pair (.int .u32) (.int .i64)))))), (12, .one (.c (.d (.int .i64 t12)))), (13, .one (.c (.d (.int .i64 t13))))], [(1, some ⟨169, 2⟩), (2, some ⟨26, 2⟩)], [(0, [.d (.int .u64 b0_0), .d (.int .u64 b0_1), .row 1 (.pair (.int .u8) (.pair (.int .u32) (.int .i64))), .d (.int .i64 b0_3), .d (.int .i64 b0_4), .d (.int .i64 b0_5)]), (1, [.run (.pair (.int .u8) (.pair (.int .u32) (.int .i64))) b1_0]), (2, [.run (.int .u32) r433_0.2])], 3⟩ [FnOK Go.Proofs.Try.prog 100 (f100_table_insert_v2_in (((b1_0.getD t13.toNat (0, (0, 0))).2).1) b2_0) (f100_table_insert_v2_out r433_0)] (by kernel_rfl) ⟨(f100_table_insert_v2_ok n (((b1_0.getD t13.toNat (0, (0, 0))).2).1) b2_0 r433_0 cr433_0), trivial⟩ ?_
          refine At.step hm ht ⟨[], [], [], [1, 5, 11, 12, 13], [0, 1, 2]⟩ 3 ⟨[(1, .one (.c (.d (.sl (.int .i64) values)))), (5, .one (.c (.row 2 (.int .u32)))), (11, .one (.c (.row 1 (.pair (.int .u8) (.pair (.int .u32) (.int .i64)))))), (12, .one (.c (.d (.int .i64 t12)))), (13, .one (.c (.d (.int .i64 (IntKind.wrap .i64 (t13 + 1))))))], [(1, some ⟨169, 2⟩), (2, some ⟨26, 2⟩)], [(0, [.d (.int .u64 b0_0), .d (.int .u64 b0_1), .row 1 (.pair (.int .u8) (.pair (.int .u32) (.int .i64))), .d (.int .i64 b0_3), .d (.int .i64 b0_4), .d (.int .i64 b0_5)]), (1, [.run (.pair (.int .u8) (.pair (.int .u32) (.int .i64))) b1_0]), (2, [.run (.int .u32) r433_0.2])], 3⟩ [] (by kernel_rfl) trivial ?_
          exact ih values t12 (IntKind.wrap .i64 (t13 + 1)) b0_0 b0_1 b0_3 b0_4 b0_5 b1_0 r433_0.2 w h o hk
        · obtain ⟨r432_0, cr432_0, h⟩ := bindS h
          rcases iteS h with ⟨b432_e0, h⟩ | ⟨b432_e0, h⟩
          · refine At.step hm ht ⟨[(3, .b true), (7, .b false), (11, .call [] [] (f99_slices_Contains_int_int_out r432_0))], [true], [], [1, 5, 7, 11, 12, 13], [0, 1, 2, 3]⟩ 6 ⟨[(1, .one (.c (.d (.sl (.int .i64) values)))), (5, .one (.c (.row 2 (.int .u32)))), (7, .one (.c (.ptr 3 0))), (11, .one (.c (.row 1 (.pair (.int .u8) (.pair (.int .u32) (.int .i64)))))), (12, .one (.c (.d (.int .i64 t12)))), (13, .one (.c (.d (.int .i64 t13))))], [(1, some ⟨169, 2⟩), (2, some ⟨26, 2⟩)], [(0, [.d (.int .u64 b0_0), .d (.int .u64 b0_1), .row 1 (.pair (.int .u8) (.pair (.int .u32) (.int .i64))), .d (.int .i64 b0_3), .d (.int .i64 b0_4), .d (.int .i64 b0_5)]), (1, [.run (.pair (.int .u8) (.pair (.int .u32) (.int .i64))) b1_0]), (2, [.run (.int .u32) b2_0]), (3, [.d (.int .u8 ((b1_0.getD t13.toNat (0, (0, 0))).1)), .d (.int .u32 (((b1_0.getD t13.toNat (0, (0, 0))).2).1)), .d (.int .i64 (((b1_0.getD t13.toNat (0, (0, 0))).2).2))])], 4⟩ [((((b1_0.getD t13.toNat (0, (0, 0))).1) : Int) == 1) = true, ((((values.length : Nat) : Int) : Int) == 0) = false, FnOK Go.Proofs.Try.prog 99 (f99_slices_Contains_int_int_in values (((b1_0.getD t13.toNat (0, (0, 0))).2).2)) (f99_slices_Contains_int_int_out r432_0), r432_0 = true] (by kernel_rfl) ⟨b432_3, b432_7, (f99_slices_Contains_int_int_ok n values (((b1_0.getD t13.toNat (0, (0, 0))).2).2) r432_0 cr432_0), b432_e0, trivial⟩ ?_
            obtain ⟨r457_0, cr457_0, h⟩ := bindS h
            refine At.step hm ht ⟨[(3, .call [2] [] (f100_table_insert_v2_out r457_0))], [], [], [1, 5, 11, 12, 13], [0, 1, 8]⟩ 7 ⟨[(1, .one (.c (.d (.sl (.int .i64) values)))), (5, .one (.c (.row 2 (.int .u32)))), (11, .one (.c (.row 1 (.pair (.int .u8) (.pair (.int .u32) (.int .i64)))))), (12, .one (.c (.d (.int .i64 t12)))), (13, .one (.c (.d (.int .i64 t13))))], [(1, some ⟨169, 2⟩), (2, some ⟨26, 2⟩)], [(0, [.d (.int .u64 b0_0), .d (.int .u64 b0_1), .row 1 (.pair (.int .u8) (.pair (.int .u32) (.int .i64))), .d (.int .i64 b0_3), .d (.int .i64 b0_4), .d (.int .i64 b0_5)]), (1, [.run (.pair (.int .u8) (.pair (.int .u32) (.int .i64))) b1_0]), (2, [.run (.int .u32) r457_0.2])], 3⟩ [FnOK Go.Proofs.Try.prog 100 (f100_table_insert_v2_in (((b1_0.getD t13.toNat (0, (0, 0))).2).1) b2_0) (f100_table_insert_v2_out r457_0)] (by kernel_rfl) ⟨(f100_table_insert_v2_ok n (((b1_0.getD t13.toNat (0, (0, 0))).2).1) b2_0 r457_0 cr457_0), trivial⟩ ?_
            refine At.step hm ht ⟨[], [], [], [1, 5, 11, 12, 13], [0, 1, 2]⟩ 3 ⟨[(1, .one (.c (.d (.sl (.int .i64) values)))), (5, .one (.c (.row 2 (.int .u32)))), (11, .one (.c (.row 1 (.pair (.int .u8) (.pair (.int .u32) (.int .i64)))))), (12, .one (.c (.d (.int .i64 t12)))), (13, .one (.c (.d (.int .i64 (IntKind.wrap .i64 (t13 + 1))))))], [(1, some ⟨169, 2⟩), (2, some ⟨26, 2⟩)], [(0, [.d (.int .u64 b0_0), .d (.int .u64 b0_1), .row 1 (.pair (.int .u8) (.pair (.int .u32) (.int .i64))), .d (.int .i64 b0_3), .d (.int .i64 b0_4), .d (.int .i64 b0_5)]), (1, [.run (.pair (.int .u8) (.pair (.int .u32) (.int .i64))) b1_0]), (2, [.run (.int .u32) r457_0.2])], 3⟩ [] (by kernel_rfl) trivial ?_
            exact ih values t12 (IntKind.wrap .i64 (t13 + 1)) b0_0 b0_1 b0_3 b0_4 b0_5 b1_0 r457_0.2 w h o hk
          · refine At.step hm ht ⟨[(3, .b true), (7, .b false), (11, .call [] [] (f99_slices_Contains_int_int_out r432_0))], [false], [], [1, 5, 11, 12, 13], [0, 1, 2]⟩ 7 ⟨[(1, .one (.c (.d (.sl (.int .i64) values)))), (5, .one (.c (.row 2 (.int .u32)))), (11, .one (.c (.row 1 (.pair (.int .u8) (.pair (.int .u32) (.int .i64)))))), (12, .one (.c (.d (.int .i64 t12)))), (13, .one (.c (.d (.int .i64 t13))))], [(1, some ⟨169, 2⟩), (2, some ⟨26, 2⟩)], [(0, [.d (.int .u64 b0_0), .d (.int .u64 b0_1), .row 1 (.pair (.int .u8) (.pair (.int .u32) (.int .i64))), .d (.int .i64 b0_3), .d (.int .i64 b0_4), .d (.int .i64 b0_5)]), (1, [.run (.pair (.int .u8) (.pair (.int .u32) (.int .i64))) b1_0]), (2, [.run (.int .u32) b2_0])], 3⟩ [((((b1_0.getD t13.toNat (0, (0, 0))).1) : Int) == 1) = true, ((((values.length : Nat) : Int) : Int) == 0) = false, FnOK Go.Proofs.Try.prog 99 (f99_slices_Contains_int_int_in values (((b1_0.getD t13.toNat (0, (0, 0))).2).2)) (f99_slices_Contains_int_int_out r432_0), r432_0 = false] (by kernel_rfl) ⟨b432_3, b432_7, (f99_slices_Contains_int_int_ok n values (((b1_0.getD t13.toNat (0, (0, 0))).2).2) r432_0 cr432_0), b432_e0, trivial⟩ ?_
            refine At.step hm ht ⟨[], [], [], [1, 5, 11, 12, 13], [0, 1, 2]⟩ 3 ⟨[(1, .one (.c (.d (.sl (.int .i64) values)))), (5, .one (.c (.row 2 (.int .u32)))), (11, .one (.c (.row 1 (.pair (.int .u8) (.pair (.int .u32) (.int .i64)))))), (12, .one (.c (.d (.int .i64 t12)))), (13, .one (.c (.d (.int .i64 (IntKind.wrap .i64 (t13 + 1))))))], [(1, some ⟨169, 2⟩), (2, some ⟨26, 2⟩)], [(0, [.d (.int .u64 b0_0), .d (.int .u64 b0_1), .row 1 (.pair (.int .u8) (.pair (.int .u32) (.int .i64))), .d (.int .i64 b0_3), .d (.int .i64 b0_4), .d (.int .i64 b0_5)]), (1, [.run (.pair (.int .u8) (.pair (.int .u32) (.int .i64))) b1_0]), (2, [.run (.int .u32) b2_0])], 3⟩ [] (by kernel_rfl) trivial ?_
            exact ih values t12 (IntKind.wrap .i64 (t13 + 1)) b0_0 b0_1 b0_3 b0_4 b0_5 b1_0 b2_0 w h o hk
      · refine At.step hm ht ⟨[(3, .b false)], [false], [], [1, 5, 11, 12, 13], [0, 1, 2]⟩ 7 ⟨[(1, .one (.c (.d (.sl (.int .i64) values)))), (5, .one (.c (.row 2 (.int .u32)))), (11, .one (.c (.row 1 (.pair (.int .u8) (.pair (.int .u32) (.int .i64)))))), (12, .one (.c (.d (.int .i64 t12)))), (13, .one (.c (.d (.int .i64 t13))))], [(1, some ⟨169, 2⟩), (2, some ⟨26, 2⟩)], [(0, [.d (.int .u64 b0_0), .d (.int .u64 b0_1), .row 1 (.pair (.int .u8) (.pair (.int .u32) (.int .i64))), .d (.int .i64 b0_3), .d (.int .i64 b0_4), .d (.int .i64 b0_5)]), (1, [.run (.pair (.int .u8) (.pair (.int .u32) (.int .i64))) b1_0]), (2, [.run (.int .u32) b2_0])], 3⟩ [((((b1_0.getD t13.toNat (0, (0, 0))).1) : Int) == 1) = false, false = false] (by kernel_rfl) ⟨b432_3, rfl, trivial⟩ ?_
        refine At.step hm ht ⟨[], [], [], [1, 5, 11, 12, 13], [0, 1, 2]⟩ 3 ⟨[(1, .one (.c (.d (.sl (.int .i64) values)))), (5, .one (.c (.row 2 (.int .u32)))), (11, .one (.c (.row 1 (.pair (.int .u8) (.pair (.int .u32) (.int .i64)))))), (12, .one (.c (.d (.int .i64 t12)))), (13, .one (.c (.d (.int .i64 (IntKind.wrap .i64 (t13 + 1))))))], [(1, some ⟨169, 2⟩), (2, some ⟨26, 2⟩)], [(0, [.d (.int .u64 b0_0), .d (.int .u64 b0_1), .row 1 (.pair (.int .u8) (.pair (.int .u32) (.int .i64))), .d (.int .i64 b0_3), .d (.int .i64 b0_4), .d (.int .i64 b0_5)]), (1, [.run (.pair (.int .u8) (.pair (.int .u32) (.int .i64))) b1_0]), (2, [.run (.int .u32) b2_0])], 3⟩ [] (by kernel_rfl) trivial ?_
        exact ih values t12 (IntKind.wrap .i64 (t13 + 1)) b0_0 b0_1 b0_3 b0_4 b0_5 b1_0 b2_0 w h o hk
    · refine At.step hm ht ⟨[], [false], [], [5], [0, 1, 2]⟩ 8 ⟨[(5, .one (.c (.row 2 (.int .u32))))], [(1, some ⟨169, 2⟩), (2, some ⟨26, 2⟩)], [(0, [.d (.int .u64 b0_0), .d (.int .u64 b0_1), .row 1 (.pair (.int .u8) (.pair (.int .u32) (.int .i64))), .d (.int .i64 b0_3), .d (.int .i64 b0_4), .d (.int .i64 b0_5)]), (1, [.run (.pair (.int .u8) (.pair (.int .u32) (.int .i64))) b1_0]), (2, [.run (.int .u32) b2_0])], 3⟩ [(decide ((t13 : Int) < t12)) = false] (by kernel_rfl) ⟨b430_e0, trivial⟩ ?_
      have h := Option.some.inj h
      subst h
      exact hk
def f56_table_Table_Names (n : Nat) (values : List Int) (t_0 : Int) (t_1 : Int) (t_3 : Int) (t_4 : Int) (t_5 : Int) (b1_0 : List (Int × Int × Int)) : Option (Int × Int × Int × Int × Int × (List (Int × Int × Int)) × List Int) :=
  (f56_table_Table_Names_L3 n values ((b1_0.length : Nat) : Int) 0 t_0 t_1 t_3 t_4 t_5 b1_0 []).bind fun w461 =>
  some (w461.1, w461.2.1, w461.2.2.1, w461.2.2.2.1, w461.2.2.2.2.1, w461.2.2.2.2.2.1, w461.2.2.2.2.2.2)
theorem f56_table_Table_Names_ok (n : Nat) (values : List Int) (t_0 : Int) (t_1 : Int) (t_3 : Int) (t_4 : Int) (t_5 : Int) (b1_0 : List (Int × Int × Int)) (r : Int × Int × Int × Int × Int × (List (Int × Int × Int)) × List Int) (h : f56_table_Table_Names n values t_0 t_1 t_3 t_4 t_5 b1_0 = some r) : FnOK Go.Proofs.Try.prog 56 (f56_table_Table_Names_in values t_0 t_1 t_3 t_4 t_5 b1_0) (f56_table_Table_Names_out r) := by
  unfold f56_table_Table_Names at h
  refine At.fn (r := 0) Go.Proofs.Try.func56 rfl (by kernel_rfl) rfl rfl (by kernel_rfl) ?_
  show At Go.Proofs.Try.prog Go.Proofs.Try.f56 2 0 ⟨[(0, .one (.c (.ptr 0 0))), (1, .one (.c (.d (.sl (.int .i64) values))))], [(1, some ⟨169, 2⟩)], [(0, [.d (.int .u64 t_0), .d (.int .u64 t_1), .row 1 (.pair (.int .u8) (.pair (.int .u32) (.int .i64))), .d (.int .i64 t_3), .d (.int .i64 t_4), .d (.int .i64 t_5)]), (1, [.run (.pair (.int .u8) (.pair (.int .u32) (.int .i64))) b1_0])], 2⟩ _
  refine At.step hm ht ⟨[], [], [], [0, 1], [0, 1]⟩ 1 ⟨[(0, .one (.c (.ptr 0 0))), (1, .one (.c (.d (.sl (.int .i64) values))))], [(1, some ⟨169, 2⟩)], [(0, [.d (.int .u64 t_0), .d (.int .u64 t_1), .row 1 (.pair (.int .u8) (.pair (.int .u32) (.int .i64))), .d (.int .i64 t_3), .d (.int .i64 t_4), .d (.int .i64 t_5)]), (1, [.run (.pair (.int .u8) (.pair (.int .u32) (.int .i64))) b1_0])], 2⟩ [] (by kernel_rfl) trivial ?_
  refine At.step hm ht ⟨[], [], [], [0, 1, 5], [0, 1]⟩ 2 ⟨[(0, .one (.c (.ptr 0 0))), (1, .one (.c (.d (.sl (.int .i64) values)))), (5, .one (.c (.d (.sl .unit []))))], [(1, some ⟨169, 2⟩)], [(0, [.d (.int .u64 t_0), .d (.int .u64 t_1), .row 1 (.pair (.int .u8) (.pair (.int .u32) (.int .i64))), .d (.int .i64 t_3), .d (.int .i64 t_4), .d (.int .i64 t_5)]), (1, [.run (.pair (.int .u8) (.pair (.int .u32) (.int .i64))) b1_0])], 2⟩ [] (by kernel_rfl) trivial ?_
  refine At.step hm ht ⟨[], [], [.nilrow 5 0 (.int .u32) 26], [1, 5, 11, 12, 13], [0, 1, 8]⟩ 3 ⟨[(1, .one (.c (.d (.sl (.int .i64) values)))), (5, .one (.c (.row 2 (.int .u32)))), (11, .one (.c (.row 1 (.pair (.int .u8) (.pair (.int .u32) (.int .i64)))))), (12, .one (.c (.d (.int .i64 ((b1_0.length : Nat) : Int))))), (13, .one (.c (.d (.int .i64 0))))], [(1, some ⟨169, 2⟩), (2, some ⟨26, 2⟩)], [(0, [.d (.int .u64 t_0), .d (.int .u64 t_1), .row 1 (.pair (.int .u8) (.pair (.int .u32) (.int .i64))), .d (.int .i64 t_3), .d (.int .i64 t_4), .d (.int .i64 t_5)]), (1, [.run (.pair (.int .u8) (.pair (.int .u32) (.int .i64))) b1_0]), (2, [.run (.int .u32) []])], 3⟩ [] (by kernel_rfl) trivial ?_
  obtain ⟨w461, cw461, h⟩ := bindS h
  refine f56_table_Table_Names_L3_ok n values ((b1_0.length : Nat) : Int) 0 t_0 t_1 t_3 t_4 t_5 b1_0 [] w461 cw461 _ ?_
  show At Go.Proofs.Try.prog Go.Proofs.Try.f56 2 8 ⟨[(5, .one (.c (.row 2 (.int .u32))))], [(1, some ⟨169, 2⟩), (2, some ⟨26, 2⟩)], [(0, [.d (.int .u64 w461.1), .d (.int .u64 w461.2.1), .row 1 (.pair (.int .u8) (.pair (.int .u32) (.int .i64))), .d (.int .i64 w461.2.2.1), .d (.int .i64 w461.2.2.2.1), .d (.int .i64 w461.2.2.2.2.1)]), (1, [.run (.pair (.int .u8) (.pair (.int .u32) (.int .i64))) w461.2.2.2.2.2.1]), (2, [.run (.int .u32) w461.2.2.2.2.2.2])], 3⟩ _
  have h := Option.some.inj h
  subst h
  exact At.fin hm ht ⟨[], [], [], [4], [0, 1, 2]⟩ [] (by kernel_rfl) trivial
/-! brougham/broughamlaw40.names -/
def f63_broughamlaw40_names_in (l : List (Int × Int)) (values : List Int) : Inn := ⟨[.c (.d (.sl (.pair (.int .u32) (.int .i64)) l)), .c (.d (.sl (.int .i64) values))], [], [], 0⟩
def f63_broughamlaw40_names_out (r : List Int) : Out := ⟨.one (.c (.own 0 (.int .u32) r)), [(0, ⟨26, 0⟩)], [], 1⟩
def f63_broughamlaw40_names_L7 : Nat → (List (Int × Int)) → (List Int) → (List Int) → Int → Bool → Int → Option ((List (Int × Int)) × List Int × List Int × Int × Bool)
  | 0, _, _, _, _, _, _ => none
  | n + 1, l, values, out, i, ok, k =>
    if (decide ((k : Int) < ((values.length : Nat) : Int))) = true then
      if ok = true then
        f63_broughamlaw40_names_L7 n l values out i true (IntKind.wrap .i64 (k + 1))
      else
        if (0 : Int) ≤ i ∧ i < (((l).length : Nat) : Int) then
        if (0 : Int) ≤ k ∧ k < (((values).length : Nat) : Int) then
        f63_broughamlaw40_names_L7 n l values out i ((((l.getD i.toNat (0, 0)).2) : Int) == (values.getD k.toNat 0)) (IntKind.wrap .i64 (k + 1))
        else none
        else none
    else
      some ((l, values, out, i, ok))
def f63_broughamlaw40_names_L7_k (e : (List (Int × Int)) × List Int × List Int × Int × Bool) (o : Out) : Prop := At Go.Proofs.Try.prog Go.Proofs.Try.f63 0 10 ⟨[(0, .one (.c (.d (.sl (.pair (.int .u32) (.int .i64)) e.1)))), (1, .one (.c (.d (.sl (.int .i64) e.2.1)))), (5, .one (.c (.own 0 (.int .u32) e.2.2.1))), (6, .one (.c (.d (.int .i64 e.2.2.2.1)))), (7, .one (.c (.d (.bool e.2.2.2.2))))], [(0, some ⟨26, 0⟩)], [], 1⟩ o
theorem f63_broughamlaw40_names_L7_ok (n : Nat) : ∀ (l : List (Int × Int)) (values : List Int) (out : List Int) (i : Int) (ok : Bool) (k : Int) (w : (List (Int × Int)) × List Int × List Int × Int × Bool) (h : f63_broughamlaw40_names_L7 n l values out i ok k = some w) (o : Out) (hk : f63_broughamlaw40_names_L7_k w o), At Go.Proofs.Try.prog Go.Proofs.Try.f63 0 7 ⟨[(0, .one (.c (.d (.sl (.pair (.int .u32) (.int .i64)) l)))), (1, .one (.c (.d (.sl (.int .i64) values)))), (5, .one (.c (.own 0 (.int .u32) out))), (6, .one (.c (.d (.int .i64 i)))), (7, .one (.c (.d (.bool ok)))), (8, .one (.c (.d (.int .i64 k))))], [(0, some ⟨26, 0⟩)], [], 1⟩ o := by
  induction n with
  | zero => intro l values out i ok k w h; rw [f63_broughamlaw40_names_L7] at h; cases h
  | succ n ih =>
    intro l values out i ok k w h o hk
    rw [f63_broughamlaw40_names_L7] at h
    rcases iteS h with ⟨b491_e0, h⟩ | ⟨b491_e0, h⟩
    · refine At.step hm ht ⟨[], [true], [], [0, 1, 5, 6, 7, 8], [0]⟩ 9 ⟨[(0, .one (.c (.d (.sl (.pair (.int .u32) (.int .i64)) l)))), (1, .one (.c (.d (.sl (.int .i64) values)))), (5, .one (.c (.own 0 (.int .u32) out))), (6, .one (.c (.d (.int .i64 i)))), (7, .one (.c (.d (.bool ok)))), (8, .one (.c (.d (.int .i64 k))))], [(0, some ⟨26, 0⟩)], [], 1⟩ [(decide ((k : Int) < ((values.length : Nat) : Int))) = true] (by kernel_rfl) ⟨b491_e0, trivial⟩ ?_
      rcases iteS h with ⟨b492_1, h⟩ | ⟨b492_1, h⟩
      · refine At.step hm ht ⟨[(1, .b true)], [], [], [0, 1, 5, 6, 7, 8], [0]⟩ 8 ⟨[(0, .one (.c (.d (.sl (.pair (.int .u32) (.int .i64)) l)))), (1, .one (.c (.d (.sl (.int .i64) values)))), (5, .one (.c (.own 0 (.int .u32) out))), (6, .one (.c (.d (.int .i64 i)))), (7, .one (.c (.d (.bool true)))), (8, .one (.c (.d (.int .i64 k))))], [(0, some ⟨26, 0⟩)], [], 1⟩ [ok = true] (by kernel_rfl) ⟨b492_1, trivial⟩ ?_
        refine At.step hm ht ⟨[], [], [], [0, 1, 5, 6, 7, 8], [0]⟩ 7 ⟨[(0, .one (.c (.d (.sl (.pair (.int .u32) (.int .i64)) l)))), (1, .one (.c (.d (.sl (.int .i64) values)))), (5, .one (.c (.own 0 (.int .u32) out))), (6, .one (.c (.d (.int .i64 i)))), (7, .one (.c (.d (.bool true)))), (8, .one (.c (.d (.int .i64 (IntKind.wrap .i64 (k + 1))))))], [(0, some ⟨26, 0⟩)], [], 1⟩ [] (by kernel_rfl) trivial ?_
        exact ih l values out i true (IntKind.wrap .i64 (k + 1)) w h o hk
      · obtain ⟨g492_0, h⟩ := ifS h
        obtain ⟨g492_1, h⟩ := ifS h
        refine At.step hm ht ⟨[(1, .b false)], [], [], [0, 1, 5, 6, 7, 8], [0]⟩ 8 ⟨[(0, .one (.c (.d (.sl (.pair (.int .u32) (.int .i64)) l)))), (1, .one (.c (.d (.sl (.int .i64) values)))), (5, .one (.c (.own 0 (.int .u32) out))), (6, .one (.c (.d (.int .i64 i)))), (7, .one (.c (.d (.bool ((((l.getD i.toNat (0, 0)).2) : Int) == (values.getD k.toNat 0)))))), (8, .one (.c (.d (.int .i64 k))))], [(0, some ⟨26, 0⟩)], [], 1⟩ [ok = false, (0 : Int) ≤ i ∧ i < (((l).length : Nat) : Int), (0 : Int) ≤ k ∧ k < (((values).length : Nat) : Int)] (by kernel_rfl) ⟨b492_1, g492_0, g492_1, trivial⟩ ?_
        refine At.step hm ht ⟨[], [], [], [0, 1, 5, 6, 7, 8], [0]⟩ 7 ⟨[(0, .one (.c (.d (.sl (.pair (.int .u32) (.int .i64)) l)))), (1, .one (.c (.d (.sl (.int .i64) values)))), (5, .one (.c (.own 0 (.int .u32) out))), (6, .one (.c (.d (.int .i64 i)))), (7, .one (.c (.d (.bool ((((l.getD i.toNat (0, 0)).2) : Int) == (values.getD k.toNat 0)))))), (8, .one (.c (.d (.int .i64 (IntKind.wrap .i64 (k + 1))))))], [(0, some ⟨26, 0⟩)], [], 1⟩ [] (by kernel_rfl) trivial ?_
        exact ih l values out i ((((l.getD i.toNat (0, 0)).2) : Int) == (values.getD k.toNat 0)) (IntKind.wrap .i64 (k + 1)) w h o hk
    · refine At.step hm ht ⟨[], [false], [], [0, 1, 5, 6, 7], [0]⟩ 10 ⟨[(0, .one (.c (.d (.sl (.pair (.int .u32) (.int .i64)) l)))), (1, .one (.c (.d (.sl (.int .i64) values)))), (5, .one (.c (.own 0 (.int .u32) out))), (6, .one (.c (.d (.int .i64 i)))), (7, .one (.c (.d (.bool ok))))], [(0, some ⟨26, 0⟩)], [], 1⟩ [(decide ((k : Int) < ((values.length : Nat) : Int))) = false] (by kernel_rfl) ⟨b491_e0, trivial⟩ ?_
      have h := Option.some.inj h
      subst h
      exact hk
def f63_broughamlaw40_names_L3 : Nat → (List (Int × Int)) → (List Int) → (List Int) → Int → Option (List Int)
  | 0, _, _, _, _ => none
  | n + 1, l, values, out, i =>
    if (decide ((i : Int) < ((l.length : Nat) : Int))) = true then
      (f63_broughamlaw40_names_L7 n l values out i ((((values.length : Nat) : Int) : Int) == 0) 0).bind fun w495 =>
      if w495.2.2.2.2 = true then
        if (0 : Int) ≤ w495.2.2.2.1 ∧ w495.2.2.2.1 < (((w495.1).length : Nat) : Int) then
        if w495.2.2.1.length + [(w495.1.getD w495.2.2.2.1.toNat (0, 0)).1].length ≤ maxLen ∧ (w495.2.2.1.length + [(w495.1.getD w495.2.2.2.1.toNat (0, 0)).1].length) * 4 ≤ 140737488355328 then
        f63_broughamlaw40_names_L3 n w495.1 w495.2.1 (w495.2.2.1 ++ [(w495.1.getD w495.2.2.2.1.toNat (0, 0)).1]) (IntKind.wrap .i64 (w495.2.2.2.1 + 1))
        else none
        else none
      else
        f63_broughamlaw40_names_L3 n w495.1 w495.2.1 w495.2.2.1 (IntKind.wrap .i64 (w495.2.2.2.1 + 1))
    else
      some (out)
def f63_broughamlaw40_names_L3_k (e : List Int) (o : Out) : Prop := At Go.Proofs.Try.prog Go.Proofs.Try.f63 0 12 ⟨[(5, .one (.c (.own 0 (.int .u32) e)))], [(0, some ⟨26, 0⟩)], [], 1⟩ o
theorem f63_broughamlaw40_names_L3_ok (n : Nat) : ∀ (l : List (Int × Int)) (values : List Int) (out : List Int) (i : Int) (w : List Int) (h : f63_broughamlaw40_names_L3 n l values out i = some w) (o : Out) (hk : f63_broughamlaw40_names_L3_k w o), At Go.Proofs.Try.prog Go.Proofs.Try.f63 0 3 ⟨[(0, .one (.c (.d (.sl (.pair (.int .u32) (.int .i64)) l)))), (1, .one (.c (.d (.sl (.int .i64) values)))), (5, .one (.c (.own 0 (.int .u32) out))), (6, .one (.c (.d (.int .i64 i))))], [(0, some ⟨26, 0⟩)], [], 1⟩ o := by
  induction n with
  | zero => intro l values out i w h; rw [f63_broughamlaw40_names_L3] at h; cases h
  | succ n ih =>
    intro l values out i w h o hk
    rw [f63_broughamlaw40_names_L3] at h
    rcases iteS h with ⟨b488_e0, h⟩ | ⟨b488_e0, h⟩
    · refine At.step hm ht ⟨[], [true], [], [0, 1, 5, 6], [0]⟩ 5 ⟨[(0, .one (.c (.d (.sl (.pair (.int .u32) (.int .i64)) l)))), (1, .one (.c (.d (.sl (.int .i64) values)))), (5, .one (.c (.own 0 (.int .u32) out))), (6, .one (.c (.d (.int .i64 i))))], [(0, some ⟨26, 0⟩)], [], 1⟩ [(decide ((i : Int) < ((l.length : Nat) : Int))) = true] (by kernel_rfl) ⟨b488_e0, trivial⟩ ?_
      refine At.step hm ht ⟨[], [], [], [0, 1, 5, 6, 7], [0]⟩ 6 ⟨[(0, .one (.c (.d (.sl (.pair (.int .u32) (.int .i64)) l)))), (1, .one (.c (.d (.sl (.int .i64) values)))), (5, .one (.c (.own 0 (.int .u32) out))), (6, .one (.c (.d (.int .i64 i)))), (7, .one (.c (.d (.bool ((((values.length : Nat) : Int) : Int) == 0)))))], [(0, some ⟨26, 0⟩)], [], 1⟩ [] (by kernel_rfl) trivial ?_
      refine At.step hm ht ⟨[], [], [], [0, 1, 5, 6, 7, 8], [0]⟩ 7 ⟨[(0, .one (.c (.d (.sl (.pair (.int .u32) (.int .i64)) l)))), (1, .one (.c (.d (.sl (.int .i64) values)))), (5, .one (.c (.own 0 (.int .u32) out))), (6, .one (.c (.d (.int .i64 i)))), (7, .one (.c (.d (.bool ((((values.length : Nat) : Int) : Int) == 0))))), (8, .one (.c (.d (.int .i64 0))))], [(0, some ⟨26, 0⟩)], [], 1⟩ [] (by kernel_rfl) trivial ?_
      obtain ⟨w495, cw495, h⟩ := bindS h
      refine f63_broughamlaw40_names_L7_ok n l values out i ((((values.length : Nat) : Int) : Int) == 0) 0 w495 cw495 _ ?_
      show At Go.Proofs.Try.prog Go.Proofs.Try.f63 0 10 ⟨[(0, .one (.c (.d (.sl (.pair (.int .u32) (.int .i64)) w495.1)))), (1, .one (.c (.d (.sl (.int .i64) w495.2.1)))), (5, .one (.c (.own 0 (.int .u32) w495.2.2.1))), (6, .one (.c (.d (.int .i64 w495.2.2.2.1)))), (7, .one (.c (.d (.bool w495.2.2.2.2))))], [(0, some ⟨26, 0⟩)], [], 1⟩ _
      rcases iteS h with ⟨b497_e0, h⟩ | ⟨b497_e0, h⟩
      · refine At.step hm ht ⟨[], [true], [], [0, 1, 5, 6], [0]⟩ 11 ⟨[(0, .one (.c (.d (.sl (.pair (.int .u32) (.int .i64)) w495.1)))), (1, .one (.c (.d (.sl (.int .i64) w495.2.1)))), (5, .one (.c (.own 0 (.int .u32) w495.2.2.1))), (6, .one (.c (.d (.int .i64 w495.2.2.2.1))))], [(0, some ⟨26, 0⟩)], [], 1⟩ [w495.2.2.2.2 = true] (by kernel_rfl) ⟨b497_e0, trivial⟩ ?_
        obtain ⟨g498_0, h⟩ := ifS h
        obtain ⟨g498_1, h⟩ := ifS h
        refine At.step hm ht ⟨[], [], [], [0, 1, 5, 6], [8]⟩ 4 ⟨[(0, .one (.c (.d (.sl (.pair (.int .u32) (.int .i64)) w495.1)))), (1, .one (.c (.d (.sl (.int .i64) w495.2.1)))), (5, .one (.c (.own 0 (.int .u32) (w495.2.2.1 ++ [(w495.1.getD w495.2.2.2.1.toNat (0, 0)).1])))), (6, .one (.c (.d (.int .i64 w495.2.2.2.1))))], [(0, some ⟨26, 0⟩)], [], 1⟩ [(0 : Int) ≤ w495.2.2.2.1 ∧ w495.2.2.2.1 < (((w495.1).length : Nat) : Int), w495.2.2.1.length + [(w495.1.getD w495.2.2.2.1.toNat (0, 0)).1].length ≤ maxLen ∧ (w495.2.2.1.length + [(w495.1.getD w495.2.2.2.1.toNat (0, 0)).1].length) * 4 ≤ 140737488355328] (by kernel_rfl) ⟨g498_0, g498_1, trivial⟩ ?_
        refine At.step hm ht ⟨[], [], [], [0, 1, 5, 6], [0]⟩ 3 ⟨[(0, .one (.c (.d (.sl (.pair (.int .u32) (.int .i64)) w495.1)))), (1, .one (.c (.d (.sl (.int .i64) w495.2.1)))), (5, .one (.c (.own 0 (.int .u32) (w495.2.2.1 ++ [(w495.1.getD w495.2.2.2.1.toNat (0, 0)).1])))), (6, .one (.c (.d (.int .i64 (IntKind.wrap .i64 (w495.2.2.2.1 + 1))))))], [(0, some ⟨26, 0⟩)], [], 1⟩ [] (by kernel_rfl) trivial ?_
        exact ih w495.1 w495.2.1 (w495.2.2.1 ++ [(w495.1.getD w495.2.2.2.1.toNat (0, 0)).1]) (IntKind.wrap .i64 (w495.2.2.2.1 + 1)) w h o hk
      · refine At.step hm ht ⟨[], [false], [], [0, 1, 5, 6], [0]⟩ 4 ⟨[(0, .one (.c (.d (.sl (.pair (.int .u32) (.int .i64)) w495.1)))), (1, .one (.c (.d (.sl (.int .i64) w495.2.1)))), (5, .one (.c (.own 0 (.int .u32) w495.2.2.1))), (6, .one (.c (.d (.int .i64 w495.2.2.2.1))))], [(0, some ⟨26, 0⟩)], [], 1⟩ [w495.2.2.2.2 = false] (by kernel_rfl) ⟨b497_e0, trivial⟩ ?_
        refine At.step hm ht ⟨[], [], [], [0, 1, 5, 6], [0]⟩ 3 ⟨[(0, .one (.c (.d (.sl (.pair (.int .u32) (.int .i64)) w495.1)))), (1, .one (.c (.d (.sl (.int .i64) w495.2.1)))), (5, .one (.c (.own 0 (.int .u32) w495.2.2.1))), (6, .one (.c (.d (.int .i64 (IntKind.wrap .i64 (w495.2.2.2.1 + 1))))))], [(0, some ⟨26, 0⟩)], [], 1⟩ [] (by kernel_rfl) trivial ?_
        exact ih w495.1 w495.2.1 w495.2.2.1 (IntKind.wrap .i64 (w495.2.2.2.1 + 1)) w h o hk
    · refine At.step hm ht ⟨[], [false], [], [5], [0]⟩ 12 ⟨[(5, .one (.c (.own 0 (.int .u32) out)))], [(0, some ⟨26, 0⟩)], [], 1⟩ [(decide ((i : Int) < ((l.length : Nat) : Int))) = false] (by kernel_rfl) ⟨b488_e0, trivial⟩ ?_
      have h := Option.some.inj h
      subst h
      exact hk
def f63_broughamlaw40_names (n : Nat) (l : List (Int × Int)) (values : List Int) : Option (List Int) :=
  (f63_broughamlaw40_names_L3 n l values [] 0).bind fun w501 =>
  some w501
theorem f63_broughamlaw40_names_ok (n : Nat) (l : List (Int × Int)) (values : List Int) (r : List Int) (h : f63_broughamlaw40_names n l values = some r) : FnOK Go.Proofs.Try.prog 63 (f63_broughamlaw40_names_in l values) (f63_broughamlaw40_names_out r) := by
  unfold f63_broughamlaw40_names at h
  refine At.fn (r := 0) Go.Proofs.Try.func63 rfl (by kernel_rfl) rfl rfl (by kernel_rfl) ?_
  show At Go.Proofs.Try.prog Go.Proofs.Try.f63 0 0 ⟨[(0, .one (.c (.d (.sl (.pair (.int .u32) (.int .i64)) l)))), (1, .one (.c (.d (.sl (.int .i64) values))))], [], [], 0⟩ _
  refine At.step hm ht ⟨[], [], [], [0, 1], []⟩ 1 ⟨[(0, .one (.c (.d (.sl (.pair (.int .u32) (.int .i64)) l)))), (1, .one (.c (.d (.sl (.int .i64) values))))], [], [], 0⟩ [] (by kernel_rfl) trivial ?_
  refine At.step hm ht ⟨[], [], [], [0, 1, 5], []⟩ 2 ⟨[(0, .one (.c (.d (.sl (.pair (.int .u32) (.int .i64)) l)))), (1, .one (.c (.d (.sl (.int .i64) values)))), (5, .one (.c (.d (.sl .unit []))))], [], [], 0⟩ [] (by kernel_rfl) trivial ?_
  refine At.step hm ht ⟨[], [], [.nil false 5 0 (.int .u32) (some 26)], [0, 1, 5, 6], [1]⟩ 3 ⟨[(0, .one (.c (.d (.sl (.pair (.int .u32) (.int .i64)) l)))), (1, .one (.c (.d (.sl (.int .i64) values)))), (5, .one (.c (.own 0 (.int .u32) []))), (6, .one (.c (.d (.int .i64 0))))], [(0, some ⟨26, 0⟩)], [], 1⟩ [] (by kernel_rfl) trivial ?_
  obtain ⟨w501, cw501, h⟩ := bindS h
  refine f63_broughamlaw40_names_L3_ok n l values [] 0 w501 cw501 _ ?_
  show At Go.Proofs.Try.prog Go.Proofs.Try.f63 0 12 ⟨[(5, .one (.c (.own 0 (.int .u32) w501)))], [(0, some ⟨26, 0⟩)], [], 1⟩ _
  have h := Option.some.inj h
  subst h
  exact At.fin hm ht ⟨[], [], [], [4], [0]⟩ [] (by kernel_rfl) trivial
/-! brougham/broughamlaw40.row -/
def f55_broughamlaw40_row_in (b : List Int) (b0_0 : List Int) : Inn := ⟨[.c (.row 0 (.int .u32)), .c (.d (.sl (.int .u32) b))], [(0, ⟨26, 2⟩)], [(0, [.run (.int .u32) b0_0])], 1⟩
def f55_broughamlaw40_row_out (r : Bool × List Int) : Out := ⟨.one (.c (.d (.bool r.1))), [(0, ⟨26, 2⟩)], [(0, [.run (.int .u32) r.2])], 1⟩
def f55_broughamlaw40_row_L4 : Nat → (List Int) → Int → (List Int) → Option ((Bool × List Int) ⊕ (List Int))
  | 0, _, _, _ => none
  | n + 1, b, i, b0_0 =>
    if (decide ((i : Int) < ((b0_0.length : Nat) : Int))) = true then
      if (0 : Int) ≤ i ∧ i < (((b0_0).length : Nat) : Int) then
      if (0 : Int) ≤ i ∧ i < (((b).length : Nat) : Int) then
      if (((b0_0.getD i.toNat 0) : Int) != (b.getD i.toNat 0)) = true then
        some (.inl (false, b0_0))
      else
        f55_broughamlaw40_row_L4 n b (IntKind.wrap .i64 (i + 1)) b0_0
      else none
      else none
    else
      some (.inr b0_0)
def f55_broughamlaw40_row_L4_k (w : (Bool × List Int) ⊕ (List Int)) (o : Out) : Prop := match w with
  | .inl e => o = f55_broughamlaw40_row_out e
  | .inr e => At Go.Proofs.Try.prog Go.Proofs.Try.f55 1 8 ⟨[], [(0, some ⟨26, 2⟩)], [(0, [.run (.int .u32) e])], 1⟩ o
theorem f55_broughamlaw40_row_L4_ok (n : Nat) : ∀ (b : List Int) (i : Int) (b0_0 : List Int) (w : (Bool × List Int) ⊕ (List Int)) (h : f55_broughamlaw40_row_L4 n b i b0_0 = some w) (o : Out) (hk : f55_broughamlaw40_row_L4_k w o), At Go.Proofs.Try.prog Go.Proofs.Try.f55 1 4 ⟨[(0, .one (.c (.row 0 (.int .u32)))), (1, .one (.c (.d (.sl (.int .u32) b)))), (5, .one (.c (.d (.int .i64 i))))], [(0, some ⟨26, 2⟩)], [(0, [.run (.int .u32) b0_0])], 1⟩ o := by
  induction n with
  | zero => intro b i b0_0 w h; rw [f55_broughamlaw40_row_L4] at h; cases h
  | succ n ih =>
    intro b i b0_0 w h o hk
    rw [f55_broughamlaw40_row_L4] at h
    rcases iteS h with ⟨b508_e0, h⟩ | ⟨b508_e0, h⟩
    · refine At.step hm ht ⟨[], [true], [], [0, 1, 5], [0]⟩ 6 ⟨[(0, .one (.c (.row 0 (.int .u32)))), (1, .one (.c (.d (.sl (.int .u32) b)))), (5, .one (.c (.d (.int .i64 i))))], [(0, some ⟨26, 2⟩)], [(0, [.run (.int .u32) b0_0])], 1⟩ [(decide ((i : Int) < ((b0_0.length : Nat) : Int))) = true] (by kernel_rfl) ⟨b508_e0, trivial⟩ ?_
      obtain ⟨g509_0, h⟩ := ifS h
      obtain ⟨g509_1, h⟩ := ifS h
      rcases iteS h with ⟨b509_e0, h⟩ | ⟨b509_e0, h⟩
      · refine At.step hm ht ⟨[], [true], [], [], [0]⟩ 7 ⟨[], [(0, some ⟨26, 2⟩)], [(0, [.run (.int .u32) b0_0])], 1⟩ [(0 : Int) ≤ i ∧ i < (((b0_0).length : Nat) : Int), (0 : Int) ≤ i ∧ i < (((b).length : Nat) : Int), (((b0_0.getD i.toNat 0) : Int) != (b.getD i.toNat 0)) = true] (by kernel_rfl) ⟨g509_0, g509_1, b509_e0, trivial⟩ ?_
        have h := Option.some.inj h
        subst h
        have hk : o = f55_broughamlaw40_row_out (false, b0_0) := hk
        subst hk
        exact At.fin hm ht ⟨[], [], [], [4], [0]⟩ [] (by kernel_rfl) trivial
      · refine At.step hm ht ⟨[], [false], [], [0, 1, 5], [0]⟩ 5 ⟨[(0, .one (.c (.row 0 (.int .u32)))), (1, .one (.c (.d (.sl (.int .u32) b)))), (5, .one (.c (.d (.int .i64 i))))], [(0, some ⟨26, 2⟩)], [(0, [.run (.int .u32) b0_0])], 1⟩ [(0 : Int) ≤ i ∧ i < (((b0_0).length : Nat) : Int), (0 : Int) ≤ i ∧ i < (((b).length : Nat) : Int), (((b0_0.getD i.toNat 0) : Int) != (b.getD i.toNat 0)) = false] (by kernel_rfl) ⟨g509_0, g509_1, b509_e0, trivial⟩ ?_
        refine At.step hm ht ⟨[], [], [], [0, 1, 5], [0]⟩ 4 ⟨[(0, .one (.c (.row 0 (.int .u32)))), (1, .one (.c (.d (.sl (.int .u32) b)))), (5, .one (.c (.d (.int .i64 (IntKind.wrap .i64 (i + 1))))))], [(0, some ⟨26, 2⟩)], [(0, [.run (.int .u32) b0_0])], 1⟩ [] (by kernel_rfl) trivial ?_
        exact ih b (IntKind.wrap .i64 (i + 1)) b0_0 w h o hk
    · refine At.step hm ht ⟨[], [false], [], [], [0]⟩ 8 ⟨[], [(0, some ⟨26, 2⟩)], [(0, [.run (.int .u32) b0_0])], 1⟩ [(decide ((i : Int) < ((b0_0.length : Nat) : Int))) = false] (by kernel_rfl) ⟨b508_e0, trivial⟩ ?_
      have h := Option.some.inj h
      subst h
      exact hk
def f55_broughamlaw40_row (n : Nat) (b : List Int) (b0_0 : List Int) : Option (Bool × List Int) :=
  if ((((b0_0.length : Nat) : Int) : Int) != ((b.length : Nat) : Int)) = true then
    some (false, b0_0)
  else
    (f55_broughamlaw40_row_L4 n b 0 b0_0).bind fun w512 =>
    match w512 with
    | .inl e513 =>
      some (e513.1, e513.2)
    | .inr e514 =>
      some (true, e514)
theorem f55_broughamlaw40_row_ok (n : Nat) (b : List Int) (b0_0 : List Int) (r : Bool × List Int) (h : f55_broughamlaw40_row n b b0_0 = some r) : FnOK Go.Proofs.Try.prog 55 (f55_broughamlaw40_row_in b b0_0) (f55_broughamlaw40_row_out r) := by
  unfold f55_broughamlaw40_row at h
  refine At.fn (r := 0) Go.Proofs.Try.func55 rfl (by kernel_rfl) rfl rfl (by kernel_rfl) ?_
  show At Go.Proofs.Try.prog Go.Proofs.Try.f55 1 0 ⟨[(0, .one (.c (.row 0 (.int .u32)))), (1, .one (.c (.d (.sl (.int .u32) b))))], [(0, some ⟨26, 2⟩)], [(0, [.run (.int .u32) b0_0])], 1⟩ _
  refine At.step hm ht ⟨[], [], [], [0, 1], [0]⟩ 1 ⟨[(0, .one (.c (.row 0 (.int .u32)))), (1, .one (.c (.d (.sl (.int .u32) b))))], [(0, some ⟨26, 2⟩)], [(0, [.run (.int .u32) b0_0])], 1⟩ [] (by kernel_rfl) trivial ?_
  rcases iteS h with ⟨b505_e0, h⟩ | ⟨b505_e0, h⟩
  · refine At.step hm ht ⟨[], [true], [], [], [0]⟩ 2 ⟨[], [(0, some ⟨26, 2⟩)], [(0, [.run (.int .u32) b0_0])], 1⟩ [((((b0_0.length : Nat) : Int) : Int) != ((b.length : Nat) : Int)) = true] (by kernel_rfl) ⟨b505_e0, trivial⟩ ?_
    have h := Option.some.inj h
    subst h
    exact At.fin hm ht ⟨[], [], [], [4], [0]⟩ [] (by kernel_rfl) trivial
  · refine At.step hm ht ⟨[], [false], [], [0, 1], [0]⟩ 3 ⟨[(0, .one (.c (.row 0 (.int .u32)))), (1, .one (.c (.d (.sl (.int .u32) b))))], [(0, some ⟨26, 2⟩)], [(0, [.run (.int .u32) b0_0])], 1⟩ [((((b0_0.length : Nat) : Int) : Int) != ((b.length : Nat) : Int)) = false] (by kernel_rfl) ⟨b505_e0, trivial⟩ ?_
    refine At.step hm ht ⟨[], [], [], [0, 1, 5], [0]⟩ 4 ⟨[(0, .one (.c (.row 0 (.int .u32)))), (1, .one (.c (.d (.sl (.int .u32) b)))), (5, .one (.c (.d (.int .i64 0))))], [(0, some ⟨26, 2⟩)], [(0, [.run (.int .u32) b0_0])], 1⟩ [] (by kernel_rfl) trivial ?_
    obtain ⟨w512, cw512, h⟩ := bindS h
    refine f55_broughamlaw40_row_L4_ok n b 0 b0_0 w512 cw512 _ ?_
    rcases w512 with e513 | e514
    · have h := Option.some.inj h
      subst h
      rfl
    · show At Go.Proofs.Try.prog Go.Proofs.Try.f55 1 8 ⟨[], [(0, some ⟨26, 2⟩)], [(0, [.run (.int .u32) e514])], 1⟩ _
      have h := Option.some.inj h
      subst h
      exact At.fin hm ht ⟨[], [], [], [4], [0]⟩ [] (by kernel_rfl) trivial
/-! brougham/broughamlaw40.alive -/
def f57_broughamlaw40_alive_in : Inn := ⟨[], [], [], 0⟩
def f57_broughamlaw40_alive_out (r : Bool) : Out := ⟨.one (.c (.d (.bool r))), [], [], 0⟩
def f57_broughamlaw40_alive (n : Nat) : Option (Bool) :=
  (f50_table_New 1 0 4).bind fun r517_0 =>
  (f52_table_Table_Put n 7 1 r517_0.1 r517_0.2.1 r517_0.2.2.1 r517_0.2.2.2.1 r517_0.2.2.2.2.1 r517_0.2.2.2.2.2).bind fun r519_0 =>
  (f52_table_Table_Put n 9 1 r519_0.2.1 r519_0.2.2.1 r519_0.2.2.2.1 r519_0.2.2.2.2.1 r519_0.2.2.2.2.2.1 r519_0.2.2.2.2.2.2.2).bind fun r519_1 =>
  (f51_table_Table_Delete n 7 r519_1.2.1 r519_1.2.2.1 r519_1.2.2.2.1 r519_1.2.2.2.2.1 r519_1.2.2.2.2.2.1 r519_1.2.2.2.2.2.2.2).bind fun r519_2 =>
  (f56_table_Table_Names n [] r519_2.2.1 r519_2.2.2.1 r519_2.2.2.2.1 r519_2.2.2.2.2.1 r519_2.2.2.2.2.2.1 r519_2.2.2.2.2.2.2).bind fun r520_0 =>
  if r519_0.1 = true then
    if r519_1.1 = true then
      if r519_2.1 = true then
        if ((((r520_0.2.2.2.2.2.2.length : Nat) : Int) : Int) == 1) = true then
          if (0 : Int) ≤ 0 ∧ 0 < (((r520_0.2.2.2.2.2.2).length : Nat) : Int) then
          if (((r520_0.2.2.2.2.2.2.getD 0 0) : Int) == 9) = true then
            (f54_table_Table_Len r520_0.1 r520_0.2.1 r520_0.2.2.1 r520_0.2.2.2.1 r520_0.2.2.2.2.1 r520_0.2.2.2.2.2.1).bind fun r521_1 =>
            if ((r521_1.1 : Int) == 1) = true then
              some true
            else
              some false
          else
            some false
          else none
        else
          some false
      else
        some false
    else
      some false
  else
    some false
theorem f57_broughamlaw40_alive_ok (n : Nat) (r : Bool) (h : f57_broughamlaw40_alive n = some r) : FnOK Go.Proofs.Try.prog 57 (f57_broughamlaw40_alive_in) (f57_broughamlaw40_alive_out r) := by
  unfold f57_broughamlaw40_alive at h
  refine At.fn (r := 0) Go.Proofs.Try.func57 rfl (by kernel_rfl) rfl rfl (by kernel_rfl) ?_
  show At Go.Proofs.Try.prog Go.Proofs.Try.f57 0 0 ⟨[], [], [], 0⟩ _
  refine At.step hm ht ⟨[], [], [], [], []⟩ 1 ⟨[], [], [], 0⟩ [] (by kernel_rfl) trivial ?_
  obtain ⟨r517_0, cr517_0, h⟩ := bindS h
  refine At.step hm ht ⟨[(1, .call [] [] (f50_table_New_out r517_0))], [], [], [1], [1, 2]⟩ 2 ⟨[(1, .one (.c (.ptr 0 0)))], [(1, some ⟨169, 2⟩)], [(0, [.d (.int .u64 r517_0.1), .d (.int .u64 r517_0.2.1), .row 1 (.pair (.int .u8) (.pair (.int .u32) (.int .i64))), .d (.int .i64 r517_0.2.2.1), .d (.int .i64 r517_0.2.2.2.1), .d (.int .i64 r517_0.2.2.2.2.1)]), (1, [.run (.pair (.int .u8) (.pair (.int .u32) (.int .i64))) r517_0.2.2.2.2.2])], 2⟩ [FnOK Go.Proofs.Try.prog 50 (f50_table_New_in 1 0 4) (f50_table_New_out r517_0)] (by kernel_rfl) ⟨(f50_table_New_ok 1 0 4 r517_0 cr517_0), trivial⟩ ?_
  refine At.step hm ht ⟨[], [false], [], [1], [0, 1]⟩ 4 ⟨[(1, .one (.c (.ptr 0 0)))], [(1, some ⟨169, 2⟩)], [(0, [.d (.int .u64 r517_0.1), .d (.int .u64 r517_0.2.1), .row 1 (.pair (.int .u8) (.pair (.int .u32) (.int .i64))), .d (.int .i64 r517_0.2.2.1), .d (.int .i64 r517_0.2.2.2.1), .d (.int .i64 r517_0.2.2.2.2.1)]), (1, [.run (.pair (.int .u8) (.pair (.int .u32) (.int .i64))) r517_0.2.2.2.2.2])], 2⟩ [false = false] (by kernel_rfl) ⟨rfl, trivial⟩ ?_
  obtain ⟨r519_0, cr519_0, h⟩ := bindS h
  obtain ⟨r519_1, cr519_1, h⟩ := bindS h
  obtain ⟨r519_2, cr519_2, h⟩ := bindS h
  refine At.step hm ht ⟨[(1, .call [0, 1] [] (f52_table_Table_Put_out r519_0)), (3, .call [0, 5] [] (f52_table_Table_Put_out r519_1)), (5, .call [0, 9] [] (f51_table_Table_Delete_out r519_2))], [], [], [1, 2, 3, 4], [0, 9]⟩ 5 ⟨[(1, .one (.c (.ptr 0 0))), (2, .one (.c (.d (.bool r519_0.1)))), (3, .one (.c (.d (.bool r519_1.1)))), (4, .one (.c (.d (.bool r519_2.1))))], [(1, some ⟨169, 2⟩)], [(0, [.d (.int .u64 r519_2.2.1), .d (.int .u64 r519_2.2.2.1), .row 1 (.pair (.int .u8) (.pair (.int .u32) (.int .i64))), .d (.int .i64 r519_2.2.2.2.1), .d (.int .i64 r519_2.2.2.2.2.1), .d (.int .i64 r519_2.2.2.2.2.2.1)]), (1, [.run (.pair (.int .u8) (.pair (.int .u32) (.int .i64))) r519_2.2.2.2.2.2.2])], 2⟩ [FnOK Go.Proofs.Try.prog 52 (f52_table_Table_Put_in 7 1 r517_0.1 r517_0.2.1 r517_0.2.2.1 r517_0.2.2.2.1 r517_0.2.2.2.2.1 r517_0.2.2.2.2.2) (f52_table_Table_Put_out r519_0), FnOK Go.Proofs.Try.prog 52 (f52_table_Table_Put_in 9 1 r519_0.2.1 r519_0.2.2.1 r519_0.2.2.2.1 r519_0.2.2.2.2.1 r519_0.2.2.2.2.2.1 r519_0.2.2.2.2.2.2.2) (f52_table_Table_Put_out r519_1), FnOK Go.Proofs.Try.prog 51 (f51_table_Table_Delete_in 7 r519_1.2.1 r519_1.2.2.1 r519_1.2.2.2.1 r519_1.2.2.2.2.1 r519_1.2.2.2.2.2.1 r519_1.2.2.2.2.2.2.2) (f51_table_Table_Delete_out r519_2)] (by kernel_rfl) ⟨(f52_table_Table_Put_ok n 7 1 r517_0.1 r517_0.2.1 r517_0.2.2.1 r517_0.2.2.2.1 r517_0.2.2.2.2.1 r517_0.2.2.2.2.2 r519_0 cr519_0), (f52_table_Table_Put_ok n 9 1 r519_0.2.1 r519_0.2.2.1 r519_0.2.2.2.1 r519_0.2.2.2.2.1 r519_0.2.2.2.2.2.1 r519_0.2.2.2.2.2.2.2 r519_1 cr519_1), (f51_table_Table_Delete_ok n 7 r519_1.2.1 r519_1.2.2.1 r519_1.2.2.2.1 r519_1.2.2.2.2.1 r519_1.2.2.2.2.2.1 r519_1.2.2.2.2.2.2.2 r519_2 cr519_2), trivial⟩ ?_
  obtain ⟨r520_0, cr520_0, h⟩ := bindS h
  refine At.step hm ht ⟨[(1, .call [0, 1] [(1, 0, (.int .i64))] (f56_table_Table_Names_out r520_0))], [], [], [1, 2, 3, 4, 5], [0, 5, 1]⟩ 6 ⟨[(1, .one (.c (.ptr 0 0))), (2, .one (.c (.d (.bool r519_0.1)))), (3, .one (.c (.d (.bool r519_1.1)))), (4, .one (.c (.d (.bool r519_2.1)))), (5, .one (.c (.row 1 (.int .u32))))], [(1, some ⟨26, 2⟩), (2, some ⟨169, 2⟩)], [(0, [.d (.int .u64 r520_0.1), .d (.int .u64 r520_0.2.1), .row 2 (.pair (.int .u8) (.pair (.int .u32) (.int .i64))), .d (.int .i64 r520_0.2.2.1), .d (.int .i64 r520_0.2.2.2.1), .d (.int .i64 r520_0.2.2.2.2.1)]), (1, [.run (.int .u32) r520_0.2.2.2.2.2.2]), (2, [.run (.pair (.int .u8) (.pair (.int .u32) (.int .i64))) r520_0.2.2.2.2.2.1])], 3⟩ [FnOK Go.Proofs.Try.prog 56 (f56_table_Table_Names_in [] r519_2.2.1 r519_2.2.2.1 r519_2.2.2.2.1 r519_2.2.2.2.2.1 r519_2.2.2.2.2.2.1 r519_2.2.2.2.2.2.2) (f56_table_Table_Names_out r520_0)] (by kernel_rfl) ⟨(f56_table_Table_Names_ok n [] r519_2.2.1 r519_2.2.2.1 r519_2.2.2.2.1 r519_2.2.2.2.2.1 r519_2.2.2.2.2.2.1 r519_2.2.2.2.2.2.2 r520_0 cr520_0), trivial⟩ ?_
  rcases iteS h with ⟨b521_1, h⟩ | ⟨b521_1, h⟩
  · rcases iteS h with ⟨b521_4, h⟩ | ⟨b521_4, h⟩
    · rcases iteS h with ⟨b521_7, h⟩ | ⟨b521_7, h⟩
      · rcases iteS h with ⟨b521_12, h⟩ | ⟨b521_12, h⟩
        · obtain ⟨g521_0, h⟩ := ifS h
          rcases iteS h with ⟨b521_18, h⟩ | ⟨b521_18, h⟩
          · obtain ⟨r521_1, cr521_1, h⟩ := bindS h
            rcases iteS h with ⟨b521_23, h⟩ | ⟨b521_23, h⟩
            · have h := Option.some.inj h
              subst h
              exact At.fin hm ht ⟨[(1, .b true), (4, .b true), (7, .b true), (12, .b true), (18, .b true), (20, .call [0, 2] [] (f54_table_Table_Len_out r521_1)), (23, .b true)], [], [], [0], []⟩ [r519_0.1 = true, r519_1.1 = true, r519_2.1 = true, ((((r520_0.2.2.2.2.2.2.length : Nat) : Int) : Int) == 1) = true, (0 : Int) ≤ 0 ∧ 0 < (((r520_0.2.2.2.2.2.2).length : Nat) : Int), (((r520_0.2.2.2.2.2.2.getD 0 0) : Int) == 9) = true, FnOK Go.Proofs.Try.prog 54 (f54_table_Table_Len_in r520_0.1 r520_0.2.1 r520_0.2.2.1 r520_0.2.2.2.1 r520_0.2.2.2.2.1 r520_0.2.2.2.2.2.1) (f54_table_Table_Len_out r521_1), ((r521_1.1 : Int) == 1) = true] (by kernel_rfl) ⟨b521_1, b521_4, b521_7, b521_12, g521_0, b521_18, (f54_table_Table_Len_ok r520_0.1 r520_0.2.1 r520_0.2.2.1 r520_0.2.2.2.1 r520_0.2.2.2.2.1 r520_0.2.2.2.2.2.1 r521_1 cr521_1), b521_23, trivial⟩
            · have h := Option.some.inj h
              subst h
              exact At.fin hm ht ⟨[(1, .b true), (4, .b true), (7, .b true), (12, .b true), (18, .b true), (20, .call [0, 2] [] (f54_table_Table_Len_out r521_1)), (23, .b false)], [], [], [0], []⟩ [r519_0.1 = true, r519_1.1 = true, r519_2.1 = true, ((((r520_0.2.2.2.2.2.2.length : Nat) : Int) : Int) == 1) = true, (0 : Int) ≤ 0 ∧ 0 < (((r520_0.2.2.2.2.2.2).length : Nat) : Int), (((r520_0.2.2.2.2.2.2.getD 0 0) : Int) == 9) = true, FnOK Go.Proofs.Try.prog 54 (f54_table_Table_Len_in r520_0.1 r520_0.2.1 r520_0.2.2.1 r520_0.2.2.2.1 r520_0.2.2.2.2.1 r520_0.2.2.2.2.2.1) (f54_table_Table_Len_out r521_1), ((r521_1.1 : Int) == 1) = false] (by kernel_rfl) ⟨b521_1, b521_4, b521_7, b521_12, g521_0, b521_18, (f54_table_Table_Len_ok r520_0.1 r520_0.2.1 r520_0.2.2.1 r520_0.2.2.2.1 r520_0.2.2.2.2.1 r520_0.2.2.2.2.2.1 r521_1 cr521_1), b521_23, trivial⟩
          · have h := Option.some.inj h
            subst h
            exact At.fin hm ht ⟨[(1, .b true), (4, .b true), (7, .b true), (12, .b true), (18, .b false)], [], [], [0], []⟩ [r519_0.1 = true, r519_1.1 = true, r519_2.1 = true, ((((r520_0.2.2.2.2.2.2.length : Nat) : Int) : Int) == 1) = true, (0 : Int) ≤ 0 ∧ 0 < (((r520_0.2.2.2.2.2.2).length : Nat) : Int), (((r520_0.2.2.2.2.2.2.getD 0 0) : Int) == 9) = false] (by kernel_rfl) ⟨b521_1, b521_4, b521_7, b521_12, g521_0, b521_18, trivial⟩
        · have h := Option.some.inj h
          subst h
          exact At.fin hm ht ⟨[(1, .b true), (4, .b true), (7, .b true), (12, .b false)], [], [], [0], []⟩ [r519_0.1 = true, r519_1.1 = true, r519_2.1 = true, ((((r520_0.2.2.2.2.2.2.length : Nat) : Int) : Int) == 1) = false] (by kernel_rfl) ⟨b521_1, b521_4, b521_7, b521_12, trivial⟩
      · have h := Option.some.inj h
        subst h
        exact At.fin hm ht ⟨[(1, .b true), (4, .b true), (7, .b false)], [], [], [0], []⟩ [r519_0.1 = true, r519_1.1 = true, r519_2.1 = false] (by kernel_rfl) ⟨b521_1, b521_4, b521_7, trivial⟩
    · have h := Option.some.inj h
      subst h
      exact At.fin hm ht ⟨[(1, .b true), (4, .b false)], [], [], [0], []⟩ [r519_0.1 = true, r519_1.1 = false] (by kernel_rfl) ⟨b521_1, b521_4, trivial⟩
  · have h := Option.some.inj h
    subst h
    exact At.fin hm ht ⟨[(1, .b false)], [], [], [0], []⟩ [r519_0.1 = false] (by kernel_rfl) ⟨b521_1, trivial⟩
end Go.Proofs.YtjoibacjpapncaaF40b
