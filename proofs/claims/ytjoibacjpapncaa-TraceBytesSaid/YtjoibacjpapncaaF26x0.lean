/- What the functions compute, and that they do: printed by a program of this session (zgen.py), proved by Zed. -/
import Derived.Test.YtjoibacjpapncaaProg
import Derived.Test.YtjoibacjpapncaaZedYa
import Derived.Test.YtjoibacjpapncaaLeaf
namespace Go.Proofs.YtjoibacjpapncaaF26
open Go Zed Go.Proofs.YtjoibacjpapncaaLeaf
set_option maxRecDepth 100000
set_option linter.unusedVariables false
def tab : Tab := [(3, ⟨.int .i64, 1, 8, [.int .i64 0], some (.int .i64), none⟩), (4, ⟨.bool, 1, 1, [.bool false], some .bool, none⟩), (5, ⟨.int .u8, 1, 1, [.int .u8 0], some (.int .u8), none⟩), (9, ⟨.str, 1, 16, [.str (⟨#[]⟩ : ByteArray)], some .str, none⟩), (22, ⟨.int .u64, 1, 8, [.int .u64 0], some (.int .u64), none⟩), (25, ⟨.int .u16, 1, 2, [.int .u16 0], some (.int .u16), none⟩), (26, ⟨.int .u32, 1, 4, [.int .u32 0], some (.int .u32), none⟩), (38, ⟨.slice 5, 1, 24, [.sl .unit []], some (.slice (.int .u8)), none⟩), (73, ⟨.struct [(0, 5), (1, 38)], 2, 32, [.int .u8 0, .sl .unit []], some (.pair (.int .u8) (.slice (.int .u8))), some [(0, 5), (1, 38)]⟩), (110, ⟨.slice 3, 1, 24, [.sl .unit []], some (.slice (.int .i64)), none⟩), (118, ⟨.slice 73, 1, 24, [.sl .unit []], some (.slice (.pair (.int .u8) (.slice (.int .u8)))), none⟩), (120, ⟨.struct [(0, 25), (1, 25), (2, 26), (3, 26), (4, 5), (5, 118), (6, 38)], 7, 64, [.int .u16 0, .int .u16 0, .int .u32 0, .int .u32 0, .int .u8 0, .sl .unit [], .sl .unit []], some (.pair (.int .u16) (.pair (.int .u16) (.pair (.int .u32) (.pair (.int .u32) (.pair (.int .u8) (.pair (.slice (.pair (.int .u8) (.slice (.int .u8)))) (.slice (.int .u8)))))))), some [(0, 25), (1, 25), (2, 26), (3, 26), (4, 5), (5, 118), (6, 38)]⟩), (125, ⟨.slice 127, 1, 24, [.sl .unit []], some (.slice (.pair (.int .i64) (.slice (.int .u8)))), none⟩), (127, ⟨.struct [(0, 3), (1, 38)], 2, 32, [.int .i64 0, .sl .unit []], some (.pair (.int .i64) (.slice (.int .u8))), some [(0, 3), (1, 38)]⟩), (139, ⟨.struct [(0, 3), (1, 22)], 2, 16, [.int .i64 0, .int .u64 0], some (.pair (.int .i64) (.int .u64)), some [(0, 3), (1, 22)]⟩), (144, ⟨.slice 22, 1, 24, [.sl .unit []], some (.slice (.int .u64)), none⟩), (180, ⟨.struct [(0, 22)], 1, 8, [.int .u64 0], some (.int .u64), some [(0, 22)]⟩), (182, ⟨.struct [(0, 22), (1, 4), (2, 180)], 3, 24, [.int .u64 0, .bool false, .int .u64 0], some (.pair (.int .u64) (.pair .bool (.int .u64))), some [(0, 22), (1, 4), (2, 180)]⟩), (187, ⟨.struct [(0, 26), (1, 26), (2, 5), (3, 4), (4, 4), (5, 180)], 6, 24, [.int .u32 0, .int .u32 0, .int .u8 0, .bool false, .bool false, .int .u64 0], some (.pair (.int .u32) (.pair (.int .u32) (.pair (.int .u8) (.pair .bool (.pair .bool (.int .u64)))))), some [(0, 26), (1, 26), (2, 5), (3, 4), (4, 4), (5, 180)]⟩), (191, ⟨.struct [(0, 4), (1, 4), (2, 22), (3, 22), (4, 26), (5, 180)], 6, 40, [.bool false, .bool false, .int .u64 0, .int .u64 0, .int .u32 0, .int .u64 0], some (.pair .bool (.pair .bool (.pair (.int .u64) (.pair (.int .u64) (.pair (.int .u32) (.int .u64)))))), some [(0, 4), (1, 4), (2, 22), (3, 22), (4, 26), (5, 180)]⟩), (196, ⟨.struct [(0, 5), (1, 26), (2, 5), (3, 5), (4, 4), (5, 180)], 6, 24, [.int .u8 0, .int .u32 0, .int .u8 0, .int .u8 0, .bool false, .int .u64 0], some (.pair (.int .u8) (.pair (.int .u32) (.pair (.int .u8) (.pair (.int .u8) (.pair .bool (.int .u64)))))), some [(0, 5), (1, 26), (2, 5), (3, 5), (4, 4), (5, 180)]⟩), (203, ⟨.struct [(0, 26), (1, 26), (2, 5), (3, 4), (4, 4), (5, 22)], 6, 24, [.int .u32 0, .int .u32 0, .int .u8 0, .bool false, .bool false, .int .u64 0], some (.pair (.int .u32) (.pair (.int .u32) (.pair (.int .u8) (.pair .bool (.pair .bool (.int .u64)))))), some [(0, 26), (1, 26), (2, 5), (3, 4), (4, 4), (5, 22)]⟩), (207, ⟨.struct [(0, 4), (1, 4), (2, 22), (3, 22), (4, 26), (5, 22)], 6, 40, [.bool false, .bool false, .int .u64 0, .int .u64 0, .int .u32 0, .int .u64 0], some (.pair .bool (.pair .bool (.pair (.int .u64) (.pair (.int .u64) (.pair (.int .u32) (.int .u64)))))), some [(0, 4), (1, 4), (2, 22), (3, 22), (4, 26), (5, 22)]⟩), (211, ⟨.struct [(0, 26), (1, 5), (2, 5), (3, 4), (4, 22)], 5, 16, [.int .u32 0, .int .u8 0, .int .u8 0, .bool false, .int .u64 0], some (.pair (.int .u32) (.pair (.int .u8) (.pair (.int .u8) (.pair .bool (.int .u64))))), some [(0, 26), (1, 5), (2, 5), (3, 4), (4, 22)]⟩), (214, ⟨.slice 9, 1, 24, [.sl .unit []], some (.slice .str), none⟩), (217, ⟨.int .i64, 1, 8, [.int .i64 0], some (.int .i64), none⟩), (221, ⟨.slice 139, 1, 24, [.sl .unit []], some (.slice (.pair (.int .i64) (.int .u64))), none⟩), (229, ⟨.arr 4 9, 4, 64, [.str (⟨#[]⟩ : ByteArray), .str (⟨#[]⟩ : ByteArray), .str (⟨#[]⟩ : ByteArray), .str (⟨#[]⟩ : ByteArray)], some (.pair .str (.pair .str (.pair .str .str))), none⟩)]
theorem ht : TabOk Go.Proofs.Try.prog tab := tabOk_of (ts := [3, 4, 5, 9, 22, 25, 26, 38, 73, 110, 118, 120, 125, 127, 139, 144, 180, 182, 187, 191, 196, 203, 207, 211, 214, 217, 221, 229]) (by kernel_rfl)
theorem hm : Go.Proofs.Try.prog.follows .mixedOrders = true := by kernel_rfl
/-! brougham/broughamlaw07.Great -/
def f64_broughamlaw07_Great_in (s_0 : Int) (s_1 : Int) (s_2 : Int) (s_3 : Int) (s_4 : Int) (s_5 : List (Int × List Int)) (s_6 : List Int) : Inn := ⟨[.agg [.d (.int .u16 s_0), .d (.int .u16 s_1), .d (.int .u32 s_2), .d (.int .u32 s_3), .d (.int .u8 s_4), .d (.sl (.pair (.int .u8) (.slice (.int .u8))) s_5), .d (.sl (.int .u8) s_6)]], [], [], 0⟩
def f64_broughamlaw07_Great_out (r : Bool) : Out := ⟨.one (.c (.d (.bool r))), [], [], 0⟩
def f64_broughamlaw07_Great_L4 : Nat → Int → Int → Int → Int → Int → Int → (List (Int × List Int)) → (List Int) → Option ((Bool) ⊕ (Unit))
  | 0, _, _, _, _, _, _, _, _ => none
  | n + 1, i, s_0, s_1, s_2, s_3, s_4, s_5, s_6 =>
    if (decide ((i : Int) < ((s_5.length : Nat) : Int))) = true then
      if (0 : Int) ≤ i ∧ i < (((s_5).length : Nat) : Int) then
      if (decide ((((((s_5.getD i.toNat (0, [])).2).length : Nat) : Int) : Int) > 400)) = true then
        some (.inl true)
      else
        f64_broughamlaw07_Great_L4 n (IntKind.wrap .i64 (i + 1)) s_0 s_1 s_2 s_3 s_4 s_5 s_6
      else none
    else
      some (.inr ())
def f64_broughamlaw07_Great_L4_k (w : (Bool) ⊕ (Unit)) (o : Out) : Prop := match w with
  | .inl e => o = f64_broughamlaw07_Great_out e
  | .inr e => At Go.Proofs.Try.prog Go.Proofs.Try.f64 0 8 ⟨[], [], [], 0⟩ o
theorem f64_broughamlaw07_Great_L4_ok (n : Nat) : ∀ (i : Int) (s_0 : Int) (s_1 : Int) (s_2 : Int) (s_3 : Int) (s_4 : Int) (s_5 : List (Int × List Int)) (s_6 : List Int) (w : (Bool) ⊕ (Unit)) (h : f64_broughamlaw07_Great_L4 n i s_0 s_1 s_2 s_3 s_4 s_5 s_6 = some w) (o : Out) (hk : f64_broughamlaw07_Great_L4_k w o), At Go.Proofs.Try.prog Go.Proofs.Try.f64 0 4 ⟨[(1, .one (.c (.ptr 0 0))), (3, .one (.c (.d (.int .i64 i))))], [], [(0, [.d (.int .u16 s_0), .d (.int .u16 s_1), .d (.int .u32 s_2), .d (.int .u32 s_3), .d (.int .u8 s_4), .d (.sl (.pair (.int .u8) (.slice (.int .u8))) s_5), .d (.sl (.int .u8) s_6)])], 1⟩ o := by
  induction n with
  | zero => intro i s_0 s_1 s_2 s_3 s_4 s_5 s_6 w h; rw [f64_broughamlaw07_Great_L4] at h; cases h
  | succ n ih =>
    intro i s_0 s_1 s_2 s_3 s_4 s_5 s_6 w h o hk
    rw [f64_broughamlaw07_Great_L4] at h
    rcases iteS h with ⟨b8_e0, h⟩ | ⟨b8_e0, h⟩
    · refine At.step hm ht ⟨[], [true], [], [1, 3], [0]⟩ 6 ⟨[(1, .one (.c (.ptr 0 0))), (3, .one (.c (.d (.int .i64 i))))], [], [(0, [.d (.int .u16 s_0), .d (.int .u16 s_1), .d (.int .u32 s_2), .d (.int .u32 s_3), .d (.int .u8 s_4), .d (.sl (.pair (.int .u8) (.slice (.int .u8))) s_5), .d (.sl (.int .u8) s_6)])], 1⟩ [(decide ((i : Int) < ((s_5.length : Nat) : Int))) = true] (by kernel_rfl) ⟨b8_e0, trivial⟩ ?_
      obtain ⟨g9_0, h⟩ := ifS h
      rcases iteS h with ⟨b9_e0, h⟩ | ⟨b9_e0, h⟩
      · refine At.step hm ht ⟨[], [true], [], [], []⟩ 7 ⟨[], [], [], 0⟩ [(0 : Int) ≤ i ∧ i < (((s_5).length : Nat) : Int), (decide ((((((s_5.getD i.toNat (0, [])).2).length : Nat) : Int) : Int) > 400)) = true] (by kernel_rfl) ⟨g9_0, b9_e0, trivial⟩ ?_
        have h := Option.some.inj h
        subst h
        have hk : o = f64_broughamlaw07_Great_out true := hk
        subst hk
        exact At.fin hm ht ⟨[], [], [], [2], []⟩ [] (by kernel_rfl) trivial
      · refine At.step hm ht ⟨[], [false], [], [1, 3], [0]⟩ 5 ⟨[(1, .one (.c (.ptr 0 0))), (3, .one (.c (.d (.int .i64 i))))], [], [(0, [.d (.int .u16 s_0), .d (.int .u16 s_1), .d (.int .u32 s_2), .d (.int .u32 s_3), .d (.int .u8 s_4), .d (.sl (.pair (.int .u8) (.slice (.int .u8))) s_5), .d (.sl (.int .u8) s_6)])], 1⟩ [(0 : Int) ≤ i ∧ i < (((s_5).length : Nat) : Int), (decide ((((((s_5.getD i.toNat (0, [])).2).length : Nat) : Int) : Int) > 400)) = false] (by kernel_rfl) ⟨g9_0, b9_e0, trivial⟩ ?_
        refine At.step hm ht ⟨[], [], [], [1, 3], [0]⟩ 4 ⟨[(1, .one (.c (.ptr 0 0))), (3, .one (.c (.d (.int .i64 (IntKind.wrap .i64 (i + 1))))))], [], [(0, [.d (.int .u16 s_0), .d (.int .u16 s_1), .d (.int .u32 s_2), .d (.int .u32 s_3), .d (.int .u8 s_4), .d (.sl (.pair (.int .u8) (.slice (.int .u8))) s_5), .d (.sl (.int .u8) s_6)])], 1⟩ [] (by kernel_rfl) trivial ?_
        exact ih (IntKind.wrap .i64 (i + 1)) s_0 s_1 s_2 s_3 s_4 s_5 s_6 w h o hk
    · refine At.step hm ht ⟨[], [false], [], [], []⟩ 8 ⟨[], [], [], 0⟩ [(decide ((i : Int) < ((s_5.length : Nat) : Int))) = false] (by kernel_rfl) ⟨b8_e0, trivial⟩ ?_
      have h := Option.some.inj h
      subst h
      exact hk
def f64_broughamlaw07_Great (n : Nat) (s_0 : Int) (s_1 : Int) (s_2 : Int) (s_3 : Int) (s_4 : Int) (s_5 : List (Int × List Int)) (s_6 : List Int) : Option (Bool) :=
  if (decide ((((s_5.length : Nat) : Int) : Int) > 120)) = true then
    some true
  else
    if (decide ((((s_6.length : Nat) : Int) : Int) > 2000)) = true then
      some true
    else
      (f64_broughamlaw07_Great_L4 n 0 s_0 s_1 s_2 s_3 s_4 s_5 s_6).bind fun w12 =>
      match w12 with
      | .inl e13 =>
        some e13
      | .inr e14 =>
        some false
theorem f64_broughamlaw07_Great_ok (n : Nat) (s_0 : Int) (s_1 : Int) (s_2 : Int) (s_3 : Int) (s_4 : Int) (s_5 : List (Int × List Int)) (s_6 : List Int) (r : Bool) (h : f64_broughamlaw07_Great n s_0 s_1 s_2 s_3 s_4 s_5 s_6 = some r) : FnOK Go.Proofs.Try.prog 64 (f64_broughamlaw07_Great_in s_0 s_1 s_2 s_3 s_4 s_5 s_6) (f64_broughamlaw07_Great_out r) := by
  unfold f64_broughamlaw07_Great at h
  refine At.fn (r := 0) Go.Proofs.Try.func64 rfl (by kernel_rfl) rfl rfl (by kernel_rfl) ?_
  show At Go.Proofs.Try.prog Go.Proofs.Try.f64 0 0 ⟨[(0, .one (.agg [.d (.int .u16 s_0), .d (.int .u16 s_1), .d (.int .u32 s_2), .d (.int .u32 s_3), .d (.int .u8 s_4), .d (.sl (.pair (.int .u8) (.slice (.int .u8))) s_5), .d (.sl (.int .u8) s_6)]))], [], [], 0⟩ _
  refine At.step hm ht ⟨[], [], [], [1], [0]⟩ 1 ⟨[(1, .one (.c (.ptr 0 0)))], [], [(0, [.d (.int .u16 s_0), .d (.int .u16 s_1), .d (.int .u32 s_2), .d (.int .u32 s_3), .d (.int .u8 s_4), .d (.sl (.pair (.int .u8) (.slice (.int .u8))) s_5), .d (.sl (.int .u8) s_6)])], 1⟩ [] (by kernel_rfl) trivial ?_
  rcases iteS h with ⟨b4_4, h⟩ | ⟨b4_4, h⟩
  · refine At.step hm ht ⟨[(4, .b true)], [true], [], [], []⟩ 2 ⟨[], [], [], 0⟩ [(decide ((((s_5.length : Nat) : Int) : Int) > 120)) = true, true = true] (by kernel_rfl) ⟨b4_4, rfl, trivial⟩ ?_
    have h := Option.some.inj h
    subst h
    exact At.fin hm ht ⟨[], [], [], [2], []⟩ [] (by kernel_rfl) trivial
  · rcases iteS h with ⟨b4_e0, h⟩ | ⟨b4_e0, h⟩
    · refine At.step hm ht ⟨[(4, .b false)], [true], [], [], []⟩ 2 ⟨[], [], [], 0⟩ [(decide ((((s_5.length : Nat) : Int) : Int) > 120)) = false, (decide ((((s_6.length : Nat) : Int) : Int) > 2000)) = true] (by kernel_rfl) ⟨b4_4, b4_e0, trivial⟩ ?_
      have h := Option.some.inj h
      subst h
      exact At.fin hm ht ⟨[], [], [], [2], []⟩ [] (by kernel_rfl) trivial
    · refine At.step hm ht ⟨[(4, .b false)], [false], [], [1], [0]⟩ 3 ⟨[(1, .one (.c (.ptr 0 0)))], [], [(0, [.d (.int .u16 s_0), .d (.int .u16 s_1), .d (.int .u32 s_2), .d (.int .u32 s_3), .d (.int .u8 s_4), .d (.sl (.pair (.int .u8) (.slice (.int .u8))) s_5), .d (.sl (.int .u8) s_6)])], 1⟩ [(decide ((((s_5.length : Nat) : Int) : Int) > 120)) = false, (decide ((((s_6.length : Nat) : Int) : Int) > 2000)) = false] (by kernel_rfl) ⟨b4_4, b4_e0, trivial⟩ ?_
      refine At.step hm ht ⟨[], [], [], [1, 3], [0]⟩ 4 ⟨[(1, .one (.c (.ptr 0 0))), (3, .one (.c (.d (.int .i64 0))))], [], [(0, [.d (.int .u16 s_0), .d (.int .u16 s_1), .d (.int .u32 s_2), .d (.int .u32 s_3), .d (.int .u8 s_4), .d (.sl (.pair (.int .u8) (.slice (.int .u8))) s_5), .d (.sl (.int .u8) s_6)])], 1⟩ [] (by kernel_rfl) trivial ?_
      obtain ⟨w12, cw12, h⟩ := bindS h
      refine f64_broughamlaw07_Great_L4_ok n 0 s_0 s_1 s_2 s_3 s_4 s_5 s_6 w12 cw12 _ ?_
      rcases w12 with e13 | e14
      · have h := Option.some.inj h
        subst h
        rfl
      · show At Go.Proofs.Try.prog Go.Proofs.Try.f64 0 8 ⟨[], [], [], 0⟩ _
        have h := Option.some.inj h
        subst h
        exact At.fin hm ht ⟨[], [], [], [2], []⟩ [] (by kernel_rfl) trivial
/-! brougham/pack.Put -/
def f78_pack_Put_in (b : List Int) (l : List (Int × Int)) : Inn := ⟨[.c (.d (.sl (.int .u8) b)), .c (.d (.sl (.pair (.int .i64) (.int .u64)) l))], [], [], 0⟩
def f78_pack_Put_out (r : List Int) : Out := ⟨.one (.c (.own 0 (.int .u8) r)), [(0, ⟨5, 0⟩)], [], 1⟩
def f78_pack_Put_L7 : Nat → (List Int) → Int → (List (Int × Int)) → Int → Int → Int → Int → Option (List Int × (List (Int × Int)) × Int × Int)
  | 0, _, _, _, _, _, _, _ => none
  | n + 1, out, i, t11, t12, t13, f_0, f_1 =>
    if (decide ((i : Int) ≥ 0)) = true then
      if (0 : Int) ≤ (IntKind.wrap .i64 (8 * i)) then
      if out.length + [(IntKind.wrap .u8 (Int.fdiv f_1 (2 ^ (min (IntKind.wrap .i64 (8 * i)).toNat (IntKind.bits .u64)))))].length ≤ maxLen ∧ (out.length + [(IntKind.wrap .u8 (Int.fdiv f_1 (2 ^ (min (IntKind.wrap .i64 (8 * i)).toNat (IntKind.bits .u64)))))].length) * 1 ≤ 140737488355328 then
      f78_pack_Put_L7 n (out ++ [(IntKind.wrap .u8 (Int.fdiv f_1 (2 ^ (min (IntKind.wrap .i64 (8 * i)).toNat (IntKind.bits .u64)))))]) (IntKind.wrap .i64 (i - 1)) t11 t12 t13 f_0 f_1
      else none
      else none
    else
      some ((out, t11, t12, t13))
def f78_pack_Put_L7_k (e : List Int × (List (Int × Int)) × Int × Int) (o : Out) : Prop := At Go.Proofs.Try.prog Go.Proofs.Try.f78 0 10 ⟨[(5, .one (.c (.own 0 (.int .u8) e.1))), (11, .one (.c (.d (.sl (.pair (.int .i64) (.int .u64)) e.2.1)))), (12, .one (.c (.d (.int .i64 e.2.2.1)))), (13, .one (.c (.d (.int .i64 e.2.2.2))))], [(0, some ⟨5, 0⟩)], [], 1⟩ o
theorem f78_pack_Put_L7_ok (n : Nat) : ∀ (out : List Int) (i : Int) (t11 : List (Int × Int)) (t12 : Int) (t13 : Int) (f_0 : Int) (f_1 : Int) (w : List Int × (List (Int × Int)) × Int × Int) (h : f78_pack_Put_L7 n out i t11 t12 t13 f_0 f_1 = some w) (o : Out) (hk : f78_pack_Put_L7_k w o), At Go.Proofs.Try.prog Go.Proofs.Try.f78 0 7 ⟨[(5, .one (.c (.own 0 (.int .u8) out))), (7, .one (.c (.ptr 1 0))), (8, .one (.c (.d (.int .i64 i)))), (11, .one (.c (.d (.sl (.pair (.int .i64) (.int .u64)) t11)))), (12, .one (.c (.d (.int .i64 t12)))), (13, .one (.c (.d (.int .i64 t13))))], [(0, some ⟨5, 0⟩)], [(1, [.d (.int .i64 f_0), .d (.int .u64 f_1)])], 2⟩ o := by
  induction n with
  | zero => intro out i t11 t12 t13 f_0 f_1 w h; rw [f78_pack_Put_L7] at h; cases h
  | succ n ih =>
    intro out i t11 t12 t13 f_0 f_1 w h o hk
    rw [f78_pack_Put_L7] at h
    rcases iteS h with ⟨b32_e0, h⟩ | ⟨b32_e0, h⟩
    · refine At.step hm ht ⟨[], [true], [], [5, 7, 8, 11, 12, 13], [0, 1]⟩ 9 ⟨[(5, .one (.c (.own 0 (.int .u8) out))), (7, .one (.c (.ptr 1 0))), (8, .one (.c (.d (.int .i64 i)))), (11, .one (.c (.d (.sl (.pair (.int .i64) (.int .u64)) t11)))), (12, .one (.c (.d (.int .i64 t12)))), (13, .one (.c (.d (.int .i64 t13))))], [(0, some ⟨5, 0⟩)], [(1, [.d (.int .i64 f_0), .d (.int .u64 f_1)])], 2⟩ [(decide ((i : Int) ≥ 0)) = true] (by kernel_rfl) ⟨b32_e0, trivial⟩ ?_
      obtain ⟨g33_0, h⟩ := ifS h
      obtain ⟨g33_1, h⟩ := ifS h
      refine At.step hm ht ⟨[], [], [], [5, 7, 8, 11, 12, 13], [10, 1]⟩ 8 ⟨[(5, .one (.c (.own 0 (.int .u8) (out ++ [(IntKind.wrap .u8 (Int.fdiv f_1 (2 ^ (min (IntKind.wrap .i64 (8 * i)).toNat (IntKind.bits .u64)))))])))), (7, .one (.c (.ptr 1 0))), (8, .one (.c (.d (.int .i64 i)))), (11, .one (.c (.d (.sl (.pair (.int .i64) (.int .u64)) t11)))), (12, .one (.c (.d (.int .i64 t12)))), (13, .one (.c (.d (.int .i64 t13))))], [(0, some ⟨5, 0⟩)], [(1, [.d (.int .i64 f_0), .d (.int .u64 f_1)])], 2⟩ [(0 : Int) ≤ (IntKind.wrap .i64 (8 * i)), out.length + [(IntKind.wrap .u8 (Int.fdiv f_1 (2 ^ (min (IntKind.wrap .i64 (8 * i)).toNat (IntKind.bits .u64)))))].length ≤ maxLen ∧ (out.length + [(IntKind.wrap .u8 (Int.fdiv f_1 (2 ^ (min (IntKind.wrap .i64 (8 * i)).toNat (IntKind.bits .u64)))))].length) * 1 ≤ 140737488355328] (by kernel_rfl) ⟨g33_0, g33_1, trivial⟩ ?_
      refine At.step hm ht ⟨[], [], [], [5, 7, 8, 11, 12, 13], [0, 1]⟩ 7 ⟨[(5, .one (.c (.own 0 (.int .u8) (out ++ [(IntKind.wrap .u8 (Int.fdiv f_1 (2 ^ (min (IntKind.wrap .i64 (8 * i)).toNat (IntKind.bits .u64)))))])))), (7, .one (.c (.ptr 1 0))), (8, .one (.c (.d (.int .i64 (IntKind.wrap .i64 (i - 1)))))), (11, .one (.c (.d (.sl (.pair (.int .i64) (.int .u64)) t11)))), (12, .one (.c (.d (.int .i64 t12)))), (13, .one (.c (.d (.int .i64 t13))))], [(0, some ⟨5, 0⟩)], [(1, [.d (.int .i64 f_0), .d (.int .u64 f_1)])], 2⟩ [] (by kernel_rfl) trivial ?_
      exact ih (out ++ [(IntKind.wrap .u8 (Int.fdiv f_1 (2 ^ (min (IntKind.wrap .i64 (8 * i)).toNat (IntKind.bits .u64)))))]) (IntKind.wrap .i64 (i - 1)) t11 t12 t13 f_0 f_1 w h o hk
    · refine At.step hm ht ⟨[], [false], [], [5, 11, 12, 13], [0]⟩ 10 ⟨[(5, .one (.c (.own 0 (.int .u8) out))), (11, .one (.c (.d (.sl (.pair (.int .i64) (.int .u64)) t11)))), (12, .one (.c (.d (.int .i64 t12)))), (13, .one (.c (.d (.int .i64 t13))))], [(0, some ⟨5, 0⟩)], [], 1⟩ [(decide ((i : Int) ≥ 0)) = false] (by kernel_rfl) ⟨b32_e0, trivial⟩ ?_
      have h := Option.some.inj h
      subst h
      exact hk
def f78_pack_Put_L3 : Nat → (List Int) → (List (Int × Int)) → Int → Int → Option (List Int)
  | 0, _, _, _, _ => none
  | n + 1, out, t11, t12, t13 =>
    if (decide ((t13 : Int) < t12)) = true then
      if (0 : Int) ≤ t13 ∧ t13 < (((t11).length : Nat) : Int) then
      if (decide ((((t11.getD t13.toNat (0, 0)).1) : Int) < 1)) = true then
        f78_pack_Put_L3 n out t11 t12 (IntKind.wrap .i64 (t13 + 1))
      else
        if (decide ((((t11.getD t13.toNat (0, 0)).1) : Int) > 8)) = true then
          f78_pack_Put_L3 n out t11 t12 (IntKind.wrap .i64 (t13 + 1))
        else
          (f78_pack_Put_L7 n out (IntKind.wrap .i64 (((t11.getD t13.toNat (0, 0)).1) - 1)) t11 t12 t13 ((t11.getD t13.toNat (0, 0)).1) ((t11.getD t13.toNat (0, 0)).2)).bind fun w35 =>
          f78_pack_Put_L3 n w35.1 w35.2.1 w35.2.2.1 (IntKind.wrap .i64 (w35.2.2.2 + 1))
      else none
    else
      some (out)
def f78_pack_Put_L3_k (e : List Int) (o : Out) : Prop := At Go.Proofs.Try.prog Go.Proofs.Try.f78 0 11 ⟨[(5, .one (.c (.own 0 (.int .u8) e)))], [(0, some ⟨5, 0⟩)], [], 1⟩ o
theorem f78_pack_Put_L3_ok (n : Nat) : ∀ (out : List Int) (t11 : List (Int × Int)) (t12 : Int) (t13 : Int) (w : List Int) (h : f78_pack_Put_L3 n out t11 t12 t13 = some w) (o : Out) (hk : f78_pack_Put_L3_k w o), At Go.Proofs.Try.prog Go.Proofs.Try.f78 0 3 ⟨[(5, .one (.c (.own 0 (.int .u8) out))), (11, .one (.c (.d (.sl (.pair (.int .i64) (.int .u64)) t11)))), (12, .one (.c (.d (.int .i64 t12)))), (13, .one (.c (.d (.int .i64 t13))))], [(0, some ⟨5, 0⟩)], [], 1⟩ o := by
  induction n with
  | zero => intro out t11 t12 t13 w h; rw [f78_pack_Put_L3] at h; cases h
  | succ n ih =>
    intro out t11 t12 t13 w h o hk
    rw [f78_pack_Put_L3] at h
    rcases iteS h with ⟨b26_e0, h⟩ | ⟨b26_e0, h⟩
    · refine At.step hm ht ⟨[], [true], [], [5, 11, 12, 13], [0]⟩ 4 ⟨[(5, .one (.c (.own 0 (.int .u8) out))), (11, .one (.c (.d (.sl (.pair (.int .i64) (.int .u64)) t11)))), (12, .one (.c (.d (.int .i64 t12)))), (13, .one (.c (.d (.int .i64 t13))))], [(0, some ⟨5, 0⟩)], [], 1⟩ [(decide ((t13 : Int) < t12)) = true] (by kernel_rfl) ⟨b26_e0, trivial⟩ ?_
      obtain ⟨g27_0, h⟩ := ifS h
      refine At.step hm ht ⟨[], [], [], [5, 7, 11, 12, 13], [0, 3]⟩ 5 ⟨[(5, .one (.c (.own 0 (.int .u8) out))), (7, .one (.c (.ptr 1 0))), (11, .one (.c (.d (.sl (.pair (.int .i64) (.int .u64)) t11)))), (12, .one (.c (.d (.int .i64 t12)))), (13, .one (.c (.d (.int .i64 t13))))], [(0, some ⟨5, 0⟩)], [(1, [.d (.int .i64 ((t11.getD t13.toNat (0, 0)).1)), .d (.int .u64 ((t11.getD t13.toNat (0, 0)).2))])], 2⟩ [(0 : Int) ≤ t13 ∧ t13 < (((t11).length : Nat) : Int), 0 + 2 ≤ 2] (by kernel_rfl) ⟨g27_0, (by decide), trivial⟩ ?_
      rcases iteS h with ⟨b28_3, h⟩ | ⟨b28_3, h⟩
      · refine At.step hm ht ⟨[(3, .b true)], [true], [], [5, 11, 12, 13], [0]⟩ 10 ⟨[(5, .one (.c (.own 0 (.int .u8) out))), (11, .one (.c (.d (.sl (.pair (.int .i64) (.int .u64)) t11)))), (12, .one (.c (.d (.int .i64 t12)))), (13, .one (.c (.d (.int .i64 t13))))], [(0, some ⟨5, 0⟩)], [], 1⟩ [(decide ((((t11.getD t13.toNat (0, 0)).1) : Int) < 1)) = true, true = true] (by kernel_rfl) ⟨b28_3, rfl, trivial⟩ ?_
        refine At.step hm ht ⟨[], [], [], [5, 11, 12, 13], [0]⟩ 3 ⟨[(5, .one (.c (.own 0 (.int .u8) out))), (11, .one (.c (.d (.sl (.pair (.int .i64) (.int .u64)) t11)))), (12, .one (.c (.d (.int .i64 t12)))), (13, .one (.c (.d (.int .i64 (IntKind.wrap .i64 (t13 + 1))))))], [(0, some ⟨5, 0⟩)], [], 1⟩ [] (by kernel_rfl) trivial ?_
        exact ih out t11 t12 (IntKind.wrap .i64 (t13 + 1)) w h o hk
      · rcases iteS h with ⟨b28_e0, h⟩ | ⟨b28_e0, h⟩
        · refine At.step hm ht ⟨[(3, .b false)], [true], [], [5, 11, 12, 13], [0]⟩ 10 ⟨[(5, .one (.c (.own 0 (.int .u8) out))), (11, .one (.c (.d (.sl (.pair (.int .i64) (.int .u64)) t11)))), (12, .one (.c (.d (.int .i64 t12)))), (13, .one (.c (.d (.int .i64 t13))))], [(0, some ⟨5, 0⟩)], [], 1⟩ [(decide ((((t11.getD t13.toNat (0, 0)).1) : Int) < 1)) = false, (decide ((((t11.getD t13.toNat (0, 0)).1) : Int) > 8)) = true] (by kernel_rfl) ⟨b28_3, b28_e0, trivial⟩ ?_
          refine At.step hm ht ⟨[], [], [], [5, 11, 12, 13], [0]⟩ 3 ⟨[(5, .one (.c (.own 0 (.int .u8) out))), (11, .one (.c (.d (.sl (.pair (.int .i64) (.int .u64)) t11)))), (12, .one (.c (.d (.int .i64 t12)))), (13, .one (.c (.d (.int .i64 (IntKind.wrap .i64 (t13 + 1))))))], [(0, some ⟨5, 0⟩)], [], 1⟩ [] (by kernel_rfl) trivial ?_
          exact ih out t11 t12 (IntKind.wrap .i64 (t13 + 1)) w h o hk
        · refine At.step hm ht ⟨[(3, .b false)], [false], [], [5, 7, 11, 12, 13], [0, 1]⟩ 6 ⟨[(5, .one (.c (.own 0 (.int .u8) out))), (7, .one (.c (.ptr 1 0))), (11, .one (.c (.d (.sl (.pair (.int .i64) (.int .u64)) t11)))), (12, .one (.c (.d (.int .i64 t12)))), (13, .one (.c (.d (.int .i64 t13))))], [(0, some ⟨5, 0⟩)], [(1, [.d (.int .i64 ((t11.getD t13.toNat (0, 0)).1)), .d (.int .u64 ((t11.getD t13.toNat (0, 0)).2))])], 2⟩ [(decide ((((t11.getD t13.toNat (0, 0)).1) : Int) < 1)) = false, (decide ((((t11.getD t13.toNat (0, 0)).1) : Int) > 8)) = false] (by kernel_rfl) ⟨b28_3, b28_e0, trivial⟩ ?_
          refine At.step hm ht ⟨[], [], [], [5, 7, 8, 11, 12, 13], [0, 1]⟩ 7 ⟨[(5, .one (.c (.own 0 (.int .u8) out))), (7, .one (.c (.ptr 1 0))), (8, .one (.c (.d (.int .i64 (IntKind.wrap .i64 (((t11.getD t13.toNat (0, 0)).1) - 1)))))), (11, .one (.c (.d (.sl (.pair (.int .i64) (.int .u64)) t11)))), (12, .one (.c (.d (.int .i64 t12)))), (13, .one (.c (.d (.int .i64 t13))))], [(0, some ⟨5, 0⟩)], [(1, [.d (.int .i64 ((t11.getD t13.toNat (0, 0)).1)), .d (.int .u64 ((t11.getD t13.toNat (0, 0)).2))])], 2⟩ [] (by kernel_rfl) trivial ?_
          obtain ⟨w35, cw35, h⟩ := bindS h
          refine f78_pack_Put_L7_ok n out (IntKind.wrap .i64 (((t11.getD t13.toNat (0, 0)).1) - 1)) t11 t12 t13 ((t11.getD t13.toNat (0, 0)).1) ((t11.getD t13.toNat (0, 0)).2) w35 cw35 _ ?_
          show At Go.Proofs.Try.prog Go.Proofs.Try.f78 0 10 ⟨[(5, .one (.c (.own 0 (.int .u8) w35.1))), (11, .one (.c (.d (.sl (.pair (.int .i64) (.int .u64)) w35.2.1)))), (12, .one (.c (.d (.int .i64 w35.2.2.1)))), (13, .one (.c (.d (.int .i64 w35.2.2.2))))], [(0, some ⟨5, 0⟩)], [], 1⟩ _
          refine At.step hm ht ⟨[], [], [], [5, 11, 12, 13], [0]⟩ 3 ⟨[(5, .one (.c (.own 0 (.int .u8) w35.1))), (11, .one (.c (.d (.sl (.pair (.int .i64) (.int .u64)) w35.2.1)))), (12, .one (.c (.d (.int .i64 w35.2.2.1)))), (13, .one (.c (.d (.int .i64 (IntKind.wrap .i64 (w35.2.2.2 + 1))))))], [(0, some ⟨5, 0⟩)], [], 1⟩ [] (by kernel_rfl) trivial ?_
          exact ih w35.1 w35.2.1 w35.2.2.1 (IntKind.wrap .i64 (w35.2.2.2 + 1)) w h o hk
    · refine At.step hm ht ⟨[], [false], [], [5], [0]⟩ 11 ⟨[(5, .one (.c (.own 0 (.int .u8) out)))], [(0, some ⟨5, 0⟩)], [], 1⟩ [(decide ((t13 : Int) < t12)) = false] (by kernel_rfl) ⟨b26_e0, trivial⟩ ?_
      have h := Option.some.inj h
      subst h
      exact hk
def f78_pack_Put (n : Nat) (b : List Int) (l : List (Int × Int)) : Option (List Int) :=
  if b.length ≤ maxLen ∧ b.length * 1 ≤ 140737488355328 then
  (f78_pack_Put_L3 n b l ((l.length : Nat) : Int) 0).bind fun w38 =>
  some w38
  else none
theorem f78_pack_Put_ok (n : Nat) (b : List Int) (l : List (Int × Int)) (r : List Int) (h : f78_pack_Put n b l = some r) : FnOK Go.Proofs.Try.prog 78 (f78_pack_Put_in b l) (f78_pack_Put_out r) := by
  unfold f78_pack_Put at h
  refine At.fn (r := 0) Go.Proofs.Try.func78 rfl (by kernel_rfl) rfl rfl (by kernel_rfl) ?_
  show At Go.Proofs.Try.prog Go.Proofs.Try.f78 0 0 ⟨[(0, .one (.c (.d (.sl (.int .u8) b)))), (1, .one (.c (.d (.sl (.pair (.int .i64) (.int .u64)) l))))], [], [], 0⟩ _
  refine At.step hm ht ⟨[], [], [], [0, 1], []⟩ 1 ⟨[(0, .one (.c (.d (.sl (.int .u8) b)))), (1, .one (.c (.d (.sl (.pair (.int .i64) (.int .u64)) l))))], [], [], 0⟩ [] (by kernel_rfl) trivial ?_
  obtain ⟨g24_0, h⟩ := ifS h
  refine At.step hm ht ⟨[], [], [], [1, 5], [1]⟩ 2 ⟨[(1, .one (.c (.d (.sl (.pair (.int .i64) (.int .u64)) l)))), (5, .one (.c (.own 0 (.int .u8) b)))], [(0, some ⟨5, 0⟩)], [], 1⟩ [b.length ≤ maxLen ∧ b.length * 1 ≤ 140737488355328] (by kernel_rfl) ⟨g24_0, trivial⟩ ?_
  refine At.step hm ht ⟨[], [], [], [5, 11, 12, 13], [0]⟩ 3 ⟨[(5, .one (.c (.own 0 (.int .u8) b))), (11, .one (.c (.d (.sl (.pair (.int .i64) (.int .u64)) l)))), (12, .one (.c (.d (.int .i64 ((l.length : Nat) : Int))))), (13, .one (.c (.d (.int .i64 0))))], [(0, some ⟨5, 0⟩)], [], 1⟩ [] (by kernel_rfl) trivial ?_
  obtain ⟨w38, cw38, h⟩ := bindS h
  refine f78_pack_Put_L3_ok n b l ((l.length : Nat) : Int) 0 w38 cw38 _ ?_
  show At Go.Proofs.Try.prog Go.Proofs.Try.f78 0 11 ⟨[(5, .one (.c (.own 0 (.int .u8) w38)))], [(0, some ⟨5, 0⟩)], [], 1⟩ _
  have h := Option.some.inj h
  subst h
  exact At.fin hm ht ⟨[], [], [], [4], [0]⟩ [] (by kernel_rfl) trivial
/-! brougham/trace.hex -/
def f103_trace_hex_in (n_ : Int) (bytes : Int) : Inn := ⟨[.c (.d (.int .u64 n_)), .c (.d (.int .i64 bytes))], [], [], 0⟩
def f103_trace_hex_out (r : ByteArray) : Out := ⟨.one (.c (.d (.str r))), [], [], 0⟩
def f103_trace_hex (n : Nat) (n_ : Int) (bytes : Int) : Option (ByteArray) :=
  (f78_pack_Put n [] [(bytes, n_)]).bind fun r22_0 =>
  (f115_num_Hex r22_0).bind fun r22_1 =>
  some r22_1
theorem f103_trace_hex_ok (n : Nat) (n_ : Int) (bytes : Int) (r : ByteArray) (h : f103_trace_hex n n_ bytes = some r) : FnOK Go.Proofs.Try.prog 103 (f103_trace_hex_in n_ bytes) (f103_trace_hex_out r) := by
  unfold f103_trace_hex at h
  refine At.fn (r := 0) Go.Proofs.Try.func103 rfl (by kernel_rfl) rfl rfl (by kernel_rfl) ?_
  show At Go.Proofs.Try.prog Go.Proofs.Try.f103 0 0 ⟨[(0, .one (.c (.d (.int .u64 n_)))), (1, .one (.c (.d (.int .i64 bytes))))], [], [], 0⟩ _
  refine At.step hm ht ⟨[], [], [], [0, 1], []⟩ 1 ⟨[(0, .one (.c (.d (.int .u64 n_)))), (1, .one (.c (.d (.int .i64 bytes))))], [], [], 0⟩ [] (by kernel_rfl) trivial ?_
  obtain ⟨r22_0, cr22_0, h⟩ := bindS h
  obtain ⟨r22_1, cr22_1, h⟩ := bindS h
  have h := Option.some.inj h
  subst h
  exact At.fin hm ht ⟨[(4, .call [] [(0, 0, (.int .u8))] (f78_pack_Put_out r22_0)), (5, .call [] [] (f115_num_Hex_out r22_1))], [], [], [4], []⟩ [FnOK Go.Proofs.Try.prog 78 (f78_pack_Put_in [] [(bytes, n_)]) (f78_pack_Put_out r22_0), FnOK Go.Proofs.Try.prog 115 (f115_num_Hex_in r22_0) (f115_num_Hex_out r22_1)] (by kernel_rfl) ⟨(f78_pack_Put_ok n [] [(bytes, n_)] r22_0 cr22_0), (f115_num_Hex_ok r22_0 r22_1 cr22_1), trivial⟩
/-! brougham/trace.when -/
def f110_trace_when_in (is_ : Bool) (word : ByteArray) : Inn := ⟨[.c (.d (.bool is_)), .c (.d (.str word))], [], [], 0⟩
def f110_trace_when_out (r : ByteArray) : Out := ⟨.one (.c (.d (.str r))), [], [], 0⟩
def f110_trace_when (is_ : Bool) (word : ByteArray) : Option (ByteArray) :=
  if is_ = true then
    some word
  else
    some (⟨#[]⟩ : ByteArray)
theorem f110_trace_when_ok (is_ : Bool) (word : ByteArray) (r : ByteArray) (h : f110_trace_when is_ word = some r) : FnOK Go.Proofs.Try.prog 110 (f110_trace_when_in is_ word) (f110_trace_when_out r) := by
  unfold f110_trace_when at h
  refine At.fn (r := 0) Go.Proofs.Try.func110 rfl (by kernel_rfl) rfl rfl (by kernel_rfl) ?_
  show At Go.Proofs.Try.prog Go.Proofs.Try.f110 0 0 ⟨[(0, .one (.c (.d (.bool is_)))), (1, .one (.c (.d (.str word))))], [], [], 0⟩ _
  refine At.step hm ht ⟨[], [], [], [0, 1], []⟩ 1 ⟨[(0, .one (.c (.d (.bool is_)))), (1, .one (.c (.d (.str word))))], [], [], 0⟩ [] (by kernel_rfl) trivial ?_
  rcases iteS h with ⟨b44_e0, h⟩ | ⟨b44_e0, h⟩
  · refine At.step hm ht ⟨[], [true], [], [1], []⟩ 2 ⟨[(1, .one (.c (.d (.str word))))], [], [], 0⟩ [is_ = true] (by kernel_rfl) ⟨b44_e0, trivial⟩ ?_
    have h := Option.some.inj h
    subst h
    exact At.fin hm ht ⟨[], [], [], [4], []⟩ [] (by kernel_rfl) trivial
  · refine At.step hm ht ⟨[], [false], [], [], []⟩ 3 ⟨[], [], [], 0⟩ [is_ = false] (by kernel_rfl) ⟨b44_e0, trivial⟩ ?_
    have h := Option.some.inj h
    subst h
    exact At.fin hm ht ⟨[], [], [], [4], []⟩ [] (by kernel_rfl) trivial
/-! brougham/num.Line -/
def f101_num_Line_in (l : List ByteArray) : Inn := ⟨[.c (.d (.sl .str l))], [], [], 0⟩
def f101_num_Line_out (r : ByteArray) : Out := ⟨.one (.c (.d (.str r))), [], [], 0⟩
def f101_num_Line_L3 : Nat → (List ByteArray) → (List ByteArray) → Int → Int → Option (List ByteArray)
  | 0, _, _, _, _ => none
  | n + 1, out, t6, t7, t8 =>
    if (decide ((t8 : Int) < t7)) = true then
      if (0 : Int) ≤ t8 ∧ t8 < (((t6).length : Nat) : Int) then
      if (!((t6.getD t8.toNat ByteArray.empty).toList == (⟨#[]⟩ : ByteArray).toList)) = true then
        if out.length + [(t6.getD t8.toNat ByteArray.empty)].length ≤ maxLen ∧ (out.length + [(t6.getD t8.toNat ByteArray.empty)].length) * 16 ≤ 140737488355328 then
        f101_num_Line_L3 n (out ++ [(t6.getD t8.toNat ByteArray.empty)]) t6 t7 (IntKind.wrap .i64 (t8 + 1))
        else none
      else
        f101_num_Line_L3 n out t6 t7 (IntKind.wrap .i64 (t8 + 1))
      else none
    else
      some (out)
def f101_num_Line_L3_k (e : List ByteArray) (o : Out) : Prop := At Go.Proofs.Try.prog Go.Proofs.Try.f101 0 8 ⟨[(3, .one (.c (.own 0 .str e)))], [(0, some ⟨9, 0⟩)], [], 1⟩ o
theorem f101_num_Line_L3_ok (n : Nat) : ∀ (out : List ByteArray) (t6 : List ByteArray) (t7 : Int) (t8 : Int) (w : List ByteArray) (h : f101_num_Line_L3 n out t6 t7 t8 = some w) (o : Out) (hk : f101_num_Line_L3_k w o), At Go.Proofs.Try.prog Go.Proofs.Try.f101 0 3 ⟨[(3, .one (.c (.own 0 .str out))), (6, .one (.c (.d (.sl .str t6)))), (7, .one (.c (.d (.int .i64 t7)))), (8, .one (.c (.d (.int .i64 t8))))], [(0, some ⟨9, 0⟩)], [], 1⟩ o := by
  induction n with
  | zero => intro out t6 t7 t8 w h; rw [f101_num_Line_L3] at h; cases h
  | succ n ih =>
    intro out t6 t7 t8 w h o hk
    rw [f101_num_Line_L3] at h
    rcases iteS h with ⟨b58_e0, h⟩ | ⟨b58_e0, h⟩
    · refine At.step hm ht ⟨[], [true], [], [3, 6, 7, 8], [0]⟩ 4 ⟨[(3, .one (.c (.own 0 .str out))), (6, .one (.c (.d (.sl .str t6)))), (7, .one (.c (.d (.int .i64 t7)))), (8, .one (.c (.d (.int .i64 t8))))], [(0, some ⟨9, 0⟩)], [], 1⟩ [(decide ((t8 : Int) < t7)) = true] (by kernel_rfl) ⟨b58_e0, trivial⟩ ?_
      obtain ⟨g59_0, h⟩ := ifS h
      refine At.step hm ht ⟨[], [], [], [3, 5, 6, 7, 8], [0]⟩ 5 ⟨[(3, .one (.c (.own 0 .str out))), (5, .one (.c (.d (.str (t6.getD t8.toNat ByteArray.empty))))), (6, .one (.c (.d (.sl .str t6)))), (7, .one (.c (.d (.int .i64 t7)))), (8, .one (.c (.d (.int .i64 t8))))], [(0, some ⟨9, 0⟩)], [], 1⟩ [(0 : Int) ≤ t8 ∧ t8 < (((t6).length : Nat) : Int)] (by kernel_rfl) ⟨g59_0, trivial⟩ ?_
      rcases iteS h with ⟨b60_e0, h⟩ | ⟨b60_e0, h⟩
      · refine At.step hm ht ⟨[], [true], [], [3, 5, 6, 7, 8], [0]⟩ 6 ⟨[(3, .one (.c (.own 0 .str out))), (5, .one (.c (.d (.str (t6.getD t8.toNat ByteArray.empty))))), (6, .one (.c (.d (.sl .str t6)))), (7, .one (.c (.d (.int .i64 t7)))), (8, .one (.c (.d (.int .i64 t8))))], [(0, some ⟨9, 0⟩)], [], 1⟩ [(!((t6.getD t8.toNat ByteArray.empty).toList == (⟨#[]⟩ : ByteArray).toList)) = true] (by kernel_rfl) ⟨b60_e0, trivial⟩ ?_
        obtain ⟨g61_0, h⟩ := ifS h
        refine At.step hm ht ⟨[], [], [], [3, 6, 7, 8], [4]⟩ 7 ⟨[(3, .one (.c (.own 0 .str (out ++ [(t6.getD t8.toNat ByteArray.empty)])))), (6, .one (.c (.d (.sl .str t6)))), (7, .one (.c (.d (.int .i64 t7)))), (8, .one (.c (.d (.int .i64 t8))))], [(0, some ⟨9, 0⟩)], [], 1⟩ [out.length + [(t6.getD t8.toNat ByteArray.empty)].length ≤ maxLen ∧ (out.length + [(t6.getD t8.toNat ByteArray.empty)].length) * 16 ≤ 140737488355328] (by kernel_rfl) ⟨g61_0, trivial⟩ ?_
        refine At.step hm ht ⟨[], [], [], [3, 6, 7, 8], [0]⟩ 3 ⟨[(3, .one (.c (.own 0 .str (out ++ [(t6.getD t8.toNat ByteArray.empty)])))), (6, .one (.c (.d (.sl .str t6)))), (7, .one (.c (.d (.int .i64 t7)))), (8, .one (.c (.d (.int .i64 (IntKind.wrap .i64 (t8 + 1))))))], [(0, some ⟨9, 0⟩)], [], 1⟩ [] (by kernel_rfl) trivial ?_
        exact ih (out ++ [(t6.getD t8.toNat ByteArray.empty)]) t6 t7 (IntKind.wrap .i64 (t8 + 1)) w h o hk
      · refine At.step hm ht ⟨[], [false], [], [3, 6, 7, 8], [0]⟩ 7 ⟨[(3, .one (.c (.own 0 .str out))), (6, .one (.c (.d (.sl .str t6)))), (7, .one (.c (.d (.int .i64 t7)))), (8, .one (.c (.d (.int .i64 t8))))], [(0, some ⟨9, 0⟩)], [], 1⟩ [(!((t6.getD t8.toNat ByteArray.empty).toList == (⟨#[]⟩ : ByteArray).toList)) = false] (by kernel_rfl) ⟨b60_e0, trivial⟩ ?_
        refine At.step hm ht ⟨[], [], [], [3, 6, 7, 8], [0]⟩ 3 ⟨[(3, .one (.c (.own 0 .str out))), (6, .one (.c (.d (.sl .str t6)))), (7, .one (.c (.d (.int .i64 t7)))), (8, .one (.c (.d (.int .i64 (IntKind.wrap .i64 (t8 + 1))))))], [(0, some ⟨9, 0⟩)], [], 1⟩ [] (by kernel_rfl) trivial ?_
        exact ih out t6 t7 (IntKind.wrap .i64 (t8 + 1)) w h o hk
    · refine At.step hm ht ⟨[], [false], [], [3], [0]⟩ 8 ⟨[(3, .one (.c (.own 0 .str out)))], [(0, some ⟨9, 0⟩)], [], 1⟩ [(decide ((t8 : Int) < t7)) = false] (by kernel_rfl) ⟨b58_e0, trivial⟩ ?_
      have h := Option.some.inj h
      subst h
      exact hk
def f101_num_Line (n : Nat) (l : List ByteArray) : Option (ByteArray) :=
  (f101_num_Line_L3 n [] l ((l.length : Nat) : Int) 0).bind fun w64 =>
  (f131_strings_Join w64 (⟨#[32]⟩ : ByteArray)).bind fun r66_0 =>
  some r66_0
theorem f101_num_Line_ok (n : Nat) (l : List ByteArray) (r : ByteArray) (h : f101_num_Line n l = some r) : FnOK Go.Proofs.Try.prog 101 (f101_num_Line_in l) (f101_num_Line_out r) := by
  unfold f101_num_Line at h
  refine At.fn (r := 0) Go.Proofs.Try.func101 rfl (by kernel_rfl) rfl rfl (by kernel_rfl) ?_
  show At Go.Proofs.Try.prog Go.Proofs.Try.f101 0 0 ⟨[(0, .one (.c (.d (.sl .str l))))], [], [], 0⟩ _
  refine At.step hm ht ⟨[], [], [], [0], []⟩ 1 ⟨[(0, .one (.c (.d (.sl .str l))))], [], [], 0⟩ [] (by kernel_rfl) trivial ?_
  refine At.step hm ht ⟨[], [], [], [0, 3], []⟩ 2 ⟨[(0, .one (.c (.d (.sl .str l)))), (3, .one (.c (.d (.sl .unit []))))], [], [], 0⟩ [] (by kernel_rfl) trivial ?_
  refine At.step hm ht ⟨[], [], [.nil false 3 0 .str (some 9)], [3, 6, 7, 8], [3]⟩ 3 ⟨[(3, .one (.c (.own 0 .str []))), (6, .one (.c (.d (.sl .str l)))), (7, .one (.c (.d (.int .i64 ((l.length : Nat) : Int))))), (8, .one (.c (.d (.int .i64 0))))], [(0, some ⟨9, 0⟩)], [], 1⟩ [] (by kernel_rfl) trivial ?_
  obtain ⟨w64, cw64, h⟩ := bindS h
  refine f101_num_Line_L3_ok n [] l ((l.length : Nat) : Int) 0 w64 cw64 _ ?_
  show At Go.Proofs.Try.prog Go.Proofs.Try.f101 0 8 ⟨[(3, .one (.c (.own 0 .str w64)))], [(0, some ⟨9, 0⟩)], [], 1⟩ _
  obtain ⟨r66_0, cr66_0, h⟩ := bindS h
  have h := Option.some.inj h
  subst h
  exact At.fin hm ht ⟨[(1, .call [] [] (f131_strings_Join_out r66_0))], [], [], [2], []⟩ [FnOK Go.Proofs.Try.prog 131 (f131_strings_Join_in w64 (⟨#[32]⟩ : ByteArray)) (f131_strings_Join_out r66_0)] (by kernel_rfl) ⟨(f131_strings_Join_ok w64 (⟨#[32]⟩ : ByteArray) r66_0 cr66_0), trivial⟩
/-! brougham/trace.flags -/
def f104_trace_flags_in (f : Int) : Inn := ⟨[.c (.d (.int .u8 f))], [], [], 0⟩
def f104_trace_flags_out (r : ByteArray) : Out := ⟨.one (.c (.d (.str r))), [], [], 0⟩
def f104_trace_flags (n : Nat) (f : Int) : Option (ByteArray) :=
  (f110_trace_when (((bits .and .u8 f 1) : Int) != 0) (⟨#[115, 121, 110]⟩ : ByteArray)).bind fun r42_0 =>
  (f110_trace_when (((bits .and .u8 f 2) : Int) != 0) (⟨#[97, 99, 107]⟩ : ByteArray)).bind fun r42_1 =>
  (f110_trace_when (((bits .and .u8 f 4) : Int) != 0) (⟨#[114, 115, 116]⟩ : ByteArray)).bind fun r42_2 =>
  (f101_num_Line n [r42_0, r42_1, r42_2]).bind fun r42_3 =>
  if (r42_3.toList == (⟨#[]⟩ : ByteArray).toList) = true then
    some (⟨#[110, 111, 110, 101]⟩ : ByteArray)
  else
    some r42_3
theorem f104_trace_flags_ok (n : Nat) (f : Int) (r : ByteArray) (h : f104_trace_flags n f = some r) : FnOK Go.Proofs.Try.prog 104 (f104_trace_flags_in f) (f104_trace_flags_out r) := by
  unfold f104_trace_flags at h
  refine At.fn (r := 0) Go.Proofs.Try.func104 rfl (by kernel_rfl) rfl rfl (by kernel_rfl) ?_
  show At Go.Proofs.Try.prog Go.Proofs.Try.f104 0 0 ⟨[(0, .one (.c (.d (.int .u8 f))))], [], [], 0⟩ _
  refine At.step hm ht ⟨[], [], [], [0], []⟩ 1 ⟨[(0, .one (.c (.d (.int .u8 f))))], [], [], 0⟩ [] (by kernel_rfl) trivial ?_
  obtain ⟨r42_0, cr42_0, h⟩ := bindS h
  obtain ⟨r42_1, cr42_1, h⟩ := bindS h
  obtain ⟨r42_2, cr42_2, h⟩ := bindS h
  obtain ⟨r42_3, cr42_3, h⟩ := bindS h
  refine At.step hm ht ⟨[(3, .call [] [] (f110_trace_when_out r42_0)), (7, .call [] [] (f110_trace_when_out r42_1)), (11, .call [] [] (f110_trace_when_out r42_2)), (13, .call [] [] (f101_num_Line_out r42_3))], [], [], [3], []⟩ 2 ⟨[(3, .one (.c (.d (.str r42_3))))], [], [], 0⟩ [FnOK Go.Proofs.Try.prog 110 (f110_trace_when_in (((bits .and .u8 f 1) : Int) != 0) (⟨#[115, 121, 110]⟩ : ByteArray)) (f110_trace_when_out r42_0), FnOK Go.Proofs.Try.prog 110 (f110_trace_when_in (((bits .and .u8 f 2) : Int) != 0) (⟨#[97, 99, 107]⟩ : ByteArray)) (f110_trace_when_out r42_1), FnOK Go.Proofs.Try.prog 110 (f110_trace_when_in (((bits .and .u8 f 4) : Int) != 0) (⟨#[114, 115, 116]⟩ : ByteArray)) (f110_trace_when_out r42_2), FnOK Go.Proofs.Try.prog 101 (f101_num_Line_in [r42_0, r42_1, r42_2]) (f101_num_Line_out r42_3)] (by kernel_rfl) ⟨(f110_trace_when_ok (((bits .and .u8 f 1) : Int) != 0) (⟨#[115, 121, 110]⟩ : ByteArray) r42_0 cr42_0), (f110_trace_when_ok (((bits .and .u8 f 2) : Int) != 0) (⟨#[97, 99, 107]⟩ : ByteArray) r42_1 cr42_1), (f110_trace_when_ok (((bits .and .u8 f 4) : Int) != 0) (⟨#[114, 115, 116]⟩ : ByteArray) r42_2 cr42_2), (f101_num_Line_ok n [r42_0, r42_1, r42_2] r42_3 cr42_3), trivial⟩ ?_
  rcases iteS h with ⟨b67_e0, h⟩ | ⟨b67_e0, h⟩
  · refine At.step hm ht ⟨[], [true], [], [], []⟩ 3 ⟨[], [], [], 0⟩ [(r42_3.toList == (⟨#[]⟩ : ByteArray).toList) = true] (by kernel_rfl) ⟨b67_e0, trivial⟩ ?_
    have h := Option.some.inj h
    subst h
    exact At.fin hm ht ⟨[], [], [], [2], []⟩ [] (by kernel_rfl) trivial
  · refine At.step hm ht ⟨[], [false], [], [3], []⟩ 4 ⟨[(3, .one (.c (.d (.str r42_3))))], [], [], 0⟩ [(r42_3.toList == (⟨#[]⟩ : ByteArray).toList) = false] (by kernel_rfl) ⟨b67_e0, trivial⟩ ?_
    have h := Option.some.inj h
    subst h
    exact At.fin hm ht ⟨[], [], [], [2], []⟩ [] (by kernel_rfl) trivial
/-! brougham/pack.Get -/
def f84_pack_Get_in (b : List Int) (sizes : List Int) : Inn := ⟨[.c (.d (.sl (.int .u8) b)), .c (.d (.sl (.int .i64) sizes))], [], [], 0⟩
def f84_pack_Get_out (r : List Int × List Int × Bool) : Out := ⟨.tup [.c (.own 0 (.int .u64) r.1), .c (.own 1 (.int .u8) r.2.1), .c (.d (.bool r.2.2))], [(0, ⟨22, 0⟩), (1, ⟨5, 0⟩)], [], 2⟩
def f84_pack_Get_L9 : Nat → (List Int) → (List Int) → Int → Int → (List Int) → Int → Int → (List Int) → Int → Int → Option (List Int × List Int × Int × Int × List Int × Int × Int)
  | 0, _, _, _, _, _, _, _, _, _, _ => none
  | n + 1, b, out, n_, x, t13, t14, t15, t33, t34, t35 =>
    if (decide ((t35 : Int) < t34)) = true then
      if (0 : Int) ≤ t35 ∧ t35 < (((t33).length : Nat) : Int) then
      f84_pack_Get_L9 n b out n_ (bits .or .u64 (IntKind.wrap .u64 (x * 2 ^ 8)) (IntKind.wrap .u64 (t33.getD t35.toNat 0))) t13 t14 t15 t33 t34 (IntKind.wrap .i64 (t35 + 1))
      else none
    else
      some ((b, out, n_, x, t13, t14, t15))
def f84_pack_Get_L9_k (e : List Int × List Int × Int × Int × List Int × Int × Int) (o : Out) : Prop := At Go.Proofs.Try.prog Go.Proofs.Try.f84 0 13 ⟨[(0, .one (.c (.d (.sl (.int .u8) e.1)))), (7, .one (.c (.own 0 (.int .u64) e.2.1))), (9, .one (.c (.d (.int .i64 e.2.2.1)))), (10, .one (.c (.d (.int .u64 e.2.2.2.1)))), (13, .one (.c (.d (.sl (.int .i64) e.2.2.2.2.1)))), (14, .one (.c (.d (.int .i64 e.2.2.2.2.2.1)))), (15, .one (.c (.d (.int .i64 e.2.2.2.2.2.2))))], [(0, some ⟨22, 0⟩)], [], 1⟩ o
theorem f84_pack_Get_L9_ok (n : Nat) : ∀ (b : List Int) (out : List Int) (n_ : Int) (x : Int) (t13 : List Int) (t14 : Int) (t15 : Int) (t33 : List Int) (t34 : Int) (t35 : Int) (w : List Int × List Int × Int × Int × List Int × Int × Int) (h : f84_pack_Get_L9 n b out n_ x t13 t14 t15 t33 t34 t35 = some w) (o : Out) (hk : f84_pack_Get_L9_k w o), At Go.Proofs.Try.prog Go.Proofs.Try.f84 0 9 ⟨[(0, .one (.c (.d (.sl (.int .u8) b)))), (7, .one (.c (.own 0 (.int .u64) out))), (9, .one (.c (.d (.int .i64 n_)))), (10, .one (.c (.d (.int .u64 x)))), (13, .one (.c (.d (.sl (.int .i64) t13)))), (14, .one (.c (.d (.int .i64 t14)))), (15, .one (.c (.d (.int .i64 t15)))), (33, .one (.c (.d (.sl (.int .u8) t33)))), (34, .one (.c (.d (.int .i64 t34)))), (35, .one (.c (.d (.int .i64 t35))))], [(0, some ⟨22, 0⟩)], [], 1⟩ o := by
  induction n with
  | zero => intro b out n_ x t13 t14 t15 t33 t34 t35 w h; rw [f84_pack_Get_L9] at h; cases h
  | succ n ih =>
    intro b out n_ x t13 t14 t15 t33 t34 t35 w h o hk
    rw [f84_pack_Get_L9] at h
    rcases iteS h with ⟨b150_e0, h⟩ | ⟨b150_e0, h⟩
    · refine At.step hm ht ⟨[], [true], [], [0, 7, 9, 10, 13, 14, 15, 33, 34, 35], [0]⟩ 10 ⟨[(0, .one (.c (.d (.sl (.int .u8) b)))), (7, .one (.c (.own 0 (.int .u64) out))), (9, .one (.c (.d (.int .i64 n_)))), (10, .one (.c (.d (.int .u64 x)))), (13, .one (.c (.d (.sl (.int .i64) t13)))), (14, .one (.c (.d (.int .i64 t14)))), (15, .one (.c (.d (.int .i64 t15)))), (33, .one (.c (.d (.sl (.int .u8) t33)))), (34, .one (.c (.d (.int .i64 t34)))), (35, .one (.c (.d (.int .i64 t35))))], [(0, some ⟨22, 0⟩)], [], 1⟩ [(decide ((t35 : Int) < t34)) = true] (by kernel_rfl) ⟨b150_e0, trivial⟩ ?_
      obtain ⟨g151_0, h⟩ := ifS h
      refine At.step hm ht ⟨[], [], [], [0, 7, 9, 10, 12, 13, 14, 15, 33, 34, 35], [0]⟩ 11 ⟨[(0, .one (.c (.d (.sl (.int .u8) b)))), (7, .one (.c (.own 0 (.int .u64) out))), (9, .one (.c (.d (.int .i64 n_)))), (10, .one (.c (.d (.int .u64 x)))), (12, .one (.c (.d (.int .u8 (t33.getD t35.toNat 0))))), (13, .one (.c (.d (.sl (.int .i64) t13)))), (14, .one (.c (.d (.int .i64 t14)))), (15, .one (.c (.d (.int .i64 t15)))), (33, .one (.c (.d (.sl (.int .u8) t33)))), (34, .one (.c (.d (.int .i64 t34)))), (35, .one (.c (.d (.int .i64 t35))))], [(0, some ⟨22, 0⟩)], [], 1⟩ [(0 : Int) ≤ t35 ∧ t35 < (((t33).length : Nat) : Int)] (by kernel_rfl) ⟨g151_0, trivial⟩ ?_
      refine At.step hm ht ⟨[], [], [], [0, 7, 9, 10, 13, 14, 15, 33, 34, 35], [0]⟩ 12 ⟨[(0, .one (.c (.d (.sl (.int .u8) b)))), (7, .one (.c (.own 0 (.int .u64) out))), (9, .one (.c (.d (.int .i64 n_)))), (10, .one (.c (.d (.int .u64 (bits .or .u64 (IntKind.wrap .u64 (x * 2 ^ 8)) (IntKind.wrap .u64 (t33.getD t35.toNat 0))))))), (13, .one (.c (.d (.sl (.int .i64) t13)))), (14, .one (.c (.d (.int .i64 t14)))), (15, .one (.c (.d (.int .i64 t15)))), (33, .one (.c (.d (.sl (.int .u8) t33)))), (34, .one (.c (.d (.int .i64 t34)))), (35, .one (.c (.d (.int .i64 t35))))], [(0, some ⟨22, 0⟩)], [], 1⟩ [(0 : Int) ≤ 8] (by kernel_rfl) ⟨(by decide), trivial⟩ ?_
      refine At.step hm ht ⟨[], [], [], [0, 7, 9, 10, 13, 14, 15, 33, 34, 35], [0]⟩ 9 ⟨[(0, .one (.c (.d (.sl (.int .u8) b)))), (7, .one (.c (.own 0 (.int .u64) out))), (9, .one (.c (.d (.int .i64 n_)))), (10, .one (.c (.d (.int .u64 (bits .or .u64 (IntKind.wrap .u64 (x * 2 ^ 8)) (IntKind.wrap .u64 (t33.getD t35.toNat 0))))))), (13, .one (.c (.d (.sl (.int .i64) t13)))), (14, .one (.c (.d (.int .i64 t14)))), (15, .one (.c (.d (.int .i64 t15)))), (33, .one (.c (.d (.sl (.int .u8) t33)))), (34, .one (.c (.d (.int .i64 t34)))), (35, .one (.c (.d (.int .i64 (IntKind.wrap .i64 (t35 + 1))))))], [(0, some ⟨22, 0⟩)], [], 1⟩ [] (by kernel_rfl) trivial ?_
      exact ih b out n_ (bits .or .u64 (IntKind.wrap .u64 (x * 2 ^ 8)) (IntKind.wrap .u64 (t33.getD t35.toNat 0))) t13 t14 t15 t33 t34 (IntKind.wrap .i64 (t35 + 1)) w h o hk
    · refine At.step hm ht ⟨[], [false], [], [0, 7, 9, 10, 13, 14, 15], [0]⟩ 13 ⟨[(0, .one (.c (.d (.sl (.int .u8) b)))), (7, .one (.c (.own 0 (.int .u64) out))), (9, .one (.c (.d (.int .i64 n_)))), (10, .one (.c (.d (.int .u64 x)))), (13, .one (.c (.d (.sl (.int .i64) t13)))), (14, .one (.c (.d (.int .i64 t14)))), (15, .one (.c (.d (.int .i64 t15))))], [(0, some ⟨22, 0⟩)], [], 1⟩ [(decide ((t35 : Int) < t34)) = false] (by kernel_rfl) ⟨b150_e0, trivial⟩ ?_
      have h := Option.some.inj h
      subst h
      exact hk
def f84_pack_Get_L3 : Nat → (List Int) → (List Int) → (List Int) → Int → Int → Option ((List Int × List Int × Bool) ⊕ (List Int × List Int))
  | 0, _, _, _, _, _ => none
  | n + 1, b, out, t13, t14, t15 =>
    if (decide ((t15 : Int) < t14)) = true then
      if (0 : Int) ≤ t15 ∧ t15 < (((t13).length : Nat) : Int) then
      if (decide (((t13.getD t15.toNat 0) : Int) < 1)) = true then
        some (.inl ([], [], false))
      else
        if (decide (((t13.getD t15.toNat 0) : Int) > 8)) = true then
          some (.inl ([], [], false))
        else
          if (decide (((t13.getD t15.toNat 0) : Int) > ((b.length : Nat) : Int))) = true then
            some (.inl ([], [], false))
          else
            if cutOk b.length none (some (t13.getD t15.toNat 0)) none then
            (f84_pack_Get_L9 n b out (t13.getD t15.toNat 0) 0 t13 t14 t15 (b.take (t13.getD t15.toNat 0).toNat) (((b.take (t13.getD t15.toNat 0).toNat).length : Nat) : Int) 0).bind fun w154 =>
            if w154.2.1.length + [w154.2.2.2.1].length ≤ maxLen ∧ (w154.2.1.length + [w154.2.2.2.1].length) * 8 ≤ 140737488355328 then
            if cutOk w154.1.length (some w154.2.2.1) none none then
            f84_pack_Get_L3 n ((w154.1.take w154.1.length).drop w154.2.2.1.toNat) (w154.2.1 ++ [w154.2.2.2.1]) w154.2.2.2.2.1 w154.2.2.2.2.2.1 (IntKind.wrap .i64 (w154.2.2.2.2.2.2 + 1))
            else none
            else none
            else none
      else none
    else
      some (.inr ((b, out)))
def f84_pack_Get_L3_k (w : (List Int × List Int × Bool) ⊕ (List Int × List Int)) (o : Out) : Prop := match w with
  | .inl e => o = f84_pack_Get_out e
  | .inr e => At Go.Proofs.Try.prog Go.Proofs.Try.f84 0 16 ⟨[(0, .one (.c (.d (.sl (.int .u8) e.1)))), (7, .one (.c (.own 0 (.int .u64) e.2)))], [(0, some ⟨22, 0⟩)], [], 1⟩ o
theorem f84_pack_Get_L3_ok (n : Nat) : ∀ (b : List Int) (out : List Int) (t13 : List Int) (t14 : Int) (t15 : Int) (w : (List Int × List Int × Bool) ⊕ (List Int × List Int)) (h : f84_pack_Get_L3 n b out t13 t14 t15 = some w) (o : Out) (hk : f84_pack_Get_L3_k w o), At Go.Proofs.Try.prog Go.Proofs.Try.f84 0 3 ⟨[(0, .one (.c (.d (.sl (.int .u8) b)))), (7, .one (.c (.own 0 (.int .u64) out))), (13, .one (.c (.d (.sl (.int .i64) t13)))), (14, .one (.c (.d (.int .i64 t14)))), (15, .one (.c (.d (.int .i64 t15))))], [(0, some ⟨22, 0⟩)], [], 1⟩ o := by
  induction n with
  | zero => intro b out t13 t14 t15 w h; rw [f84_pack_Get_L3] at h; cases h
  | succ n ih =>
    intro b out t13 t14 t15 w h o hk
    rw [f84_pack_Get_L3] at h
    rcases iteS h with ⟨b142_e0, h⟩ | ⟨b142_e0, h⟩
    · refine At.step hm ht ⟨[], [true], [], [0, 7, 13, 14, 15], [0]⟩ 4 ⟨[(0, .one (.c (.d (.sl (.int .u8) b)))), (7, .one (.c (.own 0 (.int .u64) out))), (13, .one (.c (.d (.sl (.int .i64) t13)))), (14, .one (.c (.d (.int .i64 t14)))), (15, .one (.c (.d (.int .i64 t15))))], [(0, some ⟨22, 0⟩)], [], 1⟩ [(decide ((t15 : Int) < t14)) = true] (by kernel_rfl) ⟨b142_e0, trivial⟩ ?_
      obtain ⟨g143_0, h⟩ := ifS h
      refine At.step hm ht ⟨[], [], [], [0, 7, 9, 13, 14, 15], [0]⟩ 5 ⟨[(0, .one (.c (.d (.sl (.int .u8) b)))), (7, .one (.c (.own 0 (.int .u64) out))), (9, .one (.c (.d (.int .i64 (t13.getD t15.toNat 0))))), (13, .one (.c (.d (.sl (.int .i64) t13)))), (14, .one (.c (.d (.int .i64 t14)))), (15, .one (.c (.d (.int .i64 t15))))], [(0, some ⟨22, 0⟩)], [], 1⟩ [(0 : Int) ≤ t15 ∧ t15 < (((t13).length : Nat) : Int)] (by kernel_rfl) ⟨g143_0, trivial⟩ ?_
      rcases iteS h with ⟨b144_2, h⟩ | ⟨b144_2, h⟩
      · refine At.step hm ht ⟨[(2, .b true)], [true], [], [], []⟩ 6 ⟨[], [], [], 0⟩ [(decide (((t13.getD t15.toNat 0) : Int) < 1)) = true, true = true] (by kernel_rfl) ⟨b144_2, rfl, trivial⟩ ?_
        have h := Option.some.inj h
        subst h
        have hk : o = f84_pack_Get_out ([], [], false) := hk
        subst hk
        exact At.fin hm ht ⟨[], [], [.nil false 4 0 (.int .u64) (some 22), .nil false 5 0 (.int .u8) (some 5)], [4, 5, 6], [3, 4]⟩ [] (by kernel_rfl) trivial
      · rcases iteS h with ⟨b144_6, h⟩ | ⟨b144_6, h⟩
        · refine At.step hm ht ⟨[(2, .b false), (6, .b true)], [true], [], [], []⟩ 6 ⟨[], [], [], 0⟩ [(decide (((t13.getD t15.toNat 0) : Int) < 1)) = false, (decide (((t13.getD t15.toNat 0) : Int) > 8)) = true, true = true] (by kernel_rfl) ⟨b144_2, b144_6, rfl, trivial⟩ ?_
          have h := Option.some.inj h
          subst h
          have hk : o = f84_pack_Get_out ([], [], false) := hk
          subst hk
          exact At.fin hm ht ⟨[], [], [.nil false 4 0 (.int .u64) (some 22), .nil false 5 0 (.int .u8) (some 5)], [4, 5, 6], [3, 4]⟩ [] (by kernel_rfl) trivial
        · rcases iteS h with ⟨b144_e0, h⟩ | ⟨b144_e0, h⟩
          · refine At.step hm ht ⟨[(2, .b false), (6, .b false)], [true], [], [], []⟩ 6 ⟨[], [], [], 0⟩ [(decide (((t13.getD t15.toNat 0) : Int) < 1)) = false, (decide (((t13.getD t15.toNat 0) : Int) > 8)) = false, (decide (((t13.getD t15.toNat 0) : Int) > ((b.length : Nat) : Int))) = true] (by kernel_rfl) ⟨b144_2, b144_6, b144_e0, trivial⟩ ?_
            have h := Option.some.inj h
            subst h
            have hk : o = f84_pack_Get_out ([], [], false) := hk
            subst hk
            exact At.fin hm ht ⟨[], [], [.nil false 4 0 (.int .u64) (some 22), .nil false 5 0 (.int .u8) (some 5)], [4, 5, 6], [3, 4]⟩ [] (by kernel_rfl) trivial
          · refine At.step hm ht ⟨[(2, .b false), (6, .b false)], [false], [], [0, 7, 9, 13, 14, 15], [0]⟩ 7 ⟨[(0, .one (.c (.d (.sl (.int .u8) b)))), (7, .one (.c (.own 0 (.int .u64) out))), (9, .one (.c (.d (.int .i64 (t13.getD t15.toNat 0))))), (13, .one (.c (.d (.sl (.int .i64) t13)))), (14, .one (.c (.d (.int .i64 t14)))), (15, .one (.c (.d (.int .i64 t15))))], [(0, some ⟨22, 0⟩)], [], 1⟩ [(decide (((t13.getD t15.toNat 0) : Int) < 1)) = false, (decide (((t13.getD t15.toNat 0) : Int) > 8)) = false, (decide (((t13.getD t15.toNat 0) : Int) > ((b.length : Nat) : Int))) = false] (by kernel_rfl) ⟨b144_2, b144_6, b144_e0, trivial⟩ ?_
            refine At.step hm ht ⟨[], [], [], [0, 7, 9, 10, 13, 14, 15], [0]⟩ 8 ⟨[(0, .one (.c (.d (.sl (.int .u8) b)))), (7, .one (.c (.own 0 (.int .u64) out))), (9, .one (.c (.d (.int .i64 (t13.getD t15.toNat 0))))), (10, .one (.c (.d (.int .u64 0)))), (13, .one (.c (.d (.sl (.int .i64) t13)))), (14, .one (.c (.d (.int .i64 t14)))), (15, .one (.c (.d (.int .i64 t15))))], [(0, some ⟨22, 0⟩)], [], 1⟩ [] (by kernel_rfl) trivial ?_
            obtain ⟨g149_0, h⟩ := ifS h
            refine At.step hm ht ⟨[], [], [], [0, 7, 9, 10, 13, 14, 15, 33, 34, 35], [0]⟩ 9 ⟨[(0, .one (.c (.d (.sl (.int .u8) b)))), (7, .one (.c (.own 0 (.int .u64) out))), (9, .one (.c (.d (.int .i64 (t13.getD t15.toNat 0))))), (10, .one (.c (.d (.int .u64 0)))), (13, .one (.c (.d (.sl (.int .i64) t13)))), (14, .one (.c (.d (.int .i64 t14)))), (15, .one (.c (.d (.int .i64 t15)))), (33, .one (.c (.d (.sl (.int .u8) (b.take (t13.getD t15.toNat 0).toNat))))), (34, .one (.c (.d (.int .i64 (((b.take (t13.getD t15.toNat 0).toNat).length : Nat) : Int))))), (35, .one (.c (.d (.int .i64 0))))], [(0, some ⟨22, 0⟩)], [], 1⟩ [cutOk b.length none (some (t13.getD t15.toNat 0)) none] (by kernel_rfl) ⟨g149_0, trivial⟩ ?_
            obtain ⟨w154, cw154, h⟩ := bindS h
            refine f84_pack_Get_L9_ok n b out (t13.getD t15.toNat 0) 0 t13 t14 t15 (b.take (t13.getD t15.toNat 0).toNat) (((b.take (t13.getD t15.toNat 0).toNat).length : Nat) : Int) 0 w154 cw154 _ ?_
            show At Go.Proofs.Try.prog Go.Proofs.Try.f84 0 13 ⟨[(0, .one (.c (.d (.sl (.int .u8) w154.1)))), (7, .one (.c (.own 0 (.int .u64) w154.2.1))), (9, .one (.c (.d (.int .i64 w154.2.2.1)))), (10, .one (.c (.d (.int .u64 w154.2.2.2.1)))), (13, .one (.c (.d (.sl (.int .i64) w154.2.2.2.2.1)))), (14, .one (.c (.d (.int .i64 w154.2.2.2.2.2.1)))), (15, .one (.c (.d (.int .i64 w154.2.2.2.2.2.2))))], [(0, some ⟨22, 0⟩)], [], 1⟩ _
            obtain ⟨g156_0, h⟩ := ifS h
            refine At.step hm ht ⟨[], [], [], [0, 7, 9, 13, 14, 15], [4]⟩ 14 ⟨[(0, .one (.c (.d (.sl (.int .u8) w154.1)))), (7, .one (.c (.own 0 (.int .u64) (w154.2.1 ++ [w154.2.2.2.1])))), (9, .one (.c (.d (.int .i64 w154.2.2.1)))), (13, .one (.c (.d (.sl (.int .i64) w154.2.2.2.2.1)))), (14, .one (.c (.d (.int .i64 w154.2.2.2.2.2.1)))), (15, .one (.c (.d (.int .i64 w154.2.2.2.2.2.2))))], [(0, some ⟨22, 0⟩)], [], 1⟩ [w154.2.1.length + [w154.2.2.2.1].length ≤ maxLen ∧ (w154.2.1.length + [w154.2.2.2.1].length) * 8 ≤ 140737488355328] (by kernel_rfl) ⟨g156_0, trivial⟩ ?_
            obtain ⟨g157_0, h⟩ := ifS h
            refine At.step hm ht ⟨[], [], [], [0, 7, 13, 14, 15], [0]⟩ 15 ⟨[(0, .one (.c (.d (.sl (.int .u8) ((w154.1.take w154.1.length).drop w154.2.2.1.toNat))))), (7, .one (.c (.own 0 (.int .u64) (w154.2.1 ++ [w154.2.2.2.1])))), (13, .one (.c (.d (.sl (.int .i64) w154.2.2.2.2.1)))), (14, .one (.c (.d (.int .i64 w154.2.2.2.2.2.1)))), (15, .one (.c (.d (.int .i64 w154.2.2.2.2.2.2))))], [(0, some ⟨22, 0⟩)], [], 1⟩ [cutOk w154.1.length (some w154.2.2.1) none none] (by kernel_rfl) ⟨g157_0, trivial⟩ ?_
            refine At.step hm ht ⟨[], [], [], [0, 7, 13, 14, 15], [0]⟩ 3 ⟨[(0, .one (.c (.d (.sl (.int .u8) ((w154.1.take w154.1.length).drop w154.2.2.1.toNat))))), (7, .one (.c (.own 0 (.int .u64) (w154.2.1 ++ [w154.2.2.2.1])))), (13, .one (.c (.d (.sl (.int .i64) w154.2.2.2.2.1)))), (14, .one (.c (.d (.int .i64 w154.2.2.2.2.2.1)))), (15, .one (.c (.d (.int .i64 (IntKind.wrap .i64 (w154.2.2.2.2.2.2 + 1))))))], [(0, some ⟨22, 0⟩)], [], 1⟩ [] (by kernel_rfl) trivial ?_
            exact ih ((w154.1.take w154.1.length).drop w154.2.2.1.toNat) (w154.2.1 ++ [w154.2.2.2.1]) w154.2.2.2.2.1 w154.2.2.2.2.2.1 (IntKind.wrap .i64 (w154.2.2.2.2.2.2 + 1)) w h o hk
    · refine At.step hm ht ⟨[], [false], [], [0, 7], [0]⟩ 16 ⟨[(0, .one (.c (.d (.sl (.int .u8) b)))), (7, .one (.c (.own 0 (.int .u64) out)))], [(0, some ⟨22, 0⟩)], [], 1⟩ [(decide ((t15 : Int) < t14)) = false] (by kernel_rfl) ⟨b142_e0, trivial⟩ ?_
      have h := Option.some.inj h
      subst h
      exact hk
def f84_pack_Get (n : Nat) (b : List Int) (sizes : List Int) : Option (List Int × List Int × Bool) :=
  (f84_pack_Get_L3 n b [] sizes ((sizes.length : Nat) : Int) 0).bind fun w159 =>
  match w159 with
  | .inl e160 =>
    some (e160.1, e160.2.1, e160.2.2)
  | .inr e161 =>
    if e161.1.length ≤ maxLen ∧ e161.1.length * 1 ≤ 140737488355328 then
    some (e161.2, e161.1, true)
    else none
theorem f84_pack_Get_ok (n : Nat) (b : List Int) (sizes : List Int) (r : List Int × List Int × Bool) (h : f84_pack_Get n b sizes = some r) : FnOK Go.Proofs.Try.prog 84 (f84_pack_Get_in b sizes) (f84_pack_Get_out r) := by
  unfold f84_pack_Get at h
  refine At.fn (r := 0) Go.Proofs.Try.func84 rfl (by kernel_rfl) rfl rfl (by kernel_rfl) ?_
  show At Go.Proofs.Try.prog Go.Proofs.Try.f84 0 0 ⟨[(0, .one (.c (.d (.sl (.int .u8) b)))), (1, .one (.c (.d (.sl (.int .i64) sizes))))], [], [], 0⟩ _
  refine At.step hm ht ⟨[], [], [], [0, 1], []⟩ 1 ⟨[(0, .one (.c (.d (.sl (.int .u8) b)))), (1, .one (.c (.d (.sl (.int .i64) sizes))))], [], [], 0⟩ [] (by kernel_rfl) trivial ?_
  refine At.step hm ht ⟨[], [], [], [0, 1, 7], []⟩ 2 ⟨[(0, .one (.c (.d (.sl (.int .u8) b)))), (1, .one (.c (.d (.sl (.int .i64) sizes)))), (7, .one (.c (.d (.sl .unit []))))], [], [], 0⟩ [] (by kernel_rfl) trivial ?_
  refine At.step hm ht ⟨[], [], [.nil false 7 0 (.int .u64) (some 22)], [0, 7, 13, 14, 15], [3]⟩ 3 ⟨[(0, .one (.c (.d (.sl (.int .u8) b)))), (7, .one (.c (.own 0 (.int .u64) []))), (13, .one (.c (.d (.sl (.int .i64) sizes)))), (14, .one (.c (.d (.int .i64 ((sizes.length : Nat) : Int))))), (15, .one (.c (.d (.int .i64 0))))], [(0, some ⟨22, 0⟩)], [], 1⟩ [] (by kernel_rfl) trivial ?_
  obtain ⟨w159, cw159, h⟩ := bindS h
  refine f84_pack_Get_L3_ok n b [] sizes ((sizes.length : Nat) : Int) 0 w159 cw159 _ ?_
  rcases w159 with e160 | e161
  · have h := Option.some.inj h
    subst h
    rfl
  · show At Go.Proofs.Try.prog Go.Proofs.Try.f84 0 16 ⟨[(0, .one (.c (.d (.sl (.int .u8) e161.1)))), (7, .one (.c (.own 0 (.int .u64) e161.2)))], [(0, some ⟨22, 0⟩)], [], 1⟩ _
    obtain ⟨g162_0, h⟩ := ifS h
    have h := Option.some.inj h
    subst h
    exact At.fin hm ht ⟨[], [], [], [4, 5, 6], [0, 3]⟩ [e161.1.length ≤ maxLen ∧ e161.1.length * 1 ≤ 140737488355328] (by kernel_rfl) ⟨g162_0, trivial⟩
/-! brougham/pack.All -/
def f83_pack_All_in (b : List Int) (sizes : List Int) : Inn := ⟨[.c (.d (.sl (.int .u8) b)), .c (.d (.sl (.int .i64) sizes))], [], [], 0⟩
def f83_pack_All_out (r : List Int × Bool) : Out := ⟨.tup [.c (.own 0 (.int .u64) r.1), .c (.d (.bool r.2))], [(0, ⟨22, 0⟩)], [], 1⟩
def f83_pack_All (n : Nat) (b : List Int) (sizes : List Int) : Option (List Int × Bool) :=
  (f84_pack_Get n b sizes).bind fun r168_0 =>
  if (!r168_0.2.2) = true then
    some ([], false)
  else
    if (decide ((((r168_0.2.1.length : Nat) : Int) : Int) > 0)) = true then
      some ([], false)
    else
      some (r168_0.1, true)
theorem f83_pack_All_ok (n : Nat) (b : List Int) (sizes : List Int) (r : List Int × Bool) (h : f83_pack_All n b sizes = some r) : FnOK Go.Proofs.Try.prog 83 (f83_pack_All_in b sizes) (f83_pack_All_out r) := by
  unfold f83_pack_All at h
  refine At.fn (r := 0) Go.Proofs.Try.func83 rfl (by kernel_rfl) rfl rfl (by kernel_rfl) ?_
  show At Go.Proofs.Try.prog Go.Proofs.Try.f83 0 0 ⟨[(0, .one (.c (.d (.sl (.int .u8) b)))), (1, .one (.c (.d (.sl (.int .i64) sizes))))], [], [], 0⟩ _
  refine At.step hm ht ⟨[], [], [], [0, 1], []⟩ 1 ⟨[(0, .one (.c (.d (.sl (.int .u8) b)))), (1, .one (.c (.d (.sl (.int .i64) sizes))))], [], [], 0⟩ [] (by kernel_rfl) trivial ?_
  obtain ⟨r168_0, cr168_0, h⟩ := bindS h
  refine At.step hm ht ⟨[(2, .call [] [] (f84_pack_Get_out r168_0))], [], [], [6, 7, 8], [2, 3]⟩ 2 ⟨[(6, .one (.c (.own 0 (.int .u64) r168_0.1))), (7, .one (.c (.own 1 (.int .u8) r168_0.2.1))), (8, .one (.c (.d (.bool r168_0.2.2))))], [(0, some ⟨22, 0⟩), (1, some ⟨5, 0⟩)], [], 2⟩ [FnOK Go.Proofs.Try.prog 84 (f84_pack_Get_in b sizes) (f84_pack_Get_out r168_0)] (by kernel_rfl) ⟨(f84_pack_Get_ok n b sizes r168_0 cr168_0), trivial⟩ ?_
  rcases iteS h with ⟨b169_2, h⟩ | ⟨b169_2, h⟩
  · refine At.step hm ht ⟨[(2, .b true)], [true], [], [], []⟩ 3 ⟨[], [], [], 0⟩ [(!r168_0.2.2) = true, true = true] (by kernel_rfl) ⟨b169_2, rfl, trivial⟩ ?_
    have h := Option.some.inj h
    subst h
    exact At.fin hm ht ⟨[], [], [.nil false 4 0 (.int .u64) (some 22)], [4, 5], [2]⟩ [] (by kernel_rfl) trivial
  · rcases iteS h with ⟨b169_e0, h⟩ | ⟨b169_e0, h⟩
    · refine At.step hm ht ⟨[(2, .b false)], [true], [], [], []⟩ 3 ⟨[], [], [], 0⟩ [(!r168_0.2.2) = false, (decide ((((r168_0.2.1.length : Nat) : Int) : Int) > 0)) = true] (by kernel_rfl) ⟨b169_2, b169_e0, trivial⟩ ?_
      have h := Option.some.inj h
      subst h
      exact At.fin hm ht ⟨[], [], [.nil false 4 0 (.int .u64) (some 22)], [4, 5], [2]⟩ [] (by kernel_rfl) trivial
    · refine At.step hm ht ⟨[(2, .b false)], [false], [], [6], [0]⟩ 4 ⟨[(6, .one (.c (.own 0 (.int .u64) r168_0.1)))], [(0, some ⟨22, 0⟩)], [], 1⟩ [(!r168_0.2.2) = false, (decide ((((r168_0.2.1.length : Nat) : Int) : Int) > 0)) = false] (by kernel_rfl) ⟨b169_2, b169_e0, trivial⟩ ?_
      have h := Option.some.inj h
      subst h
      exact At.fin hm ht ⟨[], [], [], [4, 5], [0]⟩ [] (by kernel_rfl) trivial
/-! brougham/opt.ParseKey -/
def f107_opt_ParseKey_in (o__0 : Int) (o__1 : List Int) : Inn := ⟨[.agg [.d (.int .u8 o__0), .d (.sl (.int .u8) o__1)]], [], [], 0⟩
def f107_opt_ParseKey_out (r : Bool × Int × Bool × Int) : Out := ⟨.tup [.agg [.d (.int .u64 r.2.1), .d (.bool r.2.2.1), .d (.int .u64 r.2.2.2)], .c (.d (.bool r.1))], [], [(0, [.d (.int .u64 r.2.1), .d (.bool r.2.2.1), .d (.int .u64 r.2.2.2)])], 1⟩
def f107_opt_ParseKey (n : Nat) (o__0 : Int) (o__1 : List Int) : Option (Bool × Int × Bool × Int) :=
  if ((o__0 : Int) != 1) = true then
    some (false, 0, false, 0)
  else
    (f83_pack_All n o__1 [8]).bind fun r81_0 =>
    if r81_0.2 = true then
      if (0 : Int) ≤ 0 ∧ 0 < (((r81_0.1).length : Nat) : Int) then
      some (true, (r81_0.1.getD 0 0), false, 0)
      else none
    else
      (f83_pack_All n o__1 [8, 8]).bind fun r175_0 =>
      if (!r175_0.2) = true then
        some (false, 0, false, 0)
      else
        if (0 : Int) ≤ 0 ∧ 0 < (((r175_0.1).length : Nat) : Int) then
        if (0 : Int) ≤ 1 ∧ 1 < (((r175_0.1).length : Nat) : Int) then
        some (true, (r175_0.1.getD 0 0), true, (r175_0.1.getD 1 0))
        else none
        else none
theorem f107_opt_ParseKey_ok (n : Nat) (o__0 : Int) (o__1 : List Int) (r : Bool × Int × Bool × Int) (h : f107_opt_ParseKey n o__0 o__1 = some r) : FnOK Go.Proofs.Try.prog 107 (f107_opt_ParseKey_in o__0 o__1) (f107_opt_ParseKey_out r) := by
  unfold f107_opt_ParseKey at h
  refine At.fn (r := 0) Go.Proofs.Try.func107 rfl (by kernel_rfl) rfl rfl (by kernel_rfl) ?_
  show At Go.Proofs.Try.prog Go.Proofs.Try.f107 0 0 ⟨[(0, .one (.agg [.d (.int .u8 o__0), .d (.sl (.int .u8) o__1)]))], [], [], 0⟩ _
  refine At.step hm ht ⟨[], [], [], [1, 2], [0, 1]⟩ 1 ⟨[(1, .one (.c (.ptr 0 0))), (2, .one (.c (.ptr 1 0)))], [], [(0, [.d (.int .u8 o__0), .d (.sl (.int .u8) o__1)]), (1, [.d (.int .u64 0), .d (.bool false), .d (.int .u64 0)])], 2⟩ [] (by kernel_rfl) trivial ?_
  rcases iteS h with ⟨b79_e0, h⟩ | ⟨b79_e0, h⟩
  · refine At.step hm ht ⟨[], [true], [], [2], [1]⟩ 2 ⟨[(2, .one (.c (.ptr 0 0)))], [], [(0, [.d (.int .u64 0), .d (.bool false), .d (.int .u64 0)])], 1⟩ [((o__0 : Int) != 1) = true] (by kernel_rfl) ⟨b79_e0, trivial⟩ ?_
    have h := Option.some.inj h
    subst h
    exact At.fin hm ht ⟨[], [], [], [2, 3], [0]⟩ [0 + 3 ≤ 3] (by kernel_rfl) ⟨(by decide), trivial⟩
  · refine At.step hm ht ⟨[], [false], [], [1, 2], [0, 1]⟩ 3 ⟨[(1, .one (.c (.ptr 0 0))), (2, .one (.c (.ptr 1 0)))], [], [(0, [.d (.int .u8 o__0), .d (.sl (.int .u8) o__1)]), (1, [.d (.int .u64 0), .d (.bool false), .d (.int .u64 0)])], 2⟩ [((o__0 : Int) != 1) = false] (by kernel_rfl) ⟨b79_e0, trivial⟩ ?_
    obtain ⟨r81_0, cr81_0, h⟩ := bindS h
    refine At.step hm ht ⟨[(3, .call [] [] (f83_pack_All_out r81_0))], [], [], [1, 2, 4, 5], [0, 1, 5]⟩ 4 ⟨[(1, .one (.c (.ptr 0 0))), (2, .one (.c (.ptr 1 0))), (4, .one (.c (.own 2 (.int .u64) r81_0.1))), (5, .one (.c (.d (.bool r81_0.2))))], [(2, some ⟨22, 0⟩)], [(0, [.d (.int .u8 o__0), .d (.sl (.int .u8) o__1)]), (1, [.d (.int .u64 0), .d (.bool false), .d (.int .u64 0)])], 3⟩ [FnOK Go.Proofs.Try.prog 83 (f83_pack_All_in o__1 [8]) (f83_pack_All_out r81_0)] (by kernel_rfl) ⟨(f83_pack_All_ok n o__1 [8] r81_0 cr81_0), trivial⟩ ?_
    rcases iteS h with ⟨b173_e0, h⟩ | ⟨b173_e0, h⟩
    · refine At.step hm ht ⟨[], [true], [], [2, 4], [1, 2]⟩ 5 ⟨[(2, .one (.c (.ptr 0 0))), (4, .one (.c (.own 1 (.int .u64) r81_0.1)))], [(1, some ⟨22, 0⟩)], [(0, [.d (.int .u64 0), .d (.bool false), .d (.int .u64 0)])], 2⟩ [r81_0.2 = true] (by kernel_rfl) ⟨b173_e0, trivial⟩ ?_
      obtain ⟨g174_0, h⟩ := ifS h
      have h := Option.some.inj h
      subst h
      exact At.fin hm ht ⟨[], [], [], [2, 3], [0]⟩ [(0 : Int) ≤ 0 ∧ 0 < (((r81_0.1).length : Nat) : Int), 0 + 3 ≤ 3] (by kernel_rfl) ⟨g174_0, (by decide), trivial⟩
    · refine At.step hm ht ⟨[], [false], [], [1, 2], [0, 1]⟩ 6 ⟨[(1, .one (.c (.ptr 0 0))), (2, .one (.c (.ptr 1 0)))], [], [(0, [.d (.int .u8 o__0), .d (.sl (.int .u8) o__1)]), (1, [.d (.int .u64 0), .d (.bool false), .d (.int .u64 0)])], 2⟩ [r81_0.2 = false] (by kernel_rfl) ⟨b173_e0, trivial⟩ ?_
      obtain ⟨r175_0, cr175_0, h⟩ := bindS h
      refine At.step hm ht ⟨[(3, .call [] [] (f83_pack_All_out r175_0))], [], [], [2, 6, 7], [1, 5]⟩ 7 ⟨[(2, .one (.c (.ptr 0 0))), (6, .one (.c (.own 1 (.int .u64) r175_0.1))), (7, .one (.c (.d (.bool r175_0.2))))], [(1, some ⟨22, 0⟩)], [(0, [.d (.int .u64 0), .d (.bool false), .d (.int .u64 0)])], 2⟩ [FnOK Go.Proofs.Try.prog 83 (f83_pack_All_in o__1 [8, 8]) (f83_pack_All_out r175_0)] (by kernel_rfl) ⟨(f83_pack_All_ok n o__1 [8, 8] r175_0 cr175_0), trivial⟩ ?_
      rcases iteS h with ⟨b176_e0, h⟩ | ⟨b176_e0, h⟩
      · refine At.step hm ht ⟨[], [true], [], [2], [0]⟩ 8 ⟨[(2, .one (.c (.ptr 0 0)))], [], [(0, [.d (.int .u64 0), .d (.bool false), .d (.int .u64 0)])], 1⟩ [(!r175_0.2) = true] (by kernel_rfl) ⟨b176_e0, trivial⟩ ?_
        have h := Option.some.inj h
        subst h
        exact At.fin hm ht ⟨[], [], [], [2, 3], [0]⟩ [0 + 3 ≤ 3] (by kernel_rfl) ⟨(by decide), trivial⟩
      · refine At.step hm ht ⟨[], [false], [], [2, 6], [0, 1]⟩ 9 ⟨[(2, .one (.c (.ptr 0 0))), (6, .one (.c (.own 1 (.int .u64) r175_0.1)))], [(1, some ⟨22, 0⟩)], [(0, [.d (.int .u64 0), .d (.bool false), .d (.int .u64 0)])], 2⟩ [(!r175_0.2) = false] (by kernel_rfl) ⟨b176_e0, trivial⟩ ?_
        obtain ⟨g178_0, h⟩ := ifS h
        obtain ⟨g178_1, h⟩ := ifS h
        have h := Option.some.inj h
        subst h
        exact At.fin hm ht ⟨[], [], [], [2, 3], [0]⟩ [(0 : Int) ≤ 0 ∧ 0 < (((r175_0.1).length : Nat) : Int), (0 : Int) ≤ 1 ∧ 1 < (((r175_0.1).length : Nat) : Int), 0 + 3 ≤ 3] (by kernel_rfl) ⟨g178_0, g178_1, (by decide), trivial⟩
/-! brougham/trace.sum -/
def f108_trace_sum_in (is_ : Bool) (tag : Int) : Inn := ⟨[.c (.d (.bool is_)), .c (.d (.int .u64 tag))], [], [], 0⟩
def f108_trace_sum_out (r : ByteArray) : Out := ⟨.one (.c (.d (.str r))), [], [], 0⟩
def f108_trace_sum (n : Nat) (is_ : Bool) (tag : Int) : Option (ByteArray) :=
  if (!is_) = true then
    some (⟨#[]⟩ : ByteArray)
  else
    (f103_trace_hex n tag 8).bind fun r184_0 =>
    if (⟨#[115, 117, 109, 32]⟩ : ByteArray).size + r184_0.size ≤ 9223372036854775807 then
    some ((⟨#[115, 117, 109, 32]⟩ : ByteArray) ++ r184_0)
    else none
theorem f108_trace_sum_ok (n : Nat) (is_ : Bool) (tag : Int) (r : ByteArray) (h : f108_trace_sum n is_ tag = some r) : FnOK Go.Proofs.Try.prog 108 (f108_trace_sum_in is_ tag) (f108_trace_sum_out r) := by
  unfold f108_trace_sum at h
  refine At.fn (r := 0) Go.Proofs.Try.func108 rfl (by kernel_rfl) rfl rfl (by kernel_rfl) ?_
  show At Go.Proofs.Try.prog Go.Proofs.Try.f108 0 0 ⟨[(0, .one (.c (.d (.bool is_)))), (1, .one (.c (.d (.int .u64 tag))))], [], [], 0⟩ _
  refine At.step hm ht ⟨[], [], [], [0, 1], []⟩ 1 ⟨[(0, .one (.c (.d (.bool is_)))), (1, .one (.c (.d (.int .u64 tag))))], [], [], 0⟩ [] (by kernel_rfl) trivial ?_
  rcases iteS h with ⟨b182_e0, h⟩ | ⟨b182_e0, h⟩
  · refine At.step hm ht ⟨[], [true], [], [], []⟩ 2 ⟨[], [], [], 0⟩ [(!is_) = true] (by kernel_rfl) ⟨b182_e0, trivial⟩ ?_
    have h := Option.some.inj h
    subst h
    exact At.fin hm ht ⟨[], [], [], [4], []⟩ [] (by kernel_rfl) trivial
  · refine At.step hm ht ⟨[], [false], [], [1], []⟩ 3 ⟨[(1, .one (.c (.d (.int .u64 tag))))], [], [], 0⟩ [(!is_) = false] (by kernel_rfl) ⟨b182_e0, trivial⟩ ?_
    obtain ⟨r184_0, cr184_0, h⟩ := bindS h
    obtain ⟨g184_1, h⟩ := ifS h
    have h := Option.some.inj h
    subst h
    exact At.fin hm ht ⟨[(1, .call [] [] (f103_trace_hex_out r184_0))], [], [], [4], []⟩ [FnOK Go.Proofs.Try.prog 103 (f103_trace_hex_in tag 8) (f103_trace_hex_out r184_0), (⟨#[115, 117, 109, 32]⟩ : ByteArray).size + r184_0.size ≤ 9223372036854775807] (by kernel_rfl) ⟨(f103_trace_hex_ok n tag 8 r184_0 cr184_0), g184_1, trivial⟩
/-! brougham/opt.ParseJoin -/
def f109_opt_ParseJoin_in (o__0 : Int) (o__1 : List Int) : Inn := ⟨[.agg [.d (.int .u8 o__0), .d (.sl (.int .u8) o__1)]], [], [], 0⟩
def f109_opt_ParseJoin_out (r : Bool × Int × Int × Int × Bool × Bool × Int) : Out := ⟨.tup [.agg [.d (.int .u32 r.2.1), .d (.int .u32 r.2.2.1), .d (.int .u8 r.2.2.2.1), .d (.bool r.2.2.2.2.1), .d (.bool r.2.2.2.2.2.1), .d (.int .u64 r.2.2.2.2.2.2)], .c (.d (.bool r.1))], [], [(0, [.d (.int .u32 r.2.1), .d (.int .u32 r.2.2.1), .d (.int .u8 r.2.2.2.1), .d (.bool r.2.2.2.2.1), .d (.bool r.2.2.2.2.2.1), .d (.int .u64 r.2.2.2.2.2.2)])], 1⟩
def f109_opt_ParseJoin (n : Nat) (o__0 : Int) (o__1 : List Int) : Option (Bool × Int × Int × Int × Bool × Bool × Int) :=
  (f84_pack_Get n o__1 [4, 4, 1, 1]).bind fun r189_0 =>
  if ((o__0 : Int) != 2) = true then
    some (false, 0, 0, 0, false, false, 0)
  else
    if (!r189_0.2.2) = true then
      some (false, 0, 0, 0, false, false, 0)
    else
      if (0 : Int) ≤ 3 ∧ 3 < (((r189_0.1).length : Nat) : Int) then
      if (decide (((r189_0.1.getD 3 0) : Int) > 1)) = true then
        some (false, 0, 0, 0, false, false, 0)
      else
        if (0 : Int) ≤ 0 ∧ 0 < (((r189_0.1).length : Nat) : Int) then
        if (0 : Int) ≤ 1 ∧ 1 < (((r189_0.1).length : Nat) : Int) then
        if (0 : Int) ≤ 2 ∧ 2 < (((r189_0.1).length : Nat) : Int) then
        if (0 : Int) ≤ 3 ∧ 3 < (((r189_0.1).length : Nat) : Int) then
        if ((((r189_0.2.1.length : Nat) : Int) : Int) == 0) = true then
          some (true, (IntKind.wrap .u32 (r189_0.1.getD 0 0)), (IntKind.wrap .u32 (r189_0.1.getD 1 0)), (IntKind.wrap .u8 (r189_0.1.getD 2 0)), (((r189_0.1.getD 3 0) : Int) == 1), false, 0)
        else
          (f83_pack_All n r189_0.2.1 [8]).bind fun r197_0 =>
          if (!r197_0.2) = true then
            some (false, 0, 0, 0, false, false, 0)
          else
            if (0 : Int) ≤ 0 ∧ 0 < (((r197_0.1).length : Nat) : Int) then
            some (true, (IntKind.wrap .u32 (r189_0.1.getD 0 0)), (IntKind.wrap .u32 (r189_0.1.getD 1 0)), (IntKind.wrap .u8 (r189_0.1.getD 2 0)), (((r189_0.1.getD 3 0) : Int) == 1), true, (r197_0.1.getD 0 0))
            else none
        else none
        else none
        else none
        else none
      else none
theorem f109_opt_ParseJoin_ok (n : Nat) (o__0 : Int) (o__1 : List Int) (r : Bool × Int × Int × Int × Bool × Bool × Int) (h : f109_opt_ParseJoin n o__0 o__1 = some r) : FnOK Go.Proofs.Try.prog 109 (f109_opt_ParseJoin_in o__0 o__1) (f109_opt_ParseJoin_out r) := by
  unfold f109_opt_ParseJoin at h
  refine At.fn (r := 0) Go.Proofs.Try.func109 rfl (by kernel_rfl) rfl rfl (by kernel_rfl) ?_
  show At Go.Proofs.Try.prog Go.Proofs.Try.f109 0 0 ⟨[(0, .one (.agg [.d (.int .u8 o__0), .d (.sl (.int .u8) o__1)]))], [], [], 0⟩ _
  refine At.step hm ht ⟨[], [], [], [1, 2], [0, 1]⟩ 1 ⟨[(1, .one (.c (.ptr 0 0))), (2, .one (.c (.ptr 1 0)))], [], [(0, [.d (.int .u8 o__0), .d (.sl (.int .u8) o__1)]), (1, [.d (.int .u32 0), .d (.int .u32 0), .d (.int .u8 0), .d (.bool false), .d (.bool false), .d (.int .u64 0)])], 2⟩ [] (by kernel_rfl) trivial ?_
  obtain ⟨r189_0, cr189_0, h⟩ := bindS h
  refine At.step hm ht ⟨[(3, .call [] [] (f84_pack_Get_out r189_0))], [], [], [1, 2, 4, 5, 6], [0, 1, 5, 6]⟩ 2 ⟨[(1, .one (.c (.ptr 0 0))), (2, .one (.c (.ptr 1 0))), (4, .one (.c (.own 2 (.int .u64) r189_0.1))), (5, .one (.c (.own 3 (.int .u8) r189_0.2.1))), (6, .one (.c (.d (.bool r189_0.2.2))))], [(2, some ⟨22, 0⟩), (3, some ⟨5, 0⟩)], [(0, [.d (.int .u8 o__0), .d (.sl (.int .u8) o__1)]), (1, [.d (.int .u32 0), .d (.int .u32 0), .d (.int .u8 0), .d (.bool false), .d (.bool false), .d (.int .u64 0)])], 4⟩ [FnOK Go.Proofs.Try.prog 84 (f84_pack_Get_in o__1 [4, 4, 1, 1]) (f84_pack_Get_out r189_0)] (by kernel_rfl) ⟨(f84_pack_Get_ok n o__1 [4, 4, 1, 1] r189_0 cr189_0), trivial⟩ ?_
  rcases iteS h with ⟨b190_3, h⟩ | ⟨b190_3, h⟩
  · refine At.step hm ht ⟨[(3, .b true)], [true], [], [2], [1]⟩ 3 ⟨[(2, .one (.c (.ptr 0 0)))], [], [(0, [.d (.int .u32 0), .d (.int .u32 0), .d (.int .u8 0), .d (.bool false), .d (.bool false), .d (.int .u64 0)])], 1⟩ [((o__0 : Int) != 2) = true, true = true] (by kernel_rfl) ⟨b190_3, rfl, trivial⟩ ?_
    have h := Option.some.inj h
    subst h
    exact At.fin hm ht ⟨[], [], [], [2, 3], [0]⟩ [0 + 6 ≤ 6] (by kernel_rfl) ⟨(by decide), trivial⟩
  · rcases iteS h with ⟨b190_7, h⟩ | ⟨b190_7, h⟩
    · refine At.step hm ht ⟨[(3, .b false), (7, .b true)], [true], [], [2], [1]⟩ 3 ⟨[(2, .one (.c (.ptr 0 0)))], [], [(0, [.d (.int .u32 0), .d (.int .u32 0), .d (.int .u8 0), .d (.bool false), .d (.bool false), .d (.int .u64 0)])], 1⟩ [((o__0 : Int) != 2) = false, (!r189_0.2.2) = true, true = true] (by kernel_rfl) ⟨b190_3, b190_7, rfl, trivial⟩ ?_
      have h := Option.some.inj h
      subst h
      exact At.fin hm ht ⟨[], [], [], [2, 3], [0]⟩ [0 + 6 ≤ 6] (by kernel_rfl) ⟨(by decide), trivial⟩
    · obtain ⟨g190_0, h⟩ := ifS h
      rcases iteS h with ⟨b190_e0, h⟩ | ⟨b190_e0, h⟩
      · refine At.step hm ht ⟨[(3, .b false), (7, .b false)], [true], [], [2], [1]⟩ 3 ⟨[(2, .one (.c (.ptr 0 0)))], [], [(0, [.d (.int .u32 0), .d (.int .u32 0), .d (.int .u8 0), .d (.bool false), .d (.bool false), .d (.int .u64 0)])], 1⟩ [((o__0 : Int) != 2) = false, (!r189_0.2.2) = false, (0 : Int) ≤ 3 ∧ 3 < (((r189_0.1).length : Nat) : Int), (decide (((r189_0.1.getD 3 0) : Int) > 1)) = true] (by kernel_rfl) ⟨b190_3, b190_7, g190_0, b190_e0, trivial⟩ ?_
        have h := Option.some.inj h
        subst h
        exact At.fin hm ht ⟨[], [], [], [2, 3], [0]⟩ [0 + 6 ≤ 6] (by kernel_rfl) ⟨(by decide), trivial⟩
      · refine At.step hm ht ⟨[(3, .b false), (7, .b false)], [false], [], [2, 4, 5], [1, 2, 3]⟩ 4 ⟨[(2, .one (.c (.ptr 0 0))), (4, .one (.c (.own 1 (.int .u64) r189_0.1))), (5, .one (.c (.own 2 (.int .u8) r189_0.2.1)))], [(1, some ⟨22, 0⟩), (2, some ⟨5, 0⟩)], [(0, [.d (.int .u32 0), .d (.int .u32 0), .d (.int .u8 0), .d (.bool false), .d (.bool false), .d (.int .u64 0)])], 3⟩ [((o__0 : Int) != 2) = false, (!r189_0.2.2) = false, (0 : Int) ≤ 3 ∧ 3 < (((r189_0.1).length : Nat) : Int), (decide (((r189_0.1.getD 3 0) : Int) > 1)) = false] (by kernel_rfl) ⟨b190_3, b190_7, g190_0, b190_e0, trivial⟩ ?_
        obtain ⟨g194_0, h⟩ := ifS h
        obtain ⟨g194_1, h⟩ := ifS h
        obtain ⟨g194_2, h⟩ := ifS h
        obtain ⟨g194_3, h⟩ := ifS h
        refine At.step hm ht ⟨[], [], [], [2, 5, 7], [0, 2, 20]⟩ 5 ⟨[(2, .one (.c (.ptr 0 0))), (5, .one (.c (.own 1 (.int .u8) r189_0.2.1))), (7, .one (.c (.ptr 2 0)))], [(1, some ⟨5, 0⟩)], [(0, [.d (.int .u32 0), .d (.int .u32 0), .d (.int .u8 0), .d (.bool false), .d (.bool false), .d (.int .u64 0)]), (2, [.d (.int .u32 (IntKind.wrap .u32 (r189_0.1.getD 0 0))), .d (.int .u32 (IntKind.wrap .u32 (r189_0.1.getD 1 0))), .d (.int .u8 (IntKind.wrap .u8 (r189_0.1.getD 2 0))), .d (.bool (((r189_0.1.getD 3 0) : Int) == 1)), .d (.bool false), .d (.int .u64 0)])], 3⟩ [(0 : Int) ≤ 0 ∧ 0 < (((r189_0.1).length : Nat) : Int), (0 : Int) ≤ 1 ∧ 1 < (((r189_0.1).length : Nat) : Int), (0 : Int) ≤ 2 ∧ 2 < (((r189_0.1).length : Nat) : Int), (0 : Int) ≤ 3 ∧ 3 < (((r189_0.1).length : Nat) : Int), 0 + 6 ≤ 6] (by kernel_rfl) ⟨g194_0, g194_1, g194_2, g194_3, (by decide), trivial⟩ ?_
        rcases iteS h with ⟨b195_e0, h⟩ | ⟨b195_e0, h⟩
        · refine At.step hm ht ⟨[], [true], [], [2, 7], [0, 2]⟩ 6 ⟨[(2, .one (.c (.ptr 0 0))), (7, .one (.c (.ptr 1 0)))], [], [(0, [.d (.int .u32 0), .d (.int .u32 0), .d (.int .u8 0), .d (.bool false), .d (.bool false), .d (.int .u64 0)]), (1, [.d (.int .u32 (IntKind.wrap .u32 (r189_0.1.getD 0 0))), .d (.int .u32 (IntKind.wrap .u32 (r189_0.1.getD 1 0))), .d (.int .u8 (IntKind.wrap .u8 (r189_0.1.getD 2 0))), .d (.bool (((r189_0.1.getD 3 0) : Int) == 1)), .d (.bool false), .d (.int .u64 0)])], 2⟩ [((((r189_0.2.1.length : Nat) : Int) : Int) == 0) = true] (by kernel_rfl) ⟨b195_e0, trivial⟩ ?_
          have h := Option.some.inj h
          subst h
          exact At.fin hm ht ⟨[], [], [], [2, 3], [0]⟩ [0 + 6 ≤ 6] (by kernel_rfl) ⟨(by decide), trivial⟩
        · refine At.step hm ht ⟨[], [false], [], [2, 5, 7], [0, 1, 2]⟩ 7 ⟨[(2, .one (.c (.ptr 0 0))), (5, .one (.c (.own 1 (.int .u8) r189_0.2.1))), (7, .one (.c (.ptr 2 0)))], [(1, some ⟨5, 0⟩)], [(0, [.d (.int .u32 0), .d (.int .u32 0), .d (.int .u8 0), .d (.bool false), .d (.bool false), .d (.int .u64 0)]), (2, [.d (.int .u32 (IntKind.wrap .u32 (r189_0.1.getD 0 0))), .d (.int .u32 (IntKind.wrap .u32 (r189_0.1.getD 1 0))), .d (.int .u8 (IntKind.wrap .u8 (r189_0.1.getD 2 0))), .d (.bool (((r189_0.1.getD 3 0) : Int) == 1)), .d (.bool false), .d (.int .u64 0)])], 3⟩ [((((r189_0.2.1.length : Nat) : Int) : Int) == 0) = false] (by kernel_rfl) ⟨b195_e0, trivial⟩ ?_
          obtain ⟨r197_0, cr197_0, h⟩ := bindS h
          refine At.step hm ht ⟨[(2, .call [] [] (f83_pack_All_out r197_0))], [], [], [2, 6, 7, 8], [0, 2, 5]⟩ 8 ⟨[(2, .one (.c (.ptr 0 0))), (6, .one (.c (.d (.bool r197_0.2)))), (7, .one (.c (.ptr 1 0))), (8, .one (.c (.own 2 (.int .u64) r197_0.1)))], [(2, some ⟨22, 0⟩)], [(0, [.d (.int .u32 0), .d (.int .u32 0), .d (.int .u8 0), .d (.bool false), .d (.bool false), .d (.int .u64 0)]), (1, [.d (.int .u32 (IntKind.wrap .u32 (r189_0.1.getD 0 0))), .d (.int .u32 (IntKind.wrap .u32 (r189_0.1.getD 1 0))), .d (.int .u8 (IntKind.wrap .u8 (r189_0.1.getD 2 0))), .d (.bool (((r189_0.1.getD 3 0) : Int) == 1)), .d (.bool false), .d (.int .u64 0)])], 3⟩ [FnOK Go.Proofs.Try.prog 83 (f83_pack_All_in r189_0.2.1 [8]) (f83_pack_All_out r197_0)] (by kernel_rfl) ⟨(f83_pack_All_ok n r189_0.2.1 [8] r197_0 cr197_0), trivial⟩ ?_
          rcases iteS h with ⟨b198_e0, h⟩ | ⟨b198_e0, h⟩
          · refine At.step hm ht ⟨[], [true], [], [2], [0]⟩ 9 ⟨[(2, .one (.c (.ptr 0 0)))], [], [(0, [.d (.int .u32 0), .d (.int .u32 0), .d (.int .u8 0), .d (.bool false), .d (.bool false), .d (.int .u64 0)])], 1⟩ [(!r197_0.2) = true] (by kernel_rfl) ⟨b198_e0, trivial⟩ ?_
            have h := Option.some.inj h
            subst h
            exact At.fin hm ht ⟨[], [], [], [2, 3], [0]⟩ [0 + 6 ≤ 6] (by kernel_rfl) ⟨(by decide), trivial⟩
          · refine At.step hm ht ⟨[], [false], [], [2, 7, 8], [0, 1, 2]⟩ 10 ⟨[(2, .one (.c (.ptr 0 0))), (7, .one (.c (.ptr 1 0))), (8, .one (.c (.own 2 (.int .u64) r197_0.1)))], [(2, some ⟨22, 0⟩)], [(0, [.d (.int .u32 0), .d (.int .u32 0), .d (.int .u8 0), .d (.bool false), .d (.bool false), .d (.int .u64 0)]), (1, [.d (.int .u32 (IntKind.wrap .u32 (r189_0.1.getD 0 0))), .d (.int .u32 (IntKind.wrap .u32 (r189_0.1.getD 1 0))), .d (.int .u8 (IntKind.wrap .u8 (r189_0.1.getD 2 0))), .d (.bool (((r189_0.1.getD 3 0) : Int) == 1)), .d (.bool false), .d (.int .u64 0)])], 3⟩ [(!r197_0.2) = false] (by kernel_rfl) ⟨b198_e0, trivial⟩ ?_
            obtain ⟨g200_0, h⟩ := ifS h
            refine At.step hm ht ⟨[], [], [], [2, 7], [0, 1]⟩ 11 ⟨[(2, .one (.c (.ptr 0 0))), (7, .one (.c (.ptr 1 0)))], [], [(0, [.d (.int .u32 0), .d (.int .u32 0), .d (.int .u8 0), .d (.bool false), .d (.bool false), .d (.int .u64 0)]), (1, [.d (.int .u32 (IntKind.wrap .u32 (r189_0.1.getD 0 0))), .d (.int .u32 (IntKind.wrap .u32 (r189_0.1.getD 1 0))), .d (.int .u8 (IntKind.wrap .u8 (r189_0.1.getD 2 0))), .d (.bool (((r189_0.1.getD 3 0) : Int) == 1)), .d (.bool true), .d (.int .u64 (r197_0.1.getD 0 0))])], 2⟩ [(0 : Int) ≤ 0 ∧ 0 < (((r197_0.1).length : Nat) : Int), 4 + 1 ≤ 6, 5 + 1 ≤ 6] (by kernel_rfl) ⟨g200_0, (by decide), (by decide), trivial⟩ ?_
            have h := Option.some.inj h
            subst h
            exact At.fin hm ht ⟨[], [], [], [2, 3], [0]⟩ [0 + 6 ≤ 6] (by kernel_rfl) ⟨(by decide), trivial⟩
/-! brougham/opt.ParseData -/
def f111_opt_ParseData_in (o__0 : Int) (o__1 : List Int) : Inn := ⟨[.agg [.d (.int .u8 o__0), .d (.sl (.int .u8) o__1)]], [], [], 0⟩
def f111_opt_ParseData_out (r : Bool × Bool × Bool × Int × Int × Int × Int) : Out := ⟨.tup [.agg [.d (.bool r.2.1), .d (.bool r.2.2.1), .d (.int .u64 r.2.2.2.1), .d (.int .u64 r.2.2.2.2.1), .d (.int .u32 r.2.2.2.2.2.1), .d (.int .u64 r.2.2.2.2.2.2)], .c (.d (.bool r.1))], [], [(0, [.d (.bool r.2.1), .d (.bool r.2.2.1), .d (.int .u64 r.2.2.2.1), .d (.int .u64 r.2.2.2.2.1), .d (.int .u32 r.2.2.2.2.2.1), .d (.int .u64 r.2.2.2.2.2.2)])], 1⟩
def f111_opt_ParseData (n : Nat) (o__0 : Int) (o__1 : List Int) : Option (Bool × Bool × Bool × Int × Int × Int × Int) :=
  (f83_pack_All n o__1 [1, 8, 8, 4, 8]).bind fun r208_0 =>
  if ((o__0 : Int) != 3) = true then
    some (false, false, false, 0, 0, 0, 0)
  else
    if (!r208_0.2) = true then
      some (false, false, false, 0, 0, 0, 0)
    else
      if (0 : Int) ≤ 0 ∧ 0 < (((r208_0.1).length : Nat) : Int) then
      if (decide (((r208_0.1.getD 0 0) : Int) > 3)) = true then
        some (false, false, false, 0, 0, 0, 0)
      else
        if (0 : Int) ≤ 0 ∧ 0 < (((r208_0.1).length : Nat) : Int) then
        if (0 : Int) ≤ 0 ∧ 0 < (((r208_0.1).length : Nat) : Int) then
        if (0 : Int) ≤ 1 ∧ 1 < (((r208_0.1).length : Nat) : Int) then
        if (0 : Int) ≤ 2 ∧ 2 < (((r208_0.1).length : Nat) : Int) then
        if (0 : Int) ≤ 3 ∧ 3 < (((r208_0.1).length : Nat) : Int) then
        if (0 : Int) ≤ 4 ∧ 4 < (((r208_0.1).length : Nat) : Int) then
        some (true, (((bits .and .u64 (r208_0.1.getD 0 0) 1) : Int) == 1), (((bits .and .u64 (r208_0.1.getD 0 0) 2) : Int) == 2), (r208_0.1.getD 1 0), (r208_0.1.getD 2 0), (IntKind.wrap .u32 (r208_0.1.getD 3 0)), (r208_0.1.getD 4 0))
        else none
        else none
        else none
        else none
        else none
        else none
      else none
theorem f111_opt_ParseData_ok (n : Nat) (o__0 : Int) (o__1 : List Int) (r : Bool × Bool × Bool × Int × Int × Int × Int) (h : f111_opt_ParseData n o__0 o__1 = some r) : FnOK Go.Proofs.Try.prog 111 (f111_opt_ParseData_in o__0 o__1) (f111_opt_ParseData_out r) := by
  unfold f111_opt_ParseData at h
  refine At.fn (r := 0) Go.Proofs.Try.func111 rfl (by kernel_rfl) rfl rfl (by kernel_rfl) ?_
  show At Go.Proofs.Try.prog Go.Proofs.Try.f111 0 0 ⟨[(0, .one (.agg [.d (.int .u8 o__0), .d (.sl (.int .u8) o__1)]))], [], [], 0⟩ _
  refine At.step hm ht ⟨[], [], [], [1, 2], [0, 1]⟩ 1 ⟨[(1, .one (.c (.ptr 0 0))), (2, .one (.c (.ptr 1 0)))], [], [(0, [.d (.int .u8 o__0), .d (.sl (.int .u8) o__1)]), (1, [.d (.bool false), .d (.bool false), .d (.int .u64 0), .d (.int .u64 0), .d (.int .u32 0), .d (.int .u64 0)])], 2⟩ [] (by kernel_rfl) trivial ?_
  obtain ⟨r208_0, cr208_0, h⟩ := bindS h
  refine At.step hm ht ⟨[(3, .call [] [] (f83_pack_All_out r208_0))], [], [], [1, 2, 4, 5], [0, 1, 5]⟩ 2 ⟨[(1, .one (.c (.ptr 0 0))), (2, .one (.c (.ptr 1 0))), (4, .one (.c (.own 2 (.int .u64) r208_0.1))), (5, .one (.c (.d (.bool r208_0.2))))], [(2, some ⟨22, 0⟩)], [(0, [.d (.int .u8 o__0), .d (.sl (.int .u8) o__1)]), (1, [.d (.bool false), .d (.bool false), .d (.int .u64 0), .d (.int .u64 0), .d (.int .u32 0), .d (.int .u64 0)])], 3⟩ [FnOK Go.Proofs.Try.prog 83 (f83_pack_All_in o__1 [1, 8, 8, 4, 8]) (f83_pack_All_out r208_0)] (by kernel_rfl) ⟨(f83_pack_All_ok n o__1 [1, 8, 8, 4, 8] r208_0 cr208_0), trivial⟩ ?_
  rcases iteS h with ⟨b209_3, h⟩ | ⟨b209_3, h⟩
  · refine At.step hm ht ⟨[(3, .b true)], [true], [], [2], [1]⟩ 3 ⟨[(2, .one (.c (.ptr 0 0)))], [], [(0, [.d (.bool false), .d (.bool false), .d (.int .u64 0), .d (.int .u64 0), .d (.int .u32 0), .d (.int .u64 0)])], 1⟩ [((o__0 : Int) != 3) = true, true = true] (by kernel_rfl) ⟨b209_3, rfl, trivial⟩ ?_
    have h := Option.some.inj h
    subst h
    exact At.fin hm ht ⟨[], [], [], [2, 3], [0]⟩ [0 + 6 ≤ 6] (by kernel_rfl) ⟨(by decide), trivial⟩
  · rcases iteS h with ⟨b209_7, h⟩ | ⟨b209_7, h⟩
    · refine At.step hm ht ⟨[(3, .b false), (7, .b true)], [true], [], [2], [1]⟩ 3 ⟨[(2, .one (.c (.ptr 0 0)))], [], [(0, [.d (.bool false), .d (.bool false), .d (.int .u64 0), .d (.int .u64 0), .d (.int .u32 0), .d (.int .u64 0)])], 1⟩ [((o__0 : Int) != 3) = false, (!r208_0.2) = true, true = true] (by kernel_rfl) ⟨b209_3, b209_7, rfl, trivial⟩ ?_
      have h := Option.some.inj h
      subst h
      exact At.fin hm ht ⟨[], [], [], [2, 3], [0]⟩ [0 + 6 ≤ 6] (by kernel_rfl) ⟨(by decide), trivial⟩
    · obtain ⟨g209_0, h⟩ := ifS h
      rcases iteS h with ⟨b209_e0, h⟩ | ⟨b209_e0, h⟩
      · refine At.step hm ht ⟨[(3, .b false), (7, .b false)], [true], [], [2], [1]⟩ 3 ⟨[(2, .one (.c (.ptr 0 0)))], [], [(0, [.d (.bool false), .d (.bool false), .d (.int .u64 0), .d (.int .u64 0), .d (.int .u32 0), .d (.int .u64 0)])], 1⟩ [((o__0 : Int) != 3) = false, (!r208_0.2) = false, (0 : Int) ≤ 0 ∧ 0 < (((r208_0.1).length : Nat) : Int), (decide (((r208_0.1.getD 0 0) : Int) > 3)) = true] (by kernel_rfl) ⟨b209_3, b209_7, g209_0, b209_e0, trivial⟩ ?_
        have h := Option.some.inj h
        subst h
        exact At.fin hm ht ⟨[], [], [], [2, 3], [0]⟩ [0 + 6 ≤ 6] (by kernel_rfl) ⟨(by decide), trivial⟩
      · refine At.step hm ht ⟨[(3, .b false), (7, .b false)], [false], [], [2, 4], [1, 2]⟩ 4 ⟨[(2, .one (.c (.ptr 0 0))), (4, .one (.c (.own 1 (.int .u64) r208_0.1)))], [(1, some ⟨22, 0⟩)], [(0, [.d (.bool false), .d (.bool false), .d (.int .u64 0), .d (.int .u64 0), .d (.int .u32 0), .d (.int .u64 0)])], 2⟩ [((o__0 : Int) != 3) = false, (!r208_0.2) = false, (0 : Int) ≤ 0 ∧ 0 < (((r208_0.1).length : Nat) : Int), (decide (((r208_0.1.getD 0 0) : Int) > 3)) = false] (by kernel_rfl) ⟨b209_3, b209_7, g209_0, b209_e0, trivial⟩ ?_
        obtain ⟨g213_0, h⟩ := ifS h
        obtain ⟨g213_1, h⟩ := ifS h
        obtain ⟨g213_2, h⟩ := ifS h
        obtain ⟨g213_3, h⟩ := ifS h
        obtain ⟨g213_4, h⟩ := ifS h
        obtain ⟨g213_5, h⟩ := ifS h
        have h := Option.some.inj h
        subst h
        exact At.fin hm ht ⟨[], [], [], [2, 3], [0]⟩ [(0 : Int) ≤ 0 ∧ 0 < (((r208_0.1).length : Nat) : Int), (0 : Int) ≤ 0 ∧ 0 < (((r208_0.1).length : Nat) : Int), (0 : Int) ≤ 1 ∧ 1 < (((r208_0.1).length : Nat) : Int), (0 : Int) ≤ 2 ∧ 2 < (((r208_0.1).length : Nat) : Int), (0 : Int) ≤ 3 ∧ 3 < (((r208_0.1).length : Nat) : Int), (0 : Int) ≤ 4 ∧ 4 < (((r208_0.1).length : Nat) : Int), 0 + 6 ≤ 6] (by kernel_rfl) ⟨g213_0, g213_1, g213_2, g213_3, g213_4, g213_5, (by decide), trivial⟩
/-! brougham/trace.wide -/
def f112_trace_wide_in (n_ : Int) : Inn := ⟨[.c (.d (.int .u64 n_))], [], [], 0⟩
def f112_trace_wide_out (r : ByteArray) : Out := ⟨.one (.c (.d (.str r))), [], [], 0⟩
def f112_trace_wide (n : Nat) (n_ : Int) : Option (ByteArray) :=
  if (decide ((n_ : Int) < 4611686018427387904)) = true then
    (f102_num_Text (IntKind.wrap .i64 n_)).bind fun r218_0 =>
    some r218_0
  else
    (f103_trace_hex n n_ 8).bind fun r219_0 =>
    some r219_0
theorem f112_trace_wide_ok (n : Nat) (n_ : Int) (r : ByteArray) (h : f112_trace_wide n n_ = some r) : FnOK Go.Proofs.Try.prog 112 (f112_trace_wide_in n_) (f112_trace_wide_out r) := by
  unfold f112_trace_wide at h
  refine At.fn (r := 0) Go.Proofs.Try.func112 rfl (by kernel_rfl) rfl rfl (by kernel_rfl) ?_
  show At Go.Proofs.Try.prog Go.Proofs.Try.f112 0 0 ⟨[(0, .one (.c (.d (.int .u64 n_))))], [], [], 0⟩ _
  refine At.step hm ht ⟨[], [], [], [0], []⟩ 1 ⟨[(0, .one (.c (.d (.int .u64 n_))))], [], [], 0⟩ [] (by kernel_rfl) trivial ?_
  rcases iteS h with ⟨b217_e0, h⟩ | ⟨b217_e0, h⟩
  · refine At.step hm ht ⟨[], [true], [], [0], []⟩ 2 ⟨[(0, .one (.c (.d (.int .u64 n_))))], [], [], 0⟩ [(decide ((n_ : Int) < 4611686018427387904)) = true] (by kernel_rfl) ⟨b217_e0, trivial⟩ ?_
    obtain ⟨r218_0, cr218_0, h⟩ := bindS h
    have h := Option.some.inj h
    subst h
    exact At.fin hm ht ⟨[(2, .call [] [] (f102_num_Text_out r218_0))], [], [], [2], []⟩ [FnOK Go.Proofs.Try.prog 102 (f102_num_Text_in (IntKind.wrap .i64 n_)) (f102_num_Text_out r218_0)] (by kernel_rfl) ⟨(f102_num_Text_ok (IntKind.wrap .i64 n_) r218_0 cr218_0), trivial⟩
  · refine At.step hm ht ⟨[], [false], [], [0], []⟩ 3 ⟨[(0, .one (.c (.d (.int .u64 n_))))], [], [], 0⟩ [(decide ((n_ : Int) < 4611686018427387904)) = false] (by kernel_rfl) ⟨b217_e0, trivial⟩ ?_
    obtain ⟨r219_0, cr219_0, h⟩ := bindS h
    have h := Option.some.inj h
    subst h
    exact At.fin hm ht ⟨[(1, .call [] [] (f103_trace_hex_out r219_0))], [], [], [2], []⟩ [FnOK Go.Proofs.Try.prog 103 (f103_trace_hex_in n_ 8) (f103_trace_hex_out r219_0)] (by kernel_rfl) ⟨(f103_trace_hex_ok n n_ 8 r219_0 cr219_0), trivial⟩
/-! brougham/opt.ParseWord -/
def f113_opt_ParseWord_in (o__0 : Int) (o__1 : List Int) : Inn := ⟨[.agg [.d (.int .u8 o__0), .d (.sl (.int .u8) o__1)]], [], [], 0⟩
def f113_opt_ParseWord_out (r : Bool × Int × Int × Int × Int × Bool × Int) : Out := ⟨.tup [.agg [.d (.int .u8 r.2.1), .d (.int .u32 r.2.2.1), .d (.int .u8 r.2.2.2.1), .d (.int .u8 r.2.2.2.2.1), .d (.bool r.2.2.2.2.2.1), .d (.int .u64 r.2.2.2.2.2.2)], .c (.d (.bool r.1))], [], [(0, [.d (.int .u8 r.2.1), .d (.int .u32 r.2.2.1), .d (.int .u8 r.2.2.2.1), .d (.int .u8 r.2.2.2.2.1), .d (.bool r.2.2.2.2.2.1), .d (.int .u64 r.2.2.2.2.2.2)])], 1⟩
def f113_opt_ParseWord (n : Nat) (o__0 : Int) (o__1 : List Int) : Option (Bool × Int × Int × Int × Int × Bool × Int) :=
  (f83_pack_All n o__1 [4, 1, 1, 1, 8]).bind fun r223_0 =>
  if (decide ((o__0 : Int) < 4)) = true then
    some (false, 0, 0, 0, 0, false, 0)
  else
    if (decide ((o__0 : Int) > 7)) = true then
      some (false, 0, 0, 0, 0, false, 0)
    else
      if (!r223_0.2) = true then
        some (false, 0, 0, 0, 0, false, 0)
      else
        if (0 : Int) ≤ 3 ∧ 3 < (((r223_0.1).length : Nat) : Int) then
        if (decide (((r223_0.1.getD 3 0) : Int) > 1)) = true then
          some (false, 0, 0, 0, 0, false, 0)
        else
          if (0 : Int) ≤ 0 ∧ 0 < (((r223_0.1).length : Nat) : Int) then
          if (0 : Int) ≤ 1 ∧ 1 < (((r223_0.1).length : Nat) : Int) then
          if (0 : Int) ≤ 2 ∧ 2 < (((r223_0.1).length : Nat) : Int) then
          if (0 : Int) ≤ 3 ∧ 3 < (((r223_0.1).length : Nat) : Int) then
          if (0 : Int) ≤ 4 ∧ 4 < (((r223_0.1).length : Nat) : Int) then
          some (true, o__0, (IntKind.wrap .u32 (r223_0.1.getD 0 0)), (IntKind.wrap .u8 (r223_0.1.getD 1 0)), (IntKind.wrap .u8 (r223_0.1.getD 2 0)), (((r223_0.1.getD 3 0) : Int) == 1), (r223_0.1.getD 4 0))
          else none
          else none
          else none
          else none
          else none
        else none
theorem f113_opt_ParseWord_ok (n : Nat) (o__0 : Int) (o__1 : List Int) (r : Bool × Int × Int × Int × Int × Bool × Int) (h : f113_opt_ParseWord n o__0 o__1 = some r) : FnOK Go.Proofs.Try.prog 113 (f113_opt_ParseWord_in o__0 o__1) (f113_opt_ParseWord_out r) := by
  unfold f113_opt_ParseWord at h
  refine At.fn (r := 0) Go.Proofs.Try.func113 rfl (by kernel_rfl) rfl rfl (by kernel_rfl) ?_
  show At Go.Proofs.Try.prog Go.Proofs.Try.f113 0 0 ⟨[(0, .one (.agg [.d (.int .u8 o__0), .d (.sl (.int .u8) o__1)]))], [], [], 0⟩ _
  refine At.step hm ht ⟨[], [], [], [1, 2], [0, 1]⟩ 1 ⟨[(1, .one (.c (.ptr 0 0))), (2, .one (.c (.ptr 1 0)))], [], [(0, [.d (.int .u8 o__0), .d (.sl (.int .u8) o__1)]), (1, [.d (.int .u8 0), .d (.int .u32 0), .d (.int .u8 0), .d (.int .u8 0), .d (.bool false), .d (.int .u64 0)])], 2⟩ [] (by kernel_rfl) trivial ?_
  obtain ⟨r223_0, cr223_0, h⟩ := bindS h
  refine At.step hm ht ⟨[(3, .call [] [] (f83_pack_All_out r223_0))], [], [], [1, 2, 4, 5], [0, 1, 5]⟩ 2 ⟨[(1, .one (.c (.ptr 0 0))), (2, .one (.c (.ptr 1 0))), (4, .one (.c (.own 2 (.int .u64) r223_0.1))), (5, .one (.c (.d (.bool r223_0.2))))], [(2, some ⟨22, 0⟩)], [(0, [.d (.int .u8 o__0), .d (.sl (.int .u8) o__1)]), (1, [.d (.int .u8 0), .d (.int .u32 0), .d (.int .u8 0), .d (.int .u8 0), .d (.bool false), .d (.int .u64 0)])], 3⟩ [FnOK Go.Proofs.Try.prog 83 (f83_pack_All_in o__1 [4, 1, 1, 1, 8]) (f83_pack_All_out r223_0)] (by kernel_rfl) ⟨(f83_pack_All_ok n o__1 [4, 1, 1, 1, 8] r223_0 cr223_0), trivial⟩ ?_
  rcases iteS h with ⟨b224_3, h⟩ | ⟨b224_3, h⟩
  · refine At.step hm ht ⟨[(3, .b true)], [true], [], [2], [1]⟩ 3 ⟨[(2, .one (.c (.ptr 0 0)))], [], [(0, [.d (.int .u8 0), .d (.int .u32 0), .d (.int .u8 0), .d (.int .u8 0), .d (.bool false), .d (.int .u64 0)])], 1⟩ [(decide ((o__0 : Int) < 4)) = true, true = true] (by kernel_rfl) ⟨b224_3, rfl, trivial⟩ ?_
    have h := Option.some.inj h
    subst h
    exact At.fin hm ht ⟨[], [], [], [2, 3], [0]⟩ [0 + 6 ≤ 6] (by kernel_rfl) ⟨(by decide), trivial⟩
  · rcases iteS h with ⟨b224_8, h⟩ | ⟨b224_8, h⟩
    · refine At.step hm ht ⟨[(3, .b false), (8, .b true)], [true], [], [2], [1]⟩ 3 ⟨[(2, .one (.c (.ptr 0 0)))], [], [(0, [.d (.int .u8 0), .d (.int .u32 0), .d (.int .u8 0), .d (.int .u8 0), .d (.bool false), .d (.int .u64 0)])], 1⟩ [(decide ((o__0 : Int) < 4)) = false, (decide ((o__0 : Int) > 7)) = true, true = true] (by kernel_rfl) ⟨b224_3, b224_8, rfl, trivial⟩ ?_
      have h := Option.some.inj h
      subst h
      exact At.fin hm ht ⟨[], [], [], [2, 3], [0]⟩ [0 + 6 ≤ 6] (by kernel_rfl) ⟨(by decide), trivial⟩
    · rcases iteS h with ⟨b224_12, h⟩ | ⟨b224_12, h⟩
      · refine At.step hm ht ⟨[(3, .b false), (8, .b false), (12, .b true)], [true], [], [2], [1]⟩ 3 ⟨[(2, .one (.c (.ptr 0 0)))], [], [(0, [.d (.int .u8 0), .d (.int .u32 0), .d (.int .u8 0), .d (.int .u8 0), .d (.bool false), .d (.int .u64 0)])], 1⟩ [(decide ((o__0 : Int) < 4)) = false, (decide ((o__0 : Int) > 7)) = false, (!r223_0.2) = true, true = true] (by kernel_rfl) ⟨b224_3, b224_8, b224_12, rfl, trivial⟩ ?_
        have h := Option.some.inj h
        subst h
        exact At.fin hm ht ⟨[], [], [], [2, 3], [0]⟩ [0 + 6 ≤ 6] (by kernel_rfl) ⟨(by decide), trivial⟩
      · obtain ⟨g224_0, h⟩ := ifS h
        rcases iteS h with ⟨b224_e0, h⟩ | ⟨b224_e0, h⟩
        · refine At.step hm ht ⟨[(3, .b false), (8, .b false), (12, .b false)], [true], [], [2], [1]⟩ 3 ⟨[(2, .one (.c (.ptr 0 0)))], [], [(0, [.d (.int .u8 0), .d (.int .u32 0), .d (.int .u8 0), .d (.int .u8 0), .d (.bool false), .d (.int .u64 0)])], 1⟩ [(decide ((o__0 : Int) < 4)) = false, (decide ((o__0 : Int) > 7)) = false, (!r223_0.2) = false, (0 : Int) ≤ 3 ∧ 3 < (((r223_0.1).length : Nat) : Int), (decide (((r223_0.1.getD 3 0) : Int) > 1)) = true] (by kernel_rfl) ⟨b224_3, b224_8, b224_12, g224_0, b224_e0, trivial⟩ ?_
          have h := Option.some.inj h
          subst h
          exact At.fin hm ht ⟨[], [], [], [2, 3], [0]⟩ [0 + 6 ≤ 6] (by kernel_rfl) ⟨(by decide), trivial⟩
        · refine At.step hm ht ⟨[(3, .b false), (8, .b false), (12, .b false)], [false], [], [1, 2, 4], [0, 1, 2]⟩ 4 ⟨[(1, .one (.c (.ptr 0 0))), (2, .one (.c (.ptr 1 0))), (4, .one (.c (.own 2 (.int .u64) r223_0.1)))], [(2, some ⟨22, 0⟩)], [(0, [.d (.int .u8 o__0), .d (.sl (.int .u8) o__1)]), (1, [.d (.int .u8 0), .d (.int .u32 0), .d (.int .u8 0), .d (.int .u8 0), .d (.bool false), .d (.int .u64 0)])], 3⟩ [(decide ((o__0 : Int) < 4)) = false, (decide ((o__0 : Int) > 7)) = false, (!r223_0.2) = false, (0 : Int) ≤ 3 ∧ 3 < (((r223_0.1).length : Nat) : Int), (decide (((r223_0.1.getD 3 0) : Int) > 1)) = false] (by kernel_rfl) ⟨b224_3, b224_8, b224_12, g224_0, b224_e0, trivial⟩ ?_
          obtain ⟨g229_0, h⟩ := ifS h
          obtain ⟨g229_1, h⟩ := ifS h
          obtain ⟨g229_2, h⟩ := ifS h
          obtain ⟨g229_3, h⟩ := ifS h
          obtain ⟨g229_4, h⟩ := ifS h
          have h := Option.some.inj h
          subst h
          exact At.fin hm ht ⟨[], [], [], [2, 3], [1]⟩ [(0 : Int) ≤ 0 ∧ 0 < (((r223_0.1).length : Nat) : Int), (0 : Int) ≤ 1 ∧ 1 < (((r223_0.1).length : Nat) : Int), (0 : Int) ≤ 2 ∧ 2 < (((r223_0.1).length : Nat) : Int), (0 : Int) ≤ 3 ∧ 3 < (((r223_0.1).length : Nat) : Int), (0 : Int) ≤ 4 ∧ 4 < (((r223_0.1).length : Nat) : Int), 0 + 6 ≤ 6] (by kernel_rfl) ⟨g229_0, g229_1, g229_2, g229_3, g229_4, (by decide), trivial⟩
/-! brougham/trace.word -/
def f114_trace_word_in (w__0 : Int) (w__1 : Int) (w__2 : Int) (w__3 : Int) (w__4 : Bool) (w__5 : Int) : Inn := ⟨[.agg [.d (.int .u8 w__0), .d (.int .u32 w__1), .d (.int .u8 w__2), .d (.int .u8 w__3), .d (.bool w__4), .d (.int .u64 w__5)]], [], [], 0⟩
def f114_trace_word_out (r : ByteArray) : Out := ⟨.one (.c (.d (.str r))), [], [], 0⟩
def f114_trace_word (w__0 : Int) (w__1 : Int) (w__2 : Int) (w__3 : Int) (w__4 : Bool) (w__5 : Int) : Option (ByteArray) :=
  if (0 : Int) ≤ (IntKind.wrap .u8 (w__0 - 4)) ∧ (IntKind.wrap .u8 (w__0 - 4)) < ((4 : Nat) : Int) then
  some (([(⟨#[97, 100, 100]⟩ : ByteArray), (⟨#[103, 111, 110, 101]⟩ : ByteArray), (⟨#[112, 114, 105, 111]⟩ : ByteArray), (⟨#[99, 108, 111, 115, 101]⟩ : ByteArray)] : List ByteArray).getD ((IntKind.wrap .u8 (w__0 - 4)).toNat) ByteArray.empty)
  else none
theorem f114_trace_word_ok (w__0 : Int) (w__1 : Int) (w__2 : Int) (w__3 : Int) (w__4 : Bool) (w__5 : Int) (r : ByteArray) (h : f114_trace_word w__0 w__1 w__2 w__3 w__4 w__5 = some r) : FnOK Go.Proofs.Try.prog 114 (f114_trace_word_in w__0 w__1 w__2 w__3 w__4 w__5) (f114_trace_word_out r) := by
  unfold f114_trace_word at h
  refine At.fn (r := 0) Go.Proofs.Try.func114 rfl (by kernel_rfl) rfl rfl (by kernel_rfl) ?_
  show At Go.Proofs.Try.prog Go.Proofs.Try.f114 0 0 ⟨[(0, .one (.agg [.d (.int .u8 w__0), .d (.int .u32 w__1), .d (.int .u8 w__2), .d (.int .u8 w__3), .d (.bool w__4), .d (.int .u64 w__5)]))], [], [], 0⟩ _
  refine At.step hm ht ⟨[], [], [], [1], [0]⟩ 1 ⟨[(1, .one (.c (.ptr 0 0)))], [], [(0, [.d (.int .u8 w__0), .d (.int .u32 w__1), .d (.int .u8 w__2), .d (.int .u8 w__3), .d (.bool w__4), .d (.int .u64 w__5)])], 1⟩ [] (by kernel_rfl) trivial ?_
  refine At.step hm ht ⟨[], [], [], [1, 3], [0, 2]⟩ 2 ⟨[(1, .one (.c (.ptr 0 0))), (3, .one (.c (.ptr 1 0)))], [], [(0, [.d (.int .u8 w__0), .d (.int .u32 w__1), .d (.int .u8 w__2), .d (.int .u8 w__3), .d (.bool w__4), .d (.int .u64 w__5)]), (1, [.d (.str (⟨#[97, 100, 100]⟩ : ByteArray)), .d (.str (⟨#[103, 111, 110, 101]⟩ : ByteArray)), .d (.str (⟨#[112, 114, 105, 111]⟩ : ByteArray)), .d (.str (⟨#[99, 108, 111, 115, 101]⟩ : ByteArray))])], 2⟩ [0 + 4 ≤ 4] (by kernel_rfl) ⟨(by decide), trivial⟩ ?_
  obtain ⟨g234_0, h⟩ := ifS h
  have h := Option.some.inj h
  subst h
  exact At.fin hm ht ⟨[(3, .pix 0 4 (IntKind.wrap .u8 (w__0 - 4)).toNat)], [], [], [2], []⟩ [((0 : Int) ≤ (IntKind.wrap .u8 (w__0 - 4)) ∧ (IntKind.wrap .u8 (w__0 - 4)) < ((4 : Nat) : Int)) ∧ 0 + (IntKind.wrap .u8 (w__0 - 4)).toNat * 1 = 0 + (IntKind.wrap .u8 (w__0 - 4)).toNat ∧ (IntKind.wrap .u8 (w__0 - 4)).toNat < 4] (by kernel_rfl) ⟨(⟨g234_0, by rw [Nat.mul_one], by have := g234_0; omega⟩), trivial⟩
/-! brougham/trace.Option -/
def f67_trace_Option_in (o__0 : Int) (o__1 : List Int) : Inn := ⟨[.agg [.d (.int .u8 o__0), .d (.sl (.int .u8) o__1)]], [], [], 0⟩
def f67_trace_Option_out (r : ByteArray) : Out := ⟨.one (.c (.d (.str r))), [], [], 0⟩
def f67_trace_Option (n : Nat) (o__0 : Int) (o__1 : List Int) : Option (ByteArray) :=
  if ((o__0 : Int) == 1) = true then
    (f107_opt_ParseKey n o__0 o__1).bind fun r77_0 =>
    if r77_0.1 = true then
      (f103_trace_hex n r77_0.2.1 8).bind fun r180_0 =>
      (f108_trace_sum n r77_0.2.2.1 r77_0.2.2.2).bind fun r180_1 =>
      (f101_num_Line n [(⟨#[107, 101, 121]⟩ : ByteArray), r180_0, r180_1]).bind fun r180_2 =>
      some r180_2
    else
      (f102_num_Text (IntKind.wrap .i64 o__0)).bind fun r185_0 =>
      (f115_num_Hex o__1).bind fun r185_1 =>
      (f101_num_Line n [(⟨#[111, 112, 116, 105, 111, 110]⟩ : ByteArray), r185_0, r185_1]).bind fun r185_2 =>
      some r185_2
  else
    if ((o__0 : Int) == 2) = true then
      (f109_opt_ParseJoin n o__0 o__1).bind fun r187_0 =>
      if r187_0.1 = true then
        (f103_trace_hex n (IntKind.wrap .u64 r187_0.2.1) 4).bind fun r203_0 =>
        (f103_trace_hex n (IntKind.wrap .u64 r187_0.2.2.1) 4).bind fun r203_1 =>
        (f102_num_Text (IntKind.wrap .i64 r187_0.2.2.2.1)).bind fun r203_2 =>
        (f110_trace_when r187_0.2.2.2.2.1 (⟨#[98, 97, 99, 107, 117, 112]⟩ : ByteArray)).bind fun r203_3 =>
        (f108_trace_sum n r187_0.2.2.2.2.2.1 r187_0.2.2.2.2.2.2).bind fun r203_4 =>
        (f101_num_Line n [(⟨#[106, 111, 105, 110]⟩ : ByteArray), r203_0, r203_1, r203_2, r203_3, r203_4]).bind fun r203_5 =>
        some r203_5
      else
        (f102_num_Text (IntKind.wrap .i64 o__0)).bind fun r204_0 =>
        (f115_num_Hex o__1).bind fun r204_1 =>
        (f101_num_Line n [(⟨#[111, 112, 116, 105, 111, 110]⟩ : ByteArray), r204_0, r204_1]).bind fun r204_2 =>
        some r204_2
    else
      if ((o__0 : Int) == 3) = true then
        (f111_opt_ParseData n o__0 o__1).bind fun r206_0 =>
        if r206_0.1 = true then
          (f112_trace_wide n r206_0.2.2.2.1).bind fun r215_0 =>
          (f112_trace_wide n r206_0.2.2.2.2.1).bind fun r215_1 =>
          (f102_num_Text (IntKind.wrap .i64 r206_0.2.2.2.2.2.1)).bind fun r215_2 =>
          (f110_trace_when r206_0.2.1 (⟨#[102, 105, 110]⟩ : ByteArray)).bind fun r215_3 =>
          (f110_trace_when r206_0.2.2.1 (⟨#[112, 114, 111, 98, 101]⟩ : ByteArray)).bind fun r215_4 =>
          (f108_trace_sum n true r206_0.2.2.2.2.2.2).bind fun r215_5 =>
          (f101_num_Line n [(⟨#[100, 97, 116, 97]⟩ : ByteArray), r215_0, (⟨#[104, 97, 115]⟩ : ByteArray), r215_1, (⟨#[114, 111, 111, 109]⟩ : ByteArray), r215_2, r215_3, r215_4, r215_5]).bind fun r215_6 =>
          some r215_6
        else
          (f102_num_Text (IntKind.wrap .i64 o__0)).bind fun r220_0 =>
          (f115_num_Hex o__1).bind fun r220_1 =>
          (f101_num_Line n [(⟨#[111, 112, 116, 105, 111, 110]⟩ : ByteArray), r220_0, r220_1]).bind fun r220_2 =>
          some r220_2
      else
        (f113_opt_ParseWord n o__0 o__1).bind fun r221_0 =>
        if r221_0.1 = true then
          (f114_trace_word r221_0.2.1 r221_0.2.2.1 r221_0.2.2.2.1 r221_0.2.2.2.2.1 r221_0.2.2.2.2.2.1 r221_0.2.2.2.2.2.2).bind fun r231_0 =>
          (f102_num_Text (IntKind.wrap .i64 r221_0.2.2.1)).bind fun r231_1 =>
          (f102_num_Text (IntKind.wrap .i64 r221_0.2.2.2.1)).bind fun r231_2 =>
          (f102_num_Text (IntKind.wrap .i64 r221_0.2.2.2.2.1)).bind fun r231_3 =>
          (f110_trace_when r221_0.2.2.2.2.2.1 (⟨#[98, 97, 99, 107, 117, 112]⟩ : ByteArray)).bind fun r231_4 =>
          (f108_trace_sum n true r221_0.2.2.2.2.2.2).bind fun r231_5 =>
          (f101_num_Line n [r231_0, r231_1, r231_2, r231_3, r231_4, r231_5]).bind fun r231_6 =>
          some r231_6
        else
          (f102_num_Text (IntKind.wrap .i64 o__0)).bind fun r235_0 =>
          (f115_num_Hex o__1).bind fun r235_1 =>
          (f101_num_Line n [(⟨#[111, 112, 116, 105, 111, 110]⟩ : ByteArray), r235_0, r235_1]).bind fun r235_2 =>
          some r235_2
theorem f67_trace_Option_ok (n : Nat) (o__0 : Int) (o__1 : List Int) (r : ByteArray) (h : f67_trace_Option n o__0 o__1 = some r) : FnOK Go.Proofs.Try.prog 67 (f67_trace_Option_in o__0 o__1) (f67_trace_Option_out r) := by
  unfold f67_trace_Option at h
  refine At.fn (r := 0) Go.Proofs.Try.func67 rfl (by kernel_rfl) rfl rfl (by kernel_rfl) ?_
  show At Go.Proofs.Try.prog Go.Proofs.Try.f67 0 0 ⟨[(0, .one (.agg [.d (.int .u8 o__0), .d (.sl (.int .u8) o__1)]))], [], [], 0⟩ _
  refine At.step hm ht ⟨[], [], [], [1], [0]⟩ 1 ⟨[(1, .one (.c (.ptr 0 0)))], [], [(0, [.d (.int .u8 o__0), .d (.sl (.int .u8) o__1)])], 1⟩ [] (by kernel_rfl) trivial ?_
  refine At.step hm ht ⟨[], [], [], [1, 12], [0]⟩ 5 ⟨[(1, .one (.c (.ptr 0 0))), (12, .one (.c (.d (.int .u8 o__0))))], [], [(0, [.d (.int .u8 o__0), .d (.sl (.int .u8) o__1)])], 1⟩ [] (by kernel_rfl) trivial ?_
  rcases iteS h with ⟨b76_e0, h⟩ | ⟨b76_e0, h⟩
  · refine At.step hm ht ⟨[], [true], [], [1], [0]⟩ 6 ⟨[(1, .one (.c (.ptr 0 0)))], [], [(0, [.d (.int .u8 o__0), .d (.sl (.int .u8) o__1)])], 1⟩ [((o__0 : Int) == 1) = true] (by kernel_rfl) ⟨b76_e0, trivial⟩ ?_
    obtain ⟨r77_0, cr77_0, h⟩ := bindS h
    refine At.step hm ht ⟨[(1, .call [] [] (f107_opt_ParseKey_out r77_0))], [], [], [1, 3, 4], [0, 6]⟩ 7 ⟨[(1, .one (.c (.ptr 0 0))), (3, .one (.c (.ptr 1 0))), (4, .one (.c (.d (.bool r77_0.1))))], [], [(0, [.d (.int .u8 o__0), .d (.sl (.int .u8) o__1)]), (1, [.d (.int .u64 r77_0.2.1), .d (.bool r77_0.2.2.1), .d (.int .u64 r77_0.2.2.2)])], 2⟩ [FnOK Go.Proofs.Try.prog 107 (f107_opt_ParseKey_in o__0 o__1) (f107_opt_ParseKey_out r77_0), 0 + 3 ≤ 3] (by kernel_rfl) ⟨(f107_opt_ParseKey_ok n o__0 o__1 r77_0 cr77_0), (by decide), trivial⟩ ?_
    rcases iteS h with ⟨b179_e0, h⟩ | ⟨b179_e0, h⟩
    · refine At.step hm ht ⟨[], [true], [], [3], [1]⟩ 8 ⟨[(3, .one (.c (.ptr 0 0)))], [], [(0, [.d (.int .u64 r77_0.2.1), .d (.bool r77_0.2.2.1), .d (.int .u64 r77_0.2.2.2)])], 1⟩ [r77_0.1 = true] (by kernel_rfl) ⟨b179_e0, trivial⟩ ?_
      obtain ⟨r180_0, cr180_0, h⟩ := bindS h
      obtain ⟨r180_1, cr180_1, h⟩ := bindS h
      obtain ⟨r180_2, cr180_2, h⟩ := bindS h
      have h := Option.some.inj h
      subst h
      exact At.fin hm ht ⟨[(2, .call [] [] (f103_trace_hex_out r180_0)), (8, .call [] [] (f108_trace_sum_out r180_1)), (10, .call [] [] (f101_num_Line_out r180_2))], [], [], [2], []⟩ [FnOK Go.Proofs.Try.prog 103 (f103_trace_hex_in r77_0.2.1 8) (f103_trace_hex_out r180_0), FnOK Go.Proofs.Try.prog 108 (f108_trace_sum_in r77_0.2.2.1 r77_0.2.2.2) (f108_trace_sum_out r180_1), FnOK Go.Proofs.Try.prog 101 (f101_num_Line_in [(⟨#[107, 101, 121]⟩ : ByteArray), r180_0, r180_1]) (f101_num_Line_out r180_2)] (by kernel_rfl) ⟨(f103_trace_hex_ok n r77_0.2.1 8 r180_0 cr180_0), (f108_trace_sum_ok n r77_0.2.2.1 r77_0.2.2.2 r180_1 cr180_1), (f101_num_Line_ok n [(⟨#[107, 101, 121]⟩ : ByteArray), r180_0, r180_1] r180_2 cr180_2), trivial⟩
    · refine At.step hm ht ⟨[], [false], [], [1], [0]⟩ 17 ⟨[(1, .one (.c (.ptr 0 0)))], [], [(0, [.d (.int .u8 o__0), .d (.sl (.int .u8) o__1)])], 1⟩ [r77_0.1 = false] (by kernel_rfl) ⟨b179_e0, trivial⟩ ?_
      obtain ⟨r185_0, cr185_0, h⟩ := bindS h
      obtain ⟨r185_1, cr185_1, h⟩ := bindS h
      obtain ⟨r185_2, cr185_2, h⟩ := bindS h
      have h := Option.some.inj h
      subst h
      exact At.fin hm ht ⟨[(3, .call [] [] (f102_num_Text_out r185_0)), (6, .call [] [] (f115_num_Hex_out r185_1)), (8, .call [] [] (f101_num_Line_out r185_2))], [], [], [2], []⟩ [FnOK Go.Proofs.Try.prog 102 (f102_num_Text_in (IntKind.wrap .i64 o__0)) (f102_num_Text_out r185_0), FnOK Go.Proofs.Try.prog 115 (f115_num_Hex_in o__1) (f115_num_Hex_out r185_1), FnOK Go.Proofs.Try.prog 101 (f101_num_Line_in [(⟨#[111, 112, 116, 105, 111, 110]⟩ : ByteArray), r185_0, r185_1]) (f101_num_Line_out r185_2)] (by kernel_rfl) ⟨(f102_num_Text_ok (IntKind.wrap .i64 o__0) r185_0 cr185_0), (f115_num_Hex_ok o__1 r185_1 cr185_1), (f101_num_Line_ok n [(⟨#[111, 112, 116, 105, 111, 110]⟩ : ByteArray), r185_0, r185_1] r185_2 cr185_2), trivial⟩
  · refine At.step hm ht ⟨[], [false], [], [1, 12], [0]⟩ 9 ⟨[(1, .one (.c (.ptr 0 0))), (12, .one (.c (.d (.int .u8 o__0))))], [], [(0, [.d (.int .u8 o__0), .d (.sl (.int .u8) o__1)])], 1⟩ [((o__0 : Int) == 1) = false] (by kernel_rfl) ⟨b76_e0, trivial⟩ ?_
    rcases iteS h with ⟨b186_e0, h⟩ | ⟨b186_e0, h⟩
    · refine At.step hm ht ⟨[], [true], [], [1], [0]⟩ 10 ⟨[(1, .one (.c (.ptr 0 0)))], [], [(0, [.d (.int .u8 o__0), .d (.sl (.int .u8) o__1)])], 1⟩ [((o__0 : Int) == 2) = true] (by kernel_rfl) ⟨b186_e0, trivial⟩ ?_
      obtain ⟨r187_0, cr187_0, h⟩ := bindS h
      refine At.step hm ht ⟨[(1, .call [] [] (f109_opt_ParseJoin_out r187_0))], [], [], [1, 5, 6], [0, 6]⟩ 11 ⟨[(1, .one (.c (.ptr 0 0))), (5, .one (.c (.ptr 1 0))), (6, .one (.c (.d (.bool r187_0.1))))], [], [(0, [.d (.int .u8 o__0), .d (.sl (.int .u8) o__1)]), (1, [.d (.int .u32 r187_0.2.1), .d (.int .u32 r187_0.2.2.1), .d (.int .u8 r187_0.2.2.2.1), .d (.bool r187_0.2.2.2.2.1), .d (.bool r187_0.2.2.2.2.2.1), .d (.int .u64 r187_0.2.2.2.2.2.2)])], 2⟩ [FnOK Go.Proofs.Try.prog 109 (f109_opt_ParseJoin_in o__0 o__1) (f109_opt_ParseJoin_out r187_0), 0 + 6 ≤ 6] (by kernel_rfl) ⟨(f109_opt_ParseJoin_ok n o__0 o__1 r187_0 cr187_0), (by decide), trivial⟩ ?_
      rcases iteS h with ⟨b202_e0, h⟩ | ⟨b202_e0, h⟩
      · refine At.step hm ht ⟨[], [true], [], [5], [1]⟩ 12 ⟨[(5, .one (.c (.ptr 0 0)))], [], [(0, [.d (.int .u32 r187_0.2.1), .d (.int .u32 r187_0.2.2.1), .d (.int .u8 r187_0.2.2.2.1), .d (.bool r187_0.2.2.2.2.1), .d (.bool r187_0.2.2.2.2.2.1), .d (.int .u64 r187_0.2.2.2.2.2.2)])], 1⟩ [r187_0.1 = true] (by kernel_rfl) ⟨b202_e0, trivial⟩ ?_
        obtain ⟨r203_0, cr203_0, h⟩ := bindS h
        obtain ⟨r203_1, cr203_1, h⟩ := bindS h
        obtain ⟨r203_2, cr203_2, h⟩ := bindS h
        obtain ⟨r203_3, cr203_3, h⟩ := bindS h
        obtain ⟨r203_4, cr203_4, h⟩ := bindS h
        obtain ⟨r203_5, cr203_5, h⟩ := bindS h
        have h := Option.some.inj h
        subst h
        exact At.fin hm ht ⟨[(3, .call [] [] (f103_trace_hex_out r203_0)), (7, .call [] [] (f103_trace_hex_out r203_1)), (11, .call [] [] (f102_num_Text_out r203_2)), (14, .call [] [] (f110_trace_when_out r203_3)), (20, .call [] [] (f108_trace_sum_out r203_4)), (22, .call [] [] (f101_num_Line_out r203_5))], [], [], [2], []⟩ [FnOK Go.Proofs.Try.prog 103 (f103_trace_hex_in (IntKind.wrap .u64 r187_0.2.1) 4) (f103_trace_hex_out r203_0), FnOK Go.Proofs.Try.prog 103 (f103_trace_hex_in (IntKind.wrap .u64 r187_0.2.2.1) 4) (f103_trace_hex_out r203_1), FnOK Go.Proofs.Try.prog 102 (f102_num_Text_in (IntKind.wrap .i64 r187_0.2.2.2.1)) (f102_num_Text_out r203_2), FnOK Go.Proofs.Try.prog 110 (f110_trace_when_in r187_0.2.2.2.2.1 (⟨#[98, 97, 99, 107, 117, 112]⟩ : ByteArray)) (f110_trace_when_out r203_3), FnOK Go.Proofs.Try.prog 108 (f108_trace_sum_in r187_0.2.2.2.2.2.1 r187_0.2.2.2.2.2.2) (f108_trace_sum_out r203_4), FnOK Go.Proofs.Try.prog 101 (f101_num_Line_in [(⟨#[106, 111, 105, 110]⟩ : ByteArray), r203_0, r203_1, r203_2, r203_3, r203_4]) (f101_num_Line_out r203_5)] (by kernel_rfl) ⟨(f103_trace_hex_ok n (IntKind.wrap .u64 r187_0.2.1) 4 r203_0 cr203_0), (f103_trace_hex_ok n (IntKind.wrap .u64 r187_0.2.2.1) 4 r203_1 cr203_1), (f102_num_Text_ok (IntKind.wrap .i64 r187_0.2.2.2.1) r203_2 cr203_2), (f110_trace_when_ok r187_0.2.2.2.2.1 (⟨#[98, 97, 99, 107, 117, 112]⟩ : ByteArray) r203_3 cr203_3), (f108_trace_sum_ok n r187_0.2.2.2.2.2.1 r187_0.2.2.2.2.2.2 r203_4 cr203_4), (f101_num_Line_ok n [(⟨#[106, 111, 105, 110]⟩ : ByteArray), r203_0, r203_1, r203_2, r203_3, r203_4] r203_5 cr203_5), trivial⟩
      · refine At.step hm ht ⟨[], [false], [], [1], [0]⟩ 17 ⟨[(1, .one (.c (.ptr 0 0)))], [], [(0, [.d (.int .u8 o__0), .d (.sl (.int .u8) o__1)])], 1⟩ [r187_0.1 = false] (by kernel_rfl) ⟨b202_e0, trivial⟩ ?_
        obtain ⟨r204_0, cr204_0, h⟩ := bindS h
        obtain ⟨r204_1, cr204_1, h⟩ := bindS h
        obtain ⟨r204_2, cr204_2, h⟩ := bindS h
        have h := Option.some.inj h
        subst h
        exact At.fin hm ht ⟨[(3, .call [] [] (f102_num_Text_out r204_0)), (6, .call [] [] (f115_num_Hex_out r204_1)), (8, .call [] [] (f101_num_Line_out r204_2))], [], [], [2], []⟩ [FnOK Go.Proofs.Try.prog 102 (f102_num_Text_in (IntKind.wrap .i64 o__0)) (f102_num_Text_out r204_0), FnOK Go.Proofs.Try.prog 115 (f115_num_Hex_in o__1) (f115_num_Hex_out r204_1), FnOK Go.Proofs.Try.prog 101 (f101_num_Line_in [(⟨#[111, 112, 116, 105, 111, 110]⟩ : ByteArray), r204_0, r204_1]) (f101_num_Line_out r204_2)] (by kernel_rfl) ⟨(f102_num_Text_ok (IntKind.wrap .i64 o__0) r204_0 cr204_0), (f115_num_Hex_ok o__1 r204_1 cr204_1), (f101_num_Line_ok n [(⟨#[111, 112, 116, 105, 111, 110]⟩ : ByteArray), r204_0, r204_1] r204_2 cr204_2), trivial⟩
    · refine At.step hm ht ⟨[], [false], [], [1, 12], [0]⟩ 13 ⟨[(1, .one (.c (.ptr 0 0))), (12, .one (.c (.d (.int .u8 o__0))))], [], [(0, [.d (.int .u8 o__0), .d (.sl (.int .u8) o__1)])], 1⟩ [((o__0 : Int) == 2) = false] (by kernel_rfl) ⟨b186_e0, trivial⟩ ?_
      rcases iteS h with ⟨b205_e0, h⟩ | ⟨b205_e0, h⟩
      · refine At.step hm ht ⟨[], [true], [], [1], [0]⟩ 14 ⟨[(1, .one (.c (.ptr 0 0)))], [], [(0, [.d (.int .u8 o__0), .d (.sl (.int .u8) o__1)])], 1⟩ [((o__0 : Int) == 3) = true] (by kernel_rfl) ⟨b205_e0, trivial⟩ ?_
        obtain ⟨r206_0, cr206_0, h⟩ := bindS h
        refine At.step hm ht ⟨[(1, .call [] [] (f111_opt_ParseData_out r206_0))], [], [], [1, 7, 8], [0, 6]⟩ 15 ⟨[(1, .one (.c (.ptr 0 0))), (7, .one (.c (.ptr 1 0))), (8, .one (.c (.d (.bool r206_0.1))))], [], [(0, [.d (.int .u8 o__0), .d (.sl (.int .u8) o__1)]), (1, [.d (.bool r206_0.2.1), .d (.bool r206_0.2.2.1), .d (.int .u64 r206_0.2.2.2.1), .d (.int .u64 r206_0.2.2.2.2.1), .d (.int .u32 r206_0.2.2.2.2.2.1), .d (.int .u64 r206_0.2.2.2.2.2.2)])], 2⟩ [FnOK Go.Proofs.Try.prog 111 (f111_opt_ParseData_in o__0 o__1) (f111_opt_ParseData_out r206_0), 0 + 6 ≤ 6] (by kernel_rfl) ⟨(f111_opt_ParseData_ok n o__0 o__1 r206_0 cr206_0), (by decide), trivial⟩ ?_
        rcases iteS h with ⟨b214_e0, h⟩ | ⟨b214_e0, h⟩
        · refine At.step hm ht ⟨[], [true], [], [7], [1]⟩ 16 ⟨[(7, .one (.c (.ptr 0 0)))], [], [(0, [.d (.bool r206_0.2.1), .d (.bool r206_0.2.2.1), .d (.int .u64 r206_0.2.2.2.1), .d (.int .u64 r206_0.2.2.2.2.1), .d (.int .u32 r206_0.2.2.2.2.2.1), .d (.int .u64 r206_0.2.2.2.2.2.2)])], 1⟩ [r206_0.1 = true] (by kernel_rfl) ⟨b214_e0, trivial⟩ ?_
          obtain ⟨r215_0, cr215_0, h⟩ := bindS h
          obtain ⟨r215_1, cr215_1, h⟩ := bindS h
          obtain ⟨r215_2, cr215_2, h⟩ := bindS h
          obtain ⟨r215_3, cr215_3, h⟩ := bindS h
          obtain ⟨r215_4, cr215_4, h⟩ := bindS h
          obtain ⟨r215_5, cr215_5, h⟩ := bindS h
          obtain ⟨r215_6, cr215_6, h⟩ := bindS h
          have h := Option.some.inj h
          subst h
          exact At.fin hm ht ⟨[(2, .call [] [] (f112_trace_wide_out r215_0)), (5, .call [] [] (f112_trace_wide_out r215_1)), (9, .call [] [] (f102_num_Text_out r215_2)), (12, .call [] [] (f110_trace_when_out r215_3)), (15, .call [] [] (f110_trace_when_out r215_4)), (19, .call [] [] (f108_trace_sum_out r215_5)), (21, .call [] [] (f101_num_Line_out r215_6))], [], [], [2], []⟩ [FnOK Go.Proofs.Try.prog 112 (f112_trace_wide_in r206_0.2.2.2.1) (f112_trace_wide_out r215_0), FnOK Go.Proofs.Try.prog 112 (f112_trace_wide_in r206_0.2.2.2.2.1) (f112_trace_wide_out r215_1), FnOK Go.Proofs.Try.prog 102 (f102_num_Text_in (IntKind.wrap .i64 r206_0.2.2.2.2.2.1)) (f102_num_Text_out r215_2), FnOK Go.Proofs.Try.prog 110 (f110_trace_when_in r206_0.2.1 (⟨#[102, 105, 110]⟩ : ByteArray)) (f110_trace_when_out r215_3), FnOK Go.Proofs.Try.prog 110 (f110_trace_when_in r206_0.2.2.1 (⟨#[112, 114, 111, 98, 101]⟩ : ByteArray)) (f110_trace_when_out r215_4), FnOK Go.Proofs.Try.prog 108 (f108_trace_sum_in true r206_0.2.2.2.2.2.2) (f108_trace_sum_out r215_5), FnOK Go.Proofs.Try.prog 101 (f101_num_Line_in [(⟨#[100, 97, 116, 97]⟩ : ByteArray), r215_0, (⟨#[104, 97, 115]⟩ : ByteArray), r215_1, (⟨#[114, 111, 111, 109]⟩ : ByteArray), r215_2, r215_3, r215_4, r215_5]) (f101_num_Line_out r215_6)] (by kernel_rfl) ⟨(f112_trace_wide_ok n r206_0.2.2.2.1 r215_0 cr215_0), (f112_trace_wide_ok n r206_0.2.2.2.2.1 r215_1 cr215_1), (f102_num_Text_ok (IntKind.wrap .i64 r206_0.2.2.2.2.2.1) r215_2 cr215_2), (f110_trace_when_ok r206_0.2.1 (⟨#[102, 105, 110]⟩ : ByteArray) r215_3 cr215_3), (f110_trace_when_ok r206_0.2.2.1 (⟨#[112, 114, 111, 98, 101]⟩ : ByteArray) r215_4 cr215_4), (f108_trace_sum_ok n true r206_0.2.2.2.2.2.2 r215_5 cr215_5), (f101_num_Line_ok n [(⟨#[100, 97, 116, 97]⟩ : ByteArray), r215_0, (⟨#[104, 97, 115]⟩ : ByteArray), r215_1, (⟨#[114, 111, 111, 109]⟩ : ByteArray), r215_2, r215_3, r215_4, r215_5] r215_6 cr215_6), trivial⟩
        · refine At.step hm ht ⟨[], [false], [], [1], [0]⟩ 17 ⟨[(1, .one (.c (.ptr 0 0)))], [], [(0, [.d (.int .u8 o__0), .d (.sl (.int .u8) o__1)])], 1⟩ [r206_0.1 = false] (by kernel_rfl) ⟨b214_e0, trivial⟩ ?_
          obtain ⟨r220_0, cr220_0, h⟩ := bindS h
          obtain ⟨r220_1, cr220_1, h⟩ := bindS h
          obtain ⟨r220_2, cr220_2, h⟩ := bindS h
          have h := Option.some.inj h
          subst h
          exact At.fin hm ht ⟨[(3, .call [] [] (f102_num_Text_out r220_0)), (6, .call [] [] (f115_num_Hex_out r220_1)), (8, .call [] [] (f101_num_Line_out r220_2))], [], [], [2], []⟩ [FnOK Go.Proofs.Try.prog 102 (f102_num_Text_in (IntKind.wrap .i64 o__0)) (f102_num_Text_out r220_0), FnOK Go.Proofs.Try.prog 115 (f115_num_Hex_in o__1) (f115_num_Hex_out r220_1), FnOK Go.Proofs.Try.prog 101 (f101_num_Line_in [(⟨#[111, 112, 116, 105, 111, 110]⟩ : ByteArray), r220_0, r220_1]) (f101_num_Line_out r220_2)] (by kernel_rfl) ⟨(f102_num_Text_ok (IntKind.wrap .i64 o__0) r220_0 cr220_0), (f115_num_Hex_ok o__1 r220_1 cr220_1), (f101_num_Line_ok n [(⟨#[111, 112, 116, 105, 111, 110]⟩ : ByteArray), r220_0, r220_1] r220_2 cr220_2), trivial⟩
      · refine At.step hm ht ⟨[], [false], [], [1], [0]⟩ 2 ⟨[(1, .one (.c (.ptr 0 0)))], [], [(0, [.d (.int .u8 o__0), .d (.sl (.int .u8) o__1)])], 1⟩ [((o__0 : Int) == 3) = false] (by kernel_rfl) ⟨b205_e0, trivial⟩ ?_
        obtain ⟨r221_0, cr221_0, h⟩ := bindS h
        refine At.step hm ht ⟨[(1, .call [] [] (f113_opt_ParseWord_out r221_0))], [], [], [1, 9, 10], [0, 6]⟩ 3 ⟨[(1, .one (.c (.ptr 0 0))), (9, .one (.c (.ptr 1 0))), (10, .one (.c (.d (.bool r221_0.1))))], [], [(0, [.d (.int .u8 o__0), .d (.sl (.int .u8) o__1)]), (1, [.d (.int .u8 r221_0.2.1), .d (.int .u32 r221_0.2.2.1), .d (.int .u8 r221_0.2.2.2.1), .d (.int .u8 r221_0.2.2.2.2.1), .d (.bool r221_0.2.2.2.2.2.1), .d (.int .u64 r221_0.2.2.2.2.2.2)])], 2⟩ [FnOK Go.Proofs.Try.prog 113 (f113_opt_ParseWord_in o__0 o__1) (f113_opt_ParseWord_out r221_0), 0 + 6 ≤ 6] (by kernel_rfl) ⟨(f113_opt_ParseWord_ok n o__0 o__1 r221_0 cr221_0), (by decide), trivial⟩ ?_
        rcases iteS h with ⟨b230_e0, h⟩ | ⟨b230_e0, h⟩
        · refine At.step hm ht ⟨[], [true], [], [9], [1]⟩ 4 ⟨[(9, .one (.c (.ptr 0 0)))], [], [(0, [.d (.int .u8 r221_0.2.1), .d (.int .u32 r221_0.2.2.1), .d (.int .u8 r221_0.2.2.2.1), .d (.int .u8 r221_0.2.2.2.2.1), .d (.bool r221_0.2.2.2.2.2.1), .d (.int .u64 r221_0.2.2.2.2.2.2)])], 1⟩ [r221_0.1 = true] (by kernel_rfl) ⟨b230_e0, trivial⟩ ?_
          obtain ⟨r231_0, cr231_0, h⟩ := bindS h
          obtain ⟨r231_1, cr231_1, h⟩ := bindS h
          obtain ⟨r231_2, cr231_2, h⟩ := bindS h
          obtain ⟨r231_3, cr231_3, h⟩ := bindS h
          obtain ⟨r231_4, cr231_4, h⟩ := bindS h
          obtain ⟨r231_5, cr231_5, h⟩ := bindS h
          obtain ⟨r231_6, cr231_6, h⟩ := bindS h
          have h := Option.some.inj h
          subst h
          exact At.fin hm ht ⟨[(1, .call [] [] (f114_trace_word_out r231_0)), (5, .call [] [] (f102_num_Text_out r231_1)), (9, .call [] [] (f102_num_Text_out r231_2)), (13, .call [] [] (f102_num_Text_out r231_3)), (16, .call [] [] (f110_trace_when_out r231_4)), (20, .call [] [] (f108_trace_sum_out r231_5)), (22, .call [] [] (f101_num_Line_out r231_6))], [], [], [2], []⟩ [FnOK Go.Proofs.Try.prog 114 (f114_trace_word_in r221_0.2.1 r221_0.2.2.1 r221_0.2.2.2.1 r221_0.2.2.2.2.1 r221_0.2.2.2.2.2.1 r221_0.2.2.2.2.2.2) (f114_trace_word_out r231_0), FnOK Go.Proofs.Try.prog 102 (f102_num_Text_in (IntKind.wrap .i64 r221_0.2.2.1)) (f102_num_Text_out r231_1), FnOK Go.Proofs.Try.prog 102 (f102_num_Text_in (IntKind.wrap .i64 r221_0.2.2.2.1)) (f102_num_Text_out r231_2), FnOK Go.Proofs.Try.prog 102 (f102_num_Text_in (IntKind.wrap .i64 r221_0.2.2.2.2.1)) (f102_num_Text_out r231_3), FnOK Go.Proofs.Try.prog 110 (f110_trace_when_in r221_0.2.2.2.2.2.1 (⟨#[98, 97, 99, 107, 117, 112]⟩ : ByteArray)) (f110_trace_when_out r231_4), FnOK Go.Proofs.Try.prog 108 (f108_trace_sum_in true r221_0.2.2.2.2.2.2) (f108_trace_sum_out r231_5), FnOK Go.Proofs.Try.prog 101 (f101_num_Line_in [r231_0, r231_1, r231_2, r231_3, r231_4, r231_5]) (f101_num_Line_out r231_6)] (by kernel_rfl) ⟨(f114_trace_word_ok r221_0.2.1 r221_0.2.2.1 r221_0.2.2.2.1 r221_0.2.2.2.2.1 r221_0.2.2.2.2.2.1 r221_0.2.2.2.2.2.2 r231_0 cr231_0), (f102_num_Text_ok (IntKind.wrap .i64 r221_0.2.2.1) r231_1 cr231_1), (f102_num_Text_ok (IntKind.wrap .i64 r221_0.2.2.2.1) r231_2 cr231_2), (f102_num_Text_ok (IntKind.wrap .i64 r221_0.2.2.2.2.1) r231_3 cr231_3), (f110_trace_when_ok r221_0.2.2.2.2.2.1 (⟨#[98, 97, 99, 107, 117, 112]⟩ : ByteArray) r231_4 cr231_4), (f108_trace_sum_ok n true r221_0.2.2.2.2.2.2 r231_5 cr231_5), (f101_num_Line_ok n [r231_0, r231_1, r231_2, r231_3, r231_4, r231_5] r231_6 cr231_6), trivial⟩
        · refine At.step hm ht ⟨[], [false], [], [1], [0]⟩ 17 ⟨[(1, .one (.c (.ptr 0 0)))], [], [(0, [.d (.int .u8 o__0), .d (.sl (.int .u8) o__1)])], 1⟩ [r221_0.1 = false] (by kernel_rfl) ⟨b230_e0, trivial⟩ ?_
          obtain ⟨r235_0, cr235_0, h⟩ := bindS h
          obtain ⟨r235_1, cr235_1, h⟩ := bindS h
          obtain ⟨r235_2, cr235_2, h⟩ := bindS h
          have h := Option.some.inj h
          subst h
          exact At.fin hm ht ⟨[(3, .call [] [] (f102_num_Text_out r235_0)), (6, .call [] [] (f115_num_Hex_out r235_1)), (8, .call [] [] (f101_num_Line_out r235_2))], [], [], [2], []⟩ [FnOK Go.Proofs.Try.prog 102 (f102_num_Text_in (IntKind.wrap .i64 o__0)) (f102_num_Text_out r235_0), FnOK Go.Proofs.Try.prog 115 (f115_num_Hex_in o__1) (f115_num_Hex_out r235_1), FnOK Go.Proofs.Try.prog 101 (f101_num_Line_in [(⟨#[111, 112, 116, 105, 111, 110]⟩ : ByteArray), r235_0, r235_1]) (f101_num_Line_out r235_2)] (by kernel_rfl) ⟨(f102_num_Text_ok (IntKind.wrap .i64 o__0) r235_0 cr235_0), (f115_num_Hex_ok o__1 r235_1 cr235_1), (f101_num_Line_ok n [(⟨#[111, 112, 116, 105, 111, 110]⟩ : ByteArray), r235_0, r235_1] r235_2 cr235_2), trivial⟩
/-! brougham/trace.Segment -/
def f65_trace_Segment_in (s_0 : Int) (s_1 : Int) (s_2 : Int) (s_3 : Int) (s_4 : Int) (s_5 : List (Int × List Int)) (s_6 : List Int) : Inn := ⟨[.agg [.d (.int .u16 s_0), .d (.int .u16 s_1), .d (.int .u32 s_2), .d (.int .u32 s_3), .d (.int .u8 s_4), .d (.sl (.pair (.int .u8) (.slice (.int .u8))) s_5), .d (.sl (.int .u8) s_6)]], [], [], 0⟩
def f65_trace_Segment_out (r : ByteArray) : Out := ⟨.one (.c (.d (.str r))), [], [], 0⟩
def f65_trace_Segment_L3 : Nat → ByteArray → (List (Int × List Int)) → Int → Int → Int → Int → Int → Int → Int → (List (Int × List Int)) → (List Int) → Option (ByteArray × Int × Int × Int × Int × Int × (List (Int × List Int)) × List Int)
  | 0, _, _, _, _, _, _, _, _, _, _, _ => none
  | n + 1, out, t28, t29, t30, s_0, s_1, s_2, s_3, s_4, s_5, s_6 =>
    if (decide ((t30 : Int) < t29)) = true then
      if (0 : Int) ≤ t30 ∧ t30 < (((t28).length : Nat) : Int) then
      (f67_trace_Option n ((t28.getD t30.toNat (0, [])).1) ((t28.getD t30.toNat (0, [])).2)).bind fun r73_0 =>
      if (⟨#[59, 32]⟩ : ByteArray).size + r73_0.size ≤ 9223372036854775807 then
      if out.size + ((⟨#[59, 32]⟩ : ByteArray) ++ r73_0).size ≤ 9223372036854775807 then
      f65_trace_Segment_L3 n (out ++ ((⟨#[59, 32]⟩ : ByteArray) ++ r73_0)) t28 t29 (IntKind.wrap .i64 (t30 + 1)) s_0 s_1 s_2 s_3 s_4 s_5 s_6
      else none
      else none
      else none
    else
      some ((out, s_0, s_1, s_2, s_3, s_4, s_5, s_6))
def f65_trace_Segment_L3_k (e : ByteArray × Int × Int × Int × Int × Int × (List (Int × List Int)) × List Int) (o : Out) : Prop := At Go.Proofs.Try.prog Go.Proofs.Try.f65 0 7 ⟨[(1, .one (.c (.ptr 0 0))), (3, .one (.c (.d (.str e.1))))], [], [(0, [.d (.int .u16 e.2.1), .d (.int .u16 e.2.2.1), .d (.int .u32 e.2.2.2.1), .d (.int .u32 e.2.2.2.2.1), .d (.int .u8 e.2.2.2.2.2.1), .d (.sl (.pair (.int .u8) (.slice (.int .u8))) e.2.2.2.2.2.2.1), .d (.sl (.int .u8) e.2.2.2.2.2.2.2)])], 1⟩ o
theorem f65_trace_Segment_L3_ok (n : Nat) : ∀ (out : ByteArray) (t28 : List (Int × List Int)) (t29 : Int) (t30 : Int) (s_0 : Int) (s_1 : Int) (s_2 : Int) (s_3 : Int) (s_4 : Int) (s_5 : List (Int × List Int)) (s_6 : List Int) (w : ByteArray × Int × Int × Int × Int × Int × (List (Int × List Int)) × List Int) (h : f65_trace_Segment_L3 n out t28 t29 t30 s_0 s_1 s_2 s_3 s_4 s_5 s_6 = some w) (o : Out) (hk : f65_trace_Segment_L3_k w o), At Go.Proofs.Try.prog Go.Proofs.Try.f65 0 3 ⟨[(1, .one (.c (.ptr 0 0))), (3, .one (.c (.d (.str out)))), (28, .one (.c (.d (.sl (.pair (.int .u8) (.slice (.int .u8))) t28)))), (29, .one (.c (.d (.int .i64 t29)))), (30, .one (.c (.d (.int .i64 t30))))], [], [(0, [.d (.int .u16 s_0), .d (.int .u16 s_1), .d (.int .u32 s_2), .d (.int .u32 s_3), .d (.int .u8 s_4), .d (.sl (.pair (.int .u8) (.slice (.int .u8))) s_5), .d (.sl (.int .u8) s_6)])], 1⟩ o := by
  induction n with
  | zero => intro out t28 t29 t30 s_0 s_1 s_2 s_3 s_4 s_5 s_6 w h; rw [f65_trace_Segment_L3] at h; cases h
  | succ n ih =>
    intro out t28 t29 t30 s_0 s_1 s_2 s_3 s_4 s_5 s_6 w h o hk
    rw [f65_trace_Segment_L3] at h
    rcases iteS h with ⟨b71_e0, h⟩ | ⟨b71_e0, h⟩
    · refine At.step hm ht ⟨[], [true], [], [1, 3, 28, 29, 30], [0]⟩ 4 ⟨[(1, .one (.c (.ptr 0 0))), (3, .one (.c (.d (.str out)))), (28, .one (.c (.d (.sl (.pair (.int .u8) (.slice (.int .u8))) t28)))), (29, .one (.c (.d (.int .i64 t29)))), (30, .one (.c (.d (.int .i64 t30))))], [], [(0, [.d (.int .u16 s_0), .d (.int .u16 s_1), .d (.int .u32 s_2), .d (.int .u32 s_3), .d (.int .u8 s_4), .d (.sl (.pair (.int .u8) (.slice (.int .u8))) s_5), .d (.sl (.int .u8) s_6)])], 1⟩ [(decide ((t30 : Int) < t29)) = true] (by kernel_rfl) ⟨b71_e0, trivial⟩ ?_
      obtain ⟨g72_0, h⟩ := ifS h
      refine At.step hm ht ⟨[], [], [], [1, 3, 5, 28, 29, 30], [0, 3]⟩ 5 ⟨[(1, .one (.c (.ptr 0 0))), (3, .one (.c (.d (.str out)))), (5, .one (.c (.ptr 1 0))), (28, .one (.c (.d (.sl (.pair (.int .u8) (.slice (.int .u8))) t28)))), (29, .one (.c (.d (.int .i64 t29)))), (30, .one (.c (.d (.int .i64 t30))))], [], [(0, [.d (.int .u16 s_0), .d (.int .u16 s_1), .d (.int .u32 s_2), .d (.int .u32 s_3), .d (.int .u8 s_4), .d (.sl (.pair (.int .u8) (.slice (.int .u8))) s_5), .d (.sl (.int .u8) s_6)]), (1, [.d (.int .u8 ((t28.getD t30.toNat (0, [])).1)), .d (.sl (.int .u8) ((t28.getD t30.toNat (0, [])).2))])], 2⟩ [(0 : Int) ≤ t30 ∧ t30 < (((t28).length : Nat) : Int), 0 + 2 ≤ 2] (by kernel_rfl) ⟨g72_0, (by decide), trivial⟩ ?_
      obtain ⟨r73_0, cr73_0, h⟩ := bindS h
      obtain ⟨g73_1, h⟩ := ifS h
      obtain ⟨g73_2, h⟩ := ifS h
      refine At.step hm ht ⟨[(2, .call [] [] (f67_trace_Option_out r73_0))], [], [], [1, 3, 28, 29, 30], [0]⟩ 6 ⟨[(1, .one (.c (.ptr 0 0))), (3, .one (.c (.d (.str (out ++ ((⟨#[59, 32]⟩ : ByteArray) ++ r73_0)))))), (28, .one (.c (.d (.sl (.pair (.int .u8) (.slice (.int .u8))) t28)))), (29, .one (.c (.d (.int .i64 t29)))), (30, .one (.c (.d (.int .i64 t30))))], [], [(0, [.d (.int .u16 s_0), .d (.int .u16 s_1), .d (.int .u32 s_2), .d (.int .u32 s_3), .d (.int .u8 s_4), .d (.sl (.pair (.int .u8) (.slice (.int .u8))) s_5), .d (.sl (.int .u8) s_6)])], 1⟩ [FnOK Go.Proofs.Try.prog 67 (f67_trace_Option_in ((t28.getD t30.toNat (0, [])).1) ((t28.getD t30.toNat (0, [])).2)) (f67_trace_Option_out r73_0), (⟨#[59, 32]⟩ : ByteArray).size + r73_0.size ≤ 9223372036854775807, out.size + ((⟨#[59, 32]⟩ : ByteArray) ++ r73_0).size ≤ 9223372036854775807] (by kernel_rfl) ⟨(f67_trace_Option_ok n ((t28.getD t30.toNat (0, [])).1) ((t28.getD t30.toNat (0, [])).2) r73_0 cr73_0), g73_1, g73_2, trivial⟩ ?_
      refine At.step hm ht ⟨[], [], [], [1, 3, 28, 29, 30], [0]⟩ 3 ⟨[(1, .one (.c (.ptr 0 0))), (3, .one (.c (.d (.str (out ++ ((⟨#[59, 32]⟩ : ByteArray) ++ r73_0)))))), (28, .one (.c (.d (.sl (.pair (.int .u8) (.slice (.int .u8))) t28)))), (29, .one (.c (.d (.int .i64 t29)))), (30, .one (.c (.d (.int .i64 (IntKind.wrap .i64 (t30 + 1))))))], [], [(0, [.d (.int .u16 s_0), .d (.int .u16 s_1), .d (.int .u32 s_2), .d (.int .u32 s_3), .d (.int .u8 s_4), .d (.sl (.pair (.int .u8) (.slice (.int .u8))) s_5), .d (.sl (.int .u8) s_6)])], 1⟩ [] (by kernel_rfl) trivial ?_
      exact ih (out ++ ((⟨#[59, 32]⟩ : ByteArray) ++ r73_0)) t28 t29 (IntKind.wrap .i64 (t30 + 1)) s_0 s_1 s_2 s_3 s_4 s_5 s_6 w h o hk
    · refine At.step hm ht ⟨[], [false], [], [1, 3], [0]⟩ 7 ⟨[(1, .one (.c (.ptr 0 0))), (3, .one (.c (.d (.str out))))], [], [(0, [.d (.int .u16 s_0), .d (.int .u16 s_1), .d (.int .u32 s_2), .d (.int .u32 s_3), .d (.int .u8 s_4), .d (.sl (.pair (.int .u8) (.slice (.int .u8))) s_5), .d (.sl (.int .u8) s_6)])], 1⟩ [(decide ((t30 : Int) < t29)) = false] (by kernel_rfl) ⟨b71_e0, trivial⟩ ?_
      have h := Option.some.inj h
      subst h
      exact hk
def f65_trace_Segment (n : Nat) (s_0 : Int) (s_1 : Int) (s_2 : Int) (s_3 : Int) (s_4 : Int) (s_5 : List (Int × List Int)) (s_6 : List Int) : Option (ByteArray) :=
  (f102_num_Text (IntKind.wrap .i64 s_0)).bind fun r20_0 =>
  (f102_num_Text (IntKind.wrap .i64 s_1)).bind fun r20_1 =>
  (f103_trace_hex n (IntKind.wrap .u64 s_2) 4).bind fun r20_2 =>
  (f103_trace_hex n (IntKind.wrap .u64 s_3) 4).bind fun r20_3 =>
  (f104_trace_flags n s_4).bind fun r20_4 =>
  (f101_num_Line n [r20_0, r20_1, (⟨#[115, 101, 113]⟩ : ByteArray), r20_2, (⟨#[97, 99, 107]⟩ : ByteArray), r20_3, r20_4]).bind fun r20_5 =>
  (f65_trace_Segment_L3 n r20_5 s_5 ((s_5.length : Nat) : Int) 0 s_0 s_1 s_2 s_3 s_4 s_5 s_6).bind fun w237 =>
  if w237.1.size + (⟨#[59, 32]⟩ : ByteArray).size ≤ 9223372036854775807 then
  (f102_num_Text ((w237.2.2.2.2.2.2.2.length : Nat) : Int)).bind fun r239_1 =>
  if (w237.1 ++ (⟨#[59, 32]⟩ : ByteArray)).size + r239_1.size ≤ 9223372036854775807 then
  some ((w237.1 ++ (⟨#[59, 32]⟩ : ByteArray)) ++ r239_1)
  else none
  else none
theorem f65_trace_Segment_ok (n : Nat) (s_0 : Int) (s_1 : Int) (s_2 : Int) (s_3 : Int) (s_4 : Int) (s_5 : List (Int × List Int)) (s_6 : List Int) (r : ByteArray) (h : f65_trace_Segment n s_0 s_1 s_2 s_3 s_4 s_5 s_6 = some r) : FnOK Go.Proofs.Try.prog 65 (f65_trace_Segment_in s_0 s_1 s_2 s_3 s_4 s_5 s_6) (f65_trace_Segment_out r) := by
  unfold f65_trace_Segment at h
  refine At.fn (r := 0) Go.Proofs.Try.func65 rfl (by kernel_rfl) rfl rfl (by kernel_rfl) ?_
  show At Go.Proofs.Try.prog Go.Proofs.Try.f65 0 0 ⟨[(0, .one (.agg [.d (.int .u16 s_0), .d (.int .u16 s_1), .d (.int .u32 s_2), .d (.int .u32 s_3), .d (.int .u8 s_4), .d (.sl (.pair (.int .u8) (.slice (.int .u8))) s_5), .d (.sl (.int .u8) s_6)]))], [], [], 0⟩ _
  refine At.step hm ht ⟨[], [], [], [1], [0]⟩ 1 ⟨[(1, .one (.c (.ptr 0 0)))], [], [(0, [.d (.int .u16 s_0), .d (.int .u16 s_1), .d (.int .u32 s_2), .d (.int .u32 s_3), .d (.int .u8 s_4), .d (.sl (.pair (.int .u8) (.slice (.int .u8))) s_5), .d (.sl (.int .u8) s_6)])], 1⟩ [] (by kernel_rfl) trivial ?_
  obtain ⟨r20_0, cr20_0, h⟩ := bindS h
  obtain ⟨r20_1, cr20_1, h⟩ := bindS h
  obtain ⟨r20_2, cr20_2, h⟩ := bindS h
  obtain ⟨r20_3, cr20_3, h⟩ := bindS h
  obtain ⟨r20_4, cr20_4, h⟩ := bindS h
  obtain ⟨r20_5, cr20_5, h⟩ := bindS h
  refine At.step hm ht ⟨[(3, .call [] [] (f102_num_Text_out r20_0)), (7, .call [] [] (f102_num_Text_out r20_1)), (11, .call [] [] (f103_trace_hex_out r20_2)), (15, .call [] [] (f103_trace_hex_out r20_3)), (18, .call [] [] (f104_trace_flags_out r20_4)), (20, .call [] [] (f101_num_Line_out r20_5))], [], [], [1, 3], [0]⟩ 2 ⟨[(1, .one (.c (.ptr 0 0))), (3, .one (.c (.d (.str r20_5))))], [], [(0, [.d (.int .u16 s_0), .d (.int .u16 s_1), .d (.int .u32 s_2), .d (.int .u32 s_3), .d (.int .u8 s_4), .d (.sl (.pair (.int .u8) (.slice (.int .u8))) s_5), .d (.sl (.int .u8) s_6)])], 1⟩ [FnOK Go.Proofs.Try.prog 102 (f102_num_Text_in (IntKind.wrap .i64 s_0)) (f102_num_Text_out r20_0), FnOK Go.Proofs.Try.prog 102 (f102_num_Text_in (IntKind.wrap .i64 s_1)) (f102_num_Text_out r20_1), FnOK Go.Proofs.Try.prog 103 (f103_trace_hex_in (IntKind.wrap .u64 s_2) 4) (f103_trace_hex_out r20_2), FnOK Go.Proofs.Try.prog 103 (f103_trace_hex_in (IntKind.wrap .u64 s_3) 4) (f103_trace_hex_out r20_3), FnOK Go.Proofs.Try.prog 104 (f104_trace_flags_in s_4) (f104_trace_flags_out r20_4), FnOK Go.Proofs.Try.prog 101 (f101_num_Line_in [r20_0, r20_1, (⟨#[115, 101, 113]⟩ : ByteArray), r20_2, (⟨#[97, 99, 107]⟩ : ByteArray), r20_3, r20_4]) (f101_num_Line_out r20_5)] (by kernel_rfl) ⟨(f102_num_Text_ok (IntKind.wrap .i64 s_0) r20_0 cr20_0), (f102_num_Text_ok (IntKind.wrap .i64 s_1) r20_1 cr20_1), (f103_trace_hex_ok n (IntKind.wrap .u64 s_2) 4 r20_2 cr20_2), (f103_trace_hex_ok n (IntKind.wrap .u64 s_3) 4 r20_3 cr20_3), (f104_trace_flags_ok n s_4 r20_4 cr20_4), (f101_num_Line_ok n [r20_0, r20_1, (⟨#[115, 101, 113]⟩ : ByteArray), r20_2, (⟨#[97, 99, 107]⟩ : ByteArray), r20_3, r20_4] r20_5 cr20_5), trivial⟩ ?_
  refine At.step hm ht ⟨[], [], [], [1, 3, 28, 29, 30], [0]⟩ 3 ⟨[(1, .one (.c (.ptr 0 0))), (3, .one (.c (.d (.str r20_5)))), (28, .one (.c (.d (.sl (.pair (.int .u8) (.slice (.int .u8))) s_5)))), (29, .one (.c (.d (.int .i64 ((s_5.length : Nat) : Int))))), (30, .one (.c (.d (.int .i64 0))))], [], [(0, [.d (.int .u16 s_0), .d (.int .u16 s_1), .d (.int .u32 s_2), .d (.int .u32 s_3), .d (.int .u8 s_4), .d (.sl (.pair (.int .u8) (.slice (.int .u8))) s_5), .d (.sl (.int .u8) s_6)])], 1⟩ [] (by kernel_rfl) trivial ?_
  obtain ⟨w237, cw237, h⟩ := bindS h
  refine f65_trace_Segment_L3_ok n r20_5 s_5 ((s_5.length : Nat) : Int) 0 s_0 s_1 s_2 s_3 s_4 s_5 s_6 w237 cw237 _ ?_
  show At Go.Proofs.Try.prog Go.Proofs.Try.f65 0 7 ⟨[(1, .one (.c (.ptr 0 0))), (3, .one (.c (.d (.str w237.1))))], [], [(0, [.d (.int .u16 w237.2.1), .d (.int .u16 w237.2.2.1), .d (.int .u32 w237.2.2.2.1), .d (.int .u32 w237.2.2.2.2.1), .d (.int .u8 w237.2.2.2.2.2.1), .d (.sl (.pair (.int .u8) (.slice (.int .u8))) w237.2.2.2.2.2.2.1), .d (.sl (.int .u8) w237.2.2.2.2.2.2.2)])], 1⟩ _
  obtain ⟨g239_0, h⟩ := ifS h
  obtain ⟨r239_1, cr239_1, h⟩ := bindS h
  obtain ⟨g239_2, h⟩ := ifS h
  have h := Option.some.inj h
  subst h
  exact At.fin hm ht ⟨[(5, .call [] [] (f102_num_Text_out r239_1))], [], [], [2], []⟩ [w237.1.size + (⟨#[59, 32]⟩ : ByteArray).size ≤ 9223372036854775807, FnOK Go.Proofs.Try.prog 102 (f102_num_Text_in ((w237.2.2.2.2.2.2.2.length : Nat) : Int)) (f102_num_Text_out r239_1), (w237.1 ++ (⟨#[59, 32]⟩ : ByteArray)).size + r239_1.size ≤ 9223372036854775807] (by kernel_rfl) ⟨g239_0, (f102_num_Text_ok ((w237.2.2.2.2.2.2.2.length : Nat) : Int) r239_1 cr239_1), g239_2, trivial⟩
/-! brougham/broughamref26.when -/
def f105_broughamref26_when_in (is_ : Bool) (s : ByteArray) : Inn := ⟨[.c (.d (.bool is_)), .c (.d (.str s))], [], [], 0⟩
def f105_broughamref26_when_out (r : ByteArray) : Out := ⟨.one (.c (.d (.str r))), [], [], 0⟩
def f105_broughamref26_when (is_ : Bool) (s : ByteArray) : Option (ByteArray) :=
  if is_ = true then
    if (⟨#[32]⟩ : ByteArray).size + s.size ≤ 9223372036854775807 then
    some ((⟨#[32]⟩ : ByteArray) ++ s)
    else none
  else
    some (⟨#[]⟩ : ByteArray)
theorem f105_broughamref26_when_ok (is_ : Bool) (s : ByteArray) (r : ByteArray) (h : f105_broughamref26_when is_ s = some r) : FnOK Go.Proofs.Try.prog 105 (f105_broughamref26_when_in is_ s) (f105_broughamref26_when_out r) := by
  unfold f105_broughamref26_when at h
  refine At.fn (r := 0) Go.Proofs.Try.func105 rfl (by kernel_rfl) rfl rfl (by kernel_rfl) ?_
  show At Go.Proofs.Try.prog Go.Proofs.Try.f105 0 0 ⟨[(0, .one (.c (.d (.bool is_)))), (1, .one (.c (.d (.str s))))], [], [], 0⟩ _
  refine At.step hm ht ⟨[], [], [], [0, 1], []⟩ 1 ⟨[(0, .one (.c (.d (.bool is_)))), (1, .one (.c (.d (.str s))))], [], [], 0⟩ [] (by kernel_rfl) trivial ?_
  rcases iteS h with ⟨b243_e0, h⟩ | ⟨b243_e0, h⟩
  · refine At.step hm ht ⟨[], [true], [], [1], []⟩ 2 ⟨[(1, .one (.c (.d (.str s))))], [], [], 0⟩ [is_ = true] (by kernel_rfl) ⟨b243_e0, trivial⟩ ?_
    obtain ⟨g244_0, h⟩ := ifS h
    have h := Option.some.inj h
    subst h
    exact At.fin hm ht ⟨[], [], [], [4], []⟩ [(⟨#[32]⟩ : ByteArray).size + s.size ≤ 9223372036854775807] (by kernel_rfl) ⟨g244_0, trivial⟩
  · refine At.step hm ht ⟨[], [false], [], [], []⟩ 3 ⟨[], [], [], 0⟩ [is_ = false] (by kernel_rfl) ⟨b243_e0, trivial⟩ ?_
    have h := Option.some.inj h
    subst h
    exact At.fin hm ht ⟨[], [], [], [4], []⟩ [] (by kernel_rfl) trivial
/-! brougham/broughamref01.Text -/
def f70_broughamref01_Text_in (n_ : Int) : Inn := ⟨[.c (.d (.int .i64 n_))], [], [], 0⟩
def f70_broughamref01_Text_out (r : ByteArray) : Out := ⟨.one (.c (.d (.str r))), [], [], 0⟩
def f70_broughamref01_Text : Nat → Int → Option (ByteArray)
  | 0, _ => none
  | n + 1, n_ =>
    if (decide ((n_ : Int) < 10)) = true then
      if (decide ((n_ : Int) < 0)) = true then
        if cutOk (⟨#[48, 49, 50, 51, 52, 53, 54, 55, 56, 57]⟩ : ByteArray).size (some 0) (some (IntKind.wrap .i64 (0 + 1))) none then
        some ((⟨#[48, 49, 50, 51, 52, 53, 54, 55, 56, 57]⟩ : ByteArray).extract 0 (IntKind.wrap .i64 (0 + 1)).toNat)
        else none
      else
        if cutOk (⟨#[48, 49, 50, 51, 52, 53, 54, 55, 56, 57]⟩ : ByteArray).size (some n_) (some (IntKind.wrap .i64 (n_ + 1))) none then
        some ((⟨#[48, 49, 50, 51, 52, 53, 54, 55, 56, 57]⟩ : ByteArray).extract n_.toNat (IntKind.wrap .i64 (n_ + 1)).toNat)
        else none
    else
      (f70_broughamref01_Text n (IntKind.wrap .i64 (Int.tdiv n_ 10))).bind fun r255_0 =>
      if cutOk (⟨#[48, 49, 50, 51, 52, 53, 54, 55, 56, 57]⟩ : ByteArray).size (some (Int.tmod n_ 10)) (some (IntKind.wrap .i64 ((Int.tmod n_ 10) + 1))) none then
      if r255_0.size + ((⟨#[48, 49, 50, 51, 52, 53, 54, 55, 56, 57]⟩ : ByteArray).extract (Int.tmod n_ 10).toNat (IntKind.wrap .i64 ((Int.tmod n_ 10) + 1)).toNat).size ≤ 9223372036854775807 then
      some (r255_0 ++ ((⟨#[48, 49, 50, 51, 52, 53, 54, 55, 56, 57]⟩ : ByteArray).extract (Int.tmod n_ 10).toNat (IntKind.wrap .i64 ((Int.tmod n_ 10) + 1)).toNat))
      else none
      else none
theorem f70_broughamref01_Text_ok (n : Nat) : ∀ (n_ : Int) (r : ByteArray) (h : f70_broughamref01_Text n n_ = some r), FnOK Go.Proofs.Try.prog 70 (f70_broughamref01_Text_in n_) (f70_broughamref01_Text_out r) := by
  induction n with
  | zero => intro n_ r h; rw [f70_broughamref01_Text] at h; cases h
  | succ n ih =>
    intro n_ r h
    rw [f70_broughamref01_Text] at h
    refine At.fn (r := 0) Go.Proofs.Try.func70 rfl (by kernel_rfl) rfl rfl (by kernel_rfl) ?_
    show At Go.Proofs.Try.prog Go.Proofs.Try.f70 0 0 ⟨[(0, .one (.c (.d (.int .i64 n_))))], [], [], 0⟩ _
    refine At.step hm ht ⟨[], [], [], [0], []⟩ 1 ⟨[(0, .one (.c (.d (.int .i64 n_))))], [], [], 0⟩ [] (by kernel_rfl) trivial ?_
    rcases iteS h with ⟨b250_e0, h⟩ | ⟨b250_e0, h⟩
    · refine At.step hm ht ⟨[], [true], [], [0], []⟩ 2 ⟨[(0, .one (.c (.d (.int .i64 n_))))], [], [], 0⟩ [(decide ((n_ : Int) < 10)) = true] (by kernel_rfl) ⟨b250_e0, trivial⟩ ?_
      rcases iteS h with ⟨b251_e0, h⟩ | ⟨b251_e0, h⟩
      · refine At.step hm ht ⟨[], [true], [], [], []⟩ 3 ⟨[], [], [], 0⟩ [(decide ((n_ : Int) < 0)) = true] (by kernel_rfl) ⟨b251_e0, trivial⟩ ?_
        refine At.step hm ht ⟨[], [], [], [0], []⟩ 4 ⟨[(0, .one (.c (.d (.int .i64 0))))], [], [], 0⟩ [] (by kernel_rfl) trivial ?_
        obtain ⟨g253_0, h⟩ := ifS h
        have h := Option.some.inj h
        subst h
        exact At.fin hm ht ⟨[], [], [], [2], []⟩ [cutOk (⟨#[48, 49, 50, 51, 52, 53, 54, 55, 56, 57]⟩ : ByteArray).size (some 0) (some (IntKind.wrap .i64 (0 + 1))) none] (by kernel_rfl) ⟨g253_0, trivial⟩
      · refine At.step hm ht ⟨[], [false], [], [0], []⟩ 4 ⟨[(0, .one (.c (.d (.int .i64 n_))))], [], [], 0⟩ [(decide ((n_ : Int) < 0)) = false] (by kernel_rfl) ⟨b251_e0, trivial⟩ ?_
        obtain ⟨g254_0, h⟩ := ifS h
        have h := Option.some.inj h
        subst h
        exact At.fin hm ht ⟨[], [], [], [2], []⟩ [cutOk (⟨#[48, 49, 50, 51, 52, 53, 54, 55, 56, 57]⟩ : ByteArray).size (some n_) (some (IntKind.wrap .i64 (n_ + 1))) none] (by kernel_rfl) ⟨g254_0, trivial⟩
    · refine At.step hm ht ⟨[], [false], [], [0], []⟩ 5 ⟨[(0, .one (.c (.d (.int .i64 n_))))], [], [], 0⟩ [(decide ((n_ : Int) < 10)) = false] (by kernel_rfl) ⟨b250_e0, trivial⟩ ?_
      obtain ⟨r255_0, cr255_0, h⟩ := bindS h
      obtain ⟨g255_1, h⟩ := ifS h
      obtain ⟨g255_2, h⟩ := ifS h
      have h := Option.some.inj h
      subst h
      exact At.fin hm ht ⟨[(2, .call [] [] (f70_broughamref01_Text_out r255_0))], [], [], [2], []⟩ [(10 : Int) ≠ 0, FnOK Go.Proofs.Try.prog 70 (f70_broughamref01_Text_in (IntKind.wrap .i64 (Int.tdiv n_ 10))) (f70_broughamref01_Text_out r255_0), (10 : Int) ≠ 0, (10 : Int) ≠ 0, cutOk (⟨#[48, 49, 50, 51, 52, 53, 54, 55, 56, 57]⟩ : ByteArray).size (some (Int.tmod n_ 10)) (some (IntKind.wrap .i64 ((Int.tmod n_ 10) + 1))) none, r255_0.size + ((⟨#[48, 49, 50, 51, 52, 53, 54, 55, 56, 57]⟩ : ByteArray).extract (Int.tmod n_ 10).toNat (IntKind.wrap .i64 ((Int.tmod n_ 10) + 1)).toNat).size ≤ 9223372036854775807] (by kernel_rfl) ⟨(by decide), (ih (IntKind.wrap .i64 (Int.tdiv n_ 10)) r255_0 cr255_0), (by decide), (by decide), g255_1, g255_2, trivial⟩
/-! brougham/broughamref02.Put -/
def f82_broughamref02_Put_in (n_ : Int) (bytes : Int) : Inn := ⟨[.c (.d (.sl .unit [])), .c (.d (.int .u64 n_)), .c (.d (.int .i64 bytes))], [], [], 0⟩
def f82_broughamref02_Put_out (r : List Int) : Out := ⟨.one (.c (.own 0 (.int .u8) r)), [(0, ⟨5, 0⟩)], [], 1⟩
def f82_broughamref02_Put : Nat → Int → Int → Option (List Int)
  | 0, _, _ => none
  | n + 1, n_, bytes =>
    if (decide ((bytes : Int) < 1)) = true then
      some []
    else
      if (decide ((bytes : Int) > 8)) = true then
        some []
      else
        (f82_broughamref02_Put n (IntKind.wrap .u64 (Int.tdiv n_ 256)) (IntKind.wrap .i64 (bytes - 1))).bind fun r274_0 =>
        if r274_0.length + [(IntKind.wrap .u8 (Int.tmod n_ 256))].length ≤ maxLen ∧ (r274_0.length + [(IntKind.wrap .u8 (Int.tmod n_ 256))].length) * 1 ≤ 140737488355328 then
        some (r274_0 ++ [(IntKind.wrap .u8 (Int.tmod n_ 256))])
        else none
theorem f82_broughamref02_Put_ok (n : Nat) : ∀ (n_ : Int) (bytes : Int) (r : List Int) (h : f82_broughamref02_Put n n_ bytes = some r), FnOK Go.Proofs.Try.prog 82 (f82_broughamref02_Put_in n_ bytes) (f82_broughamref02_Put_out r) := by
  induction n with
  | zero => intro n_ bytes r h; rw [f82_broughamref02_Put] at h; cases h
  | succ n ih =>
    intro n_ bytes r h
    rw [f82_broughamref02_Put] at h
    refine At.fn (r := 0) Go.Proofs.Try.func82 rfl (by kernel_rfl) rfl rfl (by kernel_rfl) ?_
    show At Go.Proofs.Try.prog Go.Proofs.Try.f82 0 0 ⟨[(0, .one (.c (.d (.sl .unit [])))), (1, .one (.c (.d (.int .u64 n_)))), (2, .one (.c (.d (.int .i64 bytes))))], [], [], 0⟩ _
    refine At.step hm ht ⟨[], [], [], [0, 1, 2], []⟩ 1 ⟨[(0, .one (.c (.d (.sl .unit [])))), (1, .one (.c (.d (.int .u64 n_)))), (2, .one (.c (.d (.int .i64 bytes))))], [], [], 0⟩ [] (by kernel_rfl) trivial ?_
    rcases iteS h with ⟨b271_2, h⟩ | ⟨b271_2, h⟩
    · refine At.step hm ht ⟨[(2, .b true)], [true], [], [0], []⟩ 2 ⟨[(0, .one (.c (.d (.sl .unit []))))], [], [], 0⟩ [(decide ((bytes : Int) < 1)) = true, true = true] (by kernel_rfl) ⟨b271_2, rfl, trivial⟩ ?_
      have h := Option.some.inj h
      subst h
      exact At.fin hm ht ⟨[], [], [.nil false 6 0 (.int .u8) (some 5)], [6], [2]⟩ [] (by kernel_rfl) trivial
    · rcases iteS h with ⟨b271_e0, h⟩ | ⟨b271_e0, h⟩
      · refine At.step hm ht ⟨[(2, .b false)], [true], [], [0], []⟩ 2 ⟨[(0, .one (.c (.d (.sl .unit []))))], [], [], 0⟩ [(decide ((bytes : Int) < 1)) = false, (decide ((bytes : Int) > 8)) = true] (by kernel_rfl) ⟨b271_2, b271_e0, trivial⟩ ?_
        have h := Option.some.inj h
        subst h
        exact At.fin hm ht ⟨[], [], [.nil false 6 0 (.int .u8) (some 5)], [6], [2]⟩ [] (by kernel_rfl) trivial
      · refine At.step hm ht ⟨[(2, .b false)], [false], [], [0, 1, 2], []⟩ 3 ⟨[(0, .one (.c (.d (.sl .unit [])))), (1, .one (.c (.d (.int .u64 n_)))), (2, .one (.c (.d (.int .i64 bytes))))], [], [], 0⟩ [(decide ((bytes : Int) < 1)) = false, (decide ((bytes : Int) > 8)) = false] (by kernel_rfl) ⟨b271_2, b271_e0, trivial⟩ ?_
        obtain ⟨r274_0, cr274_0, h⟩ := bindS h
        refine At.step hm ht ⟨[(5, .call [] [] (f82_broughamref02_Put_out r274_0))], [], [], [0, 1], [5]⟩ 4 ⟨[(0, .one (.c (.own 0 (.int .u8) r274_0))), (1, .one (.c (.d (.int .u64 n_))))], [(0, some ⟨5, 0⟩)], [], 1⟩ [(256 : Int) ≠ 0, FnOK Go.Proofs.Try.prog 82 (f82_broughamref02_Put_in (IntKind.wrap .u64 (Int.tdiv n_ 256)) (IntKind.wrap .i64 (bytes - 1))) (f82_broughamref02_Put_out r274_0)] (by kernel_rfl) ⟨(by decide), (ih (IntKind.wrap .u64 (Int.tdiv n_ 256)) (IntKind.wrap .i64 (bytes - 1)) r274_0 cr274_0), trivial⟩ ?_
        obtain ⟨g275_0, h⟩ := ifS h
        have h := Option.some.inj h
        subst h
        exact At.fin hm ht ⟨[], [], [], [6], [6]⟩ [(256 : Int) ≠ 0, r274_0.length + [(IntKind.wrap .u8 (Int.tmod n_ 256))].length ≤ maxLen ∧ (r274_0.length + [(IntKind.wrap .u8 (Int.tmod n_ 256))].length) * 1 ≤ 140737488355328] (by kernel_rfl) ⟨(by decide), g275_0, trivial⟩
/-! brougham/broughamref01.Hex -/
def f121_broughamref01_Hex_in (b : List Int) : Inn := ⟨[.c (.d (.sl (.int .u8) b))], [], [], 0⟩
def f121_broughamref01_Hex_out (r : ByteArray) : Out := ⟨.one (.c (.d (.str r))), [], [], 0⟩
def f121_broughamref01_Hex_L5 : Nat → (List Int) → (List Int) → Int → Option (List Int)
  | 0, _, _, _ => none
  | n + 1, b, s, i =>
    if (decide ((i : Int) < ((b.length : Nat) : Int))) = true then
      if (0 : Int) ≤ i ∧ i < (((b).length : Nat) : Int) then
      if (0 : Int) ≤ (IntKind.wrap .u8 (Int.tdiv (b.getD i.toNat 0) 16)) ∧ (IntKind.wrap .u8 (Int.tdiv (b.getD i.toNat 0) 16)) < ((((⟨#[48, 49, 50, 51, 52, 53, 54, 55, 56, 57, 97, 98, 99, 100, 101, 102]⟩ : ByteArray)).size : Nat) : Int) then
      if (0 : Int) ≤ i ∧ i < (((b).length : Nat) : Int) then
      if (0 : Int) ≤ (Int.tmod (b.getD i.toNat 0) 16) ∧ (Int.tmod (b.getD i.toNat 0) 16) < ((((⟨#[48, 49, 50, 51, 52, 53, 54, 55, 56, 57, 97, 98, 99, 100, 101, 102]⟩ : ByteArray)).size : Nat) : Int) then
      if s.length + [(byteAt (⟨#[48, 49, 50, 51, 52, 53, 54, 55, 56, 57, 97, 98, 99, 100, 101, 102]⟩ : ByteArray) (IntKind.wrap .u8 (Int.tdiv (b.getD i.toNat 0) 16))), (byteAt (⟨#[48, 49, 50, 51, 52, 53, 54, 55, 56, 57, 97, 98, 99, 100, 101, 102]⟩ : ByteArray) (Int.tmod (b.getD i.toNat 0) 16))].length ≤ maxLen ∧ (s.length + [(byteAt (⟨#[48, 49, 50, 51, 52, 53, 54, 55, 56, 57, 97, 98, 99, 100, 101, 102]⟩ : ByteArray) (IntKind.wrap .u8 (Int.tdiv (b.getD i.toNat 0) 16))), (byteAt (⟨#[48, 49, 50, 51, 52, 53, 54, 55, 56, 57, 97, 98, 99, 100, 101, 102]⟩ : ByteArray) (Int.tmod (b.getD i.toNat 0) 16))].length) * 1 ≤ 140737488355328 then
      f121_broughamref01_Hex_L5 n b (s ++ [(byteAt (⟨#[48, 49, 50, 51, 52, 53, 54, 55, 56, 57, 97, 98, 99, 100, 101, 102]⟩ : ByteArray) (IntKind.wrap .u8 (Int.tdiv (b.getD i.toNat 0) 16))), (byteAt (⟨#[48, 49, 50, 51, 52, 53, 54, 55, 56, 57, 97, 98, 99, 100, 101, 102]⟩ : ByteArray) (Int.tmod (b.getD i.toNat 0) 16))]) (IntKind.wrap .i64 (i + 1))
      else none
      else none
      else none
      else none
      else none
    else
      some (s)
def f121_broughamref01_Hex_L5_k (e : List Int) (o : Out) : Prop := At Go.Proofs.Try.prog Go.Proofs.Try.f121 0 8 ⟨[(3, .one (.c (.own 0 (.int .u8) e)))], [(0, some ⟨5, 0⟩)], [], 1⟩ o
theorem f121_broughamref01_Hex_L5_ok (n : Nat) : ∀ (b : List Int) (s : List Int) (i : Int) (w : List Int) (h : f121_broughamref01_Hex_L5 n b s i = some w) (o : Out) (hk : f121_broughamref01_Hex_L5_k w o), At Go.Proofs.Try.prog Go.Proofs.Try.f121 0 5 ⟨[(0, .one (.c (.d (.sl (.int .u8) b)))), (3, .one (.c (.own 0 (.int .u8) s))), (4, .one (.c (.d (.int .i64 i))))], [(0, some ⟨5, 0⟩)], [], 1⟩ o := by
  induction n with
  | zero => intro b s i w h; rw [f121_broughamref01_Hex_L5] at h; cases h
  | succ n ih =>
    intro b s i w h o hk
    rw [f121_broughamref01_Hex_L5] at h
    rcases iteS h with ⟨b289_e0, h⟩ | ⟨b289_e0, h⟩
    · refine At.step hm ht ⟨[], [true], [], [0, 3, 4], [0]⟩ 7 ⟨[(0, .one (.c (.d (.sl (.int .u8) b)))), (3, .one (.c (.own 0 (.int .u8) s))), (4, .one (.c (.d (.int .i64 i))))], [(0, some ⟨5, 0⟩)], [], 1⟩ [(decide ((i : Int) < ((b.length : Nat) : Int))) = true] (by kernel_rfl) ⟨b289_e0, trivial⟩ ?_
      obtain ⟨g290_0, h⟩ := ifS h
      obtain ⟨g290_1, h⟩ := ifS h
      obtain ⟨g290_2, h⟩ := ifS h
      obtain ⟨g290_3, h⟩ := ifS h
      obtain ⟨g290_4, h⟩ := ifS h
      refine At.step hm ht ⟨[], [], [], [0, 3, 4], [15]⟩ 6 ⟨[(0, .one (.c (.d (.sl (.int .u8) b)))), (3, .one (.c (.own 0 (.int .u8) (s ++ [(byteAt (⟨#[48, 49, 50, 51, 52, 53, 54, 55, 56, 57, 97, 98, 99, 100, 101, 102]⟩ : ByteArray) (IntKind.wrap .u8 (Int.tdiv (b.getD i.toNat 0) 16))), (byteAt (⟨#[48, 49, 50, 51, 52, 53, 54, 55, 56, 57, 97, 98, 99, 100, 101, 102]⟩ : ByteArray) (Int.tmod (b.getD i.toNat 0) 16))])))), (4, .one (.c (.d (.int .i64 i))))], [(0, some ⟨5, 0⟩)], [], 1⟩ [(0 : Int) ≤ i ∧ i < (((b).length : Nat) : Int), (16 : Int) ≠ 0, (0 : Int) ≤ (IntKind.wrap .u8 (Int.tdiv (b.getD i.toNat 0) 16)) ∧ (IntKind.wrap .u8 (Int.tdiv (b.getD i.toNat 0) 16)) < ((((⟨#[48, 49, 50, 51, 52, 53, 54, 55, 56, 57, 97, 98, 99, 100, 101, 102]⟩ : ByteArray)).size : Nat) : Int), (0 : Int) ≤ i ∧ i < (((b).length : Nat) : Int), (16 : Int) ≠ 0, (0 : Int) ≤ (Int.tmod (b.getD i.toNat 0) 16) ∧ (Int.tmod (b.getD i.toNat 0) 16) < ((((⟨#[48, 49, 50, 51, 52, 53, 54, 55, 56, 57, 97, 98, 99, 100, 101, 102]⟩ : ByteArray)).size : Nat) : Int), s.length + [(byteAt (⟨#[48, 49, 50, 51, 52, 53, 54, 55, 56, 57, 97, 98, 99, 100, 101, 102]⟩ : ByteArray) (IntKind.wrap .u8 (Int.tdiv (b.getD i.toNat 0) 16))), (byteAt (⟨#[48, 49, 50, 51, 52, 53, 54, 55, 56, 57, 97, 98, 99, 100, 101, 102]⟩ : ByteArray) (Int.tmod (b.getD i.toNat 0) 16))].length ≤ maxLen ∧ (s.length + [(byteAt (⟨#[48, 49, 50, 51, 52, 53, 54, 55, 56, 57, 97, 98, 99, 100, 101, 102]⟩ : ByteArray) (IntKind.wrap .u8 (Int.tdiv (b.getD i.toNat 0) 16))), (byteAt (⟨#[48, 49, 50, 51, 52, 53, 54, 55, 56, 57, 97, 98, 99, 100, 101, 102]⟩ : ByteArray) (Int.tmod (b.getD i.toNat 0) 16))].length) * 1 ≤ 140737488355328] (by kernel_rfl) ⟨g290_0, (by decide), g290_1, g290_2, (by decide), g290_3, g290_4, trivial⟩ ?_
      refine At.step hm ht ⟨[], [], [], [0, 3, 4], [0]⟩ 5 ⟨[(0, .one (.c (.d (.sl (.int .u8) b)))), (3, .one (.c (.own 0 (.int .u8) (s ++ [(byteAt (⟨#[48, 49, 50, 51, 52, 53, 54, 55, 56, 57, 97, 98, 99, 100, 101, 102]⟩ : ByteArray) (IntKind.wrap .u8 (Int.tdiv (b.getD i.toNat 0) 16))), (byteAt (⟨#[48, 49, 50, 51, 52, 53, 54, 55, 56, 57, 97, 98, 99, 100, 101, 102]⟩ : ByteArray) (Int.tmod (b.getD i.toNat 0) 16))])))), (4, .one (.c (.d (.int .i64 (IntKind.wrap .i64 (i + 1))))))], [(0, some ⟨5, 0⟩)], [], 1⟩ [] (by kernel_rfl) trivial ?_
      exact ih b (s ++ [(byteAt (⟨#[48, 49, 50, 51, 52, 53, 54, 55, 56, 57, 97, 98, 99, 100, 101, 102]⟩ : ByteArray) (IntKind.wrap .u8 (Int.tdiv (b.getD i.toNat 0) 16))), (byteAt (⟨#[48, 49, 50, 51, 52, 53, 54, 55, 56, 57, 97, 98, 99, 100, 101, 102]⟩ : ByteArray) (Int.tmod (b.getD i.toNat 0) 16))]) (IntKind.wrap .i64 (i + 1)) w h o hk
    · refine At.step hm ht ⟨[], [false], [], [3], [0]⟩ 8 ⟨[(3, .one (.c (.own 0 (.int .u8) s)))], [(0, some ⟨5, 0⟩)], [], 1⟩ [(decide ((i : Int) < ((b.length : Nat) : Int))) = false] (by kernel_rfl) ⟨b289_e0, trivial⟩ ?_
      have h := Option.some.inj h
      subst h
      exact hk
def f121_broughamref01_Hex (n : Nat) (b : List Int) : Option (ByteArray) :=
  if ((((b.length : Nat) : Int) : Int) == 0) = true then
    some (⟨#[45]⟩ : ByteArray)
  else
    (f121_broughamref01_Hex_L5 n b [] 0).bind fun w292 =>
    some (strOfNums w292)
theorem f121_broughamref01_Hex_ok (n : Nat) (b : List Int) (r : ByteArray) (h : f121_broughamref01_Hex n b = some r) : FnOK Go.Proofs.Try.prog 121 (f121_broughamref01_Hex_in b) (f121_broughamref01_Hex_out r) := by
  unfold f121_broughamref01_Hex at h
  refine At.fn (r := 0) Go.Proofs.Try.func121 rfl (by kernel_rfl) rfl rfl (by kernel_rfl) ?_
  show At Go.Proofs.Try.prog Go.Proofs.Try.f121 0 0 ⟨[(0, .one (.c (.d (.sl (.int .u8) b))))], [], [], 0⟩ _
  refine At.step hm ht ⟨[], [], [], [0], []⟩ 1 ⟨[(0, .one (.c (.d (.sl (.int .u8) b))))], [], [], 0⟩ [] (by kernel_rfl) trivial ?_
  rcases iteS h with ⟨b285_e0, h⟩ | ⟨b285_e0, h⟩
  · refine At.step hm ht ⟨[], [true], [], [], []⟩ 2 ⟨[], [], [], 0⟩ [((((b.length : Nat) : Int) : Int) == 0) = true] (by kernel_rfl) ⟨b285_e0, trivial⟩ ?_
    have h := Option.some.inj h
    subst h
    exact At.fin hm ht ⟨[], [], [], [2], []⟩ [] (by kernel_rfl) trivial
  · refine At.step hm ht ⟨[], [false], [], [0], []⟩ 3 ⟨[(0, .one (.c (.d (.sl (.int .u8) b))))], [], [], 0⟩ [((((b.length : Nat) : Int) : Int) == 0) = false] (by kernel_rfl) ⟨b285_e0, trivial⟩ ?_
    refine At.step hm ht ⟨[], [], [], [0, 3], []⟩ 4 ⟨[(0, .one (.c (.d (.sl (.int .u8) b)))), (3, .one (.c (.d (.sl .unit []))))], [], [], 0⟩ [] (by kernel_rfl) trivial ?_
    refine At.step hm ht ⟨[], [], [.nil false 3 0 (.int .u8) (some 5)], [0, 3, 4], [1]⟩ 5 ⟨[(0, .one (.c (.d (.sl (.int .u8) b)))), (3, .one (.c (.own 0 (.int .u8) []))), (4, .one (.c (.d (.int .i64 0))))], [(0, some ⟨5, 0⟩)], [], 1⟩ [] (by kernel_rfl) trivial ?_
    obtain ⟨w292, cw292, h⟩ := bindS h
    refine f121_broughamref01_Hex_L5_ok n b [] 0 w292 cw292 _ ?_
    show At Go.Proofs.Try.prog Go.Proofs.Try.f121 0 8 ⟨[(3, .one (.c (.own 0 (.int .u8) w292)))], [(0, some ⟨5, 0⟩)], [], 1⟩ _
    have h := Option.some.inj h
    subst h
    exact At.fin hm ht ⟨[], [], [], [2], []⟩ [] (by kernel_rfl) trivial
/-! brougham/broughamref26.hex -/
def f106_broughamref26_hex_in (n_ : Int) (bytes : Int) : Inn := ⟨[.c (.d (.int .u64 n_)), .c (.d (.int .i64 bytes))], [], [], 0⟩
def f106_broughamref26_hex_out (r : ByteArray) : Out := ⟨.one (.c (.d (.str r))), [], [], 0⟩
def f106_broughamref26_hex (n : Nat) (n_ : Int) (bytes : Int) : Option (ByteArray) :=
  (f82_broughamref02_Put n n_ bytes).bind fun r257_0 =>
  (f121_broughamref01_Hex n r257_0).bind fun r257_1 =>
  some r257_1
theorem f106_broughamref26_hex_ok (n : Nat) (n_ : Int) (bytes : Int) (r : ByteArray) (h : f106_broughamref26_hex n n_ bytes = some r) : FnOK Go.Proofs.Try.prog 106 (f106_broughamref26_hex_in n_ bytes) (f106_broughamref26_hex_out r) := by
  unfold f106_broughamref26_hex at h
  refine At.fn (r := 0) Go.Proofs.Try.func106 rfl (by kernel_rfl) rfl rfl (by kernel_rfl) ?_
  show At Go.Proofs.Try.prog Go.Proofs.Try.f106 0 0 ⟨[(0, .one (.c (.d (.int .u64 n_)))), (1, .one (.c (.d (.int .i64 bytes))))], [], [], 0⟩ _
  refine At.step hm ht ⟨[], [], [], [0, 1], []⟩ 1 ⟨[(0, .one (.c (.d (.int .u64 n_)))), (1, .one (.c (.d (.int .i64 bytes))))], [], [], 0⟩ [] (by kernel_rfl) trivial ?_
  obtain ⟨r257_0, cr257_0, h⟩ := bindS h
  obtain ⟨r257_1, cr257_1, h⟩ := bindS h
  have h := Option.some.inj h
  subst h
  exact At.fin hm ht ⟨[(2, .call [] [] (f82_broughamref02_Put_out r257_0)), (3, .call [] [] (f121_broughamref01_Hex_out r257_1))], [], [], [4], []⟩ [FnOK Go.Proofs.Try.prog 82 (f82_broughamref02_Put_in n_ bytes) (f82_broughamref02_Put_out r257_0), FnOK Go.Proofs.Try.prog 121 (f121_broughamref01_Hex_in r257_0) (f121_broughamref01_Hex_out r257_1)] (by kernel_rfl) ⟨(f82_broughamref02_Put_ok n n_ bytes r257_0 cr257_0), (f121_broughamref01_Hex_ok n r257_0 r257_1 cr257_1), trivial⟩
/-! brougham/broughamref02.Get -/
def f125_broughamref02_Get_in (b : List Int) (bytes : Int) : Inn := ⟨[.c (.d (.sl (.int .u8) b)), .c (.d (.int .i64 bytes))], [], [], 0⟩
def f125_broughamref02_Get_out (r : Int × List Int × Bool) : Out := ⟨.tup [.c (.d (.int .u64 r.1)), .c (.d (.sl (.int .u8) r.2.1)), .c (.d (.bool r.2.2))], [], [], 0⟩
def f125_broughamref02_Get_L5 : Nat → (List Int) → Int → Int → Int → Option (List Int × Int × Int)
  | 0, _, _, _, _ => none
  | n + 1, b, bytes, n_, i =>
    if (decide ((i : Int) < bytes)) = true then
      if (0 : Int) ≤ i ∧ i < (((b).length : Nat) : Int) then
      f125_broughamref02_Get_L5 n b bytes (IntKind.wrap .u64 ((IntKind.wrap .u64 (n_ * 256)) + (IntKind.wrap .u64 (b.getD i.toNat 0)))) (IntKind.wrap .i64 (i + 1))
      else none
    else
      some ((b, bytes, n_))
def f125_broughamref02_Get_L5_k (e : List Int × Int × Int) (o : Out) : Prop := At Go.Proofs.Try.prog Go.Proofs.Try.f125 0 8 ⟨[(0, .one (.c (.d (.sl (.int .u8) e.1)))), (1, .one (.c (.d (.int .i64 e.2.1)))), (7, .one (.c (.d (.int .u64 e.2.2))))], [], [], 0⟩ o
theorem f125_broughamref02_Get_L5_ok (n : Nat) : ∀ (b : List Int) (bytes : Int) (n_ : Int) (i : Int) (w : List Int × Int × Int) (h : f125_broughamref02_Get_L5 n b bytes n_ i = some w) (o : Out) (hk : f125_broughamref02_Get_L5_k w o), At Go.Proofs.Try.prog Go.Proofs.Try.f125 0 5 ⟨[(0, .one (.c (.d (.sl (.int .u8) b)))), (1, .one (.c (.d (.int .i64 bytes)))), (7, .one (.c (.d (.int .u64 n_)))), (8, .one (.c (.d (.int .i64 i))))], [], [], 0⟩ o := by
  induction n with
  | zero => intro b bytes n_ i w h; rw [f125_broughamref02_Get_L5] at h; cases h
  | succ n ih =>
    intro b bytes n_ i w h o hk
    rw [f125_broughamref02_Get_L5] at h
    rcases iteS h with ⟨b325_e0, h⟩ | ⟨b325_e0, h⟩
    · refine At.step hm ht ⟨[], [true], [], [0, 1, 7, 8], []⟩ 7 ⟨[(0, .one (.c (.d (.sl (.int .u8) b)))), (1, .one (.c (.d (.int .i64 bytes)))), (7, .one (.c (.d (.int .u64 n_)))), (8, .one (.c (.d (.int .i64 i))))], [], [], 0⟩ [(decide ((i : Int) < bytes)) = true] (by kernel_rfl) ⟨b325_e0, trivial⟩ ?_
      obtain ⟨g326_0, h⟩ := ifS h
      refine At.step hm ht ⟨[], [], [], [0, 1, 7, 8], []⟩ 6 ⟨[(0, .one (.c (.d (.sl (.int .u8) b)))), (1, .one (.c (.d (.int .i64 bytes)))), (7, .one (.c (.d (.int .u64 (IntKind.wrap .u64 ((IntKind.wrap .u64 (n_ * 256)) + (IntKind.wrap .u64 (b.getD i.toNat 0)))))))), (8, .one (.c (.d (.int .i64 i))))], [], [], 0⟩ [(0 : Int) ≤ i ∧ i < (((b).length : Nat) : Int)] (by kernel_rfl) ⟨g326_0, trivial⟩ ?_
      refine At.step hm ht ⟨[], [], [], [0, 1, 7, 8], []⟩ 5 ⟨[(0, .one (.c (.d (.sl (.int .u8) b)))), (1, .one (.c (.d (.int .i64 bytes)))), (7, .one (.c (.d (.int .u64 (IntKind.wrap .u64 ((IntKind.wrap .u64 (n_ * 256)) + (IntKind.wrap .u64 (b.getD i.toNat 0)))))))), (8, .one (.c (.d (.int .i64 (IntKind.wrap .i64 (i + 1))))))], [], [], 0⟩ [] (by kernel_rfl) trivial ?_
      exact ih b bytes (IntKind.wrap .u64 ((IntKind.wrap .u64 (n_ * 256)) + (IntKind.wrap .u64 (b.getD i.toNat 0)))) (IntKind.wrap .i64 (i + 1)) w h o hk
    · refine At.step hm ht ⟨[], [false], [], [0, 1, 7], []⟩ 8 ⟨[(0, .one (.c (.d (.sl (.int .u8) b)))), (1, .one (.c (.d (.int .i64 bytes)))), (7, .one (.c (.d (.int .u64 n_))))], [], [], 0⟩ [(decide ((i : Int) < bytes)) = false] (by kernel_rfl) ⟨b325_e0, trivial⟩ ?_
      have h := Option.some.inj h
      subst h
      exact hk
def f125_broughamref02_Get (n : Nat) (b : List Int) (bytes : Int) : Option (Int × List Int × Bool) :=
  if (decide ((bytes : Int) < 1)) = true then
    some (0, [], false)
  else
    if (decide ((bytes : Int) > 8)) = true then
      some (0, [], false)
    else
      if (decide ((((b.length : Nat) : Int) : Int) < bytes)) = true then
        some (0, [], false)
      else
        (f125_broughamref02_Get_L5 n b bytes 0 0).bind fun w328 =>
        if cutOk w328.1.length (some w328.2.1) none none then
        some (w328.2.2, ((w328.1.take w328.1.length).drop w328.2.1.toNat), true)
        else none
theorem f125_broughamref02_Get_ok (n : Nat) (b : List Int) (bytes : Int) (r : Int × List Int × Bool) (h : f125_broughamref02_Get n b bytes = some r) : FnOK Go.Proofs.Try.prog 125 (f125_broughamref02_Get_in b bytes) (f125_broughamref02_Get_out r) := by
  unfold f125_broughamref02_Get at h
  refine At.fn (r := 0) Go.Proofs.Try.func125 rfl (by kernel_rfl) rfl rfl (by kernel_rfl) ?_
  show At Go.Proofs.Try.prog Go.Proofs.Try.f125 0 0 ⟨[(0, .one (.c (.d (.sl (.int .u8) b)))), (1, .one (.c (.d (.int .i64 bytes))))], [], [], 0⟩ _
  refine At.step hm ht ⟨[], [], [], [0, 1], []⟩ 1 ⟨[(0, .one (.c (.d (.sl (.int .u8) b)))), (1, .one (.c (.d (.int .i64 bytes))))], [], [], 0⟩ [] (by kernel_rfl) trivial ?_
  rcases iteS h with ⟨b319_2, h⟩ | ⟨b319_2, h⟩
  · refine At.step hm ht ⟨[(2, .b true)], [true], [], [], []⟩ 2 ⟨[], [], [], 0⟩ [(decide ((bytes : Int) < 1)) = true, true = true] (by kernel_rfl) ⟨b319_2, rfl, trivial⟩ ?_
    have h := Option.some.inj h
    subst h
    exact At.fin hm ht ⟨[], [], [.nil false 5 0 (.int .u8) none], [4, 5, 6], []⟩ [] (by kernel_rfl) trivial
  · rcases iteS h with ⟨b319_6, h⟩ | ⟨b319_6, h⟩
    · refine At.step hm ht ⟨[(2, .b false), (6, .b true)], [true], [], [], []⟩ 2 ⟨[], [], [], 0⟩ [(decide ((bytes : Int) < 1)) = false, (decide ((bytes : Int) > 8)) = true, true = true] (by kernel_rfl) ⟨b319_2, b319_6, rfl, trivial⟩ ?_
      have h := Option.some.inj h
      subst h
      exact At.fin hm ht ⟨[], [], [.nil false 5 0 (.int .u8) none], [4, 5, 6], []⟩ [] (by kernel_rfl) trivial
    · rcases iteS h with ⟨b319_e0, h⟩ | ⟨b319_e0, h⟩
      · refine At.step hm ht ⟨[(2, .b false), (6, .b false)], [true], [], [], []⟩ 2 ⟨[], [], [], 0⟩ [(decide ((bytes : Int) < 1)) = false, (decide ((bytes : Int) > 8)) = false, (decide ((((b.length : Nat) : Int) : Int) < bytes)) = true] (by kernel_rfl) ⟨b319_2, b319_6, b319_e0, trivial⟩ ?_
        have h := Option.some.inj h
        subst h
        exact At.fin hm ht ⟨[], [], [.nil false 5 0 (.int .u8) none], [4, 5, 6], []⟩ [] (by kernel_rfl) trivial
      · refine At.step hm ht ⟨[(2, .b false), (6, .b false)], [false], [], [0, 1], []⟩ 3 ⟨[(0, .one (.c (.d (.sl (.int .u8) b)))), (1, .one (.c (.d (.int .i64 bytes))))], [], [], 0⟩ [(decide ((bytes : Int) < 1)) = false, (decide ((bytes : Int) > 8)) = false, (decide ((((b.length : Nat) : Int) : Int) < bytes)) = false] (by kernel_rfl) ⟨b319_2, b319_6, b319_e0, trivial⟩ ?_
        refine At.step hm ht ⟨[], [], [], [0, 1, 7], []⟩ 4 ⟨[(0, .one (.c (.d (.sl (.int .u8) b)))), (1, .one (.c (.d (.int .i64 bytes)))), (7, .one (.c (.d (.int .u64 0))))], [], [], 0⟩ [] (by kernel_rfl) trivial ?_
        refine At.step hm ht ⟨[], [], [], [0, 1, 7, 8], []⟩ 5 ⟨[(0, .one (.c (.d (.sl (.int .u8) b)))), (1, .one (.c (.d (.int .i64 bytes)))), (7, .one (.c (.d (.int .u64 0)))), (8, .one (.c (.d (.int .i64 0))))], [], [], 0⟩ [] (by kernel_rfl) trivial ?_
        obtain ⟨w328, cw328, h⟩ := bindS h
        refine f125_broughamref02_Get_L5_ok n b bytes 0 0 w328 cw328 _ ?_
        show At Go.Proofs.Try.prog Go.Proofs.Try.f125 0 8 ⟨[(0, .one (.c (.d (.sl (.int .u8) w328.1)))), (1, .one (.c (.d (.int .i64 w328.2.1)))), (7, .one (.c (.d (.int .u64 w328.2.2))))], [], [], 0⟩ _
        obtain ⟨g330_0, h⟩ := ifS h
        have h := Option.some.inj h
        subst h
        exact At.fin hm ht ⟨[], [], [], [4, 5, 6], []⟩ [cutOk w328.1.length (some w328.2.1) none none] (by kernel_rfl) ⟨g330_0, trivial⟩
/-! brougham/broughamref08.ParseKey -/
def f116_broughamref08_ParseKey_in (o__0 : Int) (o__1 : List Int) : Inn := ⟨[.agg [.d (.int .u8 o__0), .d (.sl (.int .u8) o__1)]], [], [], 0⟩
def f116_broughamref08_ParseKey_out (r : Int × Int × Bool × Bool) : Out := ⟨.tup [.c (.d (.int .u64 r.1)), .c (.d (.int .u64 r.2.1)), .c (.d (.bool r.2.2.1)), .c (.d (.bool r.2.2.2))], [], [], 0⟩
def f116_broughamref08_ParseKey (n : Nat) (o__0 : Int) (o__1 : List Int) : Option (Int × Int × Bool × Bool) :=
  if ((o__0 : Int) != 1) = true then
    some (0, 0, false, false)
  else
    if ((((o__1.length : Nat) : Int) : Int) != 8) = true then
      if ((((o__1.length : Nat) : Int) : Int) != 16) = true then
        some (0, 0, false, false)
      else
        (f125_broughamref02_Get n o__1 8).bind fun r304_0 =>
        (f125_broughamref02_Get n r304_0.2.1 8).bind fun r331_0 =>
        some (r304_0.1, r331_0.1, r331_0.2.2, true)
    else
      (f125_broughamref02_Get n o__1 8).bind fun r333_0 =>
      (f125_broughamref02_Get n r333_0.2.1 8).bind fun r334_0 =>
      some (r333_0.1, r334_0.1, r334_0.2.2, true)
theorem f116_broughamref08_ParseKey_ok (n : Nat) (o__0 : Int) (o__1 : List Int) (r : Int × Int × Bool × Bool) (h : f116_broughamref08_ParseKey n o__0 o__1 = some r) : FnOK Go.Proofs.Try.prog 116 (f116_broughamref08_ParseKey_in o__0 o__1) (f116_broughamref08_ParseKey_out r) := by
  unfold f116_broughamref08_ParseKey at h
  refine At.fn (r := 0) Go.Proofs.Try.func116 rfl (by kernel_rfl) rfl rfl (by kernel_rfl) ?_
  show At Go.Proofs.Try.prog Go.Proofs.Try.f116 0 0 ⟨[(0, .one (.agg [.d (.int .u8 o__0), .d (.sl (.int .u8) o__1)]))], [], [], 0⟩ _
  refine At.step hm ht ⟨[], [], [], [1], [0]⟩ 1 ⟨[(1, .one (.c (.ptr 0 0)))], [], [(0, [.d (.int .u8 o__0), .d (.sl (.int .u8) o__1)])], 1⟩ [] (by kernel_rfl) trivial ?_
  rcases iteS h with ⟨b301_3, h⟩ | ⟨b301_3, h⟩
  · refine At.step hm ht ⟨[(3, .b true)], [true], [], [], []⟩ 2 ⟨[], [], [], 0⟩ [((o__0 : Int) != 1) = true, true = true] (by kernel_rfl) ⟨b301_3, rfl, trivial⟩ ?_
    have h := Option.some.inj h
    subst h
    exact At.fin hm ht ⟨[], [], [], [2, 3, 4, 5], []⟩ [] (by kernel_rfl) trivial
  · rcases iteS h with ⟨b301_8, h⟩ | ⟨b301_8, h⟩
    · rcases iteS h with ⟨b301_e0, h⟩ | ⟨b301_e0, h⟩
      · refine At.step hm ht ⟨[(3, .b false), (8, .b true)], [true], [], [], []⟩ 2 ⟨[], [], [], 0⟩ [((o__0 : Int) != 1) = false, ((((o__1.length : Nat) : Int) : Int) != 8) = true, ((((o__1.length : Nat) : Int) : Int) != 16) = true] (by kernel_rfl) ⟨b301_3, b301_8, b301_e0, trivial⟩ ?_
        have h := Option.some.inj h
        subst h
        exact At.fin hm ht ⟨[], [], [], [2, 3, 4, 5], []⟩ [] (by kernel_rfl) trivial
      · refine At.step hm ht ⟨[(3, .b false), (8, .b true)], [false], [], [1], [0]⟩ 3 ⟨[(1, .one (.c (.ptr 0 0)))], [], [(0, [.d (.int .u8 o__0), .d (.sl (.int .u8) o__1)])], 1⟩ [((o__0 : Int) != 1) = false, ((((o__1.length : Nat) : Int) : Int) != 8) = true, ((((o__1.length : Nat) : Int) : Int) != 16) = false] (by kernel_rfl) ⟨b301_3, b301_8, b301_e0, trivial⟩ ?_
        obtain ⟨r304_0, cr304_0, h⟩ := bindS h
        refine At.step hm ht ⟨[(2, .call [] [] (f125_broughamref02_Get_out r304_0))], [], [], [6, 7], []⟩ 4 ⟨[(6, .one (.c (.d (.int .u64 r304_0.1)))), (7, .one (.c (.d (.sl (.int .u8) r304_0.2.1))))], [], [], 0⟩ [FnOK Go.Proofs.Try.prog 125 (f125_broughamref02_Get_in o__1 8) (f125_broughamref02_Get_out r304_0)] (by kernel_rfl) ⟨(f125_broughamref02_Get_ok n o__1 8 r304_0 cr304_0), trivial⟩ ?_
        obtain ⟨r331_0, cr331_0, h⟩ := bindS h
        refine At.step hm ht ⟨[(1, .call [] [] (f125_broughamref02_Get_out r331_0))], [], [], [6, 9, 11], []⟩ 5 ⟨[(6, .one (.c (.d (.int .u64 r304_0.1)))), (9, .one (.c (.d (.int .u64 r331_0.1)))), (11, .one (.c (.d (.bool r331_0.2.2))))], [], [], 0⟩ [FnOK Go.Proofs.Try.prog 125 (f125_broughamref02_Get_in r304_0.2.1 8) (f125_broughamref02_Get_out r331_0)] (by kernel_rfl) ⟨(f125_broughamref02_Get_ok n r304_0.2.1 8 r331_0 cr331_0), trivial⟩ ?_
        have h := Option.some.inj h
        subst h
        exact At.fin hm ht ⟨[], [], [], [2, 3, 4, 5], []⟩ [] (by kernel_rfl) trivial
    · refine At.step hm ht ⟨[(3, .b false), (8, .b false)], [false], [], [1], [0]⟩ 3 ⟨[(1, .one (.c (.ptr 0 0)))], [], [(0, [.d (.int .u8 o__0), .d (.sl (.int .u8) o__1)])], 1⟩ [((o__0 : Int) != 1) = false, ((((o__1.length : Nat) : Int) : Int) != 8) = false, false = false] (by kernel_rfl) ⟨b301_3, b301_8, rfl, trivial⟩ ?_
      obtain ⟨r333_0, cr333_0, h⟩ := bindS h
      refine At.step hm ht ⟨[(2, .call [] [] (f125_broughamref02_Get_out r333_0))], [], [], [6, 7], []⟩ 4 ⟨[(6, .one (.c (.d (.int .u64 r333_0.1)))), (7, .one (.c (.d (.sl (.int .u8) r333_0.2.1))))], [], [], 0⟩ [FnOK Go.Proofs.Try.prog 125 (f125_broughamref02_Get_in o__1 8) (f125_broughamref02_Get_out r333_0)] (by kernel_rfl) ⟨(f125_broughamref02_Get_ok n o__1 8 r333_0 cr333_0), trivial⟩ ?_
      obtain ⟨r334_0, cr334_0, h⟩ := bindS h
      refine At.step hm ht ⟨[(1, .call [] [] (f125_broughamref02_Get_out r334_0))], [], [], [6, 9, 11], []⟩ 5 ⟨[(6, .one (.c (.d (.int .u64 r333_0.1)))), (9, .one (.c (.d (.int .u64 r334_0.1)))), (11, .one (.c (.d (.bool r334_0.2.2))))], [], [], 0⟩ [FnOK Go.Proofs.Try.prog 125 (f125_broughamref02_Get_in r333_0.2.1 8) (f125_broughamref02_Get_out r334_0)] (by kernel_rfl) ⟨(f125_broughamref02_Get_ok n r333_0.2.1 8 r334_0 cr334_0), trivial⟩ ?_
      have h := Option.some.inj h
      subst h
      exact At.fin hm ht ⟨[], [], [], [2, 3, 4, 5], []⟩ [] (by kernel_rfl) trivial
/-! brougham/broughamref02.All -/
def f85_broughamref02_All_in (b : List Int) (sizes : List Int) : Inn := ⟨[.c (.d (.sl (.int .u8) b)), .c (.d (.sl (.int .i64) sizes))], [], [], 0⟩
def f85_broughamref02_All_out (r : List Int × List Int × Bool) : Out := ⟨.tup [.c (.own 0 (.int .u64) r.1), .c (.d (.sl (.int .u8) r.2.1)), .c (.d (.bool r.2.2))], [(0, ⟨22, 0⟩)], [], 1⟩
def f85_broughamref02_All_L3 : Nat → (List Int) → (List Int) → (List Int) → Int → Option ((List Int × List Int × Bool) ⊕ (List Int × List Int))
  | 0, _, _, _, _ => none
  | n + 1, b, sizes, out, i =>
    if (decide ((i : Int) < ((sizes.length : Nat) : Int))) = true then
      if (0 : Int) ≤ i ∧ i < (((sizes).length : Nat) : Int) then
      (f125_broughamref02_Get n b (sizes.getD i.toNat 0)).bind fun r369_1 =>
      if (!r369_1.2.2) = true then
        some (.inl ([], [], false))
      else
        if out.length + [r369_1.1].length ≤ maxLen ∧ (out.length + [r369_1.1].length) * 8 ≤ 140737488355328 then
        f85_broughamref02_All_L3 n r369_1.2.1 sizes (out ++ [r369_1.1]) (IntKind.wrap .i64 (i + 1))
        else none
      else none
    else
      some (.inr ((b, out)))
def f85_broughamref02_All_L3_k (w : (List Int × List Int × Bool) ⊕ (List Int × List Int)) (o : Out) : Prop := match w with
  | .inl e => o = f85_broughamref02_All_out e
  | .inr e => At Go.Proofs.Try.prog Go.Proofs.Try.f85 0 10 ⟨[(0, .one (.c (.d (.sl (.int .u8) e.1)))), (7, .one (.c (.own 0 (.int .u64) e.2)))], [(0, some ⟨22, 0⟩)], [], 1⟩ o
theorem f85_broughamref02_All_L3_ok (n : Nat) : ∀ (b : List Int) (sizes : List Int) (out : List Int) (i : Int) (w : (List Int × List Int × Bool) ⊕ (List Int × List Int)) (h : f85_broughamref02_All_L3 n b sizes out i = some w) (o : Out) (hk : f85_broughamref02_All_L3_k w o), At Go.Proofs.Try.prog Go.Proofs.Try.f85 0 3 ⟨[(0, .one (.c (.d (.sl (.int .u8) b)))), (1, .one (.c (.d (.sl (.int .i64) sizes)))), (7, .one (.c (.own 0 (.int .u64) out))), (8, .one (.c (.d (.int .i64 i))))], [(0, some ⟨22, 0⟩)], [], 1⟩ o := by
  induction n with
  | zero => intro b sizes out i w h; rw [f85_broughamref02_All_L3] at h; cases h
  | succ n ih =>
    intro b sizes out i w h o hk
    rw [f85_broughamref02_All_L3] at h
    rcases iteS h with ⟨b368_e0, h⟩ | ⟨b368_e0, h⟩
    · refine At.step hm ht ⟨[], [true], [], [0, 1, 7, 8], [0]⟩ 5 ⟨[(0, .one (.c (.d (.sl (.int .u8) b)))), (1, .one (.c (.d (.sl (.int .i64) sizes)))), (7, .one (.c (.own 0 (.int .u64) out))), (8, .one (.c (.d (.int .i64 i))))], [(0, some ⟨22, 0⟩)], [], 1⟩ [(decide ((i : Int) < ((sizes.length : Nat) : Int))) = true] (by kernel_rfl) ⟨b368_e0, trivial⟩ ?_
      obtain ⟨g369_0, h⟩ := ifS h
      obtain ⟨r369_1, cr369_1, h⟩ := bindS h
      refine At.step hm ht ⟨[(5, .call [] [] (f125_broughamref02_Get_out r369_1))], [], [], [1, 7, 8, 9, 10, 11], [0]⟩ 6 ⟨[(1, .one (.c (.d (.sl (.int .i64) sizes)))), (7, .one (.c (.own 0 (.int .u64) out))), (8, .one (.c (.d (.int .i64 i)))), (9, .one (.c (.d (.int .u64 r369_1.1)))), (10, .one (.c (.d (.sl (.int .u8) r369_1.2.1)))), (11, .one (.c (.d (.bool r369_1.2.2))))], [(0, some ⟨22, 0⟩)], [], 1⟩ [(0 : Int) ≤ i ∧ i < (((sizes).length : Nat) : Int), FnOK Go.Proofs.Try.prog 125 (f125_broughamref02_Get_in b (sizes.getD i.toNat 0)) (f125_broughamref02_Get_out r369_1)] (by kernel_rfl) ⟨g369_0, (f125_broughamref02_Get_ok n b (sizes.getD i.toNat 0) r369_1 cr369_1), trivial⟩ ?_
      rcases iteS h with ⟨b370_e0, h⟩ | ⟨b370_e0, h⟩
      · refine At.step hm ht ⟨[], [true], [], [], []⟩ 7 ⟨[], [], [], 0⟩ [(!r369_1.2.2) = true] (by kernel_rfl) ⟨b370_e0, trivial⟩ ?_
        have h := Option.some.inj h
        subst h
        have hk : o = f85_broughamref02_All_out ([], [], false) := hk
        subst hk
        exact At.fin hm ht ⟨[], [], [.nil false 4 0 (.int .u64) (some 22), .nil false 5 0 (.int .u8) none], [4, 5, 6], [3]⟩ [] (by kernel_rfl) trivial
      · refine At.step hm ht ⟨[], [false], [], [1, 7, 8, 9, 10], [0]⟩ 8 ⟨[(1, .one (.c (.d (.sl (.int .i64) sizes)))), (7, .one (.c (.own 0 (.int .u64) out))), (8, .one (.c (.d (.int .i64 i)))), (9, .one (.c (.d (.int .u64 r369_1.1)))), (10, .one (.c (.d (.sl (.int .u8) r369_1.2.1))))], [(0, some ⟨22, 0⟩)], [], 1⟩ [(!r369_1.2.2) = false] (by kernel_rfl) ⟨b370_e0, trivial⟩ ?_
        obtain ⟨g372_0, h⟩ := ifS h
        refine At.step hm ht ⟨[], [], [], [1, 7, 8, 10], [4]⟩ 9 ⟨[(1, .one (.c (.d (.sl (.int .i64) sizes)))), (7, .one (.c (.own 0 (.int .u64) (out ++ [r369_1.1])))), (8, .one (.c (.d (.int .i64 i)))), (10, .one (.c (.d (.sl (.int .u8) r369_1.2.1))))], [(0, some ⟨22, 0⟩)], [], 1⟩ [out.length + [r369_1.1].length ≤ maxLen ∧ (out.length + [r369_1.1].length) * 8 ≤ 140737488355328] (by kernel_rfl) ⟨g372_0, trivial⟩ ?_
        refine At.step hm ht ⟨[], [], [], [0, 1, 7, 8], [0]⟩ 4 ⟨[(0, .one (.c (.d (.sl (.int .u8) r369_1.2.1)))), (1, .one (.c (.d (.sl (.int .i64) sizes)))), (7, .one (.c (.own 0 (.int .u64) (out ++ [r369_1.1])))), (8, .one (.c (.d (.int .i64 i))))], [(0, some ⟨22, 0⟩)], [], 1⟩ [] (by kernel_rfl) trivial ?_
        refine At.step hm ht ⟨[], [], [], [0, 1, 7, 8], [0]⟩ 3 ⟨[(0, .one (.c (.d (.sl (.int .u8) r369_1.2.1)))), (1, .one (.c (.d (.sl (.int .i64) sizes)))), (7, .one (.c (.own 0 (.int .u64) (out ++ [r369_1.1])))), (8, .one (.c (.d (.int .i64 (IntKind.wrap .i64 (i + 1))))))], [(0, some ⟨22, 0⟩)], [], 1⟩ [] (by kernel_rfl) trivial ?_
        exact ih r369_1.2.1 sizes (out ++ [r369_1.1]) (IntKind.wrap .i64 (i + 1)) w h o hk
    · refine At.step hm ht ⟨[], [false], [], [0, 7], [0]⟩ 10 ⟨[(0, .one (.c (.d (.sl (.int .u8) b)))), (7, .one (.c (.own 0 (.int .u64) out)))], [(0, some ⟨22, 0⟩)], [], 1⟩ [(decide ((i : Int) < ((sizes.length : Nat) : Int))) = false] (by kernel_rfl) ⟨b368_e0, trivial⟩ ?_
      have h := Option.some.inj h
      subst h
      exact hk
def f85_broughamref02_All (n : Nat) (b : List Int) (sizes : List Int) : Option (List Int × List Int × Bool) :=
  (f85_broughamref02_All_L3 n b sizes [] 0).bind fun w375 =>
  match w375 with
  | .inl e376 =>
    some (e376.1, e376.2.1, e376.2.2)
  | .inr e377 =>
    some (e377.2, e377.1, true)
theorem f85_broughamref02_All_ok (n : Nat) (b : List Int) (sizes : List Int) (r : List Int × List Int × Bool) (h : f85_broughamref02_All n b sizes = some r) : FnOK Go.Proofs.Try.prog 85 (f85_broughamref02_All_in b sizes) (f85_broughamref02_All_out r) := by
  unfold f85_broughamref02_All at h
  refine At.fn (r := 0) Go.Proofs.Try.func85 rfl (by kernel_rfl) rfl rfl (by kernel_rfl) ?_
  show At Go.Proofs.Try.prog Go.Proofs.Try.f85 0 0 ⟨[(0, .one (.c (.d (.sl (.int .u8) b)))), (1, .one (.c (.d (.sl (.int .i64) sizes))))], [], [], 0⟩ _
  refine At.step hm ht ⟨[], [], [], [0, 1], []⟩ 1 ⟨[(0, .one (.c (.d (.sl (.int .u8) b)))), (1, .one (.c (.d (.sl (.int .i64) sizes))))], [], [], 0⟩ [] (by kernel_rfl) trivial ?_
  refine At.step hm ht ⟨[], [], [], [0, 1, 7], []⟩ 2 ⟨[(0, .one (.c (.d (.sl (.int .u8) b)))), (1, .one (.c (.d (.sl (.int .i64) sizes)))), (7, .one (.c (.d (.sl .unit []))))], [], [], 0⟩ [] (by kernel_rfl) trivial ?_
  refine At.step hm ht ⟨[], [], [.nil false 7 0 (.int .u64) (some 22)], [0, 1, 7, 8], [1]⟩ 3 ⟨[(0, .one (.c (.d (.sl (.int .u8) b)))), (1, .one (.c (.d (.sl (.int .i64) sizes)))), (7, .one (.c (.own 0 (.int .u64) []))), (8, .one (.c (.d (.int .i64 0))))], [(0, some ⟨22, 0⟩)], [], 1⟩ [] (by kernel_rfl) trivial ?_
  obtain ⟨w375, cw375, h⟩ := bindS h
  refine f85_broughamref02_All_L3_ok n b sizes [] 0 w375 cw375 _ ?_
  rcases w375 with e376 | e377
  · have h := Option.some.inj h
    subst h
    rfl
  · show At Go.Proofs.Try.prog Go.Proofs.Try.f85 0 10 ⟨[(0, .one (.c (.d (.sl (.int .u8) e377.1)))), (7, .one (.c (.own 0 (.int .u64) e377.2)))], [(0, some ⟨22, 0⟩)], [], 1⟩ _
    have h := Option.some.inj h
    subst h
    exact At.fin hm ht ⟨[], [], [], [4, 5, 6], [0]⟩ [] (by kernel_rfl) trivial
/-! brougham/broughamref08.ParseJoin -/
def f117_broughamref08_ParseJoin_in (o__0 : Int) (o__1 : List Int) : Inn := ⟨[.agg [.d (.int .u8 o__0), .d (.sl (.int .u8) o__1)]], [], [], 0⟩
def f117_broughamref08_ParseJoin_out (r : Bool × Int × Int × Int × Bool × Bool × Int) : Out := ⟨.tup [.agg [.d (.int .u32 r.2.1), .d (.int .u32 r.2.2.1), .d (.int .u8 r.2.2.2.1), .d (.bool r.2.2.2.2.1), .d (.bool r.2.2.2.2.2.1), .d (.int .u64 r.2.2.2.2.2.2)], .c (.d (.bool r.1))], [], [(0, [.d (.int .u32 r.2.1), .d (.int .u32 r.2.2.1), .d (.int .u8 r.2.2.2.1), .d (.bool r.2.2.2.2.1), .d (.bool r.2.2.2.2.2.1), .d (.int .u64 r.2.2.2.2.2.2)])], 1⟩
def f117_broughamref08_ParseJoin (n : Nat) (o__0 : Int) (o__1 : List Int) : Option (Bool × Int × Int × Int × Bool × Bool × Int) :=
  (f85_broughamref02_All n o__1 [4, 4, 1, 1]).bind fun r340_0 =>
  if ((o__0 : Int) != 2) = true then
    some (false, 0, 0, 0, false, false, 0)
  else
    if (!r340_0.2.2) = true then
      some (false, 0, 0, 0, false, false, 0)
    else
      if (0 : Int) ≤ 3 ∧ 3 < (((r340_0.1).length : Nat) : Int) then
      if (decide (((r340_0.1.getD 3 0) : Int) > 1)) = true then
        some (false, 0, 0, 0, false, false, 0)
      else
        if ((((r340_0.2.1.length : Nat) : Int) : Int) != 0) = true then
          if ((((r340_0.2.1.length : Nat) : Int) : Int) != 8) = true then
            some (false, 0, 0, 0, false, false, 0)
          else
            if (0 : Int) ≤ 0 ∧ 0 < (((r340_0.1).length : Nat) : Int) then
            if (0 : Int) ≤ 1 ∧ 1 < (((r340_0.1).length : Nat) : Int) then
            if (0 : Int) ≤ 2 ∧ 2 < (((r340_0.1).length : Nat) : Int) then
            if (0 : Int) ≤ 3 ∧ 3 < (((r340_0.1).length : Nat) : Int) then
            (f125_broughamref02_Get n r340_0.2.1 8).bind fun r385_0 =>
            some (true, (IntKind.wrap .u32 (r340_0.1.getD 0 0)), (IntKind.wrap .u32 (r340_0.1.getD 1 0)), (IntKind.wrap .u8 (r340_0.1.getD 2 0)), (((r340_0.1.getD 3 0) : Int) == 1), r385_0.2.2, r385_0.1)
            else none
            else none
            else none
            else none
        else
          if (0 : Int) ≤ 0 ∧ 0 < (((r340_0.1).length : Nat) : Int) then
          if (0 : Int) ≤ 1 ∧ 1 < (((r340_0.1).length : Nat) : Int) then
          if (0 : Int) ≤ 2 ∧ 2 < (((r340_0.1).length : Nat) : Int) then
          if (0 : Int) ≤ 3 ∧ 3 < (((r340_0.1).length : Nat) : Int) then
          (f125_broughamref02_Get n r340_0.2.1 8).bind fun r388_0 =>
          some (true, (IntKind.wrap .u32 (r340_0.1.getD 0 0)), (IntKind.wrap .u32 (r340_0.1.getD 1 0)), (IntKind.wrap .u8 (r340_0.1.getD 2 0)), (((r340_0.1.getD 3 0) : Int) == 1), r388_0.2.2, r388_0.1)
          else none
          else none
          else none
          else none
      else none
theorem f117_broughamref08_ParseJoin_ok (n : Nat) (o__0 : Int) (o__1 : List Int) (r : Bool × Int × Int × Int × Bool × Bool × Int) (h : f117_broughamref08_ParseJoin n o__0 o__1 = some r) : FnOK Go.Proofs.Try.prog 117 (f117_broughamref08_ParseJoin_in o__0 o__1) (f117_broughamref08_ParseJoin_out r) := by
  unfold f117_broughamref08_ParseJoin at h
  refine At.fn (r := 0) Go.Proofs.Try.func117 rfl (by kernel_rfl) rfl rfl (by kernel_rfl) ?_
  show At Go.Proofs.Try.prog Go.Proofs.Try.f117 0 0 ⟨[(0, .one (.agg [.d (.int .u8 o__0), .d (.sl (.int .u8) o__1)]))], [], [], 0⟩ _
  refine At.step hm ht ⟨[], [], [], [1, 2], [0, 1]⟩ 1 ⟨[(1, .one (.c (.ptr 0 0))), (2, .one (.c (.ptr 1 0)))], [], [(0, [.d (.int .u8 o__0), .d (.sl (.int .u8) o__1)]), (1, [.d (.int .u32 0), .d (.int .u32 0), .d (.int .u8 0), .d (.bool false), .d (.bool false), .d (.int .u64 0)])], 2⟩ [] (by kernel_rfl) trivial ?_
  obtain ⟨r340_0, cr340_0, h⟩ := bindS h
  refine At.step hm ht ⟨[(3, .call [] [] (f85_broughamref02_All_out r340_0))], [], [], [1, 2, 4, 5, 6], [0, 1, 5]⟩ 2 ⟨[(1, .one (.c (.ptr 0 0))), (2, .one (.c (.ptr 1 0))), (4, .one (.c (.own 2 (.int .u64) r340_0.1))), (5, .one (.c (.d (.sl (.int .u8) r340_0.2.1)))), (6, .one (.c (.d (.bool r340_0.2.2))))], [(2, some ⟨22, 0⟩)], [(0, [.d (.int .u8 o__0), .d (.sl (.int .u8) o__1)]), (1, [.d (.int .u32 0), .d (.int .u32 0), .d (.int .u8 0), .d (.bool false), .d (.bool false), .d (.int .u64 0)])], 3⟩ [FnOK Go.Proofs.Try.prog 85 (f85_broughamref02_All_in o__1 [4, 4, 1, 1]) (f85_broughamref02_All_out r340_0)] (by kernel_rfl) ⟨(f85_broughamref02_All_ok n o__1 [4, 4, 1, 1] r340_0 cr340_0), trivial⟩ ?_
  rcases iteS h with ⟨b379_3, h⟩ | ⟨b379_3, h⟩
  · refine At.step hm ht ⟨[(3, .b true)], [true], [], [2], [1]⟩ 3 ⟨[(2, .one (.c (.ptr 0 0)))], [], [(0, [.d (.int .u32 0), .d (.int .u32 0), .d (.int .u8 0), .d (.bool false), .d (.bool false), .d (.int .u64 0)])], 1⟩ [((o__0 : Int) != 2) = true, true = true] (by kernel_rfl) ⟨b379_3, rfl, trivial⟩ ?_
    have h := Option.some.inj h
    subst h
    exact At.fin hm ht ⟨[], [], [], [2, 3], [0]⟩ [0 + 6 ≤ 6] (by kernel_rfl) ⟨(by decide), trivial⟩
  · rcases iteS h with ⟨b379_7, h⟩ | ⟨b379_7, h⟩
    · refine At.step hm ht ⟨[(3, .b false), (7, .b true)], [true], [], [2], [1]⟩ 3 ⟨[(2, .one (.c (.ptr 0 0)))], [], [(0, [.d (.int .u32 0), .d (.int .u32 0), .d (.int .u8 0), .d (.bool false), .d (.bool false), .d (.int .u64 0)])], 1⟩ [((o__0 : Int) != 2) = false, (!r340_0.2.2) = true, true = true] (by kernel_rfl) ⟨b379_3, b379_7, rfl, trivial⟩ ?_
      have h := Option.some.inj h
      subst h
      exact At.fin hm ht ⟨[], [], [], [2, 3], [0]⟩ [0 + 6 ≤ 6] (by kernel_rfl) ⟨(by decide), trivial⟩
    · obtain ⟨g379_0, h⟩ := ifS h
      rcases iteS h with ⟨b379_13, h⟩ | ⟨b379_13, h⟩
      · refine At.step hm ht ⟨[(3, .b false), (7, .b false), (13, .b true)], [true], [], [2], [1]⟩ 3 ⟨[(2, .one (.c (.ptr 0 0)))], [], [(0, [.d (.int .u32 0), .d (.int .u32 0), .d (.int .u8 0), .d (.bool false), .d (.bool false), .d (.int .u64 0)])], 1⟩ [((o__0 : Int) != 2) = false, (!r340_0.2.2) = false, (0 : Int) ≤ 3 ∧ 3 < (((r340_0.1).length : Nat) : Int), (decide (((r340_0.1.getD 3 0) : Int) > 1)) = true, true = true] (by kernel_rfl) ⟨b379_3, b379_7, g379_0, b379_13, rfl, trivial⟩ ?_
        have h := Option.some.inj h
        subst h
        exact At.fin hm ht ⟨[], [], [], [2, 3], [0]⟩ [0 + 6 ≤ 6] (by kernel_rfl) ⟨(by decide), trivial⟩
      · rcases iteS h with ⟨b379_17, h⟩ | ⟨b379_17, h⟩
        · rcases iteS h with ⟨b379_e0, h⟩ | ⟨b379_e0, h⟩
          · refine At.step hm ht ⟨[(3, .b false), (7, .b false), (13, .b false), (17, .b true)], [true], [], [2], [1]⟩ 3 ⟨[(2, .one (.c (.ptr 0 0)))], [], [(0, [.d (.int .u32 0), .d (.int .u32 0), .d (.int .u8 0), .d (.bool false), .d (.bool false), .d (.int .u64 0)])], 1⟩ [((o__0 : Int) != 2) = false, (!r340_0.2.2) = false, (0 : Int) ≤ 3 ∧ 3 < (((r340_0.1).length : Nat) : Int), (decide (((r340_0.1.getD 3 0) : Int) > 1)) = false, ((((r340_0.2.1.length : Nat) : Int) : Int) != 0) = true, ((((r340_0.2.1.length : Nat) : Int) : Int) != 8) = true] (by kernel_rfl) ⟨b379_3, b379_7, g379_0, b379_13, b379_17, b379_e0, trivial⟩ ?_
            have h := Option.some.inj h
            subst h
            exact At.fin hm ht ⟨[], [], [], [2, 3], [0]⟩ [0 + 6 ≤ 6] (by kernel_rfl) ⟨(by decide), trivial⟩
          · refine At.step hm ht ⟨[(3, .b false), (7, .b false), (13, .b false), (17, .b true)], [false], [], [2, 4, 5], [1, 2]⟩ 4 ⟨[(2, .one (.c (.ptr 0 0))), (4, .one (.c (.own 1 (.int .u64) r340_0.1))), (5, .one (.c (.d (.sl (.int .u8) r340_0.2.1))))], [(1, some ⟨22, 0⟩)], [(0, [.d (.int .u32 0), .d (.int .u32 0), .d (.int .u8 0), .d (.bool false), .d (.bool false), .d (.int .u64 0)])], 2⟩ [((o__0 : Int) != 2) = false, (!r340_0.2.2) = false, (0 : Int) ≤ 3 ∧ 3 < (((r340_0.1).length : Nat) : Int), (decide (((r340_0.1.getD 3 0) : Int) > 1)) = false, ((((r340_0.2.1.length : Nat) : Int) : Int) != 0) = true, ((((r340_0.2.1.length : Nat) : Int) : Int) != 8) = false] (by kernel_rfl) ⟨b379_3, b379_7, g379_0, b379_13, b379_17, b379_e0, trivial⟩ ?_
            obtain ⟨g384_0, h⟩ := ifS h
            obtain ⟨g384_1, h⟩ := ifS h
            obtain ⟨g384_2, h⟩ := ifS h
            obtain ⟨g384_3, h⟩ := ifS h
            refine At.step hm ht ⟨[], [], [], [2, 5, 7], [0, 19]⟩ 5 ⟨[(2, .one (.c (.ptr 0 0))), (5, .one (.c (.d (.sl (.int .u8) r340_0.2.1)))), (7, .one (.c (.ptr 1 0)))], [], [(0, [.d (.int .u32 0), .d (.int .u32 0), .d (.int .u8 0), .d (.bool false), .d (.bool false), .d (.int .u64 0)]), (1, [.d (.int .u32 (IntKind.wrap .u32 (r340_0.1.getD 0 0))), .d (.int .u32 (IntKind.wrap .u32 (r340_0.1.getD 1 0))), .d (.int .u8 (IntKind.wrap .u8 (r340_0.1.getD 2 0))), .d (.bool (((r340_0.1.getD 3 0) : Int) == 1)), .d (.bool false), .d (.int .u64 0)])], 2⟩ [(0 : Int) ≤ 0 ∧ 0 < (((r340_0.1).length : Nat) : Int), (0 : Int) ≤ 1 ∧ 1 < (((r340_0.1).length : Nat) : Int), (0 : Int) ≤ 2 ∧ 2 < (((r340_0.1).length : Nat) : Int), (0 : Int) ≤ 3 ∧ 3 < (((r340_0.1).length : Nat) : Int), 0 + 6 ≤ 6] (by kernel_rfl) ⟨g384_0, g384_1, g384_2, g384_3, (by decide), trivial⟩ ?_
            obtain ⟨r385_0, cr385_0, h⟩ := bindS h
            refine At.step hm ht ⟨[(1, .call [] [] (f125_broughamref02_Get_out r385_0))], [], [], [2, 7], [0, 1]⟩ 6 ⟨[(2, .one (.c (.ptr 0 0))), (7, .one (.c (.ptr 1 0)))], [], [(0, [.d (.int .u32 0), .d (.int .u32 0), .d (.int .u8 0), .d (.bool false), .d (.bool false), .d (.int .u64 0)]), (1, [.d (.int .u32 (IntKind.wrap .u32 (r340_0.1.getD 0 0))), .d (.int .u32 (IntKind.wrap .u32 (r340_0.1.getD 1 0))), .d (.int .u8 (IntKind.wrap .u8 (r340_0.1.getD 2 0))), .d (.bool (((r340_0.1.getD 3 0) : Int) == 1)), .d (.bool r385_0.2.2), .d (.int .u64 r385_0.1)])], 2⟩ [FnOK Go.Proofs.Try.prog 125 (f125_broughamref02_Get_in r340_0.2.1 8) (f125_broughamref02_Get_out r385_0), 5 + 1 ≤ 6, 4 + 1 ≤ 6] (by kernel_rfl) ⟨(f125_broughamref02_Get_ok n r340_0.2.1 8 r385_0 cr385_0), (by decide), (by decide), trivial⟩ ?_
            have h := Option.some.inj h
            subst h
            exact At.fin hm ht ⟨[], [], [], [2, 3], [0]⟩ [0 + 6 ≤ 6] (by kernel_rfl) ⟨(by decide), trivial⟩
        · refine At.step hm ht ⟨[(3, .b false), (7, .b false), (13, .b false), (17, .b false)], [false], [], [2, 4, 5], [1, 2]⟩ 4 ⟨[(2, .one (.c (.ptr 0 0))), (4, .one (.c (.own 1 (.int .u64) r340_0.1))), (5, .one (.c (.d (.sl (.int .u8) r340_0.2.1))))], [(1, some ⟨22, 0⟩)], [(0, [.d (.int .u32 0), .d (.int .u32 0), .d (.int .u8 0), .d (.bool false), .d (.bool false), .d (.int .u64 0)])], 2⟩ [((o__0 : Int) != 2) = false, (!r340_0.2.2) = false, (0 : Int) ≤ 3 ∧ 3 < (((r340_0.1).length : Nat) : Int), (decide (((r340_0.1.getD 3 0) : Int) > 1)) = false, ((((r340_0.2.1.length : Nat) : Int) : Int) != 0) = false, false = false] (by kernel_rfl) ⟨b379_3, b379_7, g379_0, b379_13, b379_17, rfl, trivial⟩ ?_
          obtain ⟨g387_0, h⟩ := ifS h
          obtain ⟨g387_1, h⟩ := ifS h
          obtain ⟨g387_2, h⟩ := ifS h
          obtain ⟨g387_3, h⟩ := ifS h
          refine At.step hm ht ⟨[], [], [], [2, 5, 7], [0, 19]⟩ 5 ⟨[(2, .one (.c (.ptr 0 0))), (5, .one (.c (.d (.sl (.int .u8) r340_0.2.1)))), (7, .one (.c (.ptr 1 0)))], [], [(0, [.d (.int .u32 0), .d (.int .u32 0), .d (.int .u8 0), .d (.bool false), .d (.bool false), .d (.int .u64 0)]), (1, [.d (.int .u32 (IntKind.wrap .u32 (r340_0.1.getD 0 0))), .d (.int .u32 (IntKind.wrap .u32 (r340_0.1.getD 1 0))), .d (.int .u8 (IntKind.wrap .u8 (r340_0.1.getD 2 0))), .d (.bool (((r340_0.1.getD 3 0) : Int) == 1)), .d (.bool false), .d (.int .u64 0)])], 2⟩ [(0 : Int) ≤ 0 ∧ 0 < (((r340_0.1).length : Nat) : Int), (0 : Int) ≤ 1 ∧ 1 < (((r340_0.1).length : Nat) : Int), (0 : Int) ≤ 2 ∧ 2 < (((r340_0.1).length : Nat) : Int), (0 : Int) ≤ 3 ∧ 3 < (((r340_0.1).length : Nat) : Int), 0 + 6 ≤ 6] (by kernel_rfl) ⟨g387_0, g387_1, g387_2, g387_3, (by decide), trivial⟩ ?_
          obtain ⟨r388_0, cr388_0, h⟩ := bindS h
          refine At.step hm ht ⟨[(1, .call [] [] (f125_broughamref02_Get_out r388_0))], [], [], [2, 7], [0, 1]⟩ 6 ⟨[(2, .one (.c (.ptr 0 0))), (7, .one (.c (.ptr 1 0)))], [], [(0, [.d (.int .u32 0), .d (.int .u32 0), .d (.int .u8 0), .d (.bool false), .d (.bool false), .d (.int .u64 0)]), (1, [.d (.int .u32 (IntKind.wrap .u32 (r340_0.1.getD 0 0))), .d (.int .u32 (IntKind.wrap .u32 (r340_0.1.getD 1 0))), .d (.int .u8 (IntKind.wrap .u8 (r340_0.1.getD 2 0))), .d (.bool (((r340_0.1.getD 3 0) : Int) == 1)), .d (.bool r388_0.2.2), .d (.int .u64 r388_0.1)])], 2⟩ [FnOK Go.Proofs.Try.prog 125 (f125_broughamref02_Get_in r340_0.2.1 8) (f125_broughamref02_Get_out r388_0), 5 + 1 ≤ 6, 4 + 1 ≤ 6] (by kernel_rfl) ⟨(f125_broughamref02_Get_ok n r340_0.2.1 8 r388_0 cr388_0), (by decide), (by decide), trivial⟩ ?_
          have h := Option.some.inj h
          subst h
          exact At.fin hm ht ⟨[], [], [], [2, 3], [0]⟩ [0 + 6 ≤ 6] (by kernel_rfl) ⟨(by decide), trivial⟩
/-! brougham/broughamref08.ParseData -/
def f118_broughamref08_ParseData_in (o__0 : Int) (o__1 : List Int) : Inn := ⟨[.agg [.d (.int .u8 o__0), .d (.sl (.int .u8) o__1)]], [], [], 0⟩
def f118_broughamref08_ParseData_out (r : Bool × Bool × Bool × Int × Int × Int × Int) : Out := ⟨.tup [.agg [.d (.bool r.2.1), .d (.bool r.2.2.1), .d (.int .u64 r.2.2.2.1), .d (.int .u64 r.2.2.2.2.1), .d (.int .u32 r.2.2.2.2.2.1), .d (.int .u64 r.2.2.2.2.2.2)], .c (.d (.bool r.1))], [], [(0, [.d (.bool r.2.1), .d (.bool r.2.2.1), .d (.int .u64 r.2.2.2.1), .d (.int .u64 r.2.2.2.2.1), .d (.int .u32 r.2.2.2.2.2.1), .d (.int .u64 r.2.2.2.2.2.2)])], 1⟩
def f118_broughamref08_ParseData (n : Nat) (o__0 : Int) (o__1 : List Int) : Option (Bool × Bool × Bool × Int × Int × Int × Int) :=
  (f85_broughamref02_All n o__1 [1, 8, 8, 4, 8]).bind fun r394_0 =>
  if ((o__0 : Int) != 3) = true then
    some (false, false, false, 0, 0, 0, 0)
  else
    if (!r394_0.2.2) = true then
      some (false, false, false, 0, 0, 0, 0)
    else
      if (0 : Int) ≤ 0 ∧ 0 < (((r394_0.1).length : Nat) : Int) then
      if (decide (((r394_0.1.getD 0 0) : Int) > 3)) = true then
        some (false, false, false, 0, 0, 0, 0)
      else
        if ((((r394_0.2.1.length : Nat) : Int) : Int) != 0) = true then
          some (false, false, false, 0, 0, 0, 0)
        else
          if (0 : Int) ≤ 0 ∧ 0 < (((r394_0.1).length : Nat) : Int) then
          if (0 : Int) ≤ 0 ∧ 0 < (((r394_0.1).length : Nat) : Int) then
          if (0 : Int) ≤ 1 ∧ 1 < (((r394_0.1).length : Nat) : Int) then
          if (0 : Int) ≤ 2 ∧ 2 < (((r394_0.1).length : Nat) : Int) then
          if (0 : Int) ≤ 3 ∧ 3 < (((r394_0.1).length : Nat) : Int) then
          if (0 : Int) ≤ 4 ∧ 4 < (((r394_0.1).length : Nat) : Int) then
          some (true, (((Int.tmod (r394_0.1.getD 0 0) 2) : Int) == 1), (decide (((r394_0.1.getD 0 0) : Int) > 1)), (r394_0.1.getD 1 0), (r394_0.1.getD 2 0), (IntKind.wrap .u32 (r394_0.1.getD 3 0)), (r394_0.1.getD 4 0))
          else none
          else none
          else none
          else none
          else none
          else none
      else none
theorem f118_broughamref08_ParseData_ok (n : Nat) (o__0 : Int) (o__1 : List Int) (r : Bool × Bool × Bool × Int × Int × Int × Int) (h : f118_broughamref08_ParseData n o__0 o__1 = some r) : FnOK Go.Proofs.Try.prog 118 (f118_broughamref08_ParseData_in o__0 o__1) (f118_broughamref08_ParseData_out r) := by
  unfold f118_broughamref08_ParseData at h
  refine At.fn (r := 0) Go.Proofs.Try.func118 rfl (by kernel_rfl) rfl rfl (by kernel_rfl) ?_
  show At Go.Proofs.Try.prog Go.Proofs.Try.f118 0 0 ⟨[(0, .one (.agg [.d (.int .u8 o__0), .d (.sl (.int .u8) o__1)]))], [], [], 0⟩ _
  refine At.step hm ht ⟨[], [], [], [1, 2], [0, 1]⟩ 1 ⟨[(1, .one (.c (.ptr 0 0))), (2, .one (.c (.ptr 1 0)))], [], [(0, [.d (.int .u8 o__0), .d (.sl (.int .u8) o__1)]), (1, [.d (.bool false), .d (.bool false), .d (.int .u64 0), .d (.int .u64 0), .d (.int .u32 0), .d (.int .u64 0)])], 2⟩ [] (by kernel_rfl) trivial ?_
  obtain ⟨r394_0, cr394_0, h⟩ := bindS h
  refine At.step hm ht ⟨[(3, .call [] [] (f85_broughamref02_All_out r394_0))], [], [], [1, 2, 4, 5, 6], [0, 1, 5]⟩ 2 ⟨[(1, .one (.c (.ptr 0 0))), (2, .one (.c (.ptr 1 0))), (4, .one (.c (.own 2 (.int .u64) r394_0.1))), (5, .one (.c (.d (.sl (.int .u8) r394_0.2.1)))), (6, .one (.c (.d (.bool r394_0.2.2))))], [(2, some ⟨22, 0⟩)], [(0, [.d (.int .u8 o__0), .d (.sl (.int .u8) o__1)]), (1, [.d (.bool false), .d (.bool false), .d (.int .u64 0), .d (.int .u64 0), .d (.int .u32 0), .d (.int .u64 0)])], 3⟩ [FnOK Go.Proofs.Try.prog 85 (f85_broughamref02_All_in o__1 [1, 8, 8, 4, 8]) (f85_broughamref02_All_out r394_0)] (by kernel_rfl) ⟨(f85_broughamref02_All_ok n o__1 [1, 8, 8, 4, 8] r394_0 cr394_0), trivial⟩ ?_
  rcases iteS h with ⟨b395_3, h⟩ | ⟨b395_3, h⟩
  · refine At.step hm ht ⟨[(3, .b true)], [true], [], [2], [1]⟩ 3 ⟨[(2, .one (.c (.ptr 0 0)))], [], [(0, [.d (.bool false), .d (.bool false), .d (.int .u64 0), .d (.int .u64 0), .d (.int .u32 0), .d (.int .u64 0)])], 1⟩ [((o__0 : Int) != 3) = true, true = true] (by kernel_rfl) ⟨b395_3, rfl, trivial⟩ ?_
    have h := Option.some.inj h
    subst h
    exact At.fin hm ht ⟨[], [], [], [2, 3], [0]⟩ [0 + 6 ≤ 6] (by kernel_rfl) ⟨(by decide), trivial⟩
  · rcases iteS h with ⟨b395_7, h⟩ | ⟨b395_7, h⟩
    · refine At.step hm ht ⟨[(3, .b false), (7, .b true)], [true], [], [2], [1]⟩ 3 ⟨[(2, .one (.c (.ptr 0 0)))], [], [(0, [.d (.bool false), .d (.bool false), .d (.int .u64 0), .d (.int .u64 0), .d (.int .u32 0), .d (.int .u64 0)])], 1⟩ [((o__0 : Int) != 3) = false, (!r394_0.2.2) = true, true = true] (by kernel_rfl) ⟨b395_3, b395_7, rfl, trivial⟩ ?_
      have h := Option.some.inj h
      subst h
      exact At.fin hm ht ⟨[], [], [], [2, 3], [0]⟩ [0 + 6 ≤ 6] (by kernel_rfl) ⟨(by decide), trivial⟩
    · obtain ⟨g395_0, h⟩ := ifS h
      rcases iteS h with ⟨b395_13, h⟩ | ⟨b395_13, h⟩
      · refine At.step hm ht ⟨[(3, .b false), (7, .b false), (13, .b true)], [true], [], [2], [1]⟩ 3 ⟨[(2, .one (.c (.ptr 0 0)))], [], [(0, [.d (.bool false), .d (.bool false), .d (.int .u64 0), .d (.int .u64 0), .d (.int .u32 0), .d (.int .u64 0)])], 1⟩ [((o__0 : Int) != 3) = false, (!r394_0.2.2) = false, (0 : Int) ≤ 0 ∧ 0 < (((r394_0.1).length : Nat) : Int), (decide (((r394_0.1.getD 0 0) : Int) > 3)) = true, true = true] (by kernel_rfl) ⟨b395_3, b395_7, g395_0, b395_13, rfl, trivial⟩ ?_
        have h := Option.some.inj h
        subst h
        exact At.fin hm ht ⟨[], [], [], [2, 3], [0]⟩ [0 + 6 ≤ 6] (by kernel_rfl) ⟨(by decide), trivial⟩
      · rcases iteS h with ⟨b395_e0, h⟩ | ⟨b395_e0, h⟩
        · refine At.step hm ht ⟨[(3, .b false), (7, .b false), (13, .b false)], [true], [], [2], [1]⟩ 3 ⟨[(2, .one (.c (.ptr 0 0)))], [], [(0, [.d (.bool false), .d (.bool false), .d (.int .u64 0), .d (.int .u64 0), .d (.int .u32 0), .d (.int .u64 0)])], 1⟩ [((o__0 : Int) != 3) = false, (!r394_0.2.2) = false, (0 : Int) ≤ 0 ∧ 0 < (((r394_0.1).length : Nat) : Int), (decide (((r394_0.1.getD 0 0) : Int) > 3)) = false, ((((r394_0.2.1.length : Nat) : Int) : Int) != 0) = true] (by kernel_rfl) ⟨b395_3, b395_7, g395_0, b395_13, b395_e0, trivial⟩ ?_
          have h := Option.some.inj h
          subst h
          exact At.fin hm ht ⟨[], [], [], [2, 3], [0]⟩ [0 + 6 ≤ 6] (by kernel_rfl) ⟨(by decide), trivial⟩
        · refine At.step hm ht ⟨[(3, .b false), (7, .b false), (13, .b false)], [false], [], [2, 4], [1, 2]⟩ 4 ⟨[(2, .one (.c (.ptr 0 0))), (4, .one (.c (.own 1 (.int .u64) r394_0.1)))], [(1, some ⟨22, 0⟩)], [(0, [.d (.bool false), .d (.bool false), .d (.int .u64 0), .d (.int .u64 0), .d (.int .u32 0), .d (.int .u64 0)])], 2⟩ [((o__0 : Int) != 3) = false, (!r394_0.2.2) = false, (0 : Int) ≤ 0 ∧ 0 < (((r394_0.1).length : Nat) : Int), (decide (((r394_0.1.getD 0 0) : Int) > 3)) = false, ((((r394_0.2.1.length : Nat) : Int) : Int) != 0) = false] (by kernel_rfl) ⟨b395_3, b395_7, g395_0, b395_13, b395_e0, trivial⟩ ?_
          obtain ⟨g400_0, h⟩ := ifS h
          obtain ⟨g400_1, h⟩ := ifS h
          obtain ⟨g400_2, h⟩ := ifS h
          obtain ⟨g400_3, h⟩ := ifS h
          obtain ⟨g400_4, h⟩ := ifS h
          obtain ⟨g400_5, h⟩ := ifS h
          have h := Option.some.inj h
          subst h
          exact At.fin hm ht ⟨[], [], [], [2, 3], [0]⟩ [(0 : Int) ≤ 0 ∧ 0 < (((r394_0.1).length : Nat) : Int), (2 : Int) ≠ 0, (0 : Int) ≤ 0 ∧ 0 < (((r394_0.1).length : Nat) : Int), (0 : Int) ≤ 1 ∧ 1 < (((r394_0.1).length : Nat) : Int), (0 : Int) ≤ 2 ∧ 2 < (((r394_0.1).length : Nat) : Int), (0 : Int) ≤ 3 ∧ 3 < (((r394_0.1).length : Nat) : Int), (0 : Int) ≤ 4 ∧ 4 < (((r394_0.1).length : Nat) : Int), 0 + 6 ≤ 6] (by kernel_rfl) ⟨g400_0, (by decide), g400_1, g400_2, g400_3, g400_4, g400_5, (by decide), trivial⟩
/-! brougham/broughamref26.wide -/
def f119_broughamref26_wide_in (n_ : Int) : Inn := ⟨[.c (.d (.int .u64 n_))], [], [], 0⟩
def f119_broughamref26_wide_out (r : ByteArray) : Out := ⟨.one (.c (.d (.str r))), [], [], 0⟩
def f119_broughamref26_wide (n : Nat) (n_ : Int) : Option (ByteArray) :=
  if (decide ((n_ : Int) ≥ 4611686018427387904)) = true then
    (f106_broughamref26_hex n n_ 8).bind fun r405_0 =>
    some r405_0
  else
    (f70_broughamref01_Text n (IntKind.wrap .i64 n_)).bind fun r406_0 =>
    some r406_0
theorem f119_broughamref26_wide_ok (n : Nat) (n_ : Int) (r : ByteArray) (h : f119_broughamref26_wide n n_ = some r) : FnOK Go.Proofs.Try.prog 119 (f119_broughamref26_wide_in n_) (f119_broughamref26_wide_out r) := by
  unfold f119_broughamref26_wide at h
  refine At.fn (r := 0) Go.Proofs.Try.func119 rfl (by kernel_rfl) rfl rfl (by kernel_rfl) ?_
  show At Go.Proofs.Try.prog Go.Proofs.Try.f119 0 0 ⟨[(0, .one (.c (.d (.int .u64 n_))))], [], [], 0⟩ _
  refine At.step hm ht ⟨[], [], [], [0], []⟩ 1 ⟨[(0, .one (.c (.d (.int .u64 n_))))], [], [], 0⟩ [] (by kernel_rfl) trivial ?_
  rcases iteS h with ⟨b404_e0, h⟩ | ⟨b404_e0, h⟩
  · refine At.step hm ht ⟨[], [true], [], [0], []⟩ 2 ⟨[(0, .one (.c (.d (.int .u64 n_))))], [], [], 0⟩ [(decide ((n_ : Int) ≥ 4611686018427387904)) = true] (by kernel_rfl) ⟨b404_e0, trivial⟩ ?_
    obtain ⟨r405_0, cr405_0, h⟩ := bindS h
    have h := Option.some.inj h
    subst h
    exact At.fin hm ht ⟨[(1, .call [] [] (f106_broughamref26_hex_out r405_0))], [], [], [2], []⟩ [FnOK Go.Proofs.Try.prog 106 (f106_broughamref26_hex_in n_ 8) (f106_broughamref26_hex_out r405_0)] (by kernel_rfl) ⟨(f106_broughamref26_hex_ok n n_ 8 r405_0 cr405_0), trivial⟩
  · refine At.step hm ht ⟨[], [false], [], [0], []⟩ 3 ⟨[(0, .one (.c (.d (.int .u64 n_))))], [], [], 0⟩ [(decide ((n_ : Int) ≥ 4611686018427387904)) = false] (by kernel_rfl) ⟨b404_e0, trivial⟩ ?_
    obtain ⟨r406_0, cr406_0, h⟩ := bindS h
    have h := Option.some.inj h
    subst h
    exact At.fin hm ht ⟨[(2, .call [] [] (f70_broughamref01_Text_out r406_0))], [], [], [2], []⟩ [FnOK Go.Proofs.Try.prog 70 (f70_broughamref01_Text_in (IntKind.wrap .i64 n_)) (f70_broughamref01_Text_out r406_0)] (by kernel_rfl) ⟨(f70_broughamref01_Text_ok n (IntKind.wrap .i64 n_) r406_0 cr406_0), trivial⟩
/-! brougham/broughamref08.ParseWord -/
def f120_broughamref08_ParseWord_in (o__0 : Int) (o__1 : List Int) : Inn := ⟨[.agg [.d (.int .u8 o__0), .d (.sl (.int .u8) o__1)]], [], [], 0⟩
def f120_broughamref08_ParseWord_out (r : Bool × Int × Int × Int × Bool × Int) : Out := ⟨.tup [.agg [.d (.int .u32 r.2.1), .d (.int .u8 r.2.2.1), .d (.int .u8 r.2.2.2.1), .d (.bool r.2.2.2.2.1), .d (.int .u64 r.2.2.2.2.2)], .c (.d (.bool r.1))], [], [(0, [.d (.int .u32 r.2.1), .d (.int .u8 r.2.2.1), .d (.int .u8 r.2.2.2.1), .d (.bool r.2.2.2.2.1), .d (.int .u64 r.2.2.2.2.2)])], 1⟩
def f120_broughamref08_ParseWord (n : Nat) (o__0 : Int) (o__1 : List Int) : Option (Bool × Int × Int × Int × Bool × Int) :=
  (f85_broughamref02_All n o__1 [4, 1, 1, 1, 8]).bind fun r409_0 =>
  if (decide ((o__0 : Int) < 4)) = true then
    some (false, 0, 0, 0, false, 0)
  else
    if (decide ((o__0 : Int) > 7)) = true then
      some (false, 0, 0, 0, false, 0)
    else
      if (!r409_0.2.2) = true then
        some (false, 0, 0, 0, false, 0)
      else
        if (0 : Int) ≤ 3 ∧ 3 < (((r409_0.1).length : Nat) : Int) then
        if (decide (((r409_0.1.getD 3 0) : Int) > 1)) = true then
          some (false, 0, 0, 0, false, 0)
        else
          if ((((r409_0.2.1.length : Nat) : Int) : Int) != 0) = true then
            some (false, 0, 0, 0, false, 0)
          else
            if (0 : Int) ≤ 0 ∧ 0 < (((r409_0.1).length : Nat) : Int) then
            if (0 : Int) ≤ 1 ∧ 1 < (((r409_0.1).length : Nat) : Int) then
            if (0 : Int) ≤ 2 ∧ 2 < (((r409_0.1).length : Nat) : Int) then
            if (0 : Int) ≤ 3 ∧ 3 < (((r409_0.1).length : Nat) : Int) then
            if (0 : Int) ≤ 4 ∧ 4 < (((r409_0.1).length : Nat) : Int) then
            some (true, (IntKind.wrap .u32 (r409_0.1.getD 0 0)), (IntKind.wrap .u8 (r409_0.1.getD 1 0)), (IntKind.wrap .u8 (r409_0.1.getD 2 0)), (((r409_0.1.getD 3 0) : Int) == 1), (r409_0.1.getD 4 0))
            else none
            else none
            else none
            else none
            else none
        else none
theorem f120_broughamref08_ParseWord_ok (n : Nat) (o__0 : Int) (o__1 : List Int) (r : Bool × Int × Int × Int × Bool × Int) (h : f120_broughamref08_ParseWord n o__0 o__1 = some r) : FnOK Go.Proofs.Try.prog 120 (f120_broughamref08_ParseWord_in o__0 o__1) (f120_broughamref08_ParseWord_out r) := by
  unfold f120_broughamref08_ParseWord at h
  refine At.fn (r := 0) Go.Proofs.Try.func120 rfl (by kernel_rfl) rfl rfl (by kernel_rfl) ?_
  show At Go.Proofs.Try.prog Go.Proofs.Try.f120 0 0 ⟨[(0, .one (.agg [.d (.int .u8 o__0), .d (.sl (.int .u8) o__1)]))], [], [], 0⟩ _
  refine At.step hm ht ⟨[], [], [], [1, 2], [0, 1]⟩ 1 ⟨[(1, .one (.c (.ptr 0 0))), (2, .one (.c (.ptr 1 0)))], [], [(0, [.d (.int .u8 o__0), .d (.sl (.int .u8) o__1)]), (1, [.d (.int .u32 0), .d (.int .u8 0), .d (.int .u8 0), .d (.bool false), .d (.int .u64 0)])], 2⟩ [] (by kernel_rfl) trivial ?_
  obtain ⟨r409_0, cr409_0, h⟩ := bindS h
  refine At.step hm ht ⟨[(3, .call [] [] (f85_broughamref02_All_out r409_0))], [], [], [1, 2, 4, 5, 6], [0, 1, 5]⟩ 2 ⟨[(1, .one (.c (.ptr 0 0))), (2, .one (.c (.ptr 1 0))), (4, .one (.c (.own 2 (.int .u64) r409_0.1))), (5, .one (.c (.d (.sl (.int .u8) r409_0.2.1)))), (6, .one (.c (.d (.bool r409_0.2.2))))], [(2, some ⟨22, 0⟩)], [(0, [.d (.int .u8 o__0), .d (.sl (.int .u8) o__1)]), (1, [.d (.int .u32 0), .d (.int .u8 0), .d (.int .u8 0), .d (.bool false), .d (.int .u64 0)])], 3⟩ [FnOK Go.Proofs.Try.prog 85 (f85_broughamref02_All_in o__1 [4, 1, 1, 1, 8]) (f85_broughamref02_All_out r409_0)] (by kernel_rfl) ⟨(f85_broughamref02_All_ok n o__1 [4, 1, 1, 1, 8] r409_0 cr409_0), trivial⟩ ?_
  rcases iteS h with ⟨b410_3, h⟩ | ⟨b410_3, h⟩
  · refine At.step hm ht ⟨[(3, .b true)], [true], [], [2], [1]⟩ 3 ⟨[(2, .one (.c (.ptr 0 0)))], [], [(0, [.d (.int .u32 0), .d (.int .u8 0), .d (.int .u8 0), .d (.bool false), .d (.int .u64 0)])], 1⟩ [(decide ((o__0 : Int) < 4)) = true, true = true] (by kernel_rfl) ⟨b410_3, rfl, trivial⟩ ?_
    have h := Option.some.inj h
    subst h
    exact At.fin hm ht ⟨[], [], [], [2, 3], [0]⟩ [0 + 5 ≤ 5] (by kernel_rfl) ⟨(by decide), trivial⟩
  · rcases iteS h with ⟨b410_8, h⟩ | ⟨b410_8, h⟩
    · refine At.step hm ht ⟨[(3, .b false), (8, .b true)], [true], [], [2], [1]⟩ 3 ⟨[(2, .one (.c (.ptr 0 0)))], [], [(0, [.d (.int .u32 0), .d (.int .u8 0), .d (.int .u8 0), .d (.bool false), .d (.int .u64 0)])], 1⟩ [(decide ((o__0 : Int) < 4)) = false, (decide ((o__0 : Int) > 7)) = true, true = true] (by kernel_rfl) ⟨b410_3, b410_8, rfl, trivial⟩ ?_
      have h := Option.some.inj h
      subst h
      exact At.fin hm ht ⟨[], [], [], [2, 3], [0]⟩ [0 + 5 ≤ 5] (by kernel_rfl) ⟨(by decide), trivial⟩
    · rcases iteS h with ⟨b410_12, h⟩ | ⟨b410_12, h⟩
      · refine At.step hm ht ⟨[(3, .b false), (8, .b false), (12, .b true)], [true], [], [2], [1]⟩ 3 ⟨[(2, .one (.c (.ptr 0 0)))], [], [(0, [.d (.int .u32 0), .d (.int .u8 0), .d (.int .u8 0), .d (.bool false), .d (.int .u64 0)])], 1⟩ [(decide ((o__0 : Int) < 4)) = false, (decide ((o__0 : Int) > 7)) = false, (!r409_0.2.2) = true, true = true] (by kernel_rfl) ⟨b410_3, b410_8, b410_12, rfl, trivial⟩ ?_
        have h := Option.some.inj h
        subst h
        exact At.fin hm ht ⟨[], [], [], [2, 3], [0]⟩ [0 + 5 ≤ 5] (by kernel_rfl) ⟨(by decide), trivial⟩
      · obtain ⟨g410_0, h⟩ := ifS h
        rcases iteS h with ⟨b410_18, h⟩ | ⟨b410_18, h⟩
        · refine At.step hm ht ⟨[(3, .b false), (8, .b false), (12, .b false), (18, .b true)], [true], [], [2], [1]⟩ 3 ⟨[(2, .one (.c (.ptr 0 0)))], [], [(0, [.d (.int .u32 0), .d (.int .u8 0), .d (.int .u8 0), .d (.bool false), .d (.int .u64 0)])], 1⟩ [(decide ((o__0 : Int) < 4)) = false, (decide ((o__0 : Int) > 7)) = false, (!r409_0.2.2) = false, (0 : Int) ≤ 3 ∧ 3 < (((r409_0.1).length : Nat) : Int), (decide (((r409_0.1.getD 3 0) : Int) > 1)) = true, true = true] (by kernel_rfl) ⟨b410_3, b410_8, b410_12, g410_0, b410_18, rfl, trivial⟩ ?_
          have h := Option.some.inj h
          subst h
          exact At.fin hm ht ⟨[], [], [], [2, 3], [0]⟩ [0 + 5 ≤ 5] (by kernel_rfl) ⟨(by decide), trivial⟩
        · rcases iteS h with ⟨b410_e0, h⟩ | ⟨b410_e0, h⟩
          · refine At.step hm ht ⟨[(3, .b false), (8, .b false), (12, .b false), (18, .b false)], [true], [], [2], [1]⟩ 3 ⟨[(2, .one (.c (.ptr 0 0)))], [], [(0, [.d (.int .u32 0), .d (.int .u8 0), .d (.int .u8 0), .d (.bool false), .d (.int .u64 0)])], 1⟩ [(decide ((o__0 : Int) < 4)) = false, (decide ((o__0 : Int) > 7)) = false, (!r409_0.2.2) = false, (0 : Int) ≤ 3 ∧ 3 < (((r409_0.1).length : Nat) : Int), (decide (((r409_0.1.getD 3 0) : Int) > 1)) = false, ((((r409_0.2.1.length : Nat) : Int) : Int) != 0) = true] (by kernel_rfl) ⟨b410_3, b410_8, b410_12, g410_0, b410_18, b410_e0, trivial⟩ ?_
            have h := Option.some.inj h
            subst h
            exact At.fin hm ht ⟨[], [], [], [2, 3], [0]⟩ [0 + 5 ≤ 5] (by kernel_rfl) ⟨(by decide), trivial⟩
          · refine At.step hm ht ⟨[(3, .b false), (8, .b false), (12, .b false), (18, .b false)], [false], [], [2, 4], [1, 2]⟩ 4 ⟨[(2, .one (.c (.ptr 0 0))), (4, .one (.c (.own 1 (.int .u64) r409_0.1)))], [(1, some ⟨22, 0⟩)], [(0, [.d (.int .u32 0), .d (.int .u8 0), .d (.int .u8 0), .d (.bool false), .d (.int .u64 0)])], 2⟩ [(decide ((o__0 : Int) < 4)) = false, (decide ((o__0 : Int) > 7)) = false, (!r409_0.2.2) = false, (0 : Int) ≤ 3 ∧ 3 < (((r409_0.1).length : Nat) : Int), (decide (((r409_0.1.getD 3 0) : Int) > 1)) = false, ((((r409_0.2.1.length : Nat) : Int) : Int) != 0) = false] (by kernel_rfl) ⟨b410_3, b410_8, b410_12, g410_0, b410_18, b410_e0, trivial⟩ ?_
            obtain ⟨g416_0, h⟩ := ifS h
            obtain ⟨g416_1, h⟩ := ifS h
            obtain ⟨g416_2, h⟩ := ifS h
            obtain ⟨g416_3, h⟩ := ifS h
            obtain ⟨g416_4, h⟩ := ifS h
            have h := Option.some.inj h
            subst h
            exact At.fin hm ht ⟨[], [], [], [2, 3], [0]⟩ [(0 : Int) ≤ 0 ∧ 0 < (((r409_0.1).length : Nat) : Int), (0 : Int) ≤ 1 ∧ 1 < (((r409_0.1).length : Nat) : Int), (0 : Int) ≤ 2 ∧ 2 < (((r409_0.1).length : Nat) : Int), (0 : Int) ≤ 3 ∧ 3 < (((r409_0.1).length : Nat) : Int), (0 : Int) ≤ 4 ∧ 4 < (((r409_0.1).length : Nat) : Int), 0 + 5 ≤ 5] (by kernel_rfl) ⟨g416_0, g416_1, g416_2, g416_3, g416_4, (by decide), trivial⟩
/-! brougham/broughamref26.Option -/
def f68_broughamref26_Option_in (o__0 : Int) (o__1 : List Int) : Inn := ⟨[.agg [.d (.int .u8 o__0), .d (.sl (.int .u8) o__1)]], [], [], 0⟩
def f68_broughamref26_Option_out (r : ByteArray) : Out := ⟨.one (.c (.d (.str r))), [], [], 0⟩
def f68_broughamref26_Option (n : Nat) (o__0 : Int) (o__1 : List Int) : Option (ByteArray) :=
  (f116_broughamref08_ParseKey n o__0 o__1).bind fun r299_0 =>
  if r299_0.2.2.2 = true then
    (f106_broughamref26_hex n r299_0.1 8).bind fun r337_0 =>
    if (⟨#[107, 101, 121, 32]⟩ : ByteArray).size + r337_0.size ≤ 9223372036854775807 then
    (f106_broughamref26_hex n r299_0.2.1 8).bind fun r337_2 =>
    if (⟨#[115, 117, 109, 32]⟩ : ByteArray).size + r337_2.size ≤ 9223372036854775807 then
    (f105_broughamref26_when r299_0.2.2.1 ((⟨#[115, 117, 109, 32]⟩ : ByteArray) ++ r337_2)).bind fun r337_4 =>
    if ((⟨#[107, 101, 121, 32]⟩ : ByteArray) ++ r337_0).size + r337_4.size ≤ 9223372036854775807 then
    some (((⟨#[107, 101, 121, 32]⟩ : ByteArray) ++ r337_0) ++ r337_4)
    else none
    else none
    else none
  else
    (f117_broughamref08_ParseJoin n o__0 o__1).bind fun r338_0 =>
    if r338_0.1 = true then
      (f106_broughamref26_hex n (IntKind.wrap .u64 r338_0.2.1) 4).bind fun r391_0 =>
      if (⟨#[106, 111, 105, 110, 32]⟩ : ByteArray).size + r391_0.size ≤ 9223372036854775807 then
      if ((⟨#[106, 111, 105, 110, 32]⟩ : ByteArray) ++ r391_0).size + (⟨#[32]⟩ : ByteArray).size ≤ 9223372036854775807 then
      (f106_broughamref26_hex n (IntKind.wrap .u64 r338_0.2.2.1) 4).bind fun r391_3 =>
      if (((⟨#[106, 111, 105, 110, 32]⟩ : ByteArray) ++ r391_0) ++ (⟨#[32]⟩ : ByteArray)).size + r391_3.size ≤ 9223372036854775807 then
      if ((((⟨#[106, 111, 105, 110, 32]⟩ : ByteArray) ++ r391_0) ++ (⟨#[32]⟩ : ByteArray)) ++ r391_3).size + (⟨#[32]⟩ : ByteArray).size ≤ 9223372036854775807 then
      (f70_broughamref01_Text n (IntKind.wrap .i64 r338_0.2.2.2.1)).bind fun r391_6 =>
      if (((((⟨#[106, 111, 105, 110, 32]⟩ : ByteArray) ++ r391_0) ++ (⟨#[32]⟩ : ByteArray)) ++ r391_3) ++ (⟨#[32]⟩ : ByteArray)).size + r391_6.size ≤ 9223372036854775807 then
      (f105_broughamref26_when r338_0.2.2.2.2.1 (⟨#[98, 97, 99, 107, 117, 112]⟩ : ByteArray)).bind fun r391_8 =>
      if ((((((⟨#[106, 111, 105, 110, 32]⟩ : ByteArray) ++ r391_0) ++ (⟨#[32]⟩ : ByteArray)) ++ r391_3) ++ (⟨#[32]⟩ : ByteArray)) ++ r391_6).size + r391_8.size ≤ 9223372036854775807 then
      (f106_broughamref26_hex n r338_0.2.2.2.2.2.2 8).bind fun r391_10 =>
      if (⟨#[115, 117, 109, 32]⟩ : ByteArray).size + r391_10.size ≤ 9223372036854775807 then
      (f105_broughamref26_when r338_0.2.2.2.2.2.1 ((⟨#[115, 117, 109, 32]⟩ : ByteArray) ++ r391_10)).bind fun r391_12 =>
      if (((((((⟨#[106, 111, 105, 110, 32]⟩ : ByteArray) ++ r391_0) ++ (⟨#[32]⟩ : ByteArray)) ++ r391_3) ++ (⟨#[32]⟩ : ByteArray)) ++ r391_6) ++ r391_8).size + r391_12.size ≤ 9223372036854775807 then
      some ((((((((⟨#[106, 111, 105, 110, 32]⟩ : ByteArray) ++ r391_0) ++ (⟨#[32]⟩ : ByteArray)) ++ r391_3) ++ (⟨#[32]⟩ : ByteArray)) ++ r391_6) ++ r391_8) ++ r391_12)
      else none
      else none
      else none
      else none
      else none
      else none
      else none
      else none
    else
      (f118_broughamref08_ParseData n o__0 o__1).bind fun r392_0 =>
      if r392_0.1 = true then
        (f119_broughamref26_wide n r392_0.2.2.2.1).bind fun r402_0 =>
        if (⟨#[100, 97, 116, 97, 32]⟩ : ByteArray).size + r402_0.size ≤ 9223372036854775807 then
        if ((⟨#[100, 97, 116, 97, 32]⟩ : ByteArray) ++ r402_0).size + (⟨#[32, 104, 97, 115, 32]⟩ : ByteArray).size ≤ 9223372036854775807 then
        (f119_broughamref26_wide n r392_0.2.2.2.2.1).bind fun r402_3 =>
        if (((⟨#[100, 97, 116, 97, 32]⟩ : ByteArray) ++ r402_0) ++ (⟨#[32, 104, 97, 115, 32]⟩ : ByteArray)).size + r402_3.size ≤ 9223372036854775807 then
        if ((((⟨#[100, 97, 116, 97, 32]⟩ : ByteArray) ++ r402_0) ++ (⟨#[32, 104, 97, 115, 32]⟩ : ByteArray)) ++ r402_3).size + (⟨#[32, 114, 111, 111, 109, 32]⟩ : ByteArray).size ≤ 9223372036854775807 then
        (f70_broughamref01_Text n (IntKind.wrap .i64 r392_0.2.2.2.2.2.1)).bind fun r402_6 =>
        if (((((⟨#[100, 97, 116, 97, 32]⟩ : ByteArray) ++ r402_0) ++ (⟨#[32, 104, 97, 115, 32]⟩ : ByteArray)) ++ r402_3) ++ (⟨#[32, 114, 111, 111, 109, 32]⟩ : ByteArray)).size + r402_6.size ≤ 9223372036854775807 then
        (f105_broughamref26_when r392_0.2.1 (⟨#[102, 105, 110]⟩ : ByteArray)).bind fun r402_8 =>
        if ((((((⟨#[100, 97, 116, 97, 32]⟩ : ByteArray) ++ r402_0) ++ (⟨#[32, 104, 97, 115, 32]⟩ : ByteArray)) ++ r402_3) ++ (⟨#[32, 114, 111, 111, 109, 32]⟩ : ByteArray)) ++ r402_6).size + r402_8.size ≤ 9223372036854775807 then
        (f105_broughamref26_when r392_0.2.2.1 (⟨#[112, 114, 111, 98, 101]⟩ : ByteArray)).bind fun r402_10 =>
        if (((((((⟨#[100, 97, 116, 97, 32]⟩ : ByteArray) ++ r402_0) ++ (⟨#[32, 104, 97, 115, 32]⟩ : ByteArray)) ++ r402_3) ++ (⟨#[32, 114, 111, 111, 109, 32]⟩ : ByteArray)) ++ r402_6) ++ r402_8).size + r402_10.size ≤ 9223372036854775807 then
        if ((((((((⟨#[100, 97, 116, 97, 32]⟩ : ByteArray) ++ r402_0) ++ (⟨#[32, 104, 97, 115, 32]⟩ : ByteArray)) ++ r402_3) ++ (⟨#[32, 114, 111, 111, 109, 32]⟩ : ByteArray)) ++ r402_6) ++ r402_8) ++ r402_10).size + (⟨#[32, 115, 117, 109, 32]⟩ : ByteArray).size ≤ 9223372036854775807 then
        (f106_broughamref26_hex n r392_0.2.2.2.2.2.2 8).bind fun r402_13 =>
        if (((((((((⟨#[100, 97, 116, 97, 32]⟩ : ByteArray) ++ r402_0) ++ (⟨#[32, 104, 97, 115, 32]⟩ : ByteArray)) ++ r402_3) ++ (⟨#[32, 114, 111, 111, 109, 32]⟩ : ByteArray)) ++ r402_6) ++ r402_8) ++ r402_10) ++ (⟨#[32, 115, 117, 109, 32]⟩ : ByteArray)).size + r402_13.size ≤ 9223372036854775807 then
        some ((((((((((⟨#[100, 97, 116, 97, 32]⟩ : ByteArray) ++ r402_0) ++ (⟨#[32, 104, 97, 115, 32]⟩ : ByteArray)) ++ r402_3) ++ (⟨#[32, 114, 111, 111, 109, 32]⟩ : ByteArray)) ++ r402_6) ++ r402_8) ++ r402_10) ++ (⟨#[32, 115, 117, 109, 32]⟩ : ByteArray)) ++ r402_13)
        else none
        else none
        else none
        else none
        else none
        else none
        else none
        else none
        else none
      else
        (f120_broughamref08_ParseWord n o__0 o__1).bind fun r407_0 =>
        if r407_0.1 = true then
          if (0 : Int) ≤ (IntKind.wrap .u8 (o__0 - 4)) ∧ (IntKind.wrap .u8 (o__0 - 4)) < ((([(⟨#[97, 100, 100]⟩ : ByteArray), (⟨#[103, 111, 110, 101]⟩ : ByteArray), (⟨#[112, 114, 105, 111]⟩ : ByteArray), (⟨#[99, 108, 111, 115, 101]⟩ : ByteArray)]).length : Nat) : Int) then
          if ([(⟨#[97, 100, 100]⟩ : ByteArray), (⟨#[103, 111, 110, 101]⟩ : ByteArray), (⟨#[112, 114, 105, 111]⟩ : ByteArray), (⟨#[99, 108, 111, 115, 101]⟩ : ByteArray)].getD (IntKind.wrap .u8 (o__0 - 4)).toNat ByteArray.empty).size + (⟨#[32]⟩ : ByteArray).size ≤ 9223372036854775807 then
          (f70_broughamref01_Text n (IntKind.wrap .i64 r407_0.2.1)).bind fun r418_2 =>
          if (([(⟨#[97, 100, 100]⟩ : ByteArray), (⟨#[103, 111, 110, 101]⟩ : ByteArray), (⟨#[112, 114, 105, 111]⟩ : ByteArray), (⟨#[99, 108, 111, 115, 101]⟩ : ByteArray)].getD (IntKind.wrap .u8 (o__0 - 4)).toNat ByteArray.empty) ++ (⟨#[32]⟩ : ByteArray)).size + r418_2.size ≤ 9223372036854775807 then
          if ((([(⟨#[97, 100, 100]⟩ : ByteArray), (⟨#[103, 111, 110, 101]⟩ : ByteArray), (⟨#[112, 114, 105, 111]⟩ : ByteArray), (⟨#[99, 108, 111, 115, 101]⟩ : ByteArray)].getD (IntKind.wrap .u8 (o__0 - 4)).toNat ByteArray.empty) ++ (⟨#[32]⟩ : ByteArray)) ++ r418_2).size + (⟨#[32]⟩ : ByteArray).size ≤ 9223372036854775807 then
          (f70_broughamref01_Text n (IntKind.wrap .i64 r407_0.2.2.1)).bind fun r418_5 =>
          if (((([(⟨#[97, 100, 100]⟩ : ByteArray), (⟨#[103, 111, 110, 101]⟩ : ByteArray), (⟨#[112, 114, 105, 111]⟩ : ByteArray), (⟨#[99, 108, 111, 115, 101]⟩ : ByteArray)].getD (IntKind.wrap .u8 (o__0 - 4)).toNat ByteArray.empty) ++ (⟨#[32]⟩ : ByteArray)) ++ r418_2) ++ (⟨#[32]⟩ : ByteArray)).size + r418_5.size ≤ 9223372036854775807 then
          if ((((([(⟨#[97, 100, 100]⟩ : ByteArray), (⟨#[103, 111, 110, 101]⟩ : ByteArray), (⟨#[112, 114, 105, 111]⟩ : ByteArray), (⟨#[99, 108, 111, 115, 101]⟩ : ByteArray)].getD (IntKind.wrap .u8 (o__0 - 4)).toNat ByteArray.empty) ++ (⟨#[32]⟩ : ByteArray)) ++ r418_2) ++ (⟨#[32]⟩ : ByteArray)) ++ r418_5).size + (⟨#[32]⟩ : ByteArray).size ≤ 9223372036854775807 then
          (f70_broughamref01_Text n (IntKind.wrap .i64 r407_0.2.2.2.1)).bind fun r418_8 =>
          if (((((([(⟨#[97, 100, 100]⟩ : ByteArray), (⟨#[103, 111, 110, 101]⟩ : ByteArray), (⟨#[112, 114, 105, 111]⟩ : ByteArray), (⟨#[99, 108, 111, 115, 101]⟩ : ByteArray)].getD (IntKind.wrap .u8 (o__0 - 4)).toNat ByteArray.empty) ++ (⟨#[32]⟩ : ByteArray)) ++ r418_2) ++ (⟨#[32]⟩ : ByteArray)) ++ r418_5) ++ (⟨#[32]⟩ : ByteArray)).size + r418_8.size ≤ 9223372036854775807 then
          (f105_broughamref26_when r407_0.2.2.2.2.1 (⟨#[98, 97, 99, 107, 117, 112]⟩ : ByteArray)).bind fun r418_10 =>
          if ((((((([(⟨#[97, 100, 100]⟩ : ByteArray), (⟨#[103, 111, 110, 101]⟩ : ByteArray), (⟨#[112, 114, 105, 111]⟩ : ByteArray), (⟨#[99, 108, 111, 115, 101]⟩ : ByteArray)].getD (IntKind.wrap .u8 (o__0 - 4)).toNat ByteArray.empty) ++ (⟨#[32]⟩ : ByteArray)) ++ r418_2) ++ (⟨#[32]⟩ : ByteArray)) ++ r418_5) ++ (⟨#[32]⟩ : ByteArray)) ++ r418_8).size + r418_10.size ≤ 9223372036854775807 then
          if (((((((([(⟨#[97, 100, 100]⟩ : ByteArray), (⟨#[103, 111, 110, 101]⟩ : ByteArray), (⟨#[112, 114, 105, 111]⟩ : ByteArray), (⟨#[99, 108, 111, 115, 101]⟩ : ByteArray)].getD (IntKind.wrap .u8 (o__0 - 4)).toNat ByteArray.empty) ++ (⟨#[32]⟩ : ByteArray)) ++ r418_2) ++ (⟨#[32]⟩ : ByteArray)) ++ r418_5) ++ (⟨#[32]⟩ : ByteArray)) ++ r418_8) ++ r418_10).size + (⟨#[32, 115, 117, 109, 32]⟩ : ByteArray).size ≤ 9223372036854775807 then
          (f106_broughamref26_hex n r407_0.2.2.2.2.2 8).bind fun r418_13 =>
          if ((((((((([(⟨#[97, 100, 100]⟩ : ByteArray), (⟨#[103, 111, 110, 101]⟩ : ByteArray), (⟨#[112, 114, 105, 111]⟩ : ByteArray), (⟨#[99, 108, 111, 115, 101]⟩ : ByteArray)].getD (IntKind.wrap .u8 (o__0 - 4)).toNat ByteArray.empty) ++ (⟨#[32]⟩ : ByteArray)) ++ r418_2) ++ (⟨#[32]⟩ : ByteArray)) ++ r418_5) ++ (⟨#[32]⟩ : ByteArray)) ++ r418_8) ++ r418_10) ++ (⟨#[32, 115, 117, 109, 32]⟩ : ByteArray)).size + r418_13.size ≤ 9223372036854775807 then
          some (((((((((([(⟨#[97, 100, 100]⟩ : ByteArray), (⟨#[103, 111, 110, 101]⟩ : ByteArray), (⟨#[112, 114, 105, 111]⟩ : ByteArray), (⟨#[99, 108, 111, 115, 101]⟩ : ByteArray)].getD (IntKind.wrap .u8 (o__0 - 4)).toNat ByteArray.empty) ++ (⟨#[32]⟩ : ByteArray)) ++ r418_2) ++ (⟨#[32]⟩ : ByteArray)) ++ r418_5) ++ (⟨#[32]⟩ : ByteArray)) ++ r418_8) ++ r418_10) ++ (⟨#[32, 115, 117, 109, 32]⟩ : ByteArray)) ++ r418_13)
          else none
          else none
          else none
          else none
          else none
          else none
          else none
          else none
          else none
          else none
        else
          (f70_broughamref01_Text n (IntKind.wrap .i64 o__0)).bind fun r419_0 =>
          if (⟨#[111, 112, 116, 105, 111, 110, 32]⟩ : ByteArray).size + r419_0.size ≤ 9223372036854775807 then
          if ((⟨#[111, 112, 116, 105, 111, 110, 32]⟩ : ByteArray) ++ r419_0).size + (⟨#[32]⟩ : ByteArray).size ≤ 9223372036854775807 then
          (f121_broughamref01_Hex n o__1).bind fun r419_3 =>
          if (((⟨#[111, 112, 116, 105, 111, 110, 32]⟩ : ByteArray) ++ r419_0) ++ (⟨#[32]⟩ : ByteArray)).size + r419_3.size ≤ 9223372036854775807 then
          some ((((⟨#[111, 112, 116, 105, 111, 110, 32]⟩ : ByteArray) ++ r419_0) ++ (⟨#[32]⟩ : ByteArray)) ++ r419_3)
          else none
          else none
          else none
theorem f68_broughamref26_Option_ok (n : Nat) (o__0 : Int) (o__1 : List Int) (r : ByteArray) (h : f68_broughamref26_Option n o__0 o__1 = some r) : FnOK Go.Proofs.Try.prog 68 (f68_broughamref26_Option_in o__0 o__1) (f68_broughamref26_Option_out r) := by
  unfold f68_broughamref26_Option at h
  refine At.fn (r := 0) Go.Proofs.Try.func68 rfl (by kernel_rfl) rfl rfl (by kernel_rfl) ?_
  show At Go.Proofs.Try.prog Go.Proofs.Try.f68 0 0 ⟨[(0, .one (.agg [.d (.int .u8 o__0), .d (.sl (.int .u8) o__1)]))], [], [], 0⟩ _
  refine At.step hm ht ⟨[], [], [], [1], [0]⟩ 1 ⟨[(1, .one (.c (.ptr 0 0)))], [], [(0, [.d (.int .u8 o__0), .d (.sl (.int .u8) o__1)])], 1⟩ [] (by kernel_rfl) trivial ?_
  obtain ⟨r299_0, cr299_0, h⟩ := bindS h
  refine At.step hm ht ⟨[(1, .call [] [] (f116_broughamref08_ParseKey_out r299_0))], [], [], [1, 3, 4, 5, 6], [0]⟩ 2 ⟨[(1, .one (.c (.ptr 0 0))), (3, .one (.c (.d (.int .u64 r299_0.1)))), (4, .one (.c (.d (.int .u64 r299_0.2.1)))), (5, .one (.c (.d (.bool r299_0.2.2.1)))), (6, .one (.c (.d (.bool r299_0.2.2.2))))], [], [(0, [.d (.int .u8 o__0), .d (.sl (.int .u8) o__1)])], 1⟩ [FnOK Go.Proofs.Try.prog 116 (f116_broughamref08_ParseKey_in o__0 o__1) (f116_broughamref08_ParseKey_out r299_0)] (by kernel_rfl) ⟨(f116_broughamref08_ParseKey_ok n o__0 o__1 r299_0 cr299_0), trivial⟩ ?_
  rcases iteS h with ⟨b336_e0, h⟩ | ⟨b336_e0, h⟩
  · refine At.step hm ht ⟨[], [true], [], [3, 4, 5], []⟩ 3 ⟨[(3, .one (.c (.d (.int .u64 r299_0.1)))), (4, .one (.c (.d (.int .u64 r299_0.2.1)))), (5, .one (.c (.d (.bool r299_0.2.2.1))))], [], [], 0⟩ [r299_0.2.2.2 = true] (by kernel_rfl) ⟨b336_e0, trivial⟩ ?_
    obtain ⟨r337_0, cr337_0, h⟩ := bindS h
    obtain ⟨g337_1, h⟩ := ifS h
    obtain ⟨r337_2, cr337_2, h⟩ := bindS h
    obtain ⟨g337_3, h⟩ := ifS h
    obtain ⟨r337_4, cr337_4, h⟩ := bindS h
    obtain ⟨g337_5, h⟩ := ifS h
    have h := Option.some.inj h
    subst h
    exact At.fin hm ht ⟨[(1, .call [] [] (f106_broughamref26_hex_out r337_0)), (5, .call [] [] (f106_broughamref26_hex_out r337_2)), (7, .call [] [] (f105_broughamref26_when_out r337_4))], [], [], [2], []⟩ [FnOK Go.Proofs.Try.prog 106 (f106_broughamref26_hex_in r299_0.1 8) (f106_broughamref26_hex_out r337_0), (⟨#[107, 101, 121, 32]⟩ : ByteArray).size + r337_0.size ≤ 9223372036854775807, FnOK Go.Proofs.Try.prog 106 (f106_broughamref26_hex_in r299_0.2.1 8) (f106_broughamref26_hex_out r337_2), (⟨#[115, 117, 109, 32]⟩ : ByteArray).size + r337_2.size ≤ 9223372036854775807, FnOK Go.Proofs.Try.prog 105 (f105_broughamref26_when_in r299_0.2.2.1 ((⟨#[115, 117, 109, 32]⟩ : ByteArray) ++ r337_2)) (f105_broughamref26_when_out r337_4), ((⟨#[107, 101, 121, 32]⟩ : ByteArray) ++ r337_0).size + r337_4.size ≤ 9223372036854775807] (by kernel_rfl) ⟨(f106_broughamref26_hex_ok n r299_0.1 8 r337_0 cr337_0), g337_1, (f106_broughamref26_hex_ok n r299_0.2.1 8 r337_2 cr337_2), g337_3, (f105_broughamref26_when_ok r299_0.2.2.1 ((⟨#[115, 117, 109, 32]⟩ : ByteArray) ++ r337_2) r337_4 cr337_4), g337_5, trivial⟩
  · refine At.step hm ht ⟨[], [false], [], [1], [0]⟩ 4 ⟨[(1, .one (.c (.ptr 0 0)))], [], [(0, [.d (.int .u8 o__0), .d (.sl (.int .u8) o__1)])], 1⟩ [r299_0.2.2.2 = false] (by kernel_rfl) ⟨b336_e0, trivial⟩ ?_
    obtain ⟨r338_0, cr338_0, h⟩ := bindS h
    refine At.step hm ht ⟨[(1, .call [] [] (f117_broughamref08_ParseJoin_out r338_0))], [], [], [1, 6, 7], [0, 6]⟩ 5 ⟨[(1, .one (.c (.ptr 0 0))), (6, .one (.c (.d (.bool r338_0.1)))), (7, .one (.c (.ptr 1 0)))], [], [(0, [.d (.int .u8 o__0), .d (.sl (.int .u8) o__1)]), (1, [.d (.int .u32 r338_0.2.1), .d (.int .u32 r338_0.2.2.1), .d (.int .u8 r338_0.2.2.2.1), .d (.bool r338_0.2.2.2.2.1), .d (.bool r338_0.2.2.2.2.2.1), .d (.int .u64 r338_0.2.2.2.2.2.2)])], 2⟩ [FnOK Go.Proofs.Try.prog 117 (f117_broughamref08_ParseJoin_in o__0 o__1) (f117_broughamref08_ParseJoin_out r338_0), 0 + 6 ≤ 6] (by kernel_rfl) ⟨(f117_broughamref08_ParseJoin_ok n o__0 o__1 r338_0 cr338_0), (by decide), trivial⟩ ?_
    rcases iteS h with ⟨b390_e0, h⟩ | ⟨b390_e0, h⟩
    · refine At.step hm ht ⟨[], [true], [], [7], [1]⟩ 6 ⟨[(7, .one (.c (.ptr 0 0)))], [], [(0, [.d (.int .u32 r338_0.2.1), .d (.int .u32 r338_0.2.2.1), .d (.int .u8 r338_0.2.2.2.1), .d (.bool r338_0.2.2.2.2.1), .d (.bool r338_0.2.2.2.2.2.1), .d (.int .u64 r338_0.2.2.2.2.2.2)])], 1⟩ [r338_0.1 = true] (by kernel_rfl) ⟨b390_e0, trivial⟩ ?_
      obtain ⟨r391_0, cr391_0, h⟩ := bindS h
      obtain ⟨g391_1, h⟩ := ifS h
      obtain ⟨g391_2, h⟩ := ifS h
      obtain ⟨r391_3, cr391_3, h⟩ := bindS h
      obtain ⟨g391_4, h⟩ := ifS h
      obtain ⟨g391_5, h⟩ := ifS h
      obtain ⟨r391_6, cr391_6, h⟩ := bindS h
      obtain ⟨g391_7, h⟩ := ifS h
      obtain ⟨r391_8, cr391_8, h⟩ := bindS h
      obtain ⟨g391_9, h⟩ := ifS h
      obtain ⟨r391_10, cr391_10, h⟩ := bindS h
      obtain ⟨g391_11, h⟩ := ifS h
      obtain ⟨r391_12, cr391_12, h⟩ := bindS h
      obtain ⟨g391_13, h⟩ := ifS h
      have h := Option.some.inj h
      subst h
      exact At.fin hm ht ⟨[(3, .call [] [] (f106_broughamref26_hex_out r391_0)), (9, .call [] [] (f106_broughamref26_hex_out r391_3)), (15, .call [] [] (f70_broughamref01_Text_out r391_6)), (19, .call [] [] (f105_broughamref26_when_out r391_8)), (25, .call [] [] (f106_broughamref26_hex_out r391_10)), (27, .call [] [] (f105_broughamref26_when_out r391_12))], [], [], [2], []⟩ [FnOK Go.Proofs.Try.prog 106 (f106_broughamref26_hex_in (IntKind.wrap .u64 r338_0.2.1) 4) (f106_broughamref26_hex_out r391_0), (⟨#[106, 111, 105, 110, 32]⟩ : ByteArray).size + r391_0.size ≤ 9223372036854775807, ((⟨#[106, 111, 105, 110, 32]⟩ : ByteArray) ++ r391_0).size + (⟨#[32]⟩ : ByteArray).size ≤ 9223372036854775807, FnOK Go.Proofs.Try.prog 106 (f106_broughamref26_hex_in (IntKind.wrap .u64 r338_0.2.2.1) 4) (f106_broughamref26_hex_out r391_3), (((⟨#[106, 111, 105, 110, 32]⟩ : ByteArray) ++ r391_0) ++ (⟨#[32]⟩ : ByteArray)).size + r391_3.size ≤ 9223372036854775807, ((((⟨#[106, 111, 105, 110, 32]⟩ : ByteArray) ++ r391_0) ++ (⟨#[32]⟩ : ByteArray)) ++ r391_3).size + (⟨#[32]⟩ : ByteArray).size ≤ 9223372036854775807, FnOK Go.Proofs.Try.prog 70 (f70_broughamref01_Text_in (IntKind.wrap .i64 r338_0.2.2.2.1)) (f70_broughamref01_Text_out r391_6), (((((⟨#[106, 111, 105, 110, 32]⟩ : ByteArray) ++ r391_0) ++ (⟨#[32]⟩ : ByteArray)) ++ r391_3) ++ (⟨#[32]⟩ : ByteArray)).size + r391_6.size ≤ 9223372036854775807, FnOK Go.Proofs.Try.prog 105 (f105_broughamref26_when_in r338_0.2.2.2.2.1 (⟨#[98, 97, 99, 107, 117, 112]⟩ : ByteArray)) (f105_broughamref26_when_out r391_8), ((((((⟨#[106, 111, 105, 110, 32]⟩ : ByteArray) ++ r391_0) ++ (⟨#[32]⟩ : ByteArray)) ++ r391_3) ++ (⟨#[32]⟩ : ByteArray)) ++ r391_6).size + r391_8.size ≤ 9223372036854775807, FnOK Go.Proofs.Try.prog 106 (f106_broughamref26_hex_in r338_0.2.2.2.2.2.2 8) (f106_broughamref26_hex_out r391_10), (⟨#[115, 117, 109, 32]⟩ : ByteArray).size + r391_10.size ≤ 9223372036854775807, FnOK Go.Proofs.Try.prog 105 (f105_broughamref26_when_in r338_0.2.2.2.2.2.1 ((⟨#[115, 117, 109, 32]⟩ : ByteArray) ++ r391_10)) (f105_broughamref26_when_out r391_12), (((((((⟨#[106, 111, 105, 110, 32]⟩ : ByteArray) ++ r391_0) ++ (⟨#[32]⟩ : ByteArray)) ++ r391_3) ++ (⟨#[32]⟩ : ByteArray)) ++ r391_6) ++ r391_8).size + r391_12.size ≤ 9223372036854775807] (by kernel_rfl) ⟨(f106_broughamref26_hex_ok n (IntKind.wrap .u64 r338_0.2.1) 4 r391_0 cr391_0), g391_1, g391_2, (f106_broughamref26_hex_ok n (IntKind.wrap .u64 r338_0.2.2.1) 4 r391_3 cr391_3), g391_4, g391_5, (f70_broughamref01_Text_ok n (IntKind.wrap .i64 r338_0.2.2.2.1) r391_6 cr391_6), g391_7, (f105_broughamref26_when_ok r338_0.2.2.2.2.1 (⟨#[98, 97, 99, 107, 117, 112]⟩ : ByteArray) r391_8 cr391_8), g391_9, (f106_broughamref26_hex_ok n r338_0.2.2.2.2.2.2 8 r391_10 cr391_10), g391_11, (f105_broughamref26_when_ok r338_0.2.2.2.2.2.1 ((⟨#[115, 117, 109, 32]⟩ : ByteArray) ++ r391_10) r391_12 cr391_12), g391_13, trivial⟩
    · refine At.step hm ht ⟨[], [false], [], [1], [0]⟩ 7 ⟨[(1, .one (.c (.ptr 0 0)))], [], [(0, [.d (.int .u8 o__0), .d (.sl (.int .u8) o__1)])], 1⟩ [r338_0.1 = false] (by kernel_rfl) ⟨b390_e0, trivial⟩ ?_
      obtain ⟨r392_0, cr392_0, h⟩ := bindS h
      refine At.step hm ht ⟨[(1, .call [] [] (f118_broughamref08_ParseData_out r392_0))], [], [], [1, 6, 8], [0, 6]⟩ 8 ⟨[(1, .one (.c (.ptr 0 0))), (6, .one (.c (.d (.bool r392_0.1)))), (8, .one (.c (.ptr 1 0)))], [], [(0, [.d (.int .u8 o__0), .d (.sl (.int .u8) o__1)]), (1, [.d (.bool r392_0.2.1), .d (.bool r392_0.2.2.1), .d (.int .u64 r392_0.2.2.2.1), .d (.int .u64 r392_0.2.2.2.2.1), .d (.int .u32 r392_0.2.2.2.2.2.1), .d (.int .u64 r392_0.2.2.2.2.2.2)])], 2⟩ [FnOK Go.Proofs.Try.prog 118 (f118_broughamref08_ParseData_in o__0 o__1) (f118_broughamref08_ParseData_out r392_0), 0 + 6 ≤ 6] (by kernel_rfl) ⟨(f118_broughamref08_ParseData_ok n o__0 o__1 r392_0 cr392_0), (by decide), trivial⟩ ?_
      rcases iteS h with ⟨b401_e0, h⟩ | ⟨b401_e0, h⟩
      · refine At.step hm ht ⟨[], [true], [], [8], [1]⟩ 9 ⟨[(8, .one (.c (.ptr 0 0)))], [], [(0, [.d (.bool r392_0.2.1), .d (.bool r392_0.2.2.1), .d (.int .u64 r392_0.2.2.2.1), .d (.int .u64 r392_0.2.2.2.2.1), .d (.int .u32 r392_0.2.2.2.2.2.1), .d (.int .u64 r392_0.2.2.2.2.2.2)])], 1⟩ [r392_0.1 = true] (by kernel_rfl) ⟨b401_e0, trivial⟩ ?_
        obtain ⟨r402_0, cr402_0, h⟩ := bindS h
        obtain ⟨g402_1, h⟩ := ifS h
        obtain ⟨g402_2, h⟩ := ifS h
        obtain ⟨r402_3, cr402_3, h⟩ := bindS h
        obtain ⟨g402_4, h⟩ := ifS h
        obtain ⟨g402_5, h⟩ := ifS h
        obtain ⟨r402_6, cr402_6, h⟩ := bindS h
        obtain ⟨g402_7, h⟩ := ifS h
        obtain ⟨r402_8, cr402_8, h⟩ := bindS h
        obtain ⟨g402_9, h⟩ := ifS h
        obtain ⟨r402_10, cr402_10, h⟩ := bindS h
        obtain ⟨g402_11, h⟩ := ifS h
        obtain ⟨g402_12, h⟩ := ifS h
        obtain ⟨r402_13, cr402_13, h⟩ := bindS h
        obtain ⟨g402_14, h⟩ := ifS h
        have h := Option.some.inj h
        subst h
        exact At.fin hm ht ⟨[(2, .call [] [] (f119_broughamref26_wide_out r402_0)), (7, .call [] [] (f119_broughamref26_wide_out r402_3)), (13, .call [] [] (f70_broughamref01_Text_out r402_6)), (17, .call [] [] (f105_broughamref26_when_out r402_8)), (21, .call [] [] (f105_broughamref26_when_out r402_10)), (26, .call [] [] (f106_broughamref26_hex_out r402_13))], [], [], [2], []⟩ [FnOK Go.Proofs.Try.prog 119 (f119_broughamref26_wide_in r392_0.2.2.2.1) (f119_broughamref26_wide_out r402_0), (⟨#[100, 97, 116, 97, 32]⟩ : ByteArray).size + r402_0.size ≤ 9223372036854775807, ((⟨#[100, 97, 116, 97, 32]⟩ : ByteArray) ++ r402_0).size + (⟨#[32, 104, 97, 115, 32]⟩ : ByteArray).size ≤ 9223372036854775807, FnOK Go.Proofs.Try.prog 119 (f119_broughamref26_wide_in r392_0.2.2.2.2.1) (f119_broughamref26_wide_out r402_3), (((⟨#[100, 97, 116, 97, 32]⟩ : ByteArray) ++ r402_0) ++ (⟨#[32, 104, 97, 115, 32]⟩ : ByteArray)).size + r402_3.size ≤ 9223372036854775807, ((((⟨#[100, 97, 116, 97, 32]⟩ : ByteArray) ++ r402_0) ++ (⟨#[32, 104, 97, 115, 32]⟩ : ByteArray)) ++ r402_3).size + (⟨#[32, 114, 111, 111, 109, 32]⟩ : ByteArray).size ≤ 9223372036854775807, FnOK Go.Proofs.Try.prog 70 (f70_broughamref01_Text_in (IntKind.wrap .i64 r392_0.2.2.2.2.2.1)) (f70_broughamref01_Text_out r402_6), (((((⟨#[100, 97, 116, 97, 32]⟩ : ByteArray) ++ r402_0) ++ (⟨#[32, 104, 97, 115, 32]⟩ : ByteArray)) ++ r402_3) ++ (⟨#[32, 114, 111, 111, 109, 32]⟩ : ByteArray)).size + r402_6.size ≤ 9223372036854775807, FnOK Go.Proofs.Try.prog 105 (f105_broughamref26_when_in r392_0.2.1 (⟨#[102, 105, 110]⟩ : ByteArray)) (f105_broughamref26_when_out r402_8), ((((((⟨#[100, 97, 116, 97, 32]⟩ : ByteArray) ++ r402_0) ++ (⟨#[32, 104, 97, 115, 32]⟩ : ByteArray)) ++ r402_3) ++ (⟨#[32, 114, 111, 111, 109, 32]⟩ : ByteArray)) ++ r402_6).size + r402_8.size ≤ 9223372036854775807, FnOK Go.Proofs.Try.prog 105 (f105_broughamref26_when_in r392_0.2.2.1 (⟨#[112, 114, 111, 98, 101]⟩ : ByteArray)) (f105_broughamref26_when_out r402_10), (((((((⟨#[100, 97, 116, 97, 32]⟩ : ByteArray) ++ r402_0) ++ (⟨#[32, 104, 97, 115, 32]⟩ : ByteArray)) ++ r402_3) ++ (⟨#[32, 114, 111, 111, 109, 32]⟩ : ByteArray)) ++ r402_6) ++ r402_8).size + r402_10.size ≤ 9223372036854775807, ((((((((⟨#[100, 97, 116, 97, 32]⟩ : ByteArray) ++ r402_0) ++ (⟨#[32, 104, 97, 115, 32]⟩ : ByteArray)) ++ r402_3) ++ (⟨#[32, 114, 111, 111, 109, 32]⟩ : ByteArray)) ++ r402_6) ++ r402_8) ++ r402_10).size + (⟨#[32, 115, 117, 109, 32]⟩ : ByteArray).size ≤ 9223372036854775807, FnOK Go.Proofs.Try.prog 106 (f106_broughamref26_hex_in r392_0.2.2.2.2.2.2 8) (f106_broughamref26_hex_out r402_13), (((((((((⟨#[100, 97, 116, 97, 32]⟩ : ByteArray) ++ r402_0) ++ (⟨#[32, 104, 97, 115, 32]⟩ : ByteArray)) ++ r402_3) ++ (⟨#[32, 114, 111, 111, 109, 32]⟩ : ByteArray)) ++ r402_6) ++ r402_8) ++ r402_10) ++ (⟨#[32, 115, 117, 109, 32]⟩ : ByteArray)).size + r402_13.size ≤ 9223372036854775807] (by kernel_rfl) ⟨(f119_broughamref26_wide_ok n r392_0.2.2.2.1 r402_0 cr402_0), g402_1, g402_2, (f119_broughamref26_wide_ok n r392_0.2.2.2.2.1 r402_3 cr402_3), g402_4, g402_5, (f70_broughamref01_Text_ok n (IntKind.wrap .i64 r392_0.2.2.2.2.2.1) r402_6 cr402_6), g402_7, (f105_broughamref26_when_ok r392_0.2.1 (⟨#[102, 105, 110]⟩ : ByteArray) r402_8 cr402_8), g402_9, (f105_broughamref26_when_ok r392_0.2.2.1 (⟨#[112, 114, 111, 98, 101]⟩ : ByteArray) r402_10 cr402_10), g402_11, g402_12, (f106_broughamref26_hex_ok n r392_0.2.2.2.2.2.2 8 r402_13 cr402_13), g402_14, trivial⟩
      · refine At.step hm ht ⟨[], [false], [], [1], [0]⟩ 10 ⟨[(1, .one (.c (.ptr 0 0)))], [], [(0, [.d (.int .u8 o__0), .d (.sl (.int .u8) o__1)])], 1⟩ [r392_0.1 = false] (by kernel_rfl) ⟨b401_e0, trivial⟩ ?_
        obtain ⟨r407_0, cr407_0, h⟩ := bindS h
        refine At.step hm ht ⟨[(1, .call [] [] (f120_broughamref08_ParseWord_out r407_0))], [], [], [1, 6, 9], [0, 6]⟩ 11 ⟨[(1, .one (.c (.ptr 0 0))), (6, .one (.c (.d (.bool r407_0.1)))), (9, .one (.c (.ptr 1 0)))], [], [(0, [.d (.int .u8 o__0), .d (.sl (.int .u8) o__1)]), (1, [.d (.int .u32 r407_0.2.1), .d (.int .u8 r407_0.2.2.1), .d (.int .u8 r407_0.2.2.2.1), .d (.bool r407_0.2.2.2.2.1), .d (.int .u64 r407_0.2.2.2.2.2)])], 2⟩ [FnOK Go.Proofs.Try.prog 120 (f120_broughamref08_ParseWord_in o__0 o__1) (f120_broughamref08_ParseWord_out r407_0), 0 + 5 ≤ 5] (by kernel_rfl) ⟨(f120_broughamref08_ParseWord_ok n o__0 o__1 r407_0 cr407_0), (by decide), trivial⟩ ?_
        rcases iteS h with ⟨b417_e0, h⟩ | ⟨b417_e0, h⟩
        · refine At.step hm ht ⟨[], [true], [], [1, 9], [0, 1]⟩ 12 ⟨[(1, .one (.c (.ptr 0 0))), (9, .one (.c (.ptr 1 0)))], [], [(0, [.d (.int .u8 o__0), .d (.sl (.int .u8) o__1)]), (1, [.d (.int .u32 r407_0.2.1), .d (.int .u8 r407_0.2.2.1), .d (.int .u8 r407_0.2.2.2.1), .d (.bool r407_0.2.2.2.2.1), .d (.int .u64 r407_0.2.2.2.2.2)])], 2⟩ [r407_0.1 = true] (by kernel_rfl) ⟨b417_e0, trivial⟩ ?_
          obtain ⟨g418_0, h⟩ := ifS h
          obtain ⟨g418_1, h⟩ := ifS h
          obtain ⟨r418_2, cr418_2, h⟩ := bindS h
          obtain ⟨g418_3, h⟩ := ifS h
          obtain ⟨g418_4, h⟩ := ifS h
          obtain ⟨r418_5, cr418_5, h⟩ := bindS h
          obtain ⟨g418_6, h⟩ := ifS h
          obtain ⟨g418_7, h⟩ := ifS h
          obtain ⟨r418_8, cr418_8, h⟩ := bindS h
          obtain ⟨g418_9, h⟩ := ifS h
          obtain ⟨r418_10, cr418_10, h⟩ := bindS h
          obtain ⟨g418_11, h⟩ := ifS h
          obtain ⟨g418_12, h⟩ := ifS h
          obtain ⟨r418_13, cr418_13, h⟩ := bindS h
          obtain ⟨g418_14, h⟩ := ifS h
          have h := Option.some.inj h
          subst h
          exact At.fin hm ht ⟨[(10, .call [] [] (f70_broughamref01_Text_out r418_2)), (16, .call [] [] (f70_broughamref01_Text_out r418_5)), (22, .call [] [] (f70_broughamref01_Text_out r418_8)), (26, .call [] [] (f105_broughamref26_when_out r418_10)), (31, .call [] [] (f106_broughamref26_hex_out r418_13))], [], [], [2], []⟩ [(0 : Int) ≤ (IntKind.wrap .u8 (o__0 - 4)) ∧ (IntKind.wrap .u8 (o__0 - 4)) < ((([(⟨#[97, 100, 100]⟩ : ByteArray), (⟨#[103, 111, 110, 101]⟩ : ByteArray), (⟨#[112, 114, 105, 111]⟩ : ByteArray), (⟨#[99, 108, 111, 115, 101]⟩ : ByteArray)]).length : Nat) : Int), ([(⟨#[97, 100, 100]⟩ : ByteArray), (⟨#[103, 111, 110, 101]⟩ : ByteArray), (⟨#[112, 114, 105, 111]⟩ : ByteArray), (⟨#[99, 108, 111, 115, 101]⟩ : ByteArray)].getD (IntKind.wrap .u8 (o__0 - 4)).toNat ByteArray.empty).size + (⟨#[32]⟩ : ByteArray).size ≤ 9223372036854775807, FnOK Go.Proofs.Try.prog 70 (f70_broughamref01_Text_in (IntKind.wrap .i64 r407_0.2.1)) (f70_broughamref01_Text_out r418_2), (([(⟨#[97, 100, 100]⟩ : ByteArray), (⟨#[103, 111, 110, 101]⟩ : ByteArray), (⟨#[112, 114, 105, 111]⟩ : ByteArray), (⟨#[99, 108, 111, 115, 101]⟩ : ByteArray)].getD (IntKind.wrap .u8 (o__0 - 4)).toNat ByteArray.empty) ++ (⟨#[32]⟩ : ByteArray)).size + r418_2.size ≤ 9223372036854775807, ((([(⟨#[97, 100, 100]⟩ : ByteArray), (⟨#[103, 111, 110, 101]⟩ : ByteArray), (⟨#[112, 114, 105, 111]⟩ : ByteArray), (⟨#[99, 108, 111, 115, 101]⟩ : ByteArray)].getD (IntKind.wrap .u8 (o__0 - 4)).toNat ByteArray.empty) ++ (⟨#[32]⟩ : ByteArray)) ++ r418_2).size + (⟨#[32]⟩ : ByteArray).size ≤ 9223372036854775807, FnOK Go.Proofs.Try.prog 70 (f70_broughamref01_Text_in (IntKind.wrap .i64 r407_0.2.2.1)) (f70_broughamref01_Text_out r418_5), (((([(⟨#[97, 100, 100]⟩ : ByteArray), (⟨#[103, 111, 110, 101]⟩ : ByteArray), (⟨#[112, 114, 105, 111]⟩ : ByteArray), (⟨#[99, 108, 111, 115, 101]⟩ : ByteArray)].getD (IntKind.wrap .u8 (o__0 - 4)).toNat ByteArray.empty) ++ (⟨#[32]⟩ : ByteArray)) ++ r418_2) ++ (⟨#[32]⟩ : ByteArray)).size + r418_5.size ≤ 9223372036854775807, ((((([(⟨#[97, 100, 100]⟩ : ByteArray), (⟨#[103, 111, 110, 101]⟩ : ByteArray), (⟨#[112, 114, 105, 111]⟩ : ByteArray), (⟨#[99, 108, 111, 115, 101]⟩ : ByteArray)].getD (IntKind.wrap .u8 (o__0 - 4)).toNat ByteArray.empty) ++ (⟨#[32]⟩ : ByteArray)) ++ r418_2) ++ (⟨#[32]⟩ : ByteArray)) ++ r418_5).size + (⟨#[32]⟩ : ByteArray).size ≤ 9223372036854775807, FnOK Go.Proofs.Try.prog 70 (f70_broughamref01_Text_in (IntKind.wrap .i64 r407_0.2.2.2.1)) (f70_broughamref01_Text_out r418_8), (((((([(⟨#[97, 100, 100]⟩ : ByteArray), (⟨#[103, 111, 110, 101]⟩ : ByteArray), (⟨#[112, 114, 105, 111]⟩ : ByteArray), (⟨#[99, 108, 111, 115, 101]⟩ : ByteArray)].getD (IntKind.wrap .u8 (o__0 - 4)).toNat ByteArray.empty) ++ (⟨#[32]⟩ : ByteArray)) ++ r418_2) ++ (⟨#[32]⟩ : ByteArray)) ++ r418_5) ++ (⟨#[32]⟩ : ByteArray)).size + r418_8.size ≤ 9223372036854775807, FnOK Go.Proofs.Try.prog 105 (f105_broughamref26_when_in r407_0.2.2.2.2.1 (⟨#[98, 97, 99, 107, 117, 112]⟩ : ByteArray)) (f105_broughamref26_when_out r418_10), ((((((([(⟨#[97, 100, 100]⟩ : ByteArray), (⟨#[103, 111, 110, 101]⟩ : ByteArray), (⟨#[112, 114, 105, 111]⟩ : ByteArray), (⟨#[99, 108, 111, 115, 101]⟩ : ByteArray)].getD (IntKind.wrap .u8 (o__0 - 4)).toNat ByteArray.empty) ++ (⟨#[32]⟩ : ByteArray)) ++ r418_2) ++ (⟨#[32]⟩ : ByteArray)) ++ r418_5) ++ (⟨#[32]⟩ : ByteArray)) ++ r418_8).size + r418_10.size ≤ 9223372036854775807, (((((((([(⟨#[97, 100, 100]⟩ : ByteArray), (⟨#[103, 111, 110, 101]⟩ : ByteArray), (⟨#[112, 114, 105, 111]⟩ : ByteArray), (⟨#[99, 108, 111, 115, 101]⟩ : ByteArray)].getD (IntKind.wrap .u8 (o__0 - 4)).toNat ByteArray.empty) ++ (⟨#[32]⟩ : ByteArray)) ++ r418_2) ++ (⟨#[32]⟩ : ByteArray)) ++ r418_5) ++ (⟨#[32]⟩ : ByteArray)) ++ r418_8) ++ r418_10).size + (⟨#[32, 115, 117, 109, 32]⟩ : ByteArray).size ≤ 9223372036854775807, FnOK Go.Proofs.Try.prog 106 (f106_broughamref26_hex_in r407_0.2.2.2.2.2 8) (f106_broughamref26_hex_out r418_13), ((((((((([(⟨#[97, 100, 100]⟩ : ByteArray), (⟨#[103, 111, 110, 101]⟩ : ByteArray), (⟨#[112, 114, 105, 111]⟩ : ByteArray), (⟨#[99, 108, 111, 115, 101]⟩ : ByteArray)].getD (IntKind.wrap .u8 (o__0 - 4)).toNat ByteArray.empty) ++ (⟨#[32]⟩ : ByteArray)) ++ r418_2) ++ (⟨#[32]⟩ : ByteArray)) ++ r418_5) ++ (⟨#[32]⟩ : ByteArray)) ++ r418_8) ++ r418_10) ++ (⟨#[32, 115, 117, 109, 32]⟩ : ByteArray)).size + r418_13.size ≤ 9223372036854775807] (by kernel_rfl) ⟨g418_0, g418_1, (f70_broughamref01_Text_ok n (IntKind.wrap .i64 r407_0.2.1) r418_2 cr418_2), g418_3, g418_4, (f70_broughamref01_Text_ok n (IntKind.wrap .i64 r407_0.2.2.1) r418_5 cr418_5), g418_6, g418_7, (f70_broughamref01_Text_ok n (IntKind.wrap .i64 r407_0.2.2.2.1) r418_8 cr418_8), g418_9, (f105_broughamref26_when_ok r407_0.2.2.2.2.1 (⟨#[98, 97, 99, 107, 117, 112]⟩ : ByteArray) r418_10 cr418_10), g418_11, g418_12, (f106_broughamref26_hex_ok n r407_0.2.2.2.2.2 8 r418_13 cr418_13), g418_14, trivial⟩
        · refine At.step hm ht ⟨[], [false], [], [1], [0]⟩ 13 ⟨[(1, .one (.c (.ptr 0 0)))], [], [(0, [.d (.int .u8 o__0), .d (.sl (.int .u8) o__1)])], 1⟩ [r407_0.1 = false] (by kernel_rfl) ⟨b417_e0, trivial⟩ ?_
          obtain ⟨r419_0, cr419_0, h⟩ := bindS h
          obtain ⟨g419_1, h⟩ := ifS h
          obtain ⟨g419_2, h⟩ := ifS h
          obtain ⟨r419_3, cr419_3, h⟩ := bindS h
          obtain ⟨g419_4, h⟩ := ifS h
          have h := Option.some.inj h
          subst h
          exact At.fin hm ht ⟨[(3, .call [] [] (f70_broughamref01_Text_out r419_0)), (8, .call [] [] (f121_broughamref01_Hex_out r419_3))], [], [], [2], []⟩ [FnOK Go.Proofs.Try.prog 70 (f70_broughamref01_Text_in (IntKind.wrap .i64 o__0)) (f70_broughamref01_Text_out r419_0), (⟨#[111, 112, 116, 105, 111, 110, 32]⟩ : ByteArray).size + r419_0.size ≤ 9223372036854775807, ((⟨#[111, 112, 116, 105, 111, 110, 32]⟩ : ByteArray) ++ r419_0).size + (⟨#[32]⟩ : ByteArray).size ≤ 9223372036854775807, FnOK Go.Proofs.Try.prog 121 (f121_broughamref01_Hex_in o__1) (f121_broughamref01_Hex_out r419_3), (((⟨#[111, 112, 116, 105, 111, 110, 32]⟩ : ByteArray) ++ r419_0) ++ (⟨#[32]⟩ : ByteArray)).size + r419_3.size ≤ 9223372036854775807] (by kernel_rfl) ⟨(f70_broughamref01_Text_ok n (IntKind.wrap .i64 o__0) r419_0 cr419_0), g419_1, g419_2, (f121_broughamref01_Hex_ok n o__1 r419_3 cr419_3), g419_4, trivial⟩
/-! brougham/broughamref26.Segment -/
def f66_broughamref26_Segment_in (s_0 : Int) (s_1 : Int) (s_2 : Int) (s_3 : Int) (s_4 : Int) (s_5 : List (Int × List Int)) (s_6 : List Int) : Inn := ⟨[.agg [.d (.int .u16 s_0), .d (.int .u16 s_1), .d (.int .u32 s_2), .d (.int .u32 s_3), .d (.int .u8 s_4), .d (.sl (.pair (.int .u8) (.slice (.int .u8))) s_5), .d (.sl (.int .u8) s_6)]], [], [], 0⟩
def f66_broughamref26_Segment_out (r : ByteArray) : Out := ⟨.one (.c (.d (.str r))), [], [], 0⟩
def f66_broughamref26_Segment_L6 : Nat → ByteArray → Int → Int → Int → Int → Int → Int → (List (Int × List Int)) → (List Int) → Option (ByteArray × Int × Int × Int × Int × Int × (List (Int × List Int)) × List Int)
  | 0, _, _, _, _, _, _, _, _, _ => none
  | n + 1, out, i, s_0, s_1, s_2, s_3, s_4, s_5, s_6 =>
    if (decide ((i : Int) < ((s_5.length : Nat) : Int))) = true then
      if (0 : Int) ≤ i ∧ i < (((s_5).length : Nat) : Int) then
      (f68_broughamref26_Option n ((s_5.getD i.toNat (0, [])).1) ((s_5.getD i.toNat (0, [])).2)).bind fun r297_1 =>
      if (⟨#[59, 32]⟩ : ByteArray).size + r297_1.size ≤ 9223372036854775807 then
      if out.size + ((⟨#[59, 32]⟩ : ByteArray) ++ r297_1).size ≤ 9223372036854775807 then
      f66_broughamref26_Segment_L6 n (out ++ ((⟨#[59, 32]⟩ : ByteArray) ++ r297_1)) (IntKind.wrap .i64 (i + 1)) s_0 s_1 s_2 s_3 s_4 s_5 s_6
      else none
      else none
      else none
    else
      some ((out, s_0, s_1, s_2, s_3, s_4, s_5, s_6))
def f66_broughamref26_Segment_L6_k (e : ByteArray × Int × Int × Int × Int × Int × (List (Int × List Int)) × List Int) (o : Out) : Prop := At Go.Proofs.Try.prog Go.Proofs.Try.f66 0 9 ⟨[(1, .one (.c (.ptr 0 0))), (4, .one (.c (.d (.str e.1))))], [], [(0, [.d (.int .u16 e.2.1), .d (.int .u16 e.2.2.1), .d (.int .u32 e.2.2.2.1), .d (.int .u32 e.2.2.2.2.1), .d (.int .u8 e.2.2.2.2.2.1), .d (.sl (.pair (.int .u8) (.slice (.int .u8))) e.2.2.2.2.2.2.1), .d (.sl (.int .u8) e.2.2.2.2.2.2.2)])], 1⟩ o
theorem f66_broughamref26_Segment_L6_ok (n : Nat) : ∀ (out : ByteArray) (i : Int) (s_0 : Int) (s_1 : Int) (s_2 : Int) (s_3 : Int) (s_4 : Int) (s_5 : List (Int × List Int)) (s_6 : List Int) (w : ByteArray × Int × Int × Int × Int × Int × (List (Int × List Int)) × List Int) (h : f66_broughamref26_Segment_L6 n out i s_0 s_1 s_2 s_3 s_4 s_5 s_6 = some w) (o : Out) (hk : f66_broughamref26_Segment_L6_k w o), At Go.Proofs.Try.prog Go.Proofs.Try.f66 0 6 ⟨[(1, .one (.c (.ptr 0 0))), (4, .one (.c (.d (.str out)))), (5, .one (.c (.d (.int .i64 i))))], [], [(0, [.d (.int .u16 s_0), .d (.int .u16 s_1), .d (.int .u32 s_2), .d (.int .u32 s_3), .d (.int .u8 s_4), .d (.sl (.pair (.int .u8) (.slice (.int .u8))) s_5), .d (.sl (.int .u8) s_6)])], 1⟩ o := by
  induction n with
  | zero => intro out i s_0 s_1 s_2 s_3 s_4 s_5 s_6 w h; rw [f66_broughamref26_Segment_L6] at h; cases h
  | succ n ih =>
    intro out i s_0 s_1 s_2 s_3 s_4 s_5 s_6 w h o hk
    rw [f66_broughamref26_Segment_L6] at h
    rcases iteS h with ⟨b296_e0, h⟩ | ⟨b296_e0, h⟩
    · refine At.step hm ht ⟨[], [true], [], [1, 4, 5], [0]⟩ 8 ⟨[(1, .one (.c (.ptr 0 0))), (4, .one (.c (.d (.str out)))), (5, .one (.c (.d (.int .i64 i))))], [], [(0, [.d (.int .u16 s_0), .d (.int .u16 s_1), .d (.int .u32 s_2), .d (.int .u32 s_3), .d (.int .u8 s_4), .d (.sl (.pair (.int .u8) (.slice (.int .u8))) s_5), .d (.sl (.int .u8) s_6)])], 1⟩ [(decide ((i : Int) < ((s_5.length : Nat) : Int))) = true] (by kernel_rfl) ⟨b296_e0, trivial⟩ ?_
      obtain ⟨g297_0, h⟩ := ifS h
      obtain ⟨r297_1, cr297_1, h⟩ := bindS h
      obtain ⟨g297_2, h⟩ := ifS h
      obtain ⟨g297_3, h⟩ := ifS h
      refine At.step hm ht ⟨[(6, .call [] [] (f68_broughamref26_Option_out r297_1))], [], [], [1, 4, 5], [0]⟩ 7 ⟨[(1, .one (.c (.ptr 0 0))), (4, .one (.c (.d (.str (out ++ ((⟨#[59, 32]⟩ : ByteArray) ++ r297_1)))))), (5, .one (.c (.d (.int .i64 i))))], [], [(0, [.d (.int .u16 s_0), .d (.int .u16 s_1), .d (.int .u32 s_2), .d (.int .u32 s_3), .d (.int .u8 s_4), .d (.sl (.pair (.int .u8) (.slice (.int .u8))) s_5), .d (.sl (.int .u8) s_6)])], 1⟩ [(0 : Int) ≤ i ∧ i < (((s_5).length : Nat) : Int), FnOK Go.Proofs.Try.prog 68 (f68_broughamref26_Option_in ((s_5.getD i.toNat (0, [])).1) ((s_5.getD i.toNat (0, [])).2)) (f68_broughamref26_Option_out r297_1), (⟨#[59, 32]⟩ : ByteArray).size + r297_1.size ≤ 9223372036854775807, out.size + ((⟨#[59, 32]⟩ : ByteArray) ++ r297_1).size ≤ 9223372036854775807] (by kernel_rfl) ⟨g297_0, (f68_broughamref26_Option_ok n ((s_5.getD i.toNat (0, [])).1) ((s_5.getD i.toNat (0, [])).2) r297_1 cr297_1), g297_2, g297_3, trivial⟩ ?_
      refine At.step hm ht ⟨[], [], [], [1, 4, 5], [0]⟩ 6 ⟨[(1, .one (.c (.ptr 0 0))), (4, .one (.c (.d (.str (out ++ ((⟨#[59, 32]⟩ : ByteArray) ++ r297_1)))))), (5, .one (.c (.d (.int .i64 (IntKind.wrap .i64 (i + 1))))))], [], [(0, [.d (.int .u16 s_0), .d (.int .u16 s_1), .d (.int .u32 s_2), .d (.int .u32 s_3), .d (.int .u8 s_4), .d (.sl (.pair (.int .u8) (.slice (.int .u8))) s_5), .d (.sl (.int .u8) s_6)])], 1⟩ [] (by kernel_rfl) trivial ?_
      exact ih (out ++ ((⟨#[59, 32]⟩ : ByteArray) ++ r297_1)) (IntKind.wrap .i64 (i + 1)) s_0 s_1 s_2 s_3 s_4 s_5 s_6 w h o hk
    · refine At.step hm ht ⟨[], [false], [], [1, 4], [0]⟩ 9 ⟨[(1, .one (.c (.ptr 0 0))), (4, .one (.c (.d (.str out))))], [], [(0, [.d (.int .u16 s_0), .d (.int .u16 s_1), .d (.int .u32 s_2), .d (.int .u32 s_3), .d (.int .u8 s_4), .d (.sl (.pair (.int .u8) (.slice (.int .u8))) s_5), .d (.sl (.int .u8) s_6)])], 1⟩ [(decide ((i : Int) < ((s_5.length : Nat) : Int))) = false] (by kernel_rfl) ⟨b296_e0, trivial⟩ ?_
      have h := Option.some.inj h
      subst h
      exact hk
def f66_broughamref26_Segment (n : Nat) (s_0 : Int) (s_1 : Int) (s_2 : Int) (s_3 : Int) (s_4 : Int) (s_5 : List (Int × List Int)) (s_6 : List Int) : Option (ByteArray) :=
  (f105_broughamref26_when (((Int.tmod s_4 2) : Int) == 1) (⟨#[115, 121, 110]⟩ : ByteArray)).bind fun r241_0 =>
  (f105_broughamref26_when (((Int.tmod (IntKind.wrap .u8 (Int.tdiv s_4 2)) 2) : Int) == 1) (⟨#[97, 99, 107]⟩ : ByteArray)).bind fun r241_1 =>
  if r241_0.size + r241_1.size ≤ 9223372036854775807 then
  (f105_broughamref26_when (((Int.tmod (IntKind.wrap .u8 (Int.tdiv s_4 4)) 2) : Int) == 1) (⟨#[114, 115, 116]⟩ : ByteArray)).bind fun r241_3 =>
  if (r241_0 ++ r241_1).size + r241_3.size ≤ 9223372036854775807 then
  if (((r241_0 ++ r241_1) ++ r241_3).toList == (⟨#[]⟩ : ByteArray).toList) = true then
    (f70_broughamref01_Text n (IntKind.wrap .i64 s_0)).bind fun r248_0 =>
    if r248_0.size + (⟨#[32]⟩ : ByteArray).size ≤ 9223372036854775807 then
    (f70_broughamref01_Text n (IntKind.wrap .i64 s_1)).bind fun r248_2 =>
    if (r248_0 ++ (⟨#[32]⟩ : ByteArray)).size + r248_2.size ≤ 9223372036854775807 then
    if ((r248_0 ++ (⟨#[32]⟩ : ByteArray)) ++ r248_2).size + (⟨#[32, 115, 101, 113, 32]⟩ : ByteArray).size ≤ 9223372036854775807 then
    (f106_broughamref26_hex n (IntKind.wrap .u64 s_2) 4).bind fun r248_5 =>
    if (((r248_0 ++ (⟨#[32]⟩ : ByteArray)) ++ r248_2) ++ (⟨#[32, 115, 101, 113, 32]⟩ : ByteArray)).size + r248_5.size ≤ 9223372036854775807 then
    if ((((r248_0 ++ (⟨#[32]⟩ : ByteArray)) ++ r248_2) ++ (⟨#[32, 115, 101, 113, 32]⟩ : ByteArray)) ++ r248_5).size + (⟨#[32, 97, 99, 107, 32]⟩ : ByteArray).size ≤ 9223372036854775807 then
    (f106_broughamref26_hex n (IntKind.wrap .u64 s_3) 4).bind fun r248_8 =>
    if (((((r248_0 ++ (⟨#[32]⟩ : ByteArray)) ++ r248_2) ++ (⟨#[32, 115, 101, 113, 32]⟩ : ByteArray)) ++ r248_5) ++ (⟨#[32, 97, 99, 107, 32]⟩ : ByteArray)).size + r248_8.size ≤ 9223372036854775807 then
    if ((((((r248_0 ++ (⟨#[32]⟩ : ByteArray)) ++ r248_2) ++ (⟨#[32, 115, 101, 113, 32]⟩ : ByteArray)) ++ r248_5) ++ (⟨#[32, 97, 99, 107, 32]⟩ : ByteArray)) ++ r248_8).size + (⟨#[32, 110, 111, 110, 101]⟩ : ByteArray).size ≤ 9223372036854775807 then
    (f66_broughamref26_Segment_L6 n (((((((r248_0 ++ (⟨#[32]⟩ : ByteArray)) ++ r248_2) ++ (⟨#[32, 115, 101, 113, 32]⟩ : ByteArray)) ++ r248_5) ++ (⟨#[32, 97, 99, 107, 32]⟩ : ByteArray)) ++ r248_8) ++ (⟨#[32, 110, 111, 110, 101]⟩ : ByteArray)) 0 s_0 s_1 s_2 s_3 s_4 s_5 s_6).bind fun w421 =>
    if w421.1.size + (⟨#[59, 32]⟩ : ByteArray).size ≤ 9223372036854775807 then
    (f70_broughamref01_Text n ((w421.2.2.2.2.2.2.2.length : Nat) : Int)).bind fun r423_1 =>
    if (w421.1 ++ (⟨#[59, 32]⟩ : ByteArray)).size + r423_1.size ≤ 9223372036854775807 then
    some ((w421.1 ++ (⟨#[59, 32]⟩ : ByteArray)) ++ r423_1)
    else none
    else none
    else none
    else none
    else none
    else none
    else none
    else none
    else none
  else
    (f70_broughamref01_Text n (IntKind.wrap .i64 s_0)).bind fun r424_0 =>
    if r424_0.size + (⟨#[32]⟩ : ByteArray).size ≤ 9223372036854775807 then
    (f70_broughamref01_Text n (IntKind.wrap .i64 s_1)).bind fun r424_2 =>
    if (r424_0 ++ (⟨#[32]⟩ : ByteArray)).size + r424_2.size ≤ 9223372036854775807 then
    if ((r424_0 ++ (⟨#[32]⟩ : ByteArray)) ++ r424_2).size + (⟨#[32, 115, 101, 113, 32]⟩ : ByteArray).size ≤ 9223372036854775807 then
    (f106_broughamref26_hex n (IntKind.wrap .u64 s_2) 4).bind fun r424_5 =>
    if (((r424_0 ++ (⟨#[32]⟩ : ByteArray)) ++ r424_2) ++ (⟨#[32, 115, 101, 113, 32]⟩ : ByteArray)).size + r424_5.size ≤ 9223372036854775807 then
    if ((((r424_0 ++ (⟨#[32]⟩ : ByteArray)) ++ r424_2) ++ (⟨#[32, 115, 101, 113, 32]⟩ : ByteArray)) ++ r424_5).size + (⟨#[32, 97, 99, 107, 32]⟩ : ByteArray).size ≤ 9223372036854775807 then
    (f106_broughamref26_hex n (IntKind.wrap .u64 s_3) 4).bind fun r424_8 =>
    if (((((r424_0 ++ (⟨#[32]⟩ : ByteArray)) ++ r424_2) ++ (⟨#[32, 115, 101, 113, 32]⟩ : ByteArray)) ++ r424_5) ++ (⟨#[32, 97, 99, 107, 32]⟩ : ByteArray)).size + r424_8.size ≤ 9223372036854775807 then
    if ((((((r424_0 ++ (⟨#[32]⟩ : ByteArray)) ++ r424_2) ++ (⟨#[32, 115, 101, 113, 32]⟩ : ByteArray)) ++ r424_5) ++ (⟨#[32, 97, 99, 107, 32]⟩ : ByteArray)) ++ r424_8).size + ((r241_0 ++ r241_1) ++ r241_3).size ≤ 9223372036854775807 then
    (f66_broughamref26_Segment_L6 n (((((((r424_0 ++ (⟨#[32]⟩ : ByteArray)) ++ r424_2) ++ (⟨#[32, 115, 101, 113, 32]⟩ : ByteArray)) ++ r424_5) ++ (⟨#[32, 97, 99, 107, 32]⟩ : ByteArray)) ++ r424_8) ++ ((r241_0 ++ r241_1) ++ r241_3)) 0 s_0 s_1 s_2 s_3 s_4 s_5 s_6).bind fun w426 =>
    if w426.1.size + (⟨#[59, 32]⟩ : ByteArray).size ≤ 9223372036854775807 then
    (f70_broughamref01_Text n ((w426.2.2.2.2.2.2.2.length : Nat) : Int)).bind fun r428_1 =>
    if (w426.1 ++ (⟨#[59, 32]⟩ : ByteArray)).size + r428_1.size ≤ 9223372036854775807 then
    some ((w426.1 ++ (⟨#[59, 32]⟩ : ByteArray)) ++ r428_1)
    else none
    else none
    else none
    else none
    else none
    else none
    else none
    else none
    else none
  else none
  else none
theorem f66_broughamref26_Segment_ok (n : Nat) (s_0 : Int) (s_1 : Int) (s_2 : Int) (s_3 : Int) (s_4 : Int) (s_5 : List (Int × List Int)) (s_6 : List Int) (r : ByteArray) (h : f66_broughamref26_Segment n s_0 s_1 s_2 s_3 s_4 s_5 s_6 = some r) : FnOK Go.Proofs.Try.prog 66 (f66_broughamref26_Segment_in s_0 s_1 s_2 s_3 s_4 s_5 s_6) (f66_broughamref26_Segment_out r) := by
  unfold f66_broughamref26_Segment at h
  refine At.fn (r := 0) Go.Proofs.Try.func66 rfl (by kernel_rfl) rfl rfl (by kernel_rfl) ?_
  show At Go.Proofs.Try.prog Go.Proofs.Try.f66 0 0 ⟨[(0, .one (.agg [.d (.int .u16 s_0), .d (.int .u16 s_1), .d (.int .u32 s_2), .d (.int .u32 s_3), .d (.int .u8 s_4), .d (.sl (.pair (.int .u8) (.slice (.int .u8))) s_5), .d (.sl (.int .u8) s_6)]))], [], [], 0⟩ _
  refine At.step hm ht ⟨[], [], [], [1], [0]⟩ 1 ⟨[(1, .one (.c (.ptr 0 0)))], [], [(0, [.d (.int .u16 s_0), .d (.int .u16 s_1), .d (.int .u32 s_2), .d (.int .u32 s_3), .d (.int .u8 s_4), .d (.sl (.pair (.int .u8) (.slice (.int .u8))) s_5), .d (.sl (.int .u8) s_6)])], 1⟩ [] (by kernel_rfl) trivial ?_
  obtain ⟨r241_0, cr241_0, h⟩ := bindS h
  obtain ⟨r241_1, cr241_1, h⟩ := bindS h
  obtain ⟨g241_2, h⟩ := ifS h
  obtain ⟨r241_3, cr241_3, h⟩ := bindS h
  obtain ⟨g241_4, h⟩ := ifS h
  refine At.step hm ht ⟨[(4, .call [] [] (f105_broughamref26_when_out r241_0)), (10, .call [] [] (f105_broughamref26_when_out r241_1)), (17, .call [] [] (f105_broughamref26_when_out r241_3))], [], [], [1, 3], [0]⟩ 2 ⟨[(1, .one (.c (.ptr 0 0))), (3, .one (.c (.d (.str ((r241_0 ++ r241_1) ++ r241_3)))))], [], [(0, [.d (.int .u16 s_0), .d (.int .u16 s_1), .d (.int .u32 s_2), .d (.int .u32 s_3), .d (.int .u8 s_4), .d (.sl (.pair (.int .u8) (.slice (.int .u8))) s_5), .d (.sl (.int .u8) s_6)])], 1⟩ [(2 : Int) ≠ 0, FnOK Go.Proofs.Try.prog 105 (f105_broughamref26_when_in (((Int.tmod s_4 2) : Int) == 1) (⟨#[115, 121, 110]⟩ : ByteArray)) (f105_broughamref26_when_out r241_0), (2 : Int) ≠ 0, (2 : Int) ≠ 0, FnOK Go.Proofs.Try.prog 105 (f105_broughamref26_when_in (((Int.tmod (IntKind.wrap .u8 (Int.tdiv s_4 2)) 2) : Int) == 1) (⟨#[97, 99, 107]⟩ : ByteArray)) (f105_broughamref26_when_out r241_1), r241_0.size + r241_1.size ≤ 9223372036854775807, (4 : Int) ≠ 0, (2 : Int) ≠ 0, FnOK Go.Proofs.Try.prog 105 (f105_broughamref26_when_in (((Int.tmod (IntKind.wrap .u8 (Int.tdiv s_4 4)) 2) : Int) == 1) (⟨#[114, 115, 116]⟩ : ByteArray)) (f105_broughamref26_when_out r241_3), (r241_0 ++ r241_1).size + r241_3.size ≤ 9223372036854775807] (by kernel_rfl) ⟨(by decide), (f105_broughamref26_when_ok (((Int.tmod s_4 2) : Int) == 1) (⟨#[115, 121, 110]⟩ : ByteArray) r241_0 cr241_0), (by decide), (by decide), (f105_broughamref26_when_ok (((Int.tmod (IntKind.wrap .u8 (Int.tdiv s_4 2)) 2) : Int) == 1) (⟨#[97, 99, 107]⟩ : ByteArray) r241_1 cr241_1), g241_2, (by decide), (by decide), (f105_broughamref26_when_ok (((Int.tmod (IntKind.wrap .u8 (Int.tdiv s_4 4)) 2) : Int) == 1) (⟨#[114, 115, 116]⟩ : ByteArray) r241_3 cr241_3), g241_4, trivial⟩ ?_
  rcases iteS h with ⟨b246_e0, h⟩ | ⟨b246_e0, h⟩
  · refine At.step hm ht ⟨[], [true], [], [1], [0]⟩ 3 ⟨[(1, .one (.c (.ptr 0 0)))], [], [(0, [.d (.int .u16 s_0), .d (.int .u16 s_1), .d (.int .u32 s_2), .d (.int .u32 s_3), .d (.int .u8 s_4), .d (.sl (.pair (.int .u8) (.slice (.int .u8))) s_5), .d (.sl (.int .u8) s_6)])], 1⟩ [(((r241_0 ++ r241_1) ++ r241_3).toList == (⟨#[]⟩ : ByteArray).toList) = true] (by kernel_rfl) ⟨b246_e0, trivial⟩ ?_
    refine At.step hm ht ⟨[], [], [], [1, 3], [0]⟩ 4 ⟨[(1, .one (.c (.ptr 0 0))), (3, .one (.c (.d (.str (⟨#[32, 110, 111, 110, 101]⟩ : ByteArray)))))], [], [(0, [.d (.int .u16 s_0), .d (.int .u16 s_1), .d (.int .u32 s_2), .d (.int .u32 s_3), .d (.int .u8 s_4), .d (.sl (.pair (.int .u8) (.slice (.int .u8))) s_5), .d (.sl (.int .u8) s_6)])], 1⟩ [] (by kernel_rfl) trivial ?_
    obtain ⟨r248_0, cr248_0, h⟩ := bindS h
    obtain ⟨g248_1, h⟩ := ifS h
    obtain ⟨r248_2, cr248_2, h⟩ := bindS h
    obtain ⟨g248_3, h⟩ := ifS h
    obtain ⟨g248_4, h⟩ := ifS h
    obtain ⟨r248_5, cr248_5, h⟩ := bindS h
    obtain ⟨g248_6, h⟩ := ifS h
    obtain ⟨g248_7, h⟩ := ifS h
    obtain ⟨r248_8, cr248_8, h⟩ := bindS h
    obtain ⟨g248_9, h⟩ := ifS h
    obtain ⟨g248_10, h⟩ := ifS h
    refine At.step hm ht ⟨[(3, .call [] [] (f70_broughamref01_Text_out r248_0)), (8, .call [] [] (f70_broughamref01_Text_out r248_2)), (14, .call [] [] (f106_broughamref26_hex_out r248_5)), (20, .call [] [] (f106_broughamref26_hex_out r248_8))], [], [], [1, 4], [0]⟩ 5 ⟨[(1, .one (.c (.ptr 0 0))), (4, .one (.c (.d (.str (((((((r248_0 ++ (⟨#[32]⟩ : ByteArray)) ++ r248_2) ++ (⟨#[32, 115, 101, 113, 32]⟩ : ByteArray)) ++ r248_5) ++ (⟨#[32, 97, 99, 107, 32]⟩ : ByteArray)) ++ r248_8) ++ (⟨#[32, 110, 111, 110, 101]⟩ : ByteArray))))))], [], [(0, [.d (.int .u16 s_0), .d (.int .u16 s_1), .d (.int .u32 s_2), .d (.int .u32 s_3), .d (.int .u8 s_4), .d (.sl (.pair (.int .u8) (.slice (.int .u8))) s_5), .d (.sl (.int .u8) s_6)])], 1⟩ [FnOK Go.Proofs.Try.prog 70 (f70_broughamref01_Text_in (IntKind.wrap .i64 s_0)) (f70_broughamref01_Text_out r248_0), r248_0.size + (⟨#[32]⟩ : ByteArray).size ≤ 9223372036854775807, FnOK Go.Proofs.Try.prog 70 (f70_broughamref01_Text_in (IntKind.wrap .i64 s_1)) (f70_broughamref01_Text_out r248_2), (r248_0 ++ (⟨#[32]⟩ : ByteArray)).size + r248_2.size ≤ 9223372036854775807, ((r248_0 ++ (⟨#[32]⟩ : ByteArray)) ++ r248_2).size + (⟨#[32, 115, 101, 113, 32]⟩ : ByteArray).size ≤ 9223372036854775807, FnOK Go.Proofs.Try.prog 106 (f106_broughamref26_hex_in (IntKind.wrap .u64 s_2) 4) (f106_broughamref26_hex_out r248_5), (((r248_0 ++ (⟨#[32]⟩ : ByteArray)) ++ r248_2) ++ (⟨#[32, 115, 101, 113, 32]⟩ : ByteArray)).size + r248_5.size ≤ 9223372036854775807, ((((r248_0 ++ (⟨#[32]⟩ : ByteArray)) ++ r248_2) ++ (⟨#[32, 115, 101, 113, 32]⟩ : ByteArray)) ++ r248_5).size + (⟨#[32, 97, 99, 107, 32]⟩ : ByteArray).size ≤ 9223372036854775807, FnOK Go.Proofs.Try.prog 106 (f106_broughamref26_hex_in (IntKind.wrap .u64 s_3) 4) (f106_broughamref26_hex_out r248_8), (((((r248_0 ++ (⟨#[32]⟩ : ByteArray)) ++ r248_2) ++ (⟨#[32, 115, 101, 113, 32]⟩ : ByteArray)) ++ r248_5) ++ (⟨#[32, 97, 99, 107, 32]⟩ : ByteArray)).size + r248_8.size ≤ 9223372036854775807, ((((((r248_0 ++ (⟨#[32]⟩ : ByteArray)) ++ r248_2) ++ (⟨#[32, 115, 101, 113, 32]⟩ : ByteArray)) ++ r248_5) ++ (⟨#[32, 97, 99, 107, 32]⟩ : ByteArray)) ++ r248_8).size + (⟨#[32, 110, 111, 110, 101]⟩ : ByteArray).size ≤ 9223372036854775807] (by kernel_rfl) ⟨(f70_broughamref01_Text_ok n (IntKind.wrap .i64 s_0) r248_0 cr248_0), g248_1, (f70_broughamref01_Text_ok n (IntKind.wrap .i64 s_1) r248_2 cr248_2), g248_3, g248_4, (f106_broughamref26_hex_ok n (IntKind.wrap .u64 s_2) 4 r248_5 cr248_5), g248_6, g248_7, (f106_broughamref26_hex_ok n (IntKind.wrap .u64 s_3) 4 r248_8 cr248_8), g248_9, g248_10, trivial⟩ ?_
    refine At.step hm ht ⟨[], [], [], [1, 4, 5], [0]⟩ 6 ⟨[(1, .one (.c (.ptr 0 0))), (4, .one (.c (.d (.str (((((((r248_0 ++ (⟨#[32]⟩ : ByteArray)) ++ r248_2) ++ (⟨#[32, 115, 101, 113, 32]⟩ : ByteArray)) ++ r248_5) ++ (⟨#[32, 97, 99, 107, 32]⟩ : ByteArray)) ++ r248_8) ++ (⟨#[32, 110, 111, 110, 101]⟩ : ByteArray)))))), (5, .one (.c (.d (.int .i64 0))))], [], [(0, [.d (.int .u16 s_0), .d (.int .u16 s_1), .d (.int .u32 s_2), .d (.int .u32 s_3), .d (.int .u8 s_4), .d (.sl (.pair (.int .u8) (.slice (.int .u8))) s_5), .d (.sl (.int .u8) s_6)])], 1⟩ [] (by kernel_rfl) trivial ?_
    obtain ⟨w421, cw421, h⟩ := bindS h
    refine f66_broughamref26_Segment_L6_ok n (((((((r248_0 ++ (⟨#[32]⟩ : ByteArray)) ++ r248_2) ++ (⟨#[32, 115, 101, 113, 32]⟩ : ByteArray)) ++ r248_5) ++ (⟨#[32, 97, 99, 107, 32]⟩ : ByteArray)) ++ r248_8) ++ (⟨#[32, 110, 111, 110, 101]⟩ : ByteArray)) 0 s_0 s_1 s_2 s_3 s_4 s_5 s_6 w421 cw421 _ ?_
    show At Go.Proofs.Try.prog Go.Proofs.Try.f66 0 9 ⟨[(1, .one (.c (.ptr 0 0))), (4, .one (.c (.d (.str w421.1))))], [], [(0, [.d (.int .u16 w421.2.1), .d (.int .u16 w421.2.2.1), .d (.int .u32 w421.2.2.2.1), .d (.int .u32 w421.2.2.2.2.1), .d (.int .u8 w421.2.2.2.2.2.1), .d (.sl (.pair (.int .u8) (.slice (.int .u8))) w421.2.2.2.2.2.2.1), .d (.sl (.int .u8) w421.2.2.2.2.2.2.2)])], 1⟩ _
    obtain ⟨g423_0, h⟩ := ifS h
    obtain ⟨r423_1, cr423_1, h⟩ := bindS h
    obtain ⟨g423_2, h⟩ := ifS h
    have h := Option.some.inj h
    subst h
    exact At.fin hm ht ⟨[(5, .call [] [] (f70_broughamref01_Text_out r423_1))], [], [], [2], []⟩ [w421.1.size + (⟨#[59, 32]⟩ : ByteArray).size ≤ 9223372036854775807, FnOK Go.Proofs.Try.prog 70 (f70_broughamref01_Text_in ((w421.2.2.2.2.2.2.2.length : Nat) : Int)) (f70_broughamref01_Text_out r423_1), (w421.1 ++ (⟨#[59, 32]⟩ : ByteArray)).size + r423_1.size ≤ 9223372036854775807] (by kernel_rfl) ⟨g423_0, (f70_broughamref01_Text_ok n ((w421.2.2.2.2.2.2.2.length : Nat) : Int) r423_1 cr423_1), g423_2, trivial⟩
  · refine At.step hm ht ⟨[], [false], [], [1, 3], [0]⟩ 4 ⟨[(1, .one (.c (.ptr 0 0))), (3, .one (.c (.d (.str ((r241_0 ++ r241_1) ++ r241_3)))))], [], [(0, [.d (.int .u16 s_0), .d (.int .u16 s_1), .d (.int .u32 s_2), .d (.int .u32 s_3), .d (.int .u8 s_4), .d (.sl (.pair (.int .u8) (.slice (.int .u8))) s_5), .d (.sl (.int .u8) s_6)])], 1⟩ [(((r241_0 ++ r241_1) ++ r241_3).toList == (⟨#[]⟩ : ByteArray).toList) = false] (by kernel_rfl) ⟨b246_e0, trivial⟩ ?_
    obtain ⟨r424_0, cr424_0, h⟩ := bindS h
    obtain ⟨g424_1, h⟩ := ifS h
    obtain ⟨r424_2, cr424_2, h⟩ := bindS h
    obtain ⟨g424_3, h⟩ := ifS h
    obtain ⟨g424_4, h⟩ := ifS h
    obtain ⟨r424_5, cr424_5, h⟩ := bindS h
    obtain ⟨g424_6, h⟩ := ifS h
    obtain ⟨g424_7, h⟩ := ifS h
    obtain ⟨r424_8, cr424_8, h⟩ := bindS h
    obtain ⟨g424_9, h⟩ := ifS h
    obtain ⟨g424_10, h⟩ := ifS h
    refine At.step hm ht ⟨[(3, .call [] [] (f70_broughamref01_Text_out r424_0)), (8, .call [] [] (f70_broughamref01_Text_out r424_2)), (14, .call [] [] (f106_broughamref26_hex_out r424_5)), (20, .call [] [] (f106_broughamref26_hex_out r424_8))], [], [], [1, 4], [0]⟩ 5 ⟨[(1, .one (.c (.ptr 0 0))), (4, .one (.c (.d (.str (((((((r424_0 ++ (⟨#[32]⟩ : ByteArray)) ++ r424_2) ++ (⟨#[32, 115, 101, 113, 32]⟩ : ByteArray)) ++ r424_5) ++ (⟨#[32, 97, 99, 107, 32]⟩ : ByteArray)) ++ r424_8) ++ ((r241_0 ++ r241_1) ++ r241_3))))))], [], [(0, [.d (.int .u16 s_0), .d (.int .u16 s_1), .d (.int .u32 s_2), .d (.int .u32 s_3), .d (.int .u8 s_4), .d (.sl (.pair (.int .u8) (.slice (.int .u8))) s_5), .d (.sl (.int .u8) s_6)])], 1⟩ [FnOK Go.Proofs.Try.prog 70 (f70_broughamref01_Text_in (IntKind.wrap .i64 s_0)) (f70_broughamref01_Text_out r424_0), r424_0.size + (⟨#[32]⟩ : ByteArray).size ≤ 9223372036854775807, FnOK Go.Proofs.Try.prog 70 (f70_broughamref01_Text_in (IntKind.wrap .i64 s_1)) (f70_broughamref01_Text_out r424_2), (r424_0 ++ (⟨#[32]⟩ : ByteArray)).size + r424_2.size ≤ 9223372036854775807, ((r424_0 ++ (⟨#[32]⟩ : ByteArray)) ++ r424_2).size + (⟨#[32, 115, 101, 113, 32]⟩ : ByteArray).size ≤ 9223372036854775807, FnOK Go.Proofs.Try.prog 106 (f106_broughamref26_hex_in (IntKind.wrap .u64 s_2) 4) (f106_broughamref26_hex_out r424_5), (((r424_0 ++ (⟨#[32]⟩ : ByteArray)) ++ r424_2) ++ (⟨#[32, 115, 101, 113, 32]⟩ : ByteArray)).size + r424_5.size ≤ 9223372036854775807, ((((r424_0 ++ (⟨#[32]⟩ : ByteArray)) ++ r424_2) ++ (⟨#[32, 115, 101, 113, 32]⟩ : ByteArray)) ++ r424_5).size + (⟨#[32, 97, 99, 107, 32]⟩ : ByteArray).size ≤ 9223372036854775807, FnOK Go.Proofs.Try.prog 106 (f106_broughamref26_hex_in (IntKind.wrap .u64 s_3) 4) (f106_broughamref26_hex_out r424_8), (((((r424_0 ++ (⟨#[32]⟩ : ByteArray)) ++ r424_2) ++ (⟨#[32, 115, 101, 113, 32]⟩ : ByteArray)) ++ r424_5) ++ (⟨#[32, 97, 99, 107, 32]⟩ : ByteArray)).size + r424_8.size ≤ 9223372036854775807, ((((((r424_0 ++ (⟨#[32]⟩ : ByteArray)) ++ r424_2) ++ (⟨#[32, 115, 101, 113, 32]⟩ : ByteArray)) ++ r424_5) ++ (⟨#[32, 97, 99, 107, 32]⟩ : ByteArray)) ++ r424_8).size + ((r241_0 ++ r241_1) ++ r241_3).size ≤ 9223372036854775807] (by kernel_rfl) ⟨(f70_broughamref01_Text_ok n (IntKind.wrap .i64 s_0) r424_0 cr424_0), g424_1, (f70_broughamref01_Text_ok n (IntKind.wrap .i64 s_1) r424_2 cr424_2), g424_3, g424_4, (f106_broughamref26_hex_ok n (IntKind.wrap .u64 s_2) 4 r424_5 cr424_5), g424_6, g424_7, (f106_broughamref26_hex_ok n (IntKind.wrap .u64 s_3) 4 r424_8 cr424_8), g424_9, g424_10, trivial⟩ ?_
    refine At.step hm ht ⟨[], [], [], [1, 4, 5], [0]⟩ 6 ⟨[(1, .one (.c (.ptr 0 0))), (4, .one (.c (.d (.str (((((((r424_0 ++ (⟨#[32]⟩ : ByteArray)) ++ r424_2) ++ (⟨#[32, 115, 101, 113, 32]⟩ : ByteArray)) ++ r424_5) ++ (⟨#[32, 97, 99, 107, 32]⟩ : ByteArray)) ++ r424_8) ++ ((r241_0 ++ r241_1) ++ r241_3)))))), (5, .one (.c (.d (.int .i64 0))))], [], [(0, [.d (.int .u16 s_0), .d (.int .u16 s_1), .d (.int .u32 s_2), .d (.int .u32 s_3), .d (.int .u8 s_4), .d (.sl (.pair (.int .u8) (.slice (.int .u8))) s_5), .d (.sl (.int .u8) s_6)])], 1⟩ [] (by kernel_rfl) trivial ?_
    obtain ⟨w426, cw426, h⟩ := bindS h
    refine f66_broughamref26_Segment_L6_ok n (((((((r424_0 ++ (⟨#[32]⟩ : ByteArray)) ++ r424_2) ++ (⟨#[32, 115, 101, 113, 32]⟩ : ByteArray)) ++ r424_5) ++ (⟨#[32, 97, 99, 107, 32]⟩ : ByteArray)) ++ r424_8) ++ ((r241_0 ++ r241_1) ++ r241_3)) 0 s_0 s_1 s_2 s_3 s_4 s_5 s_6 w426 cw426 _ ?_
    show At Go.Proofs.Try.prog Go.Proofs.Try.f66 0 9 ⟨[(1, .one (.c (.ptr 0 0))), (4, .one (.c (.d (.str w426.1))))], [], [(0, [.d (.int .u16 w426.2.1), .d (.int .u16 w426.2.2.1), .d (.int .u32 w426.2.2.2.1), .d (.int .u32 w426.2.2.2.2.1), .d (.int .u8 w426.2.2.2.2.2.1), .d (.sl (.pair (.int .u8) (.slice (.int .u8))) w426.2.2.2.2.2.2.1), .d (.sl (.int .u8) w426.2.2.2.2.2.2.2)])], 1⟩ _
    obtain ⟨g428_0, h⟩ := ifS h
    obtain ⟨r428_1, cr428_1, h⟩ := bindS h
    obtain ⟨g428_2, h⟩ := ifS h
    have h := Option.some.inj h
    subst h
    exact At.fin hm ht ⟨[(5, .call [] [] (f70_broughamref01_Text_out r428_1))], [], [], [2], []⟩ [w426.1.size + (⟨#[59, 32]⟩ : ByteArray).size ≤ 9223372036854775807, FnOK Go.Proofs.Try.prog 70 (f70_broughamref01_Text_in ((w426.2.2.2.2.2.2.2.length : Nat) : Int)) (f70_broughamref01_Text_out r428_1), (w426.1 ++ (⟨#[59, 32]⟩ : ByteArray)).size + r428_1.size ≤ 9223372036854775807] (by kernel_rfl) ⟨g428_0, (f70_broughamref01_Text_ok n ((w426.2.2.2.2.2.2.2.length : Nat) : Int) r428_1 cr428_1), g428_2, trivial⟩
end Go.Proofs.YtjoibacjpapncaaF26
