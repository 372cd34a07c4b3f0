/- What the functions compute, and that they do: printed by a program of this session (zgen.py), proved by Zed. -/
import Derived.Test.YtddglebabaaghaaProg
import Derived.Test.YtddglebabaaghaaZedYa
namespace Go.Proofs.YtddglebabaaghaaF07b
open Go Zed
set_option maxRecDepth 100000
set_option linter.unusedVariables false
def tab : Tab := [(3, ⟨.int .i64, 1, 8, [.int .i64 0], some (.int .i64), none⟩), (4, ⟨.bool, 1, 1, [.bool false], some .bool, none⟩), (5, ⟨.int .u8, 1, 1, [.int .u8 0], some (.int .u8), none⟩), (9, ⟨.str, 1, 16, [.str (⟨#[]⟩ : ByteArray)], some .str, none⟩), (22, ⟨.int .u16, 1, 2, [.int .u16 0], some (.int .u16), none⟩), (23, ⟨.int .u32, 1, 4, [.int .u32 0], some (.int .u32), none⟩), (24, ⟨.slice 30, 1, 24, [.sl .unit []], some (.slice (.pair (.int .u8) (.slice (.int .u8)))), none⟩), (25, ⟨.slice 5, 1, 24, [.sl .unit []], some (.slice (.int .u8)), none⟩), (27, ⟨.struct [(0, 22), (1, 22), (2, 23), (3, 23), (4, 5), (5, 24), (6, 25)], 7, 64, [.int .u16 0, .int .u16 0, .int .u32 0, .int .u32 0, .int .u8 0, .sl .unit [], .sl .unit []], some (.pair (.int .u16) (.pair (.int .u16) (.pair (.int .u32) (.pair (.int .u32) (.pair (.int .u8) (.pair (.slice (.pair (.int .u8) (.slice (.int .u8)))) (.slice (.int .u8)))))))), some [(0, 22), (1, 22), (2, 23), (3, 23), (4, 5), (5, 24), (6, 25)]⟩), (30, ⟨.struct [(0, 5), (1, 25)], 2, 32, [.int .u8 0, .sl .unit []], some (.pair (.int .u8) (.slice (.int .u8))), some [(0, 5), (1, 25)]⟩), (36, ⟨.int .u64, 1, 8, [.int .u64 0], some (.int .u64), none⟩), (82, ⟨.int .i64, 1, 8, [.int .i64 0], some (.int .i64), none⟩), (128, ⟨.struct [(0, 3), (1, 36)], 2, 16, [.int .i64 0, .int .u64 0], some (.pair (.int .i64) (.int .u64)), some [(0, 3), (1, 36)]⟩), (136, ⟨.slice 36, 1, 24, [.sl .unit []], some (.slice (.int .u64)), none⟩), (144, ⟨.slice 3, 1, 24, [.sl .unit []], some (.slice (.int .i64)), none⟩), (151, ⟨.slice 128, 1, 24, [.sl .unit []], some (.slice (.pair (.int .i64) (.int .u64))), none⟩)]
theorem ht : TabOk Go.Proofs.Try.prog tab := tabOk_of (ts := [3, 4, 5, 9, 22, 23, 24, 25, 27, 30, 36, 82, 128, 136, 144, 151]) (by kernel_rfl)
theorem hm : Go.Proofs.Try.prog.follows .mixedOrders = true := by kernel_rfl
/-! brougham/broughamlaw07.Great -/
def f15_broughamlaw07_Great_in (s_0 : Int) (s_1 : Int) (s_2 : Int) (s_3 : Int) (s_4 : Int) (s_5 : List (Int × List Int)) (s_6 : List Int) : Inn := ⟨[.agg [.d (.int .u16 s_0), .d (.int .u16 s_1), .d (.int .u32 s_2), .d (.int .u32 s_3), .d (.int .u8 s_4), .d (.sl (.pair (.int .u8) (.slice (.int .u8))) s_5), .d (.sl (.int .u8) s_6)]], [], [], 0⟩
def f15_broughamlaw07_Great_out (r : Bool) : Out := ⟨.one (.c (.d (.bool r))), [], [], 0⟩
def f15_broughamlaw07_Great_L4 : Nat → Int → Int → Int → Int → Int → Int → (List (Int × List Int)) → (List Int) → Option ((Bool) ⊕ (Unit))
  | 0, _, _, _, _, _, _, _, _ => none
  | n + 1, i, s_0, s_1, s_2, s_3, s_4, s_5, s_6 =>
    if (decide ((i : Int) < ((s_5.length : Nat) : Int))) = true then
      if (0 : Int) ≤ i ∧ i < (((s_5).length : Nat) : Int) then
      if (decide ((((((s_5.getD i.toNat (0, [])).2).length : Nat) : Int) : Int) > 400)) = true then
        some (.inl true)
      else
        f15_broughamlaw07_Great_L4 n (IntKind.wrap .i64 (i + 1)) s_0 s_1 s_2 s_3 s_4 s_5 s_6
      else none
    else
      some (.inr ())
def f15_broughamlaw07_Great_L4_k (w : (Bool) ⊕ (Unit)) (o : Out) : Prop := match w with
  | .inl e => o = f15_broughamlaw07_Great_out e
  | .inr e => At Go.Proofs.Try.prog Go.Proofs.Try.f15 0 8 ⟨[], [], [], 0⟩ o
theorem f15_broughamlaw07_Great_L4_ok (n : Nat) : ∀ (i : Int) (s_0 : Int) (s_1 : Int) (s_2 : Int) (s_3 : Int) (s_4 : Int) (s_5 : List (Int × List Int)) (s_6 : List Int) (w : (Bool) ⊕ (Unit)) (h : f15_broughamlaw07_Great_L4 n i s_0 s_1 s_2 s_3 s_4 s_5 s_6 = some w) (o : Out) (hk : f15_broughamlaw07_Great_L4_k w o), At Go.Proofs.Try.prog Go.Proofs.Try.f15 0 4 ⟨[(1, .one (.c (.ptr 0 0))), (3, .one (.c (.d (.int .i64 i))))], [], [(0, [.d (.int .u16 s_0), .d (.int .u16 s_1), .d (.int .u32 s_2), .d (.int .u32 s_3), .d (.int .u8 s_4), .d (.sl (.pair (.int .u8) (.slice (.int .u8))) s_5), .d (.sl (.int .u8) s_6)])], 1⟩ o := by
  induction n with
  | zero => intro i s_0 s_1 s_2 s_3 s_4 s_5 s_6 w h; rw [f15_broughamlaw07_Great_L4] at h; cases h
  | succ n ih =>
    intro i s_0 s_1 s_2 s_3 s_4 s_5 s_6 w h o hk
    rw [f15_broughamlaw07_Great_L4] at h
    rcases iteS h with ⟨b8_e0, h⟩ | ⟨b8_e0, h⟩
    · refine At.step hm ht ⟨[], [true], [], [1, 3], [0]⟩ 6 ⟨[(1, .one (.c (.ptr 0 0))), (3, .one (.c (.d (.int .i64 i))))], [], [(0, [.d (.int .u16 s_0), .d (.int .u16 s_1), .d (.int .u32 s_2), .d (.int .u32 s_3), .d (.int .u8 s_4), .d (.sl (.pair (.int .u8) (.slice (.int .u8))) s_5), .d (.sl (.int .u8) s_6)])], 1⟩ [(decide ((i : Int) < ((s_5.length : Nat) : Int))) = true] (by kernel_rfl) ⟨b8_e0, trivial⟩ ?_
      obtain ⟨g9_0, h⟩ := ifS h
      rcases iteS h with ⟨b9_e0, h⟩ | ⟨b9_e0, h⟩
      · refine At.step hm ht ⟨[], [true], [], [], []⟩ 7 ⟨[], [], [], 0⟩ [(0 : Int) ≤ i ∧ i < (((s_5).length : Nat) : Int), (decide ((((((s_5.getD i.toNat (0, [])).2).length : Nat) : Int) : Int) > 400)) = true] (by kernel_rfl) ⟨g9_0, b9_e0, trivial⟩ ?_
        have h := Option.some.inj h
        subst h
        have hk : o = f15_broughamlaw07_Great_out true := hk
        subst hk
        exact At.fin hm ht ⟨[], [], [], [2], []⟩ [] (by kernel_rfl) trivial
      · refine At.step hm ht ⟨[], [false], [], [1, 3], [0]⟩ 5 ⟨[(1, .one (.c (.ptr 0 0))), (3, .one (.c (.d (.int .i64 i))))], [], [(0, [.d (.int .u16 s_0), .d (.int .u16 s_1), .d (.int .u32 s_2), .d (.int .u32 s_3), .d (.int .u8 s_4), .d (.sl (.pair (.int .u8) (.slice (.int .u8))) s_5), .d (.sl (.int .u8) s_6)])], 1⟩ [(0 : Int) ≤ i ∧ i < (((s_5).length : Nat) : Int), (decide ((((((s_5.getD i.toNat (0, [])).2).length : Nat) : Int) : Int) > 400)) = false] (by kernel_rfl) ⟨g9_0, b9_e0, trivial⟩ ?_
        refine At.step hm ht ⟨[], [], [], [1, 3], [0]⟩ 4 ⟨[(1, .one (.c (.ptr 0 0))), (3, .one (.c (.d (.int .i64 (IntKind.wrap .i64 (i + 1))))))], [], [(0, [.d (.int .u16 s_0), .d (.int .u16 s_1), .d (.int .u32 s_2), .d (.int .u32 s_3), .d (.int .u8 s_4), .d (.sl (.pair (.int .u8) (.slice (.int .u8))) s_5), .d (.sl (.int .u8) s_6)])], 1⟩ [] (by kernel_rfl) trivial ?_
        exact ih (IntKind.wrap .i64 (i + 1)) s_0 s_1 s_2 s_3 s_4 s_5 s_6 w h o hk
    · refine At.step hm ht ⟨[], [false], [], [], []⟩ 8 ⟨[], [], [], 0⟩ [(decide ((i : Int) < ((s_5.length : Nat) : Int))) = false] (by kernel_rfl) ⟨b8_e0, trivial⟩ ?_
      have h := Option.some.inj h
      subst h
      exact hk
def f15_broughamlaw07_Great (n : Nat) (s_0 : Int) (s_1 : Int) (s_2 : Int) (s_3 : Int) (s_4 : Int) (s_5 : List (Int × List Int)) (s_6 : List Int) : Option (Bool) :=
  if (decide ((((s_5.length : Nat) : Int) : Int) > 120)) = true then
    some true
  else
    if (decide ((((s_6.length : Nat) : Int) : Int) > 2000)) = true then
      some true
    else
      (f15_broughamlaw07_Great_L4 n 0 s_0 s_1 s_2 s_3 s_4 s_5 s_6).bind fun w12 =>
      match w12 with
      | .inl e13 =>
        some e13
      | .inr e14 =>
        some false
theorem f15_broughamlaw07_Great_ok (n : Nat) (s_0 : Int) (s_1 : Int) (s_2 : Int) (s_3 : Int) (s_4 : Int) (s_5 : List (Int × List Int)) (s_6 : List Int) (r : Bool) (h : f15_broughamlaw07_Great n s_0 s_1 s_2 s_3 s_4 s_5 s_6 = some r) : FnOK Go.Proofs.Try.prog 15 (f15_broughamlaw07_Great_in s_0 s_1 s_2 s_3 s_4 s_5 s_6) (f15_broughamlaw07_Great_out r) := by
  unfold f15_broughamlaw07_Great at h
  refine At.fn (r := 0) Go.Proofs.Try.func15 rfl (by kernel_rfl) rfl rfl (by kernel_rfl) ?_
  show At Go.Proofs.Try.prog Go.Proofs.Try.f15 0 0 ⟨[(0, .one (.agg [.d (.int .u16 s_0), .d (.int .u16 s_1), .d (.int .u32 s_2), .d (.int .u32 s_3), .d (.int .u8 s_4), .d (.sl (.pair (.int .u8) (.slice (.int .u8))) s_5), .d (.sl (.int .u8) s_6)]))], [], [], 0⟩ _
  refine At.step hm ht ⟨[], [], [], [1], [0]⟩ 1 ⟨[(1, .one (.c (.ptr 0 0)))], [], [(0, [.d (.int .u16 s_0), .d (.int .u16 s_1), .d (.int .u32 s_2), .d (.int .u32 s_3), .d (.int .u8 s_4), .d (.sl (.pair (.int .u8) (.slice (.int .u8))) s_5), .d (.sl (.int .u8) s_6)])], 1⟩ [] (by kernel_rfl) trivial ?_
  rcases iteS h with ⟨b4_4, h⟩ | ⟨b4_4, h⟩
  · refine At.step hm ht ⟨[(4, .b true)], [true], [], [], []⟩ 2 ⟨[], [], [], 0⟩ [(decide ((((s_5.length : Nat) : Int) : Int) > 120)) = true, true = true] (by kernel_rfl) ⟨b4_4, rfl, trivial⟩ ?_
    have h := Option.some.inj h
    subst h
    exact At.fin hm ht ⟨[], [], [], [2], []⟩ [] (by kernel_rfl) trivial
  · rcases iteS h with ⟨b4_e0, h⟩ | ⟨b4_e0, h⟩
    · refine At.step hm ht ⟨[(4, .b false)], [true], [], [], []⟩ 2 ⟨[], [], [], 0⟩ [(decide ((((s_5.length : Nat) : Int) : Int) > 120)) = false, (decide ((((s_6.length : Nat) : Int) : Int) > 2000)) = true] (by kernel_rfl) ⟨b4_4, b4_e0, trivial⟩ ?_
      have h := Option.some.inj h
      subst h
      exact At.fin hm ht ⟨[], [], [], [2], []⟩ [] (by kernel_rfl) trivial
    · refine At.step hm ht ⟨[(4, .b false)], [false], [], [1], [0]⟩ 3 ⟨[(1, .one (.c (.ptr 0 0)))], [], [(0, [.d (.int .u16 s_0), .d (.int .u16 s_1), .d (.int .u32 s_2), .d (.int .u32 s_3), .d (.int .u8 s_4), .d (.sl (.pair (.int .u8) (.slice (.int .u8))) s_5), .d (.sl (.int .u8) s_6)])], 1⟩ [(decide ((((s_5.length : Nat) : Int) : Int) > 120)) = false, (decide ((((s_6.length : Nat) : Int) : Int) > 2000)) = false] (by kernel_rfl) ⟨b4_4, b4_e0, trivial⟩ ?_
      refine At.step hm ht ⟨[], [], [], [1, 3], [0]⟩ 4 ⟨[(1, .one (.c (.ptr 0 0))), (3, .one (.c (.d (.int .i64 0))))], [], [(0, [.d (.int .u16 s_0), .d (.int .u16 s_1), .d (.int .u32 s_2), .d (.int .u32 s_3), .d (.int .u8 s_4), .d (.sl (.pair (.int .u8) (.slice (.int .u8))) s_5), .d (.sl (.int .u8) s_6)])], 1⟩ [] (by kernel_rfl) trivial ?_
      obtain ⟨w12, cw12, h⟩ := bindS h
      refine f15_broughamlaw07_Great_L4_ok n 0 s_0 s_1 s_2 s_3 s_4 s_5 s_6 w12 cw12 _ ?_
      rcases w12 with e13 | e14
      · have h := Option.some.inj h
        subst h
        rfl
      · show At Go.Proofs.Try.prog Go.Proofs.Try.f15 0 8 ⟨[], [], [], 0⟩ _
        have h := Option.some.inj h
        subst h
        exact At.fin hm ht ⟨[], [], [], [2], []⟩ [] (by kernel_rfl) trivial
/-! brougham/seg.First -/
def f50_seg_First_in (s_0 : Int) (s_1 : Int) (s_2 : Int) (s_3 : Int) (s_4 : Int) (s_5 : List (Int × List Int)) (s_6 : List Int) (kind : Int) : Inn := ⟨[.agg [.d (.int .u16 s_0), .d (.int .u16 s_1), .d (.int .u32 s_2), .d (.int .u32 s_3), .d (.int .u8 s_4), .d (.sl (.pair (.int .u8) (.slice (.int .u8))) s_5), .d (.sl (.int .u8) s_6)], .c (.d (.int .u8 kind))], [], [], 0⟩
def f50_seg_First_out (r : Bool × Int × List Int) : Out := ⟨.tup [.agg [.d (.int .u8 r.2.1), .d (.sl (.int .u8) r.2.2)], .c (.d (.bool r.1))], [], [(0, [.d (.int .u8 r.2.1), .d (.sl (.int .u8) r.2.2)])], 1⟩
def f50_seg_First_L2 : Nat → Int → (List (Int × List Int)) → Int → Int → Int → Option ((Bool × Int × List Int) ⊕ (Int))
  | 0, _, _, _, _, _ => none
  | n + 1, kind, t9, t10, t11, t4_0 =>
    if (decide ((t11 : Int) < t10)) = true then
      if (0 : Int) ≤ t11 ∧ t11 < (((t9).length : Nat) : Int) then
      if ((((t9.getD t11.toNat (0, [])).1) : Int) == kind) = true then
        some (.inl (true, (t9.getD t11.toNat (0, [])).1, (t9.getD t11.toNat (0, [])).2))
      else
        f50_seg_First_L2 n kind t9 t10 (IntKind.wrap .i64 (t11 + 1)) t4_0
      else none
    else
      some (.inr t4_0)
def f50_seg_First_L2_k (w : (Bool × Int × List Int) ⊕ (Int)) (o : Out) : Prop := match w with
  | .inl e => o = f50_seg_First_out e
  | .inr e => At Go.Proofs.Try.prog Go.Proofs.Try.f50 0 7 ⟨[(4, .one (.c (.ptr 0 0)))], [], [(0, [.d (.int .u8 e), .d (.sl .unit [])])], 1⟩ o
theorem f50_seg_First_L2_ok (n : Nat) : ∀ (kind : Int) (t9 : List (Int × List Int)) (t10 : Int) (t11 : Int) (t4_0 : Int) (w : (Bool × Int × List Int) ⊕ (Int)) (h : f50_seg_First_L2 n kind t9 t10 t11 t4_0 = some w) (o : Out) (hk : f50_seg_First_L2_k w o), At Go.Proofs.Try.prog Go.Proofs.Try.f50 0 2 ⟨[(1, .one (.c (.d (.int .u8 kind)))), (4, .one (.c (.ptr 0 0))), (9, .one (.c (.d (.sl (.pair (.int .u8) (.slice (.int .u8))) t9)))), (10, .one (.c (.d (.int .i64 t10)))), (11, .one (.c (.d (.int .i64 t11))))], [], [(0, [.d (.int .u8 t4_0), .d (.sl .unit [])])], 1⟩ o := by
  induction n with
  | zero => intro kind t9 t10 t11 t4_0 w h; rw [f50_seg_First_L2] at h; cases h
  | succ n ih =>
    intro kind t9 t10 t11 t4_0 w h o hk
    rw [f50_seg_First_L2] at h
    rcases iteS h with ⟨b21_e0, h⟩ | ⟨b21_e0, h⟩
    · refine At.step hm ht ⟨[], [true], [], [1, 4, 9, 10, 11], [0]⟩ 3 ⟨[(1, .one (.c (.d (.int .u8 kind)))), (4, .one (.c (.ptr 0 0))), (9, .one (.c (.d (.sl (.pair (.int .u8) (.slice (.int .u8))) t9)))), (10, .one (.c (.d (.int .i64 t10)))), (11, .one (.c (.d (.int .i64 t11))))], [], [(0, [.d (.int .u8 t4_0), .d (.sl .unit [])])], 1⟩ [(decide ((t11 : Int) < t10)) = true] (by kernel_rfl) ⟨b21_e0, trivial⟩ ?_
      obtain ⟨g22_0, h⟩ := ifS h
      refine At.step hm ht ⟨[], [], [], [1, 4, 7, 9, 10, 11], [0, 3]⟩ 4 ⟨[(1, .one (.c (.d (.int .u8 kind)))), (4, .one (.c (.ptr 0 0))), (7, .one (.c (.ptr 1 0))), (9, .one (.c (.d (.sl (.pair (.int .u8) (.slice (.int .u8))) t9)))), (10, .one (.c (.d (.int .i64 t10)))), (11, .one (.c (.d (.int .i64 t11))))], [], [(0, [.d (.int .u8 t4_0), .d (.sl .unit [])]), (1, [.d (.int .u8 ((t9.getD t11.toNat (0, [])).1)), .d (.sl (.int .u8) ((t9.getD t11.toNat (0, [])).2))])], 2⟩ [(0 : Int) ≤ t11 ∧ t11 < (((t9).length : Nat) : Int), 0 + 2 ≤ 2] (by kernel_rfl) ⟨g22_0, (by decide), trivial⟩ ?_
      rcases iteS h with ⟨b23_e0, h⟩ | ⟨b23_e0, h⟩
      · refine At.step hm ht ⟨[], [true], [], [4, 7], [0, 1]⟩ 5 ⟨[(4, .one (.c (.ptr 0 0))), (7, .one (.c (.ptr 1 0)))], [], [(0, [.d (.int .u8 t4_0), .d (.sl .unit [])]), (1, [.d (.int .u8 ((t9.getD t11.toNat (0, [])).1)), .d (.sl (.int .u8) ((t9.getD t11.toNat (0, [])).2))])], 2⟩ [((((t9.getD t11.toNat (0, [])).1) : Int) == kind) = true] (by kernel_rfl) ⟨b23_e0, trivial⟩ ?_
        have h := Option.some.inj h
        subst h
        have hk : o = f50_seg_First_out (true, (t9.getD t11.toNat (0, [])).1, (t9.getD t11.toNat (0, [])).2) := hk
        subst hk
        exact At.fin hm ht ⟨[], [], [], [4, 5], [0]⟩ [0 + 2 ≤ 2] (by kernel_rfl) ⟨(by decide), trivial⟩
      · refine At.step hm ht ⟨[], [false], [], [1, 4, 9, 10, 11], [0]⟩ 6 ⟨[(1, .one (.c (.d (.int .u8 kind)))), (4, .one (.c (.ptr 0 0))), (9, .one (.c (.d (.sl (.pair (.int .u8) (.slice (.int .u8))) t9)))), (10, .one (.c (.d (.int .i64 t10)))), (11, .one (.c (.d (.int .i64 t11))))], [], [(0, [.d (.int .u8 t4_0), .d (.sl .unit [])])], 1⟩ [((((t9.getD t11.toNat (0, [])).1) : Int) == kind) = false] (by kernel_rfl) ⟨b23_e0, trivial⟩ ?_
        refine At.step hm ht ⟨[], [], [], [1, 4, 9, 10, 11], [0]⟩ 2 ⟨[(1, .one (.c (.d (.int .u8 kind)))), (4, .one (.c (.ptr 0 0))), (9, .one (.c (.d (.sl (.pair (.int .u8) (.slice (.int .u8))) t9)))), (10, .one (.c (.d (.int .i64 t10)))), (11, .one (.c (.d (.int .i64 (IntKind.wrap .i64 (t11 + 1))))))], [], [(0, [.d (.int .u8 t4_0), .d (.sl .unit [])])], 1⟩ [] (by kernel_rfl) trivial ?_
        exact ih kind t9 t10 (IntKind.wrap .i64 (t11 + 1)) t4_0 w h o hk
    · refine At.step hm ht ⟨[], [false], [], [4], [0]⟩ 7 ⟨[(4, .one (.c (.ptr 0 0)))], [], [(0, [.d (.int .u8 t4_0), .d (.sl .unit [])])], 1⟩ [(decide ((t11 : Int) < t10)) = false] (by kernel_rfl) ⟨b21_e0, trivial⟩ ?_
      have h := Option.some.inj h
      subst h
      exact hk
def f50_seg_First (n : Nat) (s_0 : Int) (s_1 : Int) (s_2 : Int) (s_3 : Int) (s_4 : Int) (s_5 : List (Int × List Int)) (s_6 : List Int) (kind : Int) : Option (Bool × Int × List Int) :=
  (f50_seg_First_L2 n kind s_5 ((s_5.length : Nat) : Int) 0 0).bind fun w26 =>
  match w26 with
  | .inl e27 =>
    some (e27.1, e27.2.1, e27.2.2)
  | .inr e28 =>
    some (false, 0, [])
theorem f50_seg_First_ok (n : Nat) (s_0 : Int) (s_1 : Int) (s_2 : Int) (s_3 : Int) (s_4 : Int) (s_5 : List (Int × List Int)) (s_6 : List Int) (kind : Int) (r : Bool × Int × List Int) (h : f50_seg_First n s_0 s_1 s_2 s_3 s_4 s_5 s_6 kind = some r) : FnOK Go.Proofs.Try.prog 50 (f50_seg_First_in s_0 s_1 s_2 s_3 s_4 s_5 s_6 kind) (f50_seg_First_out r) := by
  unfold f50_seg_First at h
  refine At.fn (r := 0) Go.Proofs.Try.func50 rfl (by kernel_rfl) rfl rfl (by kernel_rfl) ?_
  show At Go.Proofs.Try.prog Go.Proofs.Try.f50 0 0 ⟨[(0, .one (.agg [.d (.int .u16 s_0), .d (.int .u16 s_1), .d (.int .u32 s_2), .d (.int .u32 s_3), .d (.int .u8 s_4), .d (.sl (.pair (.int .u8) (.slice (.int .u8))) s_5), .d (.sl (.int .u8) s_6)])), (1, .one (.c (.d (.int .u8 kind))))], [], [], 0⟩ _
  refine At.step hm ht ⟨[], [], [], [1, 2, 4], [0, 1]⟩ 1 ⟨[(1, .one (.c (.d (.int .u8 kind)))), (2, .one (.c (.ptr 0 0))), (4, .one (.c (.ptr 1 0)))], [], [(0, [.d (.int .u16 s_0), .d (.int .u16 s_1), .d (.int .u32 s_2), .d (.int .u32 s_3), .d (.int .u8 s_4), .d (.sl (.pair (.int .u8) (.slice (.int .u8))) s_5), .d (.sl (.int .u8) s_6)]), (1, [.d (.int .u8 0), .d (.sl .unit [])])], 2⟩ [] (by kernel_rfl) trivial ?_
  refine At.step hm ht ⟨[], [], [], [1, 4, 9, 10, 11], [1]⟩ 2 ⟨[(1, .one (.c (.d (.int .u8 kind)))), (4, .one (.c (.ptr 0 0))), (9, .one (.c (.d (.sl (.pair (.int .u8) (.slice (.int .u8))) s_5)))), (10, .one (.c (.d (.int .i64 ((s_5.length : Nat) : Int))))), (11, .one (.c (.d (.int .i64 0))))], [], [(0, [.d (.int .u8 0), .d (.sl .unit [])])], 1⟩ [] (by kernel_rfl) trivial ?_
  obtain ⟨w26, cw26, h⟩ := bindS h
  refine f50_seg_First_L2_ok n kind s_5 ((s_5.length : Nat) : Int) 0 0 w26 cw26 _ ?_
  rcases w26 with e27 | e28
  · have h := Option.some.inj h
    subst h
    rfl
  · show At Go.Proofs.Try.prog Go.Proofs.Try.f50 0 7 ⟨[(4, .one (.c (.ptr 0 0)))], [], [(0, [.d (.int .u8 e28), .d (.sl .unit [])])], 1⟩ _
    have h := Option.some.inj h
    subst h
    exact At.fin hm ht ⟨[], [], [.nil true 0 1 (.int .u8) none], [4, 5], [0]⟩ [0 + 2 ≤ 2] (by kernel_rfl) ⟨(by decide), trivial⟩
/-! brougham/broughamref07.First -/
def f51_broughamref07_First_in (s_0 : Int) (s_1 : Int) (s_2 : Int) (s_3 : Int) (s_4 : Int) (s_5 : List (Int × List Int)) (s_6 : List Int) (kind : Int) : Inn := ⟨[.agg [.d (.int .u16 s_0), .d (.int .u16 s_1), .d (.int .u32 s_2), .d (.int .u32 s_3), .d (.int .u8 s_4), .d (.sl (.pair (.int .u8) (.slice (.int .u8))) s_5), .d (.sl (.int .u8) s_6)], .c (.d (.int .u8 kind))], [], [], 0⟩
def f51_broughamref07_First_out (r : Bool × Int × List Int) : Out := ⟨.tup [.agg [.d (.int .u8 r.2.1), .d (.sl (.int .u8) r.2.2)], .c (.d (.bool r.1))], [], [(0, [.d (.int .u8 r.2.1), .d (.sl (.int .u8) r.2.2)])], 1⟩
def f51_broughamref07_First_L2 : Nat → Int → Int → Int → Int → Int → Int → Int → (List (Int × List Int)) → (List Int) → Int → Option ((Bool × Int × List Int) ⊕ (Int))
  | 0, _, _, _, _, _, _, _, _, _, _ => none
  | n + 1, kind, i, s_0, s_1, s_2, s_3, s_4, s_5, s_6, t4_0 =>
    if (decide ((i : Int) < ((s_5.length : Nat) : Int))) = true then
      if (0 : Int) ≤ i ∧ i < (((s_5).length : Nat) : Int) then
      if ((((s_5.getD i.toNat (0, [])).1) : Int) == kind) = true then
        if (0 : Int) ≤ i ∧ i < (((s_5).length : Nat) : Int) then
        some (.inl (true, (s_5.getD i.toNat (0, [])).1, (s_5.getD i.toNat (0, [])).2))
        else none
      else
        f51_broughamref07_First_L2 n kind (IntKind.wrap .i64 (i + 1)) s_0 s_1 s_2 s_3 s_4 s_5 s_6 t4_0
      else none
    else
      some (.inr t4_0)
def f51_broughamref07_First_L2_k (w : (Bool × Int × List Int) ⊕ (Int)) (o : Out) : Prop := match w with
  | .inl e => o = f51_broughamref07_First_out e
  | .inr e => At Go.Proofs.Try.prog Go.Proofs.Try.f51 0 6 ⟨[(4, .one (.c (.ptr 0 0)))], [], [(0, [.d (.int .u8 e), .d (.sl .unit [])])], 1⟩ o
theorem f51_broughamref07_First_L2_ok (n : Nat) : ∀ (kind : Int) (i : Int) (s_0 : Int) (s_1 : Int) (s_2 : Int) (s_3 : Int) (s_4 : Int) (s_5 : List (Int × List Int)) (s_6 : List Int) (t4_0 : Int) (w : (Bool × Int × List Int) ⊕ (Int)) (h : f51_broughamref07_First_L2 n kind i s_0 s_1 s_2 s_3 s_4 s_5 s_6 t4_0 = some w) (o : Out) (hk : f51_broughamref07_First_L2_k w o), At Go.Proofs.Try.prog Go.Proofs.Try.f51 0 2 ⟨[(1, .one (.c (.d (.int .u8 kind)))), (2, .one (.c (.ptr 0 0))), (4, .one (.c (.ptr 1 0))), (6, .one (.c (.d (.int .i64 i))))], [], [(0, [.d (.int .u16 s_0), .d (.int .u16 s_1), .d (.int .u32 s_2), .d (.int .u32 s_3), .d (.int .u8 s_4), .d (.sl (.pair (.int .u8) (.slice (.int .u8))) s_5), .d (.sl (.int .u8) s_6)]), (1, [.d (.int .u8 t4_0), .d (.sl .unit [])])], 2⟩ o := by
  induction n with
  | zero => intro kind i s_0 s_1 s_2 s_3 s_4 s_5 s_6 t4_0 w h; rw [f51_broughamref07_First_L2] at h; cases h
  | succ n ih =>
    intro kind i s_0 s_1 s_2 s_3 s_4 s_5 s_6 t4_0 w h o hk
    rw [f51_broughamref07_First_L2] at h
    rcases iteS h with ⟨b33_e0, h⟩ | ⟨b33_e0, h⟩
    · refine At.step hm ht ⟨[], [true], [], [1, 2, 4, 6], [0, 1]⟩ 4 ⟨[(1, .one (.c (.d (.int .u8 kind)))), (2, .one (.c (.ptr 0 0))), (4, .one (.c (.ptr 1 0))), (6, .one (.c (.d (.int .i64 i))))], [], [(0, [.d (.int .u16 s_0), .d (.int .u16 s_1), .d (.int .u32 s_2), .d (.int .u32 s_3), .d (.int .u8 s_4), .d (.sl (.pair (.int .u8) (.slice (.int .u8))) s_5), .d (.sl (.int .u8) s_6)]), (1, [.d (.int .u8 t4_0), .d (.sl .unit [])])], 2⟩ [(decide ((i : Int) < ((s_5.length : Nat) : Int))) = true] (by kernel_rfl) ⟨b33_e0, trivial⟩ ?_
      obtain ⟨g34_0, h⟩ := ifS h
      rcases iteS h with ⟨b34_e0, h⟩ | ⟨b34_e0, h⟩
      · refine At.step hm ht ⟨[], [true], [], [2, 4, 6], [0, 1]⟩ 5 ⟨[(2, .one (.c (.ptr 0 0))), (4, .one (.c (.ptr 1 0))), (6, .one (.c (.d (.int .i64 i))))], [], [(0, [.d (.int .u16 s_0), .d (.int .u16 s_1), .d (.int .u32 s_2), .d (.int .u32 s_3), .d (.int .u8 s_4), .d (.sl (.pair (.int .u8) (.slice (.int .u8))) s_5), .d (.sl (.int .u8) s_6)]), (1, [.d (.int .u8 t4_0), .d (.sl .unit [])])], 2⟩ [(0 : Int) ≤ i ∧ i < (((s_5).length : Nat) : Int), ((((s_5.getD i.toNat (0, [])).1) : Int) == kind) = true] (by kernel_rfl) ⟨g34_0, b34_e0, trivial⟩ ?_
        obtain ⟨g35_0, h⟩ := ifS h
        have h := Option.some.inj h
        subst h
        have hk : o = f51_broughamref07_First_out (true, (s_5.getD i.toNat (0, [])).1, (s_5.getD i.toNat (0, [])).2) := hk
        subst hk
        exact At.fin hm ht ⟨[], [], [], [4, 5], [1]⟩ [(0 : Int) ≤ i ∧ i < (((s_5).length : Nat) : Int), 0 + 2 ≤ 2] (by kernel_rfl) ⟨g35_0, (by decide), trivial⟩
      · refine At.step hm ht ⟨[], [false], [], [1, 2, 4, 6], [0, 1]⟩ 3 ⟨[(1, .one (.c (.d (.int .u8 kind)))), (2, .one (.c (.ptr 0 0))), (4, .one (.c (.ptr 1 0))), (6, .one (.c (.d (.int .i64 i))))], [], [(0, [.d (.int .u16 s_0), .d (.int .u16 s_1), .d (.int .u32 s_2), .d (.int .u32 s_3), .d (.int .u8 s_4), .d (.sl (.pair (.int .u8) (.slice (.int .u8))) s_5), .d (.sl (.int .u8) s_6)]), (1, [.d (.int .u8 t4_0), .d (.sl .unit [])])], 2⟩ [(0 : Int) ≤ i ∧ i < (((s_5).length : Nat) : Int), ((((s_5.getD i.toNat (0, [])).1) : Int) == kind) = false] (by kernel_rfl) ⟨g34_0, b34_e0, trivial⟩ ?_
        refine At.step hm ht ⟨[], [], [], [1, 2, 4, 6], [0, 1]⟩ 2 ⟨[(1, .one (.c (.d (.int .u8 kind)))), (2, .one (.c (.ptr 0 0))), (4, .one (.c (.ptr 1 0))), (6, .one (.c (.d (.int .i64 (IntKind.wrap .i64 (i + 1))))))], [], [(0, [.d (.int .u16 s_0), .d (.int .u16 s_1), .d (.int .u32 s_2), .d (.int .u32 s_3), .d (.int .u8 s_4), .d (.sl (.pair (.int .u8) (.slice (.int .u8))) s_5), .d (.sl (.int .u8) s_6)]), (1, [.d (.int .u8 t4_0), .d (.sl .unit [])])], 2⟩ [] (by kernel_rfl) trivial ?_
        exact ih kind (IntKind.wrap .i64 (i + 1)) s_0 s_1 s_2 s_3 s_4 s_5 s_6 t4_0 w h o hk
    · refine At.step hm ht ⟨[], [false], [], [4], [1]⟩ 6 ⟨[(4, .one (.c (.ptr 0 0)))], [], [(0, [.d (.int .u8 t4_0), .d (.sl .unit [])])], 1⟩ [(decide ((i : Int) < ((s_5.length : Nat) : Int))) = false] (by kernel_rfl) ⟨b33_e0, trivial⟩ ?_
      have h := Option.some.inj h
      subst h
      exact hk
def f51_broughamref07_First (n : Nat) (s_0 : Int) (s_1 : Int) (s_2 : Int) (s_3 : Int) (s_4 : Int) (s_5 : List (Int × List Int)) (s_6 : List Int) (kind : Int) : Option (Bool × Int × List Int) :=
  (f51_broughamref07_First_L2 n kind 0 s_0 s_1 s_2 s_3 s_4 s_5 s_6 0).bind fun w37 =>
  match w37 with
  | .inl e38 =>
    some (e38.1, e38.2.1, e38.2.2)
  | .inr e39 =>
    some (false, 0, [])
theorem f51_broughamref07_First_ok (n : Nat) (s_0 : Int) (s_1 : Int) (s_2 : Int) (s_3 : Int) (s_4 : Int) (s_5 : List (Int × List Int)) (s_6 : List Int) (kind : Int) (r : Bool × Int × List Int) (h : f51_broughamref07_First n s_0 s_1 s_2 s_3 s_4 s_5 s_6 kind = some r) : FnOK Go.Proofs.Try.prog 51 (f51_broughamref07_First_in s_0 s_1 s_2 s_3 s_4 s_5 s_6 kind) (f51_broughamref07_First_out r) := by
  unfold f51_broughamref07_First at h
  refine At.fn (r := 0) Go.Proofs.Try.func51 rfl (by kernel_rfl) rfl rfl (by kernel_rfl) ?_
  show At Go.Proofs.Try.prog Go.Proofs.Try.f51 0 0 ⟨[(0, .one (.agg [.d (.int .u16 s_0), .d (.int .u16 s_1), .d (.int .u32 s_2), .d (.int .u32 s_3), .d (.int .u8 s_4), .d (.sl (.pair (.int .u8) (.slice (.int .u8))) s_5), .d (.sl (.int .u8) s_6)])), (1, .one (.c (.d (.int .u8 kind))))], [], [], 0⟩ _
  refine At.step hm ht ⟨[], [], [], [1, 2, 4], [0, 1]⟩ 1 ⟨[(1, .one (.c (.d (.int .u8 kind)))), (2, .one (.c (.ptr 0 0))), (4, .one (.c (.ptr 1 0)))], [], [(0, [.d (.int .u16 s_0), .d (.int .u16 s_1), .d (.int .u32 s_2), .d (.int .u32 s_3), .d (.int .u8 s_4), .d (.sl (.pair (.int .u8) (.slice (.int .u8))) s_5), .d (.sl (.int .u8) s_6)]), (1, [.d (.int .u8 0), .d (.sl .unit [])])], 2⟩ [] (by kernel_rfl) trivial ?_
  refine At.step hm ht ⟨[], [], [], [1, 2, 4, 6], [0, 1]⟩ 2 ⟨[(1, .one (.c (.d (.int .u8 kind)))), (2, .one (.c (.ptr 0 0))), (4, .one (.c (.ptr 1 0))), (6, .one (.c (.d (.int .i64 0))))], [], [(0, [.d (.int .u16 s_0), .d (.int .u16 s_1), .d (.int .u32 s_2), .d (.int .u32 s_3), .d (.int .u8 s_4), .d (.sl (.pair (.int .u8) (.slice (.int .u8))) s_5), .d (.sl (.int .u8) s_6)]), (1, [.d (.int .u8 0), .d (.sl .unit [])])], 2⟩ [] (by kernel_rfl) trivial ?_
  obtain ⟨w37, cw37, h⟩ := bindS h
  refine f51_broughamref07_First_L2_ok n kind 0 s_0 s_1 s_2 s_3 s_4 s_5 s_6 0 w37 cw37 _ ?_
  rcases w37 with e38 | e39
  · have h := Option.some.inj h
    subst h
    rfl
  · show At Go.Proofs.Try.prog Go.Proofs.Try.f51 0 6 ⟨[(4, .one (.c (.ptr 0 0)))], [], [(0, [.d (.int .u8 e39), .d (.sl .unit [])])], 1⟩ _
    have h := Option.some.inj h
    subst h
    exact At.fin hm ht ⟨[], [], [.nil true 0 1 (.int .u8) none], [4, 5], [0]⟩ [0 + 2 ≤ 2] (by kernel_rfl) ⟨(by decide), trivial⟩
/-! brougham/seg.Copy -/
def f52_seg_Copy_in (s_0 : Int) (s_1 : Int) (s_2 : Int) (s_3 : Int) (s_4 : Int) (s_5 : List (Int × List Int)) (s_6 : List Int) : Inn := ⟨[.agg [.d (.int .u16 s_0), .d (.int .u16 s_1), .d (.int .u32 s_2), .d (.int .u32 s_3), .d (.int .u8 s_4), .d (.sl (.pair (.int .u8) (.slice (.int .u8))) s_5), .d (.sl (.int .u8) s_6)]], [], [], 0⟩
def f52_seg_Copy_out (r : Int × Int × Int × Int × Int × (List (Int × List Int)) × List Int) : Out := ⟨.one (.agg [.d (.int .u16 r.1), .d (.int .u16 r.2.1), .d (.int .u32 r.2.2.1), .d (.int .u32 r.2.2.2.1), .d (.int .u8 r.2.2.2.2.1), .own 1 (.pair (.int .u8) (.slice (.int .u8))) r.2.2.2.2.2.1, .row 2 (.int .u8)]), [(1, ⟨30, 0⟩), (2, ⟨5, 2⟩)], [(0, [.d (.int .u16 r.1), .d (.int .u16 r.2.1), .d (.int .u32 r.2.2.1), .d (.int .u32 r.2.2.2.1), .d (.int .u8 r.2.2.2.2.1), .own 1 (.pair (.int .u8) (.slice (.int .u8))) r.2.2.2.2.2.1, .row 2 (.int .u8)]), (2, [.run (.int .u8) r.2.2.2.2.2.2])], 3⟩
def f52_seg_Copy_L3 : Nat → (List (Int × List Int)) → (List (Int × List Int)) → Int → Int → Int → Int → Int → Int → Int → (List (Int × List Int)) → (List Int) → Int → Int → Int → Int → Int → Option ((List (Int × List Int)) × Int × Int × Int × Int × Int × (List (Int × List Int)) × List Int × Int × Int × Int × Int × Int)
  | 0, _, _, _, _, _, _, _, _, _, _, _, _, _, _, _, _ => none
  | n + 1, opts, t7, t8, t9, s_0, s_1, s_2, s_3, s_4, s_5, s_6, t2_0, t2_1, t2_2, t2_3, t2_4 =>
    if (decide ((t9 : Int) < t8)) = true then
      if (0 : Int) ≤ t9 ∧ t9 < (((t7).length : Nat) : Int) then
      if ((t7.getD t9.toNat (0, [])).2).length ≤ maxLen ∧ ((t7.getD t9.toNat (0, [])).2).length * 1 ≤ 140737488355328 then
      if opts.length + [(t7.getD t9.toNat (0, []))].length ≤ maxLen ∧ (opts.length + [(t7.getD t9.toNat (0, []))].length) * 32 ≤ 140737488355328 then
      f52_seg_Copy_L3 n (opts ++ [(t7.getD t9.toNat (0, []))]) t7 t8 (IntKind.wrap .i64 (t9 + 1)) s_0 s_1 s_2 s_3 s_4 s_5 s_6 t2_0 t2_1 t2_2 t2_3 t2_4
      else none
      else none
      else none
    else
      some ((opts, s_0, s_1, s_2, s_3, s_4, s_5, s_6, t2_0, t2_1, t2_2, t2_3, t2_4))
def f52_seg_Copy_L3_k (e : (List (Int × List Int)) × Int × Int × Int × Int × Int × (List (Int × List Int)) × List Int × Int × Int × Int × Int × Int) (o : Out) : Prop := At Go.Proofs.Try.prog Go.Proofs.Try.f52 0 7 ⟨[(1, .one (.c (.ptr 0 0))), (2, .one (.c (.ptr 1 0))), (3, .one (.c (.own 2 (.pair (.int .u8) (.slice (.int .u8))) e.1)))], [(2, some ⟨30, 0⟩)], [(0, [.d (.int .u16 e.2.1), .d (.int .u16 e.2.2.1), .d (.int .u32 e.2.2.2.1), .d (.int .u32 e.2.2.2.2.1), .d (.int .u8 e.2.2.2.2.2.1), .d (.sl (.pair (.int .u8) (.slice (.int .u8))) e.2.2.2.2.2.2.1), .d (.sl (.int .u8) e.2.2.2.2.2.2.2.1)]), (1, [.d (.int .u16 e.2.2.2.2.2.2.2.2.1), .d (.int .u16 e.2.2.2.2.2.2.2.2.2.1), .d (.int .u32 e.2.2.2.2.2.2.2.2.2.2.1), .d (.int .u32 e.2.2.2.2.2.2.2.2.2.2.2.1), .d (.int .u8 e.2.2.2.2.2.2.2.2.2.2.2.2), .d (.sl .unit []), .d (.sl .unit [])])], 3⟩ o
theorem f52_seg_Copy_L3_ok (n : Nat) : ∀ (opts : List (Int × List Int)) (t7 : List (Int × List Int)) (t8 : Int) (t9 : Int) (s_0 : Int) (s_1 : Int) (s_2 : Int) (s_3 : Int) (s_4 : Int) (s_5 : List (Int × List Int)) (s_6 : List Int) (t2_0 : Int) (t2_1 : Int) (t2_2 : Int) (t2_3 : Int) (t2_4 : Int) (w : (List (Int × List Int)) × Int × Int × Int × Int × Int × (List (Int × List Int)) × List Int × Int × Int × Int × Int × Int) (h : f52_seg_Copy_L3 n opts t7 t8 t9 s_0 s_1 s_2 s_3 s_4 s_5 s_6 t2_0 t2_1 t2_2 t2_3 t2_4 = some w) (o : Out) (hk : f52_seg_Copy_L3_k w o), At Go.Proofs.Try.prog Go.Proofs.Try.f52 0 3 ⟨[(1, .one (.c (.ptr 0 0))), (2, .one (.c (.ptr 1 0))), (3, .one (.c (.own 2 (.pair (.int .u8) (.slice (.int .u8))) opts))), (7, .one (.c (.d (.sl (.pair (.int .u8) (.slice (.int .u8))) t7)))), (8, .one (.c (.d (.int .i64 t8)))), (9, .one (.c (.d (.int .i64 t9))))], [(2, some ⟨30, 0⟩)], [(0, [.d (.int .u16 s_0), .d (.int .u16 s_1), .d (.int .u32 s_2), .d (.int .u32 s_3), .d (.int .u8 s_4), .d (.sl (.pair (.int .u8) (.slice (.int .u8))) s_5), .d (.sl (.int .u8) s_6)]), (1, [.d (.int .u16 t2_0), .d (.int .u16 t2_1), .d (.int .u32 t2_2), .d (.int .u32 t2_3), .d (.int .u8 t2_4), .d (.sl .unit []), .d (.sl .unit [])])], 3⟩ o := by
  induction n with
  | zero => intro opts t7 t8 t9 s_0 s_1 s_2 s_3 s_4 s_5 s_6 t2_0 t2_1 t2_2 t2_3 t2_4 w h; rw [f52_seg_Copy_L3] at h; cases h
  | succ n ih =>
    intro opts t7 t8 t9 s_0 s_1 s_2 s_3 s_4 s_5 s_6 t2_0 t2_1 t2_2 t2_3 t2_4 w h o hk
    rw [f52_seg_Copy_L3] at h
    rcases iteS h with ⟨b54_e0, h⟩ | ⟨b54_e0, h⟩
    · refine At.step hm ht ⟨[], [true], [], [1, 2, 3, 7, 8, 9], [0, 1, 2]⟩ 4 ⟨[(1, .one (.c (.ptr 0 0))), (2, .one (.c (.ptr 1 0))), (3, .one (.c (.own 2 (.pair (.int .u8) (.slice (.int .u8))) opts))), (7, .one (.c (.d (.sl (.pair (.int .u8) (.slice (.int .u8))) t7)))), (8, .one (.c (.d (.int .i64 t8)))), (9, .one (.c (.d (.int .i64 t9))))], [(2, some ⟨30, 0⟩)], [(0, [.d (.int .u16 s_0), .d (.int .u16 s_1), .d (.int .u32 s_2), .d (.int .u32 s_3), .d (.int .u8 s_4), .d (.sl (.pair (.int .u8) (.slice (.int .u8))) s_5), .d (.sl (.int .u8) s_6)]), (1, [.d (.int .u16 t2_0), .d (.int .u16 t2_1), .d (.int .u32 t2_2), .d (.int .u32 t2_3), .d (.int .u8 t2_4), .d (.sl .unit []), .d (.sl .unit [])])], 3⟩ [(decide ((t9 : Int) < t8)) = true] (by kernel_rfl) ⟨b54_e0, trivial⟩ ?_
      obtain ⟨g55_0, h⟩ := ifS h
      refine At.step hm ht ⟨[], [], [], [1, 2, 3, 5, 7, 8, 9], [0, 1, 2, 5]⟩ 5 ⟨[(1, .one (.c (.ptr 0 0))), (2, .one (.c (.ptr 1 0))), (3, .one (.c (.own 2 (.pair (.int .u8) (.slice (.int .u8))) opts))), (5, .one (.c (.ptr 3 0))), (7, .one (.c (.d (.sl (.pair (.int .u8) (.slice (.int .u8))) t7)))), (8, .one (.c (.d (.int .i64 t8)))), (9, .one (.c (.d (.int .i64 t9))))], [(2, some ⟨30, 0⟩)], [(0, [.d (.int .u16 s_0), .d (.int .u16 s_1), .d (.int .u32 s_2), .d (.int .u32 s_3), .d (.int .u8 s_4), .d (.sl (.pair (.int .u8) (.slice (.int .u8))) s_5), .d (.sl (.int .u8) s_6)]), (1, [.d (.int .u16 t2_0), .d (.int .u16 t2_1), .d (.int .u32 t2_2), .d (.int .u32 t2_3), .d (.int .u8 t2_4), .d (.sl .unit []), .d (.sl .unit [])]), (3, [.d (.int .u8 ((t7.getD t9.toNat (0, [])).1)), .d (.sl (.int .u8) ((t7.getD t9.toNat (0, [])).2))])], 4⟩ [(0 : Int) ≤ t9 ∧ t9 < (((t7).length : Nat) : Int), 0 + 2 ≤ 2] (by kernel_rfl) ⟨g55_0, (by decide), trivial⟩ ?_
      obtain ⟨g56_0, h⟩ := ifS h
      obtain ⟨g56_1, h⟩ := ifS h
      refine At.step hm ht ⟨[], [], [], [1, 2, 3, 7, 8, 9], [0, 1, 12]⟩ 6 ⟨[(1, .one (.c (.ptr 0 0))), (2, .one (.c (.ptr 1 0))), (3, .one (.c (.own 2 (.pair (.int .u8) (.slice (.int .u8))) (opts ++ [(t7.getD t9.toNat (0, []))])))), (7, .one (.c (.d (.sl (.pair (.int .u8) (.slice (.int .u8))) t7)))), (8, .one (.c (.d (.int .i64 t8)))), (9, .one (.c (.d (.int .i64 t9))))], [(2, some ⟨30, 0⟩)], [(0, [.d (.int .u16 s_0), .d (.int .u16 s_1), .d (.int .u32 s_2), .d (.int .u32 s_3), .d (.int .u8 s_4), .d (.sl (.pair (.int .u8) (.slice (.int .u8))) s_5), .d (.sl (.int .u8) s_6)]), (1, [.d (.int .u16 t2_0), .d (.int .u16 t2_1), .d (.int .u32 t2_2), .d (.int .u32 t2_3), .d (.int .u8 t2_4), .d (.sl .unit []), .d (.sl .unit [])])], 3⟩ [((t7.getD t9.toNat (0, [])).2).length ≤ maxLen ∧ ((t7.getD t9.toNat (0, [])).2).length * 1 ≤ 140737488355328, opts.length + [(t7.getD t9.toNat (0, []))].length ≤ maxLen ∧ (opts.length + [(t7.getD t9.toNat (0, []))].length) * 32 ≤ 140737488355328] (by kernel_rfl) ⟨g56_0, g56_1, trivial⟩ ?_
      refine At.step hm ht ⟨[], [], [], [1, 2, 3, 7, 8, 9], [0, 1, 2]⟩ 3 ⟨[(1, .one (.c (.ptr 0 0))), (2, .one (.c (.ptr 1 0))), (3, .one (.c (.own 2 (.pair (.int .u8) (.slice (.int .u8))) (opts ++ [(t7.getD t9.toNat (0, []))])))), (7, .one (.c (.d (.sl (.pair (.int .u8) (.slice (.int .u8))) t7)))), (8, .one (.c (.d (.int .i64 t8)))), (9, .one (.c (.d (.int .i64 (IntKind.wrap .i64 (t9 + 1))))))], [(2, some ⟨30, 0⟩)], [(0, [.d (.int .u16 s_0), .d (.int .u16 s_1), .d (.int .u32 s_2), .d (.int .u32 s_3), .d (.int .u8 s_4), .d (.sl (.pair (.int .u8) (.slice (.int .u8))) s_5), .d (.sl (.int .u8) s_6)]), (1, [.d (.int .u16 t2_0), .d (.int .u16 t2_1), .d (.int .u32 t2_2), .d (.int .u32 t2_3), .d (.int .u8 t2_4), .d (.sl .unit []), .d (.sl .unit [])])], 3⟩ [] (by kernel_rfl) trivial ?_
      exact ih (opts ++ [(t7.getD t9.toNat (0, []))]) t7 t8 (IntKind.wrap .i64 (t9 + 1)) s_0 s_1 s_2 s_3 s_4 s_5 s_6 t2_0 t2_1 t2_2 t2_3 t2_4 w h o hk
    · refine At.step hm ht ⟨[], [false], [], [1, 2, 3], [0, 1, 2]⟩ 7 ⟨[(1, .one (.c (.ptr 0 0))), (2, .one (.c (.ptr 1 0))), (3, .one (.c (.own 2 (.pair (.int .u8) (.slice (.int .u8))) opts)))], [(2, some ⟨30, 0⟩)], [(0, [.d (.int .u16 s_0), .d (.int .u16 s_1), .d (.int .u32 s_2), .d (.int .u32 s_3), .d (.int .u8 s_4), .d (.sl (.pair (.int .u8) (.slice (.int .u8))) s_5), .d (.sl (.int .u8) s_6)]), (1, [.d (.int .u16 t2_0), .d (.int .u16 t2_1), .d (.int .u32 t2_2), .d (.int .u32 t2_3), .d (.int .u8 t2_4), .d (.sl .unit []), .d (.sl .unit [])])], 3⟩ [(decide ((t9 : Int) < t8)) = false] (by kernel_rfl) ⟨b54_e0, trivial⟩ ?_
      have h := Option.some.inj h
      subst h
      exact hk
def f52_seg_Copy (n : Nat) (s_0 : Int) (s_1 : Int) (s_2 : Int) (s_3 : Int) (s_4 : Int) (s_5 : List (Int × List Int)) (s_6 : List Int) : Option (Int × Int × Int × Int × Int × (List (Int × List Int)) × List Int) :=
  (f52_seg_Copy_L3 n [] s_5 ((s_5.length : Nat) : Int) 0 s_0 s_1 s_2 s_3 s_4 s_5 s_6 0 0 0 0 0).bind fun w58 =>
  if w58.2.2.2.2.2.2.2.1.length ≤ maxLen ∧ w58.2.2.2.2.2.2.2.1.length * 1 ≤ 140737488355328 then
  some (w58.2.1, w58.2.2.1, w58.2.2.2.1, w58.2.2.2.2.1, w58.2.2.2.2.2.1, w58.1, w58.2.2.2.2.2.2.2.1)
  else none
theorem f52_seg_Copy_ok (n : Nat) (s_0 : Int) (s_1 : Int) (s_2 : Int) (s_3 : Int) (s_4 : Int) (s_5 : List (Int × List Int)) (s_6 : List Int) (r : Int × Int × Int × Int × Int × (List (Int × List Int)) × List Int) (h : f52_seg_Copy n s_0 s_1 s_2 s_3 s_4 s_5 s_6 = some r) : FnOK Go.Proofs.Try.prog 52 (f52_seg_Copy_in s_0 s_1 s_2 s_3 s_4 s_5 s_6) (f52_seg_Copy_out r) := by
  unfold f52_seg_Copy at h
  refine At.fn (r := 0) Go.Proofs.Try.func52 rfl (by kernel_rfl) rfl rfl (by kernel_rfl) ?_
  show At Go.Proofs.Try.prog Go.Proofs.Try.f52 0 0 ⟨[(0, .one (.agg [.d (.int .u16 s_0), .d (.int .u16 s_1), .d (.int .u32 s_2), .d (.int .u32 s_3), .d (.int .u8 s_4), .d (.sl (.pair (.int .u8) (.slice (.int .u8))) s_5), .d (.sl (.int .u8) s_6)]))], [], [], 0⟩ _
  refine At.step hm ht ⟨[], [], [], [1, 2], [0, 1]⟩ 1 ⟨[(1, .one (.c (.ptr 0 0))), (2, .one (.c (.ptr 1 0)))], [], [(0, [.d (.int .u16 s_0), .d (.int .u16 s_1), .d (.int .u32 s_2), .d (.int .u32 s_3), .d (.int .u8 s_4), .d (.sl (.pair (.int .u8) (.slice (.int .u8))) s_5), .d (.sl (.int .u8) s_6)]), (1, [.d (.int .u16 0), .d (.int .u16 0), .d (.int .u32 0), .d (.int .u32 0), .d (.int .u8 0), .d (.sl .unit []), .d (.sl .unit [])])], 2⟩ [] (by kernel_rfl) trivial ?_
  refine At.step hm ht ⟨[], [], [], [1, 2, 3], [0, 1]⟩ 2 ⟨[(1, .one (.c (.ptr 0 0))), (2, .one (.c (.ptr 1 0))), (3, .one (.c (.d (.sl .unit []))))], [], [(0, [.d (.int .u16 s_0), .d (.int .u16 s_1), .d (.int .u32 s_2), .d (.int .u32 s_3), .d (.int .u8 s_4), .d (.sl (.pair (.int .u8) (.slice (.int .u8))) s_5), .d (.sl (.int .u8) s_6)]), (1, [.d (.int .u16 0), .d (.int .u16 0), .d (.int .u32 0), .d (.int .u32 0), .d (.int .u8 0), .d (.sl .unit []), .d (.sl .unit [])])], 2⟩ [] (by kernel_rfl) trivial ?_
  refine At.step hm ht ⟨[], [], [.nil false 3 0 (.pair (.int .u8) (.slice (.int .u8))) (some 30)], [1, 2, 3, 7, 8, 9], [0, 1, 6]⟩ 3 ⟨[(1, .one (.c (.ptr 0 0))), (2, .one (.c (.ptr 1 0))), (3, .one (.c (.own 2 (.pair (.int .u8) (.slice (.int .u8))) []))), (7, .one (.c (.d (.sl (.pair (.int .u8) (.slice (.int .u8))) s_5)))), (8, .one (.c (.d (.int .i64 ((s_5.length : Nat) : Int))))), (9, .one (.c (.d (.int .i64 0))))], [(2, some ⟨30, 0⟩)], [(0, [.d (.int .u16 s_0), .d (.int .u16 s_1), .d (.int .u32 s_2), .d (.int .u32 s_3), .d (.int .u8 s_4), .d (.sl (.pair (.int .u8) (.slice (.int .u8))) s_5), .d (.sl (.int .u8) s_6)]), (1, [.d (.int .u16 0), .d (.int .u16 0), .d (.int .u32 0), .d (.int .u32 0), .d (.int .u8 0), .d (.sl .unit []), .d (.sl .unit [])])], 3⟩ [] (by kernel_rfl) trivial ?_
  obtain ⟨w58, cw58, h⟩ := bindS h
  refine f52_seg_Copy_L3_ok n [] s_5 ((s_5.length : Nat) : Int) 0 s_0 s_1 s_2 s_3 s_4 s_5 s_6 0 0 0 0 0 w58 cw58 _ ?_
  show At Go.Proofs.Try.prog Go.Proofs.Try.f52 0 7 ⟨[(1, .one (.c (.ptr 0 0))), (2, .one (.c (.ptr 1 0))), (3, .one (.c (.own 2 (.pair (.int .u8) (.slice (.int .u8))) w58.1)))], [(2, some ⟨30, 0⟩)], [(0, [.d (.int .u16 w58.2.1), .d (.int .u16 w58.2.2.1), .d (.int .u32 w58.2.2.2.1), .d (.int .u32 w58.2.2.2.2.1), .d (.int .u8 w58.2.2.2.2.2.1), .d (.sl (.pair (.int .u8) (.slice (.int .u8))) w58.2.2.2.2.2.2.1), .d (.sl (.int .u8) w58.2.2.2.2.2.2.2.1)]), (1, [.d (.int .u16 w58.2.2.2.2.2.2.2.2.1), .d (.int .u16 w58.2.2.2.2.2.2.2.2.2.1), .d (.int .u32 w58.2.2.2.2.2.2.2.2.2.2.1), .d (.int .u32 w58.2.2.2.2.2.2.2.2.2.2.2.1), .d (.int .u8 w58.2.2.2.2.2.2.2.2.2.2.2.2), .d (.sl .unit []), .d (.sl .unit [])])], 3⟩ _
  obtain ⟨g60_0, h⟩ := ifS h
  refine At.step hm ht ⟨[(3, .row)], [], [], [1, 2], [0, 1, 2, 6]⟩ 8 ⟨[(1, .one (.c (.ptr 0 0))), (2, .one (.c (.ptr 1 0)))], [(2, some ⟨30, 0⟩), (3, some ⟨5, 2⟩)], [(0, [.d (.int .u16 w58.2.1), .d (.int .u16 w58.2.2.1), .d (.int .u32 w58.2.2.2.1), .d (.int .u32 w58.2.2.2.2.1), .d (.int .u8 w58.2.2.2.2.2.1), .own 2 (.pair (.int .u8) (.slice (.int .u8))) w58.1, .row 3 (.int .u8)]), (1, [.d (.int .u16 w58.2.2.2.2.2.2.2.2.1), .d (.int .u16 w58.2.2.2.2.2.2.2.2.2.1), .d (.int .u32 w58.2.2.2.2.2.2.2.2.2.2.1), .d (.int .u32 w58.2.2.2.2.2.2.2.2.2.2.2.1), .d (.int .u8 w58.2.2.2.2.2.2.2.2.2.2.2.2), .d (.sl .unit []), .d (.sl .unit [])]), (3, [.run (.int .u8) w58.2.2.2.2.2.2.2.1])], 4⟩ [w58.2.2.2.2.2.2.2.1.length ≤ maxLen ∧ w58.2.2.2.2.2.2.2.1.length * 1 ≤ 140737488355328, 5 + 1 ≤ 7, 6 + 1 ≤ 7] (by kernel_rfl) ⟨g60_0, (by decide), (by decide), trivial⟩ ?_
  have h := Option.some.inj h
  subst h
  exact At.fin hm ht ⟨[], [], [], [2], [1, 2, 3]⟩ [0 + 7 ≤ 7] (by kernel_rfl) ⟨(by decide), trivial⟩
/-! brougham/broughamref07.SameOption -/
def f18_broughamref07_SameOption_in (a_0 : Int) (a_1 : List Int) (b_0 : Int) (b_1 : List Int) : Inn := ⟨[.agg [.d (.int .u8 a_0), .d (.sl (.int .u8) a_1)], .agg [.d (.int .u8 b_0), .d (.sl (.int .u8) b_1)]], [], [], 0⟩
def f18_broughamref07_SameOption_out (r : Bool) : Out := ⟨.one (.c (.d (.bool r))), [], [], 0⟩
def f18_broughamref07_SameOption (a_0 : Int) (a_1 : List Int) (b_0 : Int) (b_1 : List Int) : Option (Bool) :=
  if ((a_0 : Int) == b_0) = true then
    some ((strOfNums a_1).toList == (strOfNums b_1).toList)
  else
    some false
theorem f18_broughamref07_SameOption_ok (a_0 : Int) (a_1 : List Int) (b_0 : Int) (b_1 : List Int) (r : Bool) (h : f18_broughamref07_SameOption a_0 a_1 b_0 b_1 = some r) : FnOK Go.Proofs.Try.prog 18 (f18_broughamref07_SameOption_in a_0 a_1 b_0 b_1) (f18_broughamref07_SameOption_out r) := by
  unfold f18_broughamref07_SameOption at h
  refine At.fn (r := 0) Go.Proofs.Try.func18 rfl (by kernel_rfl) rfl rfl (by kernel_rfl) ?_
  show At Go.Proofs.Try.prog Go.Proofs.Try.f18 0 0 ⟨[(0, .one (.agg [.d (.int .u8 a_0), .d (.sl (.int .u8) a_1)])), (1, .one (.agg [.d (.int .u8 b_0), .d (.sl (.int .u8) b_1)]))], [], [], 0⟩ _
  refine At.step hm ht ⟨[], [], [], [2, 3], [0, 1]⟩ 1 ⟨[(2, .one (.c (.ptr 0 0))), (3, .one (.c (.ptr 1 0)))], [], [(0, [.d (.int .u8 a_0), .d (.sl (.int .u8) a_1)]), (1, [.d (.int .u8 b_0), .d (.sl (.int .u8) b_1)])], 2⟩ [] (by kernel_rfl) trivial ?_
  rcases iteS h with ⟨b76_5, h⟩ | ⟨b76_5, h⟩
  · have h := Option.some.inj h
    subst h
    exact At.fin hm ht ⟨[(5, .b true)], [], [], [4], []⟩ [((a_0 : Int) == b_0) = true] (by kernel_rfl) ⟨b76_5, trivial⟩
  · have h := Option.some.inj h
    subst h
    exact At.fin hm ht ⟨[(5, .b false)], [], [], [4], []⟩ [((a_0 : Int) == b_0) = false] (by kernel_rfl) ⟨b76_5, trivial⟩
/-! brougham/broughamref07.Same -/
def f49_broughamref07_Same_in (a_0 : Int) (a_1 : Int) (a_2 : Int) (a_3 : Int) (a_4 : Int) (a_5 : List (Int × List Int)) (b_0 : Int) (b_1 : Int) (b_2 : Int) (b_3 : Int) (b_4 : Int) (b_5 : List (Int × List Int)) (b_6 : List Int) (b0_0 : List Int) : Inn := ⟨[.agg [.d (.int .u16 a_0), .d (.int .u16 a_1), .d (.int .u32 a_2), .d (.int .u32 a_3), .d (.int .u8 a_4), .d (.sl (.pair (.int .u8) (.slice (.int .u8))) a_5), .row 0 (.int .u8)], .agg [.d (.int .u16 b_0), .d (.int .u16 b_1), .d (.int .u32 b_2), .d (.int .u32 b_3), .d (.int .u8 b_4), .d (.sl (.pair (.int .u8) (.slice (.int .u8))) b_5), .d (.sl (.int .u8) b_6)]], [(0, ⟨5, 2⟩)], [(0, [.run (.int .u8) b0_0])], 1⟩
def f49_broughamref07_Same_out (r : Bool × List Int) : Out := ⟨.one (.c (.d (.bool r.1))), [(0, ⟨5, 2⟩)], [(0, [.run (.int .u8) r.2])], 1⟩
def f49_broughamref07_Same_L4 : Nat → Int → (List Int) → Int → Int → Int → Int → Int → (List (Int × List Int)) → Int → Int → Int → Int → Int → (List (Int × List Int)) → (List Int) → Option ((Bool × List Int) ⊕ (List Int))
  | 0, _, _, _, _, _, _, _, _, _, _, _, _, _, _, _ => none
  | n + 1, i, b0_0, a_0, a_1, a_2, a_3, a_4, a_5, b_0, b_1, b_2, b_3, b_4, b_5, b_6 =>
    if (decide ((i : Int) < ((a_5.length : Nat) : Int))) = true then
      if (0 : Int) ≤ i ∧ i < (((a_5).length : Nat) : Int) then
      if (0 : Int) ≤ i ∧ i < (((b_5).length : Nat) : Int) then
      (f18_broughamref07_SameOption ((a_5.getD i.toNat (0, [])).1) ((a_5.getD i.toNat (0, [])).2) ((b_5.getD i.toNat (0, [])).1) ((b_5.getD i.toNat (0, [])).2)).bind fun r74_2 =>
      if (!r74_2) = true then
        some (.inl (false, b0_0))
      else
        f49_broughamref07_Same_L4 n (IntKind.wrap .i64 (i + 1)) b0_0 a_0 a_1 a_2 a_3 a_4 a_5 b_0 b_1 b_2 b_3 b_4 b_5 b_6
      else none
      else none
    else
      some (.inr b0_0)
def f49_broughamref07_Same_L4_k (w : (Bool × List Int) ⊕ (List Int)) (o : Out) : Prop := match w with
  | .inl e => o = f49_broughamref07_Same_out e
  | .inr e => At Go.Proofs.Try.prog Go.Proofs.Try.f49 1 8 ⟨[], [(0, some ⟨5, 2⟩)], [(0, [.run (.int .u8) e])], 1⟩ o
theorem f49_broughamref07_Same_L4_ok (n : Nat) : ∀ (i : Int) (b0_0 : List Int) (a_0 : Int) (a_1 : Int) (a_2 : Int) (a_3 : Int) (a_4 : Int) (a_5 : List (Int × List Int)) (b_0 : Int) (b_1 : Int) (b_2 : Int) (b_3 : Int) (b_4 : Int) (b_5 : List (Int × List Int)) (b_6 : List Int) (w : (Bool × List Int) ⊕ (List Int)) (h : f49_broughamref07_Same_L4 n i b0_0 a_0 a_1 a_2 a_3 a_4 a_5 b_0 b_1 b_2 b_3 b_4 b_5 b_6 = some w) (o : Out) (hk : f49_broughamref07_Same_L4_k w o), At Go.Proofs.Try.prog Go.Proofs.Try.f49 1 4 ⟨[(2, .one (.c (.ptr 1 0))), (3, .one (.c (.ptr 2 0))), (5, .one (.c (.d (.int .i64 i))))], [(0, some ⟨5, 2⟩)], [(0, [.run (.int .u8) b0_0]), (1, [.d (.int .u16 a_0), .d (.int .u16 a_1), .d (.int .u32 a_2), .d (.int .u32 a_3), .d (.int .u8 a_4), .d (.sl (.pair (.int .u8) (.slice (.int .u8))) a_5), .row 0 (.int .u8)]), (2, [.d (.int .u16 b_0), .d (.int .u16 b_1), .d (.int .u32 b_2), .d (.int .u32 b_3), .d (.int .u8 b_4), .d (.sl (.pair (.int .u8) (.slice (.int .u8))) b_5), .d (.sl (.int .u8) b_6)])], 3⟩ o := by
  induction n with
  | zero => intro i b0_0 a_0 a_1 a_2 a_3 a_4 a_5 b_0 b_1 b_2 b_3 b_4 b_5 b_6 w h; rw [f49_broughamref07_Same_L4] at h; cases h
  | succ n ih =>
    intro i b0_0 a_0 a_1 a_2 a_3 a_4 a_5 b_0 b_1 b_2 b_3 b_4 b_5 b_6 w h o hk
    rw [f49_broughamref07_Same_L4] at h
    rcases iteS h with ⟨b73_e0, h⟩ | ⟨b73_e0, h⟩
    · refine At.step hm ht ⟨[], [true], [], [2, 3, 5], [0, 1, 2]⟩ 6 ⟨[(2, .one (.c (.ptr 1 0))), (3, .one (.c (.ptr 2 0))), (5, .one (.c (.d (.int .i64 i))))], [(0, some ⟨5, 2⟩)], [(0, [.run (.int .u8) b0_0]), (1, [.d (.int .u16 a_0), .d (.int .u16 a_1), .d (.int .u32 a_2), .d (.int .u32 a_3), .d (.int .u8 a_4), .d (.sl (.pair (.int .u8) (.slice (.int .u8))) a_5), .row 0 (.int .u8)]), (2, [.d (.int .u16 b_0), .d (.int .u16 b_1), .d (.int .u32 b_2), .d (.int .u32 b_3), .d (.int .u8 b_4), .d (.sl (.pair (.int .u8) (.slice (.int .u8))) b_5), .d (.sl (.int .u8) b_6)])], 3⟩ [(decide ((i : Int) < ((a_5.length : Nat) : Int))) = true] (by kernel_rfl) ⟨b73_e0, trivial⟩ ?_
      obtain ⟨g74_0, h⟩ := ifS h
      obtain ⟨g74_1, h⟩ := ifS h
      obtain ⟨r74_2, cr74_2, h⟩ := bindS h
      rcases iteS h with ⟨b74_e0, h⟩ | ⟨b74_e0, h⟩
      · refine At.step hm ht ⟨[(10, .call [] [] (f18_broughamref07_SameOption_out r74_2))], [true], [], [], [0]⟩ 7 ⟨[], [(0, some ⟨5, 2⟩)], [(0, [.run (.int .u8) b0_0])], 1⟩ [(0 : Int) ≤ i ∧ i < (((a_5).length : Nat) : Int), (0 : Int) ≤ i ∧ i < (((b_5).length : Nat) : Int), FnOK Go.Proofs.Try.prog 18 (f18_broughamref07_SameOption_in ((a_5.getD i.toNat (0, [])).1) ((a_5.getD i.toNat (0, [])).2) ((b_5.getD i.toNat (0, [])).1) ((b_5.getD i.toNat (0, [])).2)) (f18_broughamref07_SameOption_out r74_2), (!r74_2) = true] (by kernel_rfl) ⟨g74_0, g74_1, (f18_broughamref07_SameOption_ok ((a_5.getD i.toNat (0, [])).1) ((a_5.getD i.toNat (0, [])).2) ((b_5.getD i.toNat (0, [])).1) ((b_5.getD i.toNat (0, [])).2) r74_2 cr74_2), b74_e0, trivial⟩ ?_
        have h := Option.some.inj h
        subst h
        have hk : o = f49_broughamref07_Same_out (false, b0_0) := hk
        subst hk
        exact At.fin hm ht ⟨[], [], [], [4], [0]⟩ [] (by kernel_rfl) trivial
      · refine At.step hm ht ⟨[(10, .call [] [] (f18_broughamref07_SameOption_out r74_2))], [false], [], [2, 3, 5], [0, 1, 2]⟩ 5 ⟨[(2, .one (.c (.ptr 1 0))), (3, .one (.c (.ptr 2 0))), (5, .one (.c (.d (.int .i64 i))))], [(0, some ⟨5, 2⟩)], [(0, [.run (.int .u8) b0_0]), (1, [.d (.int .u16 a_0), .d (.int .u16 a_1), .d (.int .u32 a_2), .d (.int .u32 a_3), .d (.int .u8 a_4), .d (.sl (.pair (.int .u8) (.slice (.int .u8))) a_5), .row 0 (.int .u8)]), (2, [.d (.int .u16 b_0), .d (.int .u16 b_1), .d (.int .u32 b_2), .d (.int .u32 b_3), .d (.int .u8 b_4), .d (.sl (.pair (.int .u8) (.slice (.int .u8))) b_5), .d (.sl (.int .u8) b_6)])], 3⟩ [(0 : Int) ≤ i ∧ i < (((a_5).length : Nat) : Int), (0 : Int) ≤ i ∧ i < (((b_5).length : Nat) : Int), FnOK Go.Proofs.Try.prog 18 (f18_broughamref07_SameOption_in ((a_5.getD i.toNat (0, [])).1) ((a_5.getD i.toNat (0, [])).2) ((b_5.getD i.toNat (0, [])).1) ((b_5.getD i.toNat (0, [])).2)) (f18_broughamref07_SameOption_out r74_2), (!r74_2) = false] (by kernel_rfl) ⟨g74_0, g74_1, (f18_broughamref07_SameOption_ok ((a_5.getD i.toNat (0, [])).1) ((a_5.getD i.toNat (0, [])).2) ((b_5.getD i.toNat (0, [])).1) ((b_5.getD i.toNat (0, [])).2) r74_2 cr74_2), b74_e0, trivial⟩ ?_
        refine At.step hm ht ⟨[], [], [], [2, 3, 5], [0, 1, 2]⟩ 4 ⟨[(2, .one (.c (.ptr 1 0))), (3, .one (.c (.ptr 2 0))), (5, .one (.c (.d (.int .i64 (IntKind.wrap .i64 (i + 1))))))], [(0, some ⟨5, 2⟩)], [(0, [.run (.int .u8) b0_0]), (1, [.d (.int .u16 a_0), .d (.int .u16 a_1), .d (.int .u32 a_2), .d (.int .u32 a_3), .d (.int .u8 a_4), .d (.sl (.pair (.int .u8) (.slice (.int .u8))) a_5), .row 0 (.int .u8)]), (2, [.d (.int .u16 b_0), .d (.int .u16 b_1), .d (.int .u32 b_2), .d (.int .u32 b_3), .d (.int .u8 b_4), .d (.sl (.pair (.int .u8) (.slice (.int .u8))) b_5), .d (.sl (.int .u8) b_6)])], 3⟩ [] (by kernel_rfl) trivial ?_
        exact ih (IntKind.wrap .i64 (i + 1)) b0_0 a_0 a_1 a_2 a_3 a_4 a_5 b_0 b_1 b_2 b_3 b_4 b_5 b_6 w h o hk
    · refine At.step hm ht ⟨[], [false], [], [], [0]⟩ 8 ⟨[], [(0, some ⟨5, 2⟩)], [(0, [.run (.int .u8) b0_0])], 1⟩ [(decide ((i : Int) < ((a_5.length : Nat) : Int))) = false] (by kernel_rfl) ⟨b73_e0, trivial⟩ ?_
      have h := Option.some.inj h
      subst h
      exact hk
def f49_broughamref07_Same (n : Nat) (a_0 : Int) (a_1 : Int) (a_2 : Int) (a_3 : Int) (a_4 : Int) (a_5 : List (Int × List Int)) (b_0 : Int) (b_1 : Int) (b_2 : Int) (b_3 : Int) (b_4 : Int) (b_5 : List (Int × List Int)) (b_6 : List Int) (b0_0 : List Int) : Option (Bool × List Int) :=
  if ((a_0 : Int) != b_0) = true then
    some (false, b0_0)
  else
    if ((a_1 : Int) != b_1) = true then
      some (false, b0_0)
    else
      if ((a_2 : Int) != b_2) = true then
        some (false, b0_0)
      else
        if ((a_3 : Int) != b_3) = true then
          some (false, b0_0)
        else
          if ((a_4 : Int) != b_4) = true then
            some (false, b0_0)
          else
            if (!((strOfNums b0_0).toList == (strOfNums b_6).toList)) = true then
              some (false, b0_0)
            else
              if ((((a_5.length : Nat) : Int) : Int) != ((b_5.length : Nat) : Int)) = true then
                some (false, b0_0)
              else
                (f49_broughamref07_Same_L4 n 0 b0_0 a_0 a_1 a_2 a_3 a_4 a_5 b_0 b_1 b_2 b_3 b_4 b_5 b_6).bind fun w79 =>
                match w79 with
                | .inl e80 =>
                  some (e80.1, e80.2)
                | .inr e81 =>
                  some (true, e81)
theorem f49_broughamref07_Same_ok (n : Nat) (a_0 : Int) (a_1 : Int) (a_2 : Int) (a_3 : Int) (a_4 : Int) (a_5 : List (Int × List Int)) (b_0 : Int) (b_1 : Int) (b_2 : Int) (b_3 : Int) (b_4 : Int) (b_5 : List (Int × List Int)) (b_6 : List Int) (b0_0 : List Int) (r : Bool × List Int) (h : f49_broughamref07_Same n a_0 a_1 a_2 a_3 a_4 a_5 b_0 b_1 b_2 b_3 b_4 b_5 b_6 b0_0 = some r) : FnOK Go.Proofs.Try.prog 49 (f49_broughamref07_Same_in a_0 a_1 a_2 a_3 a_4 a_5 b_0 b_1 b_2 b_3 b_4 b_5 b_6 b0_0) (f49_broughamref07_Same_out r) := by
  unfold f49_broughamref07_Same at h
  refine At.fn (r := 0) Go.Proofs.Try.func49 rfl (by kernel_rfl) rfl rfl (by kernel_rfl) ?_
  show At Go.Proofs.Try.prog Go.Proofs.Try.f49 1 0 ⟨[(0, .one (.agg [.d (.int .u16 a_0), .d (.int .u16 a_1), .d (.int .u32 a_2), .d (.int .u32 a_3), .d (.int .u8 a_4), .d (.sl (.pair (.int .u8) (.slice (.int .u8))) a_5), .row 0 (.int .u8)])), (1, .one (.agg [.d (.int .u16 b_0), .d (.int .u16 b_1), .d (.int .u32 b_2), .d (.int .u32 b_3), .d (.int .u8 b_4), .d (.sl (.pair (.int .u8) (.slice (.int .u8))) b_5), .d (.sl (.int .u8) b_6)]))], [(0, some ⟨5, 2⟩)], [(0, [.run (.int .u8) b0_0])], 1⟩ _
  refine At.step hm ht ⟨[], [], [], [2, 3], [0, 1, 2]⟩ 1 ⟨[(2, .one (.c (.ptr 1 0))), (3, .one (.c (.ptr 2 0)))], [(0, some ⟨5, 2⟩)], [(0, [.run (.int .u8) b0_0]), (1, [.d (.int .u16 a_0), .d (.int .u16 a_1), .d (.int .u32 a_2), .d (.int .u32 a_3), .d (.int .u8 a_4), .d (.sl (.pair (.int .u8) (.slice (.int .u8))) a_5), .row 0 (.int .u8)]), (2, [.d (.int .u16 b_0), .d (.int .u16 b_1), .d (.int .u32 b_2), .d (.int .u32 b_3), .d (.int .u8 b_4), .d (.sl (.pair (.int .u8) (.slice (.int .u8))) b_5), .d (.sl (.int .u8) b_6)])], 3⟩ [] (by kernel_rfl) trivial ?_
  rcases iteS h with ⟨b64_5, h⟩ | ⟨b64_5, h⟩
  · refine At.step hm ht ⟨[(5, .b true)], [true], [], [], [0]⟩ 2 ⟨[], [(0, some ⟨5, 2⟩)], [(0, [.run (.int .u8) b0_0])], 1⟩ [((a_0 : Int) != b_0) = true, true = true] (by kernel_rfl) ⟨b64_5, rfl, trivial⟩ ?_
    have h := Option.some.inj h
    subst h
    exact At.fin hm ht ⟨[], [], [], [4], [0]⟩ [] (by kernel_rfl) trivial
  · rcases iteS h with ⟨b64_12, h⟩ | ⟨b64_12, h⟩
    · refine At.step hm ht ⟨[(5, .b false), (12, .b true)], [true], [], [], [0]⟩ 2 ⟨[], [(0, some ⟨5, 2⟩)], [(0, [.run (.int .u8) b0_0])], 1⟩ [((a_0 : Int) != b_0) = false, ((a_1 : Int) != b_1) = true, true = true] (by kernel_rfl) ⟨b64_5, b64_12, rfl, trivial⟩ ?_
      have h := Option.some.inj h
      subst h
      exact At.fin hm ht ⟨[], [], [], [4], [0]⟩ [] (by kernel_rfl) trivial
    · rcases iteS h with ⟨b64_19, h⟩ | ⟨b64_19, h⟩
      · refine At.step hm ht ⟨[(5, .b false), (12, .b false), (19, .b true)], [true], [], [], [0]⟩ 2 ⟨[], [(0, some ⟨5, 2⟩)], [(0, [.run (.int .u8) b0_0])], 1⟩ [((a_0 : Int) != b_0) = false, ((a_1 : Int) != b_1) = false, ((a_2 : Int) != b_2) = true, true = true] (by kernel_rfl) ⟨b64_5, b64_12, b64_19, rfl, trivial⟩ ?_
        have h := Option.some.inj h
        subst h
        exact At.fin hm ht ⟨[], [], [], [4], [0]⟩ [] (by kernel_rfl) trivial
      · rcases iteS h with ⟨b64_26, h⟩ | ⟨b64_26, h⟩
        · refine At.step hm ht ⟨[(5, .b false), (12, .b false), (19, .b false), (26, .b true)], [true], [], [], [0]⟩ 2 ⟨[], [(0, some ⟨5, 2⟩)], [(0, [.run (.int .u8) b0_0])], 1⟩ [((a_0 : Int) != b_0) = false, ((a_1 : Int) != b_1) = false, ((a_2 : Int) != b_2) = false, ((a_3 : Int) != b_3) = true, true = true] (by kernel_rfl) ⟨b64_5, b64_12, b64_19, b64_26, rfl, trivial⟩ ?_
          have h := Option.some.inj h
          subst h
          exact At.fin hm ht ⟨[], [], [], [4], [0]⟩ [] (by kernel_rfl) trivial
        · rcases iteS h with ⟨b64_33, h⟩ | ⟨b64_33, h⟩
          · refine At.step hm ht ⟨[(5, .b false), (12, .b false), (19, .b false), (26, .b false), (33, .b true)], [true], [], [], [0]⟩ 2 ⟨[], [(0, some ⟨5, 2⟩)], [(0, [.run (.int .u8) b0_0])], 1⟩ [((a_0 : Int) != b_0) = false, ((a_1 : Int) != b_1) = false, ((a_2 : Int) != b_2) = false, ((a_3 : Int) != b_3) = false, ((a_4 : Int) != b_4) = true, true = true] (by kernel_rfl) ⟨b64_5, b64_12, b64_19, b64_26, b64_33, rfl, trivial⟩ ?_
            have h := Option.some.inj h
            subst h
            exact At.fin hm ht ⟨[], [], [], [4], [0]⟩ [] (by kernel_rfl) trivial
          · rcases iteS h with ⟨b64_42, h⟩ | ⟨b64_42, h⟩
            · refine At.step hm ht ⟨[(5, .b false), (12, .b false), (19, .b false), (26, .b false), (33, .b false), (42, .b true)], [true], [], [], [0]⟩ 2 ⟨[], [(0, some ⟨5, 2⟩)], [(0, [.run (.int .u8) b0_0])], 1⟩ [((a_0 : Int) != b_0) = false, ((a_1 : Int) != b_1) = false, ((a_2 : Int) != b_2) = false, ((a_3 : Int) != b_3) = false, ((a_4 : Int) != b_4) = false, (!((strOfNums b0_0).toList == (strOfNums b_6).toList)) = true, true = true] (by kernel_rfl) ⟨b64_5, b64_12, b64_19, b64_26, b64_33, b64_42, rfl, trivial⟩ ?_
              have h := Option.some.inj h
              subst h
              exact At.fin hm ht ⟨[], [], [], [4], [0]⟩ [] (by kernel_rfl) trivial
            · rcases iteS h with ⟨b64_e0, h⟩ | ⟨b64_e0, h⟩
              · refine At.step hm ht ⟨[(5, .b false), (12, .b false), (19, .b false), (26, .b false), (33, .b false), (42, .b false)], [true], [], [], [0]⟩ 2 ⟨[], [(0, some ⟨5, 2⟩)], [(0, [.run (.int .u8) b0_0])], 1⟩ [((a_0 : Int) != b_0) = false, ((a_1 : Int) != b_1) = false, ((a_2 : Int) != b_2) = false, ((a_3 : Int) != b_3) = false, ((a_4 : Int) != b_4) = false, (!((strOfNums b0_0).toList == (strOfNums b_6).toList)) = false, ((((a_5.length : Nat) : Int) : Int) != ((b_5.length : Nat) : Int)) = true] (by kernel_rfl) ⟨b64_5, b64_12, b64_19, b64_26, b64_33, b64_42, b64_e0, trivial⟩ ?_
                have h := Option.some.inj h
                subst h
                exact At.fin hm ht ⟨[], [], [], [4], [0]⟩ [] (by kernel_rfl) trivial
              · refine At.step hm ht ⟨[(5, .b false), (12, .b false), (19, .b false), (26, .b false), (33, .b false), (42, .b false)], [false], [], [2, 3], [0, 1, 2]⟩ 3 ⟨[(2, .one (.c (.ptr 1 0))), (3, .one (.c (.ptr 2 0)))], [(0, some ⟨5, 2⟩)], [(0, [.run (.int .u8) b0_0]), (1, [.d (.int .u16 a_0), .d (.int .u16 a_1), .d (.int .u32 a_2), .d (.int .u32 a_3), .d (.int .u8 a_4), .d (.sl (.pair (.int .u8) (.slice (.int .u8))) a_5), .row 0 (.int .u8)]), (2, [.d (.int .u16 b_0), .d (.int .u16 b_1), .d (.int .u32 b_2), .d (.int .u32 b_3), .d (.int .u8 b_4), .d (.sl (.pair (.int .u8) (.slice (.int .u8))) b_5), .d (.sl (.int .u8) b_6)])], 3⟩ [((a_0 : Int) != b_0) = false, ((a_1 : Int) != b_1) = false, ((a_2 : Int) != b_2) = false, ((a_3 : Int) != b_3) = false, ((a_4 : Int) != b_4) = false, (!((strOfNums b0_0).toList == (strOfNums b_6).toList)) = false, ((((a_5.length : Nat) : Int) : Int) != ((b_5.length : Nat) : Int)) = false] (by kernel_rfl) ⟨b64_5, b64_12, b64_19, b64_26, b64_33, b64_42, b64_e0, trivial⟩ ?_
                refine At.step hm ht ⟨[], [], [], [2, 3, 5], [0, 1, 2]⟩ 4 ⟨[(2, .one (.c (.ptr 1 0))), (3, .one (.c (.ptr 2 0))), (5, .one (.c (.d (.int .i64 0))))], [(0, some ⟨5, 2⟩)], [(0, [.run (.int .u8) b0_0]), (1, [.d (.int .u16 a_0), .d (.int .u16 a_1), .d (.int .u32 a_2), .d (.int .u32 a_3), .d (.int .u8 a_4), .d (.sl (.pair (.int .u8) (.slice (.int .u8))) a_5), .row 0 (.int .u8)]), (2, [.d (.int .u16 b_0), .d (.int .u16 b_1), .d (.int .u32 b_2), .d (.int .u32 b_3), .d (.int .u8 b_4), .d (.sl (.pair (.int .u8) (.slice (.int .u8))) b_5), .d (.sl (.int .u8) b_6)])], 3⟩ [] (by kernel_rfl) trivial ?_
                obtain ⟨w79, cw79, h⟩ := bindS h
                refine f49_broughamref07_Same_L4_ok n 0 b0_0 a_0 a_1 a_2 a_3 a_4 a_5 b_0 b_1 b_2 b_3 b_4 b_5 b_6 w79 cw79 _ ?_
                rcases w79 with e80 | e81
                · have h := Option.some.inj h
                  subst h
                  rfl
                · show At Go.Proofs.Try.prog Go.Proofs.Try.f49 1 8 ⟨[], [(0, some ⟨5, 2⟩)], [(0, [.run (.int .u8) e81])], 1⟩ _
                  have h := Option.some.inj h
                  subst h
                  exact At.fin hm ht ⟨[], [], [], [4], [0]⟩ [] (by kernel_rfl) trivial
/-! brougham/seg.Take -/
def f53_seg_Take_in (s_0 : Int) (s_1 : Int) (s_2 : Int) (s_3 : Int) (s_4 : Int) (s_5 : List (Int × List Int)) (s_6 : List Int) : Inn := ⟨[.agg [.d (.int .u16 s_0), .d (.int .u16 s_1), .d (.int .u32 s_2), .d (.int .u32 s_3), .d (.int .u8 s_4), .d (.sl (.pair (.int .u8) (.slice (.int .u8))) s_5), .d (.sl (.int .u8) s_6)]], [], [], 0⟩
def f53_seg_Take_out (r : Int) : Out := ⟨.one (.c (.d (.int .u32 r))), [], [], 0⟩
def f53_seg_Take (s_0 : Int) (s_1 : Int) (s_2 : Int) (s_3 : Int) (s_4 : Int) (s_5 : List (Int × List Int)) (s_6 : List Int) : Option (Int) :=
  if (((bits .and .u8 s_4 1) : Int) != 0) = true then
    some (IntKind.wrap .u32 ((IntKind.wrap .u32 ((s_6.length : Nat) : Int)) + 1))
  else
    some (IntKind.wrap .u32 ((s_6.length : Nat) : Int))
theorem f53_seg_Take_ok (s_0 : Int) (s_1 : Int) (s_2 : Int) (s_3 : Int) (s_4 : Int) (s_5 : List (Int × List Int)) (s_6 : List Int) (r : Int) (h : f53_seg_Take s_0 s_1 s_2 s_3 s_4 s_5 s_6 = some r) : FnOK Go.Proofs.Try.prog 53 (f53_seg_Take_in s_0 s_1 s_2 s_3 s_4 s_5 s_6) (f53_seg_Take_out r) := by
  unfold f53_seg_Take at h
  refine At.fn (r := 0) Go.Proofs.Try.func53 rfl (by kernel_rfl) rfl rfl (by kernel_rfl) ?_
  show At Go.Proofs.Try.prog Go.Proofs.Try.f53 0 0 ⟨[(0, .one (.agg [.d (.int .u16 s_0), .d (.int .u16 s_1), .d (.int .u32 s_2), .d (.int .u32 s_3), .d (.int .u8 s_4), .d (.sl (.pair (.int .u8) (.slice (.int .u8))) s_5), .d (.sl (.int .u8) s_6)]))], [], [], 0⟩ _
  refine At.step hm ht ⟨[], [], [], [1], [0]⟩ 1 ⟨[(1, .one (.c (.ptr 0 0)))], [], [(0, [.d (.int .u16 s_0), .d (.int .u16 s_1), .d (.int .u32 s_2), .d (.int .u32 s_3), .d (.int .u8 s_4), .d (.sl (.pair (.int .u8) (.slice (.int .u8))) s_5), .d (.sl (.int .u8) s_6)])], 1⟩ [] (by kernel_rfl) trivial ?_
  refine At.step hm ht ⟨[], [], [], [1, 3], [0]⟩ 2 ⟨[(1, .one (.c (.ptr 0 0))), (3, .one (.c (.d (.int .u32 (IntKind.wrap .u32 ((s_6.length : Nat) : Int))))))], [], [(0, [.d (.int .u16 s_0), .d (.int .u16 s_1), .d (.int .u32 s_2), .d (.int .u32 s_3), .d (.int .u8 s_4), .d (.sl (.pair (.int .u8) (.slice (.int .u8))) s_5), .d (.sl (.int .u8) s_6)])], 1⟩ [] (by kernel_rfl) trivial ?_
  rcases iteS h with ⟨b94_e0, h⟩ | ⟨b94_e0, h⟩
  · refine At.step hm ht ⟨[], [true], [], [3], []⟩ 3 ⟨[(3, .one (.c (.d (.int .u32 (IntKind.wrap .u32 ((s_6.length : Nat) : Int))))))], [], [], 0⟩ [(((bits .and .u8 s_4 1) : Int) != 0) = true] (by kernel_rfl) ⟨b94_e0, trivial⟩ ?_
    refine At.step hm ht ⟨[], [], [], [3], []⟩ 4 ⟨[(3, .one (.c (.d (.int .u32 (IntKind.wrap .u32 ((IntKind.wrap .u32 ((s_6.length : Nat) : Int)) + 1))))))], [], [], 0⟩ [] (by kernel_rfl) trivial ?_
    have h := Option.some.inj h
    subst h
    exact At.fin hm ht ⟨[], [], [], [2], []⟩ [] (by kernel_rfl) trivial
  · refine At.step hm ht ⟨[], [false], [], [3], []⟩ 4 ⟨[(3, .one (.c (.d (.int .u32 (IntKind.wrap .u32 ((s_6.length : Nat) : Int))))))], [], [], 0⟩ [(((bits .and .u8 s_4 1) : Int) != 0) = false] (by kernel_rfl) ⟨b94_e0, trivial⟩ ?_
    have h := Option.some.inj h
    subst h
    exact At.fin hm ht ⟨[], [], [], [2], []⟩ [] (by kernel_rfl) trivial
/-! brougham/broughamref07.Take -/
def f54_broughamref07_Take_in (s_0 : Int) (s_1 : Int) (s_2 : Int) (s_3 : Int) (s_4 : Int) (s_5 : List (Int × List Int)) (s_6 : List Int) : Inn := ⟨[.agg [.d (.int .u16 s_0), .d (.int .u16 s_1), .d (.int .u32 s_2), .d (.int .u32 s_3), .d (.int .u8 s_4), .d (.sl (.pair (.int .u8) (.slice (.int .u8))) s_5), .d (.sl (.int .u8) s_6)]], [], [], 0⟩
def f54_broughamref07_Take_out (r : Int) : Out := ⟨.one (.c (.d (.int .u32 r))), [], [], 0⟩
def f54_broughamref07_Take (s_0 : Int) (s_1 : Int) (s_2 : Int) (s_3 : Int) (s_4 : Int) (s_5 : List (Int × List Int)) (s_6 : List Int) : Option (Int) :=
  some (IntKind.wrap .u32 ((IntKind.wrap .u32 ((s_6.length : Nat) : Int)) + (IntKind.wrap .u32 (Int.tmod s_4 2))))
theorem f54_broughamref07_Take_ok (s_0 : Int) (s_1 : Int) (s_2 : Int) (s_3 : Int) (s_4 : Int) (s_5 : List (Int × List Int)) (s_6 : List Int) (r : Int) (h : f54_broughamref07_Take s_0 s_1 s_2 s_3 s_4 s_5 s_6 = some r) : FnOK Go.Proofs.Try.prog 54 (f54_broughamref07_Take_in s_0 s_1 s_2 s_3 s_4 s_5 s_6) (f54_broughamref07_Take_out r) := by
  unfold f54_broughamref07_Take at h
  refine At.fn (r := 0) Go.Proofs.Try.func54 rfl (by kernel_rfl) rfl rfl (by kernel_rfl) ?_
  show At Go.Proofs.Try.prog Go.Proofs.Try.f54 0 0 ⟨[(0, .one (.agg [.d (.int .u16 s_0), .d (.int .u16 s_1), .d (.int .u32 s_2), .d (.int .u32 s_3), .d (.int .u8 s_4), .d (.sl (.pair (.int .u8) (.slice (.int .u8))) s_5), .d (.sl (.int .u8) s_6)]))], [], [], 0⟩ _
  refine At.step hm ht ⟨[], [], [], [1], [0]⟩ 1 ⟨[(1, .one (.c (.ptr 0 0)))], [], [(0, [.d (.int .u16 s_0), .d (.int .u16 s_1), .d (.int .u32 s_2), .d (.int .u32 s_3), .d (.int .u8 s_4), .d (.sl (.pair (.int .u8) (.slice (.int .u8))) s_5), .d (.sl (.int .u8) s_6)])], 1⟩ [] (by kernel_rfl) trivial ?_
  have h := Option.some.inj h
  subst h
  exact At.fin hm ht ⟨[], [], [], [2], []⟩ [(2 : Int) ≠ 0] (by kernel_rfl) ⟨(by decide), trivial⟩
/-! brougham/seg.Of -/
def f55_seg_Of_in (s_0 : Int) (s_1 : Int) (s_2 : Int) (s_3 : Int) (s_4 : Int) (s_5 : List (Int × List Int)) (s_6 : List Int) (l : List (Int × List Int)) : Inn := ⟨[.agg [.d (.int .u16 s_0), .d (.int .u16 s_1), .d (.int .u32 s_2), .d (.int .u32 s_3), .d (.int .u8 s_4), .d (.sl (.pair (.int .u8) (.slice (.int .u8))) s_5), .d (.sl (.int .u8) s_6)], .c (.d (.sl (.pair (.int .u8) (.slice (.int .u8))) l))], [], [], 0⟩
def f55_seg_Of_out (r : Int × Int × Int × Int × Int × (List (Int × List Int)) × List Int) : Out := ⟨.one (.agg [.d (.int .u16 r.1), .d (.int .u16 r.2.1), .d (.int .u32 r.2.2.1), .d (.int .u32 r.2.2.2.1), .d (.int .u8 r.2.2.2.2.1), .own 1 (.pair (.int .u8) (.slice (.int .u8))) r.2.2.2.2.2.1, .d (.sl (.int .u8) r.2.2.2.2.2.2)]), [(1, ⟨30, 0⟩)], [(0, [.d (.int .u16 r.1), .d (.int .u16 r.2.1), .d (.int .u32 r.2.2.1), .d (.int .u32 r.2.2.2.1), .d (.int .u8 r.2.2.2.2.1), .own 1 (.pair (.int .u8) (.slice (.int .u8))) r.2.2.2.2.2.1, .d (.sl (.int .u8) r.2.2.2.2.2.2)])], 2⟩
def f55_seg_Of (s_0 : Int) (s_1 : Int) (s_2 : Int) (s_3 : Int) (s_4 : Int) (s_5 : List (Int × List Int)) (s_6 : List Int) (l : List (Int × List Int)) : Option (Int × Int × Int × Int × Int × (List (Int × List Int)) × List Int) :=
  if l.length ≤ maxLen ∧ l.length * 32 ≤ 140737488355328 then
  some (s_0, s_1, s_2, s_3, s_4, l, s_6)
  else none
theorem f55_seg_Of_ok (s_0 : Int) (s_1 : Int) (s_2 : Int) (s_3 : Int) (s_4 : Int) (s_5 : List (Int × List Int)) (s_6 : List Int) (l : List (Int × List Int)) (r : Int × Int × Int × Int × Int × (List (Int × List Int)) × List Int) (h : f55_seg_Of s_0 s_1 s_2 s_3 s_4 s_5 s_6 l = some r) : FnOK Go.Proofs.Try.prog 55 (f55_seg_Of_in s_0 s_1 s_2 s_3 s_4 s_5 s_6 l) (f55_seg_Of_out r) := by
  unfold f55_seg_Of at h
  refine At.fn (r := 0) Go.Proofs.Try.func55 rfl (by kernel_rfl) rfl rfl (by kernel_rfl) ?_
  show At Go.Proofs.Try.prog Go.Proofs.Try.f55 0 0 ⟨[(0, .one (.agg [.d (.int .u16 s_0), .d (.int .u16 s_1), .d (.int .u32 s_2), .d (.int .u32 s_3), .d (.int .u8 s_4), .d (.sl (.pair (.int .u8) (.slice (.int .u8))) s_5), .d (.sl (.int .u8) s_6)])), (1, .one (.c (.d (.sl (.pair (.int .u8) (.slice (.int .u8))) l))))], [], [], 0⟩ _
  refine At.step hm ht ⟨[], [], [], [1, 2, 4], [0, 1]⟩ 1 ⟨[(1, .one (.c (.d (.sl (.pair (.int .u8) (.slice (.int .u8))) l)))), (2, .one (.c (.ptr 0 0))), (4, .one (.c (.ptr 1 0)))], [], [(0, [.d (.int .u16 s_0), .d (.int .u16 s_1), .d (.int .u32 s_2), .d (.int .u32 s_3), .d (.int .u8 s_4), .d (.sl (.pair (.int .u8) (.slice (.int .u8))) s_5), .d (.sl (.int .u8) s_6)]), (1, [.d (.int .u16 0), .d (.int .u16 0), .d (.int .u32 0), .d (.int .u32 0), .d (.int .u8 0), .d (.sl .unit []), .d (.sl .unit [])])], 2⟩ [] (by kernel_rfl) trivial ?_
  obtain ⟨g101_0, h⟩ := ifS h
  refine At.step hm ht ⟨[], [], [], [2, 4], [0, 1, 3]⟩ 2 ⟨[(2, .one (.c (.ptr 0 0))), (4, .one (.c (.ptr 1 0)))], [(2, some ⟨30, 0⟩)], [(0, [.d (.int .u16 s_0), .d (.int .u16 s_1), .d (.int .u32 s_2), .d (.int .u32 s_3), .d (.int .u8 s_4), .own 2 (.pair (.int .u8) (.slice (.int .u8))) l, .d (.sl (.int .u8) s_6)]), (1, [.d (.int .u16 0), .d (.int .u16 0), .d (.int .u32 0), .d (.int .u32 0), .d (.int .u8 0), .d (.sl .unit []), .d (.sl .unit [])])], 3⟩ [l.length ≤ maxLen ∧ l.length * 32 ≤ 140737488355328, 5 + 1 ≤ 7] (by kernel_rfl) ⟨g101_0, (by decide), trivial⟩ ?_
  have h := Option.some.inj h
  subst h
  exact At.fin hm ht ⟨[], [], [], [4], [1, 2]⟩ [0 + 7 ≤ 7] (by kernel_rfl) ⟨(by decide), trivial⟩
/-! brougham/broughamref07.Same -/
def f49_broughamref07_Same_v2_in (a_0 : Int) (a_1 : Int) (a_2 : Int) (a_3 : Int) (a_4 : Int) (a_5 : List (Int × List Int)) (a_6 : List Int) (b_0 : Int) (b_1 : Int) (b_2 : Int) (b_3 : Int) (b_4 : Int) (b_5 : List (Int × List Int)) (b_6 : List Int) : Inn := ⟨[.agg [.d (.int .u16 a_0), .d (.int .u16 a_1), .d (.int .u32 a_2), .d (.int .u32 a_3), .d (.int .u8 a_4), .d (.sl (.pair (.int .u8) (.slice (.int .u8))) a_5), .d (.sl (.int .u8) a_6)], .agg [.d (.int .u16 b_0), .d (.int .u16 b_1), .d (.int .u32 b_2), .d (.int .u32 b_3), .d (.int .u8 b_4), .d (.sl (.pair (.int .u8) (.slice (.int .u8))) b_5), .d (.sl (.int .u8) b_6)]], [], [], 0⟩
def f49_broughamref07_Same_v2_out (r : Bool) : Out := ⟨.one (.c (.d (.bool r))), [], [], 0⟩
def f49_broughamref07_Same_v2_L4 : Nat → Int → Int → Int → Int → Int → Int → (List (Int × List Int)) → (List Int) → Int → Int → Int → Int → Int → (List (Int × List Int)) → (List Int) → Option ((Bool) ⊕ (Unit))
  | 0, _, _, _, _, _, _, _, _, _, _, _, _, _, _, _ => none
  | n + 1, i, a_0, a_1, a_2, a_3, a_4, a_5, a_6, b_0, b_1, b_2, b_3, b_4, b_5, b_6 =>
    if (decide ((i : Int) < ((a_5.length : Nat) : Int))) = true then
      if (0 : Int) ≤ i ∧ i < (((a_5).length : Nat) : Int) then
      if (0 : Int) ≤ i ∧ i < (((b_5).length : Nat) : Int) then
      (f18_broughamref07_SameOption ((a_5.getD i.toNat (0, [])).1) ((a_5.getD i.toNat (0, [])).2) ((b_5.getD i.toNat (0, [])).1) ((b_5.getD i.toNat (0, [])).2)).bind fun r114_2 =>
      if (!r114_2) = true then
        some (.inl false)
      else
        f49_broughamref07_Same_v2_L4 n (IntKind.wrap .i64 (i + 1)) a_0 a_1 a_2 a_3 a_4 a_5 a_6 b_0 b_1 b_2 b_3 b_4 b_5 b_6
      else none
      else none
    else
      some (.inr ())
def f49_broughamref07_Same_v2_L4_k (w : (Bool) ⊕ (Unit)) (o : Out) : Prop := match w with
  | .inl e => o = f49_broughamref07_Same_v2_out e
  | .inr e => At Go.Proofs.Try.prog Go.Proofs.Try.f49 0 8 ⟨[], [], [], 0⟩ o
theorem f49_broughamref07_Same_v2_L4_ok (n : Nat) : ∀ (i : Int) (a_0 : Int) (a_1 : Int) (a_2 : Int) (a_3 : Int) (a_4 : Int) (a_5 : List (Int × List Int)) (a_6 : List Int) (b_0 : Int) (b_1 : Int) (b_2 : Int) (b_3 : Int) (b_4 : Int) (b_5 : List (Int × List Int)) (b_6 : List Int) (w : (Bool) ⊕ (Unit)) (h : f49_broughamref07_Same_v2_L4 n i a_0 a_1 a_2 a_3 a_4 a_5 a_6 b_0 b_1 b_2 b_3 b_4 b_5 b_6 = some w) (o : Out) (hk : f49_broughamref07_Same_v2_L4_k w o), At Go.Proofs.Try.prog Go.Proofs.Try.f49 0 4 ⟨[(2, .one (.c (.ptr 0 0))), (3, .one (.c (.ptr 1 0))), (5, .one (.c (.d (.int .i64 i))))], [], [(0, [.d (.int .u16 a_0), .d (.int .u16 a_1), .d (.int .u32 a_2), .d (.int .u32 a_3), .d (.int .u8 a_4), .d (.sl (.pair (.int .u8) (.slice (.int .u8))) a_5), .d (.sl (.int .u8) a_6)]), (1, [.d (.int .u16 b_0), .d (.int .u16 b_1), .d (.int .u32 b_2), .d (.int .u32 b_3), .d (.int .u8 b_4), .d (.sl (.pair (.int .u8) (.slice (.int .u8))) b_5), .d (.sl (.int .u8) b_6)])], 2⟩ o := by
  induction n with
  | zero => intro i a_0 a_1 a_2 a_3 a_4 a_5 a_6 b_0 b_1 b_2 b_3 b_4 b_5 b_6 w h; rw [f49_broughamref07_Same_v2_L4] at h; cases h
  | succ n ih =>
    intro i a_0 a_1 a_2 a_3 a_4 a_5 a_6 b_0 b_1 b_2 b_3 b_4 b_5 b_6 w h o hk
    rw [f49_broughamref07_Same_v2_L4] at h
    rcases iteS h with ⟨b113_e0, h⟩ | ⟨b113_e0, h⟩
    · refine At.step hm ht ⟨[], [true], [], [2, 3, 5], [0, 1]⟩ 6 ⟨[(2, .one (.c (.ptr 0 0))), (3, .one (.c (.ptr 1 0))), (5, .one (.c (.d (.int .i64 i))))], [], [(0, [.d (.int .u16 a_0), .d (.int .u16 a_1), .d (.int .u32 a_2), .d (.int .u32 a_3), .d (.int .u8 a_4), .d (.sl (.pair (.int .u8) (.slice (.int .u8))) a_5), .d (.sl (.int .u8) a_6)]), (1, [.d (.int .u16 b_0), .d (.int .u16 b_1), .d (.int .u32 b_2), .d (.int .u32 b_3), .d (.int .u8 b_4), .d (.sl (.pair (.int .u8) (.slice (.int .u8))) b_5), .d (.sl (.int .u8) b_6)])], 2⟩ [(decide ((i : Int) < ((a_5.length : Nat) : Int))) = true] (by kernel_rfl) ⟨b113_e0, trivial⟩ ?_
      obtain ⟨g114_0, h⟩ := ifS h
      obtain ⟨g114_1, h⟩ := ifS h
      obtain ⟨r114_2, cr114_2, h⟩ := bindS h
      rcases iteS h with ⟨b114_e0, h⟩ | ⟨b114_e0, h⟩
      · refine At.step hm ht ⟨[(10, .call [] [] (f18_broughamref07_SameOption_out r114_2))], [true], [], [], []⟩ 7 ⟨[], [], [], 0⟩ [(0 : Int) ≤ i ∧ i < (((a_5).length : Nat) : Int), (0 : Int) ≤ i ∧ i < (((b_5).length : Nat) : Int), FnOK Go.Proofs.Try.prog 18 (f18_broughamref07_SameOption_in ((a_5.getD i.toNat (0, [])).1) ((a_5.getD i.toNat (0, [])).2) ((b_5.getD i.toNat (0, [])).1) ((b_5.getD i.toNat (0, [])).2)) (f18_broughamref07_SameOption_out r114_2), (!r114_2) = true] (by kernel_rfl) ⟨g114_0, g114_1, (f18_broughamref07_SameOption_ok ((a_5.getD i.toNat (0, [])).1) ((a_5.getD i.toNat (0, [])).2) ((b_5.getD i.toNat (0, [])).1) ((b_5.getD i.toNat (0, [])).2) r114_2 cr114_2), b114_e0, trivial⟩ ?_
        have h := Option.some.inj h
        subst h
        have hk : o = f49_broughamref07_Same_v2_out false := hk
        subst hk
        exact At.fin hm ht ⟨[], [], [], [4], []⟩ [] (by kernel_rfl) trivial
      · refine At.step hm ht ⟨[(10, .call [] [] (f18_broughamref07_SameOption_out r114_2))], [false], [], [2, 3, 5], [0, 1]⟩ 5 ⟨[(2, .one (.c (.ptr 0 0))), (3, .one (.c (.ptr 1 0))), (5, .one (.c (.d (.int .i64 i))))], [], [(0, [.d (.int .u16 a_0), .d (.int .u16 a_1), .d (.int .u32 a_2), .d (.int .u32 a_3), .d (.int .u8 a_4), .d (.sl (.pair (.int .u8) (.slice (.int .u8))) a_5), .d (.sl (.int .u8) a_6)]), (1, [.d (.int .u16 b_0), .d (.int .u16 b_1), .d (.int .u32 b_2), .d (.int .u32 b_3), .d (.int .u8 b_4), .d (.sl (.pair (.int .u8) (.slice (.int .u8))) b_5), .d (.sl (.int .u8) b_6)])], 2⟩ [(0 : Int) ≤ i ∧ i < (((a_5).length : Nat) : Int), (0 : Int) ≤ i ∧ i < (((b_5).length : Nat) : Int), FnOK Go.Proofs.Try.prog 18 (f18_broughamref07_SameOption_in ((a_5.getD i.toNat (0, [])).1) ((a_5.getD i.toNat (0, [])).2) ((b_5.getD i.toNat (0, [])).1) ((b_5.getD i.toNat (0, [])).2)) (f18_broughamref07_SameOption_out r114_2), (!r114_2) = false] (by kernel_rfl) ⟨g114_0, g114_1, (f18_broughamref07_SameOption_ok ((a_5.getD i.toNat (0, [])).1) ((a_5.getD i.toNat (0, [])).2) ((b_5.getD i.toNat (0, [])).1) ((b_5.getD i.toNat (0, [])).2) r114_2 cr114_2), b114_e0, trivial⟩ ?_
        refine At.step hm ht ⟨[], [], [], [2, 3, 5], [0, 1]⟩ 4 ⟨[(2, .one (.c (.ptr 0 0))), (3, .one (.c (.ptr 1 0))), (5, .one (.c (.d (.int .i64 (IntKind.wrap .i64 (i + 1))))))], [], [(0, [.d (.int .u16 a_0), .d (.int .u16 a_1), .d (.int .u32 a_2), .d (.int .u32 a_3), .d (.int .u8 a_4), .d (.sl (.pair (.int .u8) (.slice (.int .u8))) a_5), .d (.sl (.int .u8) a_6)]), (1, [.d (.int .u16 b_0), .d (.int .u16 b_1), .d (.int .u32 b_2), .d (.int .u32 b_3), .d (.int .u8 b_4), .d (.sl (.pair (.int .u8) (.slice (.int .u8))) b_5), .d (.sl (.int .u8) b_6)])], 2⟩ [] (by kernel_rfl) trivial ?_
        exact ih (IntKind.wrap .i64 (i + 1)) a_0 a_1 a_2 a_3 a_4 a_5 a_6 b_0 b_1 b_2 b_3 b_4 b_5 b_6 w h o hk
    · refine At.step hm ht ⟨[], [false], [], [], []⟩ 8 ⟨[], [], [], 0⟩ [(decide ((i : Int) < ((a_5.length : Nat) : Int))) = false] (by kernel_rfl) ⟨b113_e0, trivial⟩ ?_
      have h := Option.some.inj h
      subst h
      exact hk
def f49_broughamref07_Same_v2 (n : Nat) (a_0 : Int) (a_1 : Int) (a_2 : Int) (a_3 : Int) (a_4 : Int) (a_5 : List (Int × List Int)) (a_6 : List Int) (b_0 : Int) (b_1 : Int) (b_2 : Int) (b_3 : Int) (b_4 : Int) (b_5 : List (Int × List Int)) (b_6 : List Int) : Option (Bool) :=
  if ((a_0 : Int) != b_0) = true then
    some false
  else
    if ((a_1 : Int) != b_1) = true then
      some false
    else
      if ((a_2 : Int) != b_2) = true then
        some false
      else
        if ((a_3 : Int) != b_3) = true then
          some false
        else
          if ((a_4 : Int) != b_4) = true then
            some false
          else
            if (!((strOfNums a_6).toList == (strOfNums b_6).toList)) = true then
              some false
            else
              if ((((a_5.length : Nat) : Int) : Int) != ((b_5.length : Nat) : Int)) = true then
                some false
              else
                (f49_broughamref07_Same_v2_L4 n 0 a_0 a_1 a_2 a_3 a_4 a_5 a_6 b_0 b_1 b_2 b_3 b_4 b_5 b_6).bind fun w117 =>
                match w117 with
                | .inl e118 =>
                  some e118
                | .inr e119 =>
                  some true
theorem f49_broughamref07_Same_v2_ok (n : Nat) (a_0 : Int) (a_1 : Int) (a_2 : Int) (a_3 : Int) (a_4 : Int) (a_5 : List (Int × List Int)) (a_6 : List Int) (b_0 : Int) (b_1 : Int) (b_2 : Int) (b_3 : Int) (b_4 : Int) (b_5 : List (Int × List Int)) (b_6 : List Int) (r : Bool) (h : f49_broughamref07_Same_v2 n a_0 a_1 a_2 a_3 a_4 a_5 a_6 b_0 b_1 b_2 b_3 b_4 b_5 b_6 = some r) : FnOK Go.Proofs.Try.prog 49 (f49_broughamref07_Same_v2_in a_0 a_1 a_2 a_3 a_4 a_5 a_6 b_0 b_1 b_2 b_3 b_4 b_5 b_6) (f49_broughamref07_Same_v2_out r) := by
  unfold f49_broughamref07_Same_v2 at h
  refine At.fn (r := 0) Go.Proofs.Try.func49 rfl (by kernel_rfl) rfl rfl (by kernel_rfl) ?_
  show At Go.Proofs.Try.prog Go.Proofs.Try.f49 0 0 ⟨[(0, .one (.agg [.d (.int .u16 a_0), .d (.int .u16 a_1), .d (.int .u32 a_2), .d (.int .u32 a_3), .d (.int .u8 a_4), .d (.sl (.pair (.int .u8) (.slice (.int .u8))) a_5), .d (.sl (.int .u8) a_6)])), (1, .one (.agg [.d (.int .u16 b_0), .d (.int .u16 b_1), .d (.int .u32 b_2), .d (.int .u32 b_3), .d (.int .u8 b_4), .d (.sl (.pair (.int .u8) (.slice (.int .u8))) b_5), .d (.sl (.int .u8) b_6)]))], [], [], 0⟩ _
  refine At.step hm ht ⟨[], [], [], [2, 3], [0, 1]⟩ 1 ⟨[(2, .one (.c (.ptr 0 0))), (3, .one (.c (.ptr 1 0)))], [], [(0, [.d (.int .u16 a_0), .d (.int .u16 a_1), .d (.int .u32 a_2), .d (.int .u32 a_3), .d (.int .u8 a_4), .d (.sl (.pair (.int .u8) (.slice (.int .u8))) a_5), .d (.sl (.int .u8) a_6)]), (1, [.d (.int .u16 b_0), .d (.int .u16 b_1), .d (.int .u32 b_2), .d (.int .u32 b_3), .d (.int .u8 b_4), .d (.sl (.pair (.int .u8) (.slice (.int .u8))) b_5), .d (.sl (.int .u8) b_6)])], 2⟩ [] (by kernel_rfl) trivial ?_
  rcases iteS h with ⟨b104_5, h⟩ | ⟨b104_5, h⟩
  · refine At.step hm ht ⟨[(5, .b true)], [true], [], [], []⟩ 2 ⟨[], [], [], 0⟩ [((a_0 : Int) != b_0) = true, true = true] (by kernel_rfl) ⟨b104_5, rfl, trivial⟩ ?_
    have h := Option.some.inj h
    subst h
    exact At.fin hm ht ⟨[], [], [], [4], []⟩ [] (by kernel_rfl) trivial
  · rcases iteS h with ⟨b104_12, h⟩ | ⟨b104_12, h⟩
    · refine At.step hm ht ⟨[(5, .b false), (12, .b true)], [true], [], [], []⟩ 2 ⟨[], [], [], 0⟩ [((a_0 : Int) != b_0) = false, ((a_1 : Int) != b_1) = true, true = true] (by kernel_rfl) ⟨b104_5, b104_12, rfl, trivial⟩ ?_
      have h := Option.some.inj h
      subst h
      exact At.fin hm ht ⟨[], [], [], [4], []⟩ [] (by kernel_rfl) trivial
    · rcases iteS h with ⟨b104_19, h⟩ | ⟨b104_19, h⟩
      · refine At.step hm ht ⟨[(5, .b false), (12, .b false), (19, .b true)], [true], [], [], []⟩ 2 ⟨[], [], [], 0⟩ [((a_0 : Int) != b_0) = false, ((a_1 : Int) != b_1) = false, ((a_2 : Int) != b_2) = true, true = true] (by kernel_rfl) ⟨b104_5, b104_12, b104_19, rfl, trivial⟩ ?_
        have h := Option.some.inj h
        subst h
        exact At.fin hm ht ⟨[], [], [], [4], []⟩ [] (by kernel_rfl) trivial
      · rcases iteS h with ⟨b104_26, h⟩ | ⟨b104_26, h⟩
        · refine At.step hm ht ⟨[(5, .b false), (12, .b false), (19, .b false), (26, .b true)], [true], [], [], []⟩ 2 ⟨[], [], [], 0⟩ [((a_0 : Int) != b_0) = false, ((a_1 : Int) != b_1) = false, ((a_2 : Int) != b_2) = false, ((a_3 : Int) != b_3) = true, true = true] (by kernel_rfl) ⟨b104_5, b104_12, b104_19, b104_26, rfl, trivial⟩ ?_
          have h := Option.some.inj h
          subst h
          exact At.fin hm ht ⟨[], [], [], [4], []⟩ [] (by kernel_rfl) trivial
        · rcases iteS h with ⟨b104_33, h⟩ | ⟨b104_33, h⟩
          · refine At.step hm ht ⟨[(5, .b false), (12, .b false), (19, .b false), (26, .b false), (33, .b true)], [true], [], [], []⟩ 2 ⟨[], [], [], 0⟩ [((a_0 : Int) != b_0) = false, ((a_1 : Int) != b_1) = false, ((a_2 : Int) != b_2) = false, ((a_3 : Int) != b_3) = false, ((a_4 : Int) != b_4) = true, true = true] (by kernel_rfl) ⟨b104_5, b104_12, b104_19, b104_26, b104_33, rfl, trivial⟩ ?_
            have h := Option.some.inj h
            subst h
            exact At.fin hm ht ⟨[], [], [], [4], []⟩ [] (by kernel_rfl) trivial
          · rcases iteS h with ⟨b104_42, h⟩ | ⟨b104_42, h⟩
            · refine At.step hm ht ⟨[(5, .b false), (12, .b false), (19, .b false), (26, .b false), (33, .b false), (42, .b true)], [true], [], [], []⟩ 2 ⟨[], [], [], 0⟩ [((a_0 : Int) != b_0) = false, ((a_1 : Int) != b_1) = false, ((a_2 : Int) != b_2) = false, ((a_3 : Int) != b_3) = false, ((a_4 : Int) != b_4) = false, (!((strOfNums a_6).toList == (strOfNums b_6).toList)) = true, true = true] (by kernel_rfl) ⟨b104_5, b104_12, b104_19, b104_26, b104_33, b104_42, rfl, trivial⟩ ?_
              have h := Option.some.inj h
              subst h
              exact At.fin hm ht ⟨[], [], [], [4], []⟩ [] (by kernel_rfl) trivial
            · rcases iteS h with ⟨b104_e0, h⟩ | ⟨b104_e0, h⟩
              · refine At.step hm ht ⟨[(5, .b false), (12, .b false), (19, .b false), (26, .b false), (33, .b false), (42, .b false)], [true], [], [], []⟩ 2 ⟨[], [], [], 0⟩ [((a_0 : Int) != b_0) = false, ((a_1 : Int) != b_1) = false, ((a_2 : Int) != b_2) = false, ((a_3 : Int) != b_3) = false, ((a_4 : Int) != b_4) = false, (!((strOfNums a_6).toList == (strOfNums b_6).toList)) = false, ((((a_5.length : Nat) : Int) : Int) != ((b_5.length : Nat) : Int)) = true] (by kernel_rfl) ⟨b104_5, b104_12, b104_19, b104_26, b104_33, b104_42, b104_e0, trivial⟩ ?_
                have h := Option.some.inj h
                subst h
                exact At.fin hm ht ⟨[], [], [], [4], []⟩ [] (by kernel_rfl) trivial
              · refine At.step hm ht ⟨[(5, .b false), (12, .b false), (19, .b false), (26, .b false), (33, .b false), (42, .b false)], [false], [], [2, 3], [0, 1]⟩ 3 ⟨[(2, .one (.c (.ptr 0 0))), (3, .one (.c (.ptr 1 0)))], [], [(0, [.d (.int .u16 a_0), .d (.int .u16 a_1), .d (.int .u32 a_2), .d (.int .u32 a_3), .d (.int .u8 a_4), .d (.sl (.pair (.int .u8) (.slice (.int .u8))) a_5), .d (.sl (.int .u8) a_6)]), (1, [.d (.int .u16 b_0), .d (.int .u16 b_1), .d (.int .u32 b_2), .d (.int .u32 b_3), .d (.int .u8 b_4), .d (.sl (.pair (.int .u8) (.slice (.int .u8))) b_5), .d (.sl (.int .u8) b_6)])], 2⟩ [((a_0 : Int) != b_0) = false, ((a_1 : Int) != b_1) = false, ((a_2 : Int) != b_2) = false, ((a_3 : Int) != b_3) = false, ((a_4 : Int) != b_4) = false, (!((strOfNums a_6).toList == (strOfNums b_6).toList)) = false, ((((a_5.length : Nat) : Int) : Int) != ((b_5.length : Nat) : Int)) = false] (by kernel_rfl) ⟨b104_5, b104_12, b104_19, b104_26, b104_33, b104_42, b104_e0, trivial⟩ ?_
                refine At.step hm ht ⟨[], [], [], [2, 3, 5], [0, 1]⟩ 4 ⟨[(2, .one (.c (.ptr 0 0))), (3, .one (.c (.ptr 1 0))), (5, .one (.c (.d (.int .i64 0))))], [], [(0, [.d (.int .u16 a_0), .d (.int .u16 a_1), .d (.int .u32 a_2), .d (.int .u32 a_3), .d (.int .u8 a_4), .d (.sl (.pair (.int .u8) (.slice (.int .u8))) a_5), .d (.sl (.int .u8) a_6)]), (1, [.d (.int .u16 b_0), .d (.int .u16 b_1), .d (.int .u32 b_2), .d (.int .u32 b_3), .d (.int .u8 b_4), .d (.sl (.pair (.int .u8) (.slice (.int .u8))) b_5), .d (.sl (.int .u8) b_6)])], 2⟩ [] (by kernel_rfl) trivial ?_
                obtain ⟨w117, cw117, h⟩ := bindS h
                refine f49_broughamref07_Same_v2_L4_ok n 0 a_0 a_1 a_2 a_3 a_4 a_5 a_6 b_0 b_1 b_2 b_3 b_4 b_5 b_6 w117 cw117 _ ?_
                rcases w117 with e118 | e119
                · have h := Option.some.inj h
                  subst h
                  rfl
                · show At Go.Proofs.Try.prog Go.Proofs.Try.f49 0 8 ⟨[], [], [], 0⟩ _
                  have h := Option.some.inj h
                  subst h
                  exact At.fin hm ht ⟨[], [], [], [4], []⟩ [] (by kernel_rfl) trivial
/-! brougham/pack.Get -/
def f83_pack_Get_in (b : List Int) (sizes : List Int) : Inn := ⟨[.c (.d (.sl (.int .u8) b)), .c (.d (.sl (.int .i64) sizes))], [], [], 0⟩
def f83_pack_Get_out (r : List Int × List Int × Bool) : Out := ⟨.tup [.c (.own 0 (.int .u64) r.1), .c (.own 1 (.int .u8) r.2.1), .c (.d (.bool r.2.2))], [(0, ⟨36, 0⟩), (1, ⟨5, 0⟩)], [], 2⟩
def f83_pack_Get_L9 : Nat → (List Int) → (List Int) → Int → Int → (List Int) → Int → Int → (List Int) → Int → Int → Option (List Int × List Int × Int × Int × List Int × Int × Int)
  | 0, _, _, _, _, _, _, _, _, _, _ => none
  | n + 1, b, out, n_, x, t13, t14, t15, t33, t34, t35 =>
    if (decide ((t35 : Int) < t34)) = true then
      if (0 : Int) ≤ t35 ∧ t35 < (((t33).length : Nat) : Int) then
      f83_pack_Get_L9 n b out n_ (bits .or .u64 (IntKind.wrap .u64 (x * 2 ^ 8)) (IntKind.wrap .u64 (t33.getD t35.toNat 0))) t13 t14 t15 t33 t34 (IntKind.wrap .i64 (t35 + 1))
      else none
    else
      some ((b, out, n_, x, t13, t14, t15))
def f83_pack_Get_L9_k (e : List Int × List Int × Int × Int × List Int × Int × Int) (o : Out) : Prop := At Go.Proofs.Try.prog Go.Proofs.Try.f83 0 13 ⟨[(0, .one (.c (.d (.sl (.int .u8) e.1)))), (7, .one (.c (.own 0 (.int .u64) e.2.1))), (9, .one (.c (.d (.int .i64 e.2.2.1)))), (10, .one (.c (.d (.int .u64 e.2.2.2.1)))), (13, .one (.c (.d (.sl (.int .i64) e.2.2.2.2.1)))), (14, .one (.c (.d (.int .i64 e.2.2.2.2.2.1)))), (15, .one (.c (.d (.int .i64 e.2.2.2.2.2.2))))], [(0, some ⟨36, 0⟩)], [], 1⟩ o
theorem f83_pack_Get_L9_ok (n : Nat) : ∀ (b : List Int) (out : List Int) (n_ : Int) (x : Int) (t13 : List Int) (t14 : Int) (t15 : Int) (t33 : List Int) (t34 : Int) (t35 : Int) (w : List Int × List Int × Int × Int × List Int × Int × Int) (h : f83_pack_Get_L9 n b out n_ x t13 t14 t15 t33 t34 t35 = some w) (o : Out) (hk : f83_pack_Get_L9_k w o), At Go.Proofs.Try.prog Go.Proofs.Try.f83 0 9 ⟨[(0, .one (.c (.d (.sl (.int .u8) b)))), (7, .one (.c (.own 0 (.int .u64) out))), (9, .one (.c (.d (.int .i64 n_)))), (10, .one (.c (.d (.int .u64 x)))), (13, .one (.c (.d (.sl (.int .i64) t13)))), (14, .one (.c (.d (.int .i64 t14)))), (15, .one (.c (.d (.int .i64 t15)))), (33, .one (.c (.d (.sl (.int .u8) t33)))), (34, .one (.c (.d (.int .i64 t34)))), (35, .one (.c (.d (.int .i64 t35))))], [(0, some ⟨36, 0⟩)], [], 1⟩ o := by
  induction n with
  | zero => intro b out n_ x t13 t14 t15 t33 t34 t35 w h; rw [f83_pack_Get_L9] at h; cases h
  | succ n ih =>
    intro b out n_ x t13 t14 t15 t33 t34 t35 w h o hk
    rw [f83_pack_Get_L9] at h
    rcases iteS h with ⟨b191_e0, h⟩ | ⟨b191_e0, h⟩
    · refine At.step hm ht ⟨[], [true], [], [0, 7, 9, 10, 13, 14, 15, 33, 34, 35], [0]⟩ 10 ⟨[(0, .one (.c (.d (.sl (.int .u8) b)))), (7, .one (.c (.own 0 (.int .u64) out))), (9, .one (.c (.d (.int .i64 n_)))), (10, .one (.c (.d (.int .u64 x)))), (13, .one (.c (.d (.sl (.int .i64) t13)))), (14, .one (.c (.d (.int .i64 t14)))), (15, .one (.c (.d (.int .i64 t15)))), (33, .one (.c (.d (.sl (.int .u8) t33)))), (34, .one (.c (.d (.int .i64 t34)))), (35, .one (.c (.d (.int .i64 t35))))], [(0, some ⟨36, 0⟩)], [], 1⟩ [(decide ((t35 : Int) < t34)) = true] (by kernel_rfl) ⟨b191_e0, trivial⟩ ?_
      obtain ⟨g192_0, h⟩ := ifS h
      refine At.step hm ht ⟨[], [], [], [0, 7, 9, 10, 12, 13, 14, 15, 33, 34, 35], [0]⟩ 11 ⟨[(0, .one (.c (.d (.sl (.int .u8) b)))), (7, .one (.c (.own 0 (.int .u64) out))), (9, .one (.c (.d (.int .i64 n_)))), (10, .one (.c (.d (.int .u64 x)))), (12, .one (.c (.d (.int .u8 (t33.getD t35.toNat 0))))), (13, .one (.c (.d (.sl (.int .i64) t13)))), (14, .one (.c (.d (.int .i64 t14)))), (15, .one (.c (.d (.int .i64 t15)))), (33, .one (.c (.d (.sl (.int .u8) t33)))), (34, .one (.c (.d (.int .i64 t34)))), (35, .one (.c (.d (.int .i64 t35))))], [(0, some ⟨36, 0⟩)], [], 1⟩ [(0 : Int) ≤ t35 ∧ t35 < (((t33).length : Nat) : Int)] (by kernel_rfl) ⟨g192_0, trivial⟩ ?_
      refine At.step hm ht ⟨[], [], [], [0, 7, 9, 10, 13, 14, 15, 33, 34, 35], [0]⟩ 12 ⟨[(0, .one (.c (.d (.sl (.int .u8) b)))), (7, .one (.c (.own 0 (.int .u64) out))), (9, .one (.c (.d (.int .i64 n_)))), (10, .one (.c (.d (.int .u64 (bits .or .u64 (IntKind.wrap .u64 (x * 2 ^ 8)) (IntKind.wrap .u64 (t33.getD t35.toNat 0))))))), (13, .one (.c (.d (.sl (.int .i64) t13)))), (14, .one (.c (.d (.int .i64 t14)))), (15, .one (.c (.d (.int .i64 t15)))), (33, .one (.c (.d (.sl (.int .u8) t33)))), (34, .one (.c (.d (.int .i64 t34)))), (35, .one (.c (.d (.int .i64 t35))))], [(0, some ⟨36, 0⟩)], [], 1⟩ [(0 : Int) ≤ 8] (by kernel_rfl) ⟨(by decide), trivial⟩ ?_
      refine At.step hm ht ⟨[], [], [], [0, 7, 9, 10, 13, 14, 15, 33, 34, 35], [0]⟩ 9 ⟨[(0, .one (.c (.d (.sl (.int .u8) b)))), (7, .one (.c (.own 0 (.int .u64) out))), (9, .one (.c (.d (.int .i64 n_)))), (10, .one (.c (.d (.int .u64 (bits .or .u64 (IntKind.wrap .u64 (x * 2 ^ 8)) (IntKind.wrap .u64 (t33.getD t35.toNat 0))))))), (13, .one (.c (.d (.sl (.int .i64) t13)))), (14, .one (.c (.d (.int .i64 t14)))), (15, .one (.c (.d (.int .i64 t15)))), (33, .one (.c (.d (.sl (.int .u8) t33)))), (34, .one (.c (.d (.int .i64 t34)))), (35, .one (.c (.d (.int .i64 (IntKind.wrap .i64 (t35 + 1))))))], [(0, some ⟨36, 0⟩)], [], 1⟩ [] (by kernel_rfl) trivial ?_
      exact ih b out n_ (bits .or .u64 (IntKind.wrap .u64 (x * 2 ^ 8)) (IntKind.wrap .u64 (t33.getD t35.toNat 0))) t13 t14 t15 t33 t34 (IntKind.wrap .i64 (t35 + 1)) w h o hk
    · refine At.step hm ht ⟨[], [false], [], [0, 7, 9, 10, 13, 14, 15], [0]⟩ 13 ⟨[(0, .one (.c (.d (.sl (.int .u8) b)))), (7, .one (.c (.own 0 (.int .u64) out))), (9, .one (.c (.d (.int .i64 n_)))), (10, .one (.c (.d (.int .u64 x)))), (13, .one (.c (.d (.sl (.int .i64) t13)))), (14, .one (.c (.d (.int .i64 t14)))), (15, .one (.c (.d (.int .i64 t15))))], [(0, some ⟨36, 0⟩)], [], 1⟩ [(decide ((t35 : Int) < t34)) = false] (by kernel_rfl) ⟨b191_e0, trivial⟩ ?_
      have h := Option.some.inj h
      subst h
      exact hk
def f83_pack_Get_L3 : Nat → (List Int) → (List Int) → (List Int) → Int → Int → Option ((List Int × List Int × Bool) ⊕ (List Int × List Int))
  | 0, _, _, _, _, _ => none
  | n + 1, b, out, t13, t14, t15 =>
    if (decide ((t15 : Int) < t14)) = true then
      if (0 : Int) ≤ t15 ∧ t15 < (((t13).length : Nat) : Int) then
      if (decide (((t13.getD t15.toNat 0) : Int) < 1)) = true then
        some (.inl ([], [], false))
      else
        if (decide (((t13.getD t15.toNat 0) : Int) > 8)) = true then
          some (.inl ([], [], false))
        else
          if (decide (((t13.getD t15.toNat 0) : Int) > ((b.length : Nat) : Int))) = true then
            some (.inl ([], [], false))
          else
            if cutOk b.length none (some (t13.getD t15.toNat 0)) none then
            (f83_pack_Get_L9 n b out (t13.getD t15.toNat 0) 0 t13 t14 t15 (b.take (t13.getD t15.toNat 0).toNat) (((b.take (t13.getD t15.toNat 0).toNat).length : Nat) : Int) 0).bind fun w195 =>
            if w195.2.1.length + [w195.2.2.2.1].length ≤ maxLen ∧ (w195.2.1.length + [w195.2.2.2.1].length) * 8 ≤ 140737488355328 then
            if cutOk w195.1.length (some w195.2.2.1) none none then
            f83_pack_Get_L3 n ((w195.1.take w195.1.length).drop w195.2.2.1.toNat) (w195.2.1 ++ [w195.2.2.2.1]) w195.2.2.2.2.1 w195.2.2.2.2.2.1 (IntKind.wrap .i64 (w195.2.2.2.2.2.2 + 1))
            else none
            else none
            else none
      else none
    else
      some (.inr ((b, out)))
def f83_pack_Get_L3_k (w : (List Int × List Int × Bool) ⊕ (List Int × List Int)) (o : Out) : Prop := match w with
  | .inl e => o = f83_pack_Get_out e
  | .inr e => At Go.Proofs.Try.prog Go.Proofs.Try.f83 0 16 ⟨[(0, .one (.c (.d (.sl (.int .u8) e.1)))), (7, .one (.c (.own 0 (.int .u64) e.2)))], [(0, some ⟨36, 0⟩)], [], 1⟩ o
theorem f83_pack_Get_L3_ok (n : Nat) : ∀ (b : List Int) (out : List Int) (t13 : List Int) (t14 : Int) (t15 : Int) (w : (List Int × List Int × Bool) ⊕ (List Int × List Int)) (h : f83_pack_Get_L3 n b out t13 t14 t15 = some w) (o : Out) (hk : f83_pack_Get_L3_k w o), At Go.Proofs.Try.prog Go.Proofs.Try.f83 0 3 ⟨[(0, .one (.c (.d (.sl (.int .u8) b)))), (7, .one (.c (.own 0 (.int .u64) out))), (13, .one (.c (.d (.sl (.int .i64) t13)))), (14, .one (.c (.d (.int .i64 t14)))), (15, .one (.c (.d (.int .i64 t15))))], [(0, some ⟨36, 0⟩)], [], 1⟩ o := by
  induction n with
  | zero => intro b out t13 t14 t15 w h; rw [f83_pack_Get_L3] at h; cases h
  | succ n ih =>
    intro b out t13 t14 t15 w h o hk
    rw [f83_pack_Get_L3] at h
    rcases iteS h with ⟨b183_e0, h⟩ | ⟨b183_e0, h⟩
    · refine At.step hm ht ⟨[], [true], [], [0, 7, 13, 14, 15], [0]⟩ 4 ⟨[(0, .one (.c (.d (.sl (.int .u8) b)))), (7, .one (.c (.own 0 (.int .u64) out))), (13, .one (.c (.d (.sl (.int .i64) t13)))), (14, .one (.c (.d (.int .i64 t14)))), (15, .one (.c (.d (.int .i64 t15))))], [(0, some ⟨36, 0⟩)], [], 1⟩ [(decide ((t15 : Int) < t14)) = true] (by kernel_rfl) ⟨b183_e0, trivial⟩ ?_
      obtain ⟨g184_0, h⟩ := ifS h
      refine At.step hm ht ⟨[], [], [], [0, 7, 9, 13, 14, 15], [0]⟩ 5 ⟨[(0, .one (.c (.d (.sl (.int .u8) b)))), (7, .one (.c (.own 0 (.int .u64) out))), (9, .one (.c (.d (.int .i64 (t13.getD t15.toNat 0))))), (13, .one (.c (.d (.sl (.int .i64) t13)))), (14, .one (.c (.d (.int .i64 t14)))), (15, .one (.c (.d (.int .i64 t15))))], [(0, some ⟨36, 0⟩)], [], 1⟩ [(0 : Int) ≤ t15 ∧ t15 < (((t13).length : Nat) : Int)] (by kernel_rfl) ⟨g184_0, trivial⟩ ?_
      rcases iteS h with ⟨b185_2, h⟩ | ⟨b185_2, h⟩
      · refine At.step hm ht ⟨[(2, .b true)], [true], [], [], []⟩ 6 ⟨[], [], [], 0⟩ [(decide (((t13.getD t15.toNat 0) : Int) < 1)) = true, true = true] (by kernel_rfl) ⟨b185_2, rfl, trivial⟩ ?_
        have h := Option.some.inj h
        subst h
        have hk : o = f83_pack_Get_out ([], [], false) := hk
        subst hk
        exact At.fin hm ht ⟨[], [], [.nil false 4 0 (.int .u64) (some 36), .nil false 5 0 (.int .u8) (some 5)], [4, 5, 6], [3, 4]⟩ [] (by kernel_rfl) trivial
      · rcases iteS h with ⟨b185_6, h⟩ | ⟨b185_6, h⟩
        · refine At.step hm ht ⟨[(2, .b false), (6, .b true)], [true], [], [], []⟩ 6 ⟨[], [], [], 0⟩ [(decide (((t13.getD t15.toNat 0) : Int) < 1)) = false, (decide (((t13.getD t15.toNat 0) : Int) > 8)) = true, true = true] (by kernel_rfl) ⟨b185_2, b185_6, rfl, trivial⟩ ?_
          have h := Option.some.inj h
          subst h
          have hk : o = f83_pack_Get_out ([], [], false) := hk
          subst hk
          exact At.fin hm ht ⟨[], [], [.nil false 4 0 (.int .u64) (some 36), .nil false 5 0 (.int .u8) (some 5)], [4, 5, 6], [3, 4]⟩ [] (by kernel_rfl) trivial
        · rcases iteS h with ⟨b185_e0, h⟩ | ⟨b185_e0, h⟩
          · refine At.step hm ht ⟨[(2, .b false), (6, .b false)], [true], [], [], []⟩ 6 ⟨[], [], [], 0⟩ [(decide (((t13.getD t15.toNat 0) : Int) < 1)) = false, (decide (((t13.getD t15.toNat 0) : Int) > 8)) = false, (decide (((t13.getD t15.toNat 0) : Int) > ((b.length : Nat) : Int))) = true] (by kernel_rfl) ⟨b185_2, b185_6, b185_e0, trivial⟩ ?_
            have h := Option.some.inj h
            subst h
            have hk : o = f83_pack_Get_out ([], [], false) := hk
            subst hk
            exact At.fin hm ht ⟨[], [], [.nil false 4 0 (.int .u64) (some 36), .nil false 5 0 (.int .u8) (some 5)], [4, 5, 6], [3, 4]⟩ [] (by kernel_rfl) trivial
          · refine At.step hm ht ⟨[(2, .b false), (6, .b false)], [false], [], [0, 7, 9, 13, 14, 15], [0]⟩ 7 ⟨[(0, .one (.c (.d (.sl (.int .u8) b)))), (7, .one (.c (.own 0 (.int .u64) out))), (9, .one (.c (.d (.int .i64 (t13.getD t15.toNat 0))))), (13, .one (.c (.d (.sl (.int .i64) t13)))), (14, .one (.c (.d (.int .i64 t14)))), (15, .one (.c (.d (.int .i64 t15))))], [(0, some ⟨36, 0⟩)], [], 1⟩ [(decide (((t13.getD t15.toNat 0) : Int) < 1)) = false, (decide (((t13.getD t15.toNat 0) : Int) > 8)) = false, (decide (((t13.getD t15.toNat 0) : Int) > ((b.length : Nat) : Int))) = false] (by kernel_rfl) ⟨b185_2, b185_6, b185_e0, trivial⟩ ?_
            refine At.step hm ht ⟨[], [], [], [0, 7, 9, 10, 13, 14, 15], [0]⟩ 8 ⟨[(0, .one (.c (.d (.sl (.int .u8) b)))), (7, .one (.c (.own 0 (.int .u64) out))), (9, .one (.c (.d (.int .i64 (t13.getD t15.toNat 0))))), (10, .one (.c (.d (.int .u64 0)))), (13, .one (.c (.d (.sl (.int .i64) t13)))), (14, .one (.c (.d (.int .i64 t14)))), (15, .one (.c (.d (.int .i64 t15))))], [(0, some ⟨36, 0⟩)], [], 1⟩ [] (by kernel_rfl) trivial ?_
            obtain ⟨g190_0, h⟩ := ifS h
            refine At.step hm ht ⟨[], [], [], [0, 7, 9, 10, 13, 14, 15, 33, 34, 35], [0]⟩ 9 ⟨[(0, .one (.c (.d (.sl (.int .u8) b)))), (7, .one (.c (.own 0 (.int .u64) out))), (9, .one (.c (.d (.int .i64 (t13.getD t15.toNat 0))))), (10, .one (.c (.d (.int .u64 0)))), (13, .one (.c (.d (.sl (.int .i64) t13)))), (14, .one (.c (.d (.int .i64 t14)))), (15, .one (.c (.d (.int .i64 t15)))), (33, .one (.c (.d (.sl (.int .u8) (b.take (t13.getD t15.toNat 0).toNat))))), (34, .one (.c (.d (.int .i64 (((b.take (t13.getD t15.toNat 0).toNat).length : Nat) : Int))))), (35, .one (.c (.d (.int .i64 0))))], [(0, some ⟨36, 0⟩)], [], 1⟩ [cutOk b.length none (some (t13.getD t15.toNat 0)) none] (by kernel_rfl) ⟨g190_0, trivial⟩ ?_
            obtain ⟨w195, cw195, h⟩ := bindS h
            refine f83_pack_Get_L9_ok n b out (t13.getD t15.toNat 0) 0 t13 t14 t15 (b.take (t13.getD t15.toNat 0).toNat) (((b.take (t13.getD t15.toNat 0).toNat).length : Nat) : Int) 0 w195 cw195 _ ?_
            show At Go.Proofs.Try.prog Go.Proofs.Try.f83 0 13 ⟨[(0, .one (.c (.d (.sl (.int .u8) w195.1)))), (7, .one (.c (.own 0 (.int .u64) w195.2.1))), (9, .one (.c (.d (.int .i64 w195.2.2.1)))), (10, .one (.c (.d (.int .u64 w195.2.2.2.1)))), (13, .one (.c (.d (.sl (.int .i64) w195.2.2.2.2.1)))), (14, .one (.c (.d (.int .i64 w195.2.2.2.2.2.1)))), (15, .one (.c (.d (.int .i64 w195.2.2.2.2.2.2))))], [(0, some ⟨36, 0⟩)], [], 1⟩ _
            obtain ⟨g197_0, h⟩ := ifS h
            refine At.step hm ht ⟨[], [], [], [0, 7, 9, 13, 14, 15], [4]⟩ 14 ⟨[(0, .one (.c (.d (.sl (.int .u8) w195.1)))), (7, .one (.c (.own 0 (.int .u64) (w195.2.1 ++ [w195.2.2.2.1])))), (9, .one (.c (.d (.int .i64 w195.2.2.1)))), (13, .one (.c (.d (.sl (.int .i64) w195.2.2.2.2.1)))), (14, .one (.c (.d (.int .i64 w195.2.2.2.2.2.1)))), (15, .one (.c (.d (.int .i64 w195.2.2.2.2.2.2))))], [(0, some ⟨36, 0⟩)], [], 1⟩ [w195.2.1.length + [w195.2.2.2.1].length ≤ maxLen ∧ (w195.2.1.length + [w195.2.2.2.1].length) * 8 ≤ 140737488355328] (by kernel_rfl) ⟨g197_0, trivial⟩ ?_
            obtain ⟨g198_0, h⟩ := ifS h
            refine At.step hm ht ⟨[], [], [], [0, 7, 13, 14, 15], [0]⟩ 15 ⟨[(0, .one (.c (.d (.sl (.int .u8) ((w195.1.take w195.1.length).drop w195.2.2.1.toNat))))), (7, .one (.c (.own 0 (.int .u64) (w195.2.1 ++ [w195.2.2.2.1])))), (13, .one (.c (.d (.sl (.int .i64) w195.2.2.2.2.1)))), (14, .one (.c (.d (.int .i64 w195.2.2.2.2.2.1)))), (15, .one (.c (.d (.int .i64 w195.2.2.2.2.2.2))))], [(0, some ⟨36, 0⟩)], [], 1⟩ [cutOk w195.1.length (some w195.2.2.1) none none] (by kernel_rfl) ⟨g198_0, trivial⟩ ?_
            refine At.step hm ht ⟨[], [], [], [0, 7, 13, 14, 15], [0]⟩ 3 ⟨[(0, .one (.c (.d (.sl (.int .u8) ((w195.1.take w195.1.length).drop w195.2.2.1.toNat))))), (7, .one (.c (.own 0 (.int .u64) (w195.2.1 ++ [w195.2.2.2.1])))), (13, .one (.c (.d (.sl (.int .i64) w195.2.2.2.2.1)))), (14, .one (.c (.d (.int .i64 w195.2.2.2.2.2.1)))), (15, .one (.c (.d (.int .i64 (IntKind.wrap .i64 (w195.2.2.2.2.2.2 + 1))))))], [(0, some ⟨36, 0⟩)], [], 1⟩ [] (by kernel_rfl) trivial ?_
            exact ih ((w195.1.take w195.1.length).drop w195.2.2.1.toNat) (w195.2.1 ++ [w195.2.2.2.1]) w195.2.2.2.2.1 w195.2.2.2.2.2.1 (IntKind.wrap .i64 (w195.2.2.2.2.2.2 + 1)) w h o hk
    · refine At.step hm ht ⟨[], [false], [], [0, 7], [0]⟩ 16 ⟨[(0, .one (.c (.d (.sl (.int .u8) b)))), (7, .one (.c (.own 0 (.int .u64) out)))], [(0, some ⟨36, 0⟩)], [], 1⟩ [(decide ((t15 : Int) < t14)) = false] (by kernel_rfl) ⟨b183_e0, trivial⟩ ?_
      have h := Option.some.inj h
      subst h
      exact hk
def f83_pack_Get (n : Nat) (b : List Int) (sizes : List Int) : Option (List Int × List Int × Bool) :=
  (f83_pack_Get_L3 n b [] sizes ((sizes.length : Nat) : Int) 0).bind fun w200 =>
  match w200 with
  | .inl e201 =>
    some (e201.1, e201.2.1, e201.2.2)
  | .inr e202 =>
    if e202.1.length ≤ maxLen ∧ e202.1.length * 1 ≤ 140737488355328 then
    some (e202.2, e202.1, true)
    else none
theorem f83_pack_Get_ok (n : Nat) (b : List Int) (sizes : List Int) (r : List Int × List Int × Bool) (h : f83_pack_Get n b sizes = some r) : FnOK Go.Proofs.Try.prog 83 (f83_pack_Get_in b sizes) (f83_pack_Get_out r) := by
  unfold f83_pack_Get at h
  refine At.fn (r := 0) Go.Proofs.Try.func83 rfl (by kernel_rfl) rfl rfl (by kernel_rfl) ?_
  show At Go.Proofs.Try.prog Go.Proofs.Try.f83 0 0 ⟨[(0, .one (.c (.d (.sl (.int .u8) b)))), (1, .one (.c (.d (.sl (.int .i64) sizes))))], [], [], 0⟩ _
  refine At.step hm ht ⟨[], [], [], [0, 1], []⟩ 1 ⟨[(0, .one (.c (.d (.sl (.int .u8) b)))), (1, .one (.c (.d (.sl (.int .i64) sizes))))], [], [], 0⟩ [] (by kernel_rfl) trivial ?_
  refine At.step hm ht ⟨[], [], [], [0, 1, 7], []⟩ 2 ⟨[(0, .one (.c (.d (.sl (.int .u8) b)))), (1, .one (.c (.d (.sl (.int .i64) sizes)))), (7, .one (.c (.d (.sl .unit []))))], [], [], 0⟩ [] (by kernel_rfl) trivial ?_
  refine At.step hm ht ⟨[], [], [.nil false 7 0 (.int .u64) (some 36)], [0, 7, 13, 14, 15], [3]⟩ 3 ⟨[(0, .one (.c (.d (.sl (.int .u8) b)))), (7, .one (.c (.own 0 (.int .u64) []))), (13, .one (.c (.d (.sl (.int .i64) sizes)))), (14, .one (.c (.d (.int .i64 ((sizes.length : Nat) : Int))))), (15, .one (.c (.d (.int .i64 0))))], [(0, some ⟨36, 0⟩)], [], 1⟩ [] (by kernel_rfl) trivial ?_
  obtain ⟨w200, cw200, h⟩ := bindS h
  refine f83_pack_Get_L3_ok n b [] sizes ((sizes.length : Nat) : Int) 0 w200 cw200 _ ?_
  rcases w200 with e201 | e202
  · have h := Option.some.inj h
    subst h
    rfl
  · show At Go.Proofs.Try.prog Go.Proofs.Try.f83 0 16 ⟨[(0, .one (.c (.d (.sl (.int .u8) e202.1)))), (7, .one (.c (.own 0 (.int .u64) e202.2)))], [(0, some ⟨36, 0⟩)], [], 1⟩ _
    obtain ⟨g203_0, h⟩ := ifS h
    have h := Option.some.inj h
    subst h
    exact At.fin hm ht ⟨[], [], [], [4, 5, 6], [0, 3]⟩ [e202.1.length ≤ maxLen ∧ e202.1.length * 1 ≤ 140737488355328] (by kernel_rfl) ⟨g203_0, trivial⟩
/-! brougham/seg.options -/
def f86_seg_options_in (b : List Int) : Inn := ⟨[.c (.d (.sl (.int .u8) b))], [], [], 0⟩
def f86_seg_options_out (r : (List (Int × List Int)) × Bool) : Out := ⟨.tup [.c (.own 0 (.pair (.int .u8) (.slice (.int .u8))) r.1), .c (.d (.bool r.2))], [(0, ⟨30, 0⟩)], [], 1⟩
def f86_seg_options_L2 : Nat → (List Int) → (List (Int × List Int)) → Option (((List (Int × List Int)) × Bool) ⊕ (List (Int × List Int)))
  | 0, _, _ => none
  | n + 1, b, out =>
    if (decide ((((b.length : Nat) : Int) : Int) > 0)) = true then
      if (decide ((((b.length : Nat) : Int) : Int) < 2)) = true then
        some (.inl ([], false))
      else
        if (0 : Int) ≤ 0 ∧ 0 < (((b).length : Nat) : Int) then
        if (((b.getD 0 0) : Int) == 0) = true then
          some (.inl ([], false))
        else
          if (0 : Int) ≤ 1 ∧ 1 < (((b).length : Nat) : Int) then
          if (decide (((IntKind.wrap .i64 (b.getD 1 0)) : Int) > (IntKind.wrap .i64 (((b.length : Nat) : Int) - 2)))) = true then
            some (.inl ([], false))
          else
            if (0 : Int) ≤ 1 ∧ 1 < (((b).length : Nat) : Int) then
            if (0 : Int) ≤ 0 ∧ 0 < (((b).length : Nat) : Int) then
            if cutOk b.length (some 2) (some (IntKind.wrap .i64 (2 + (IntKind.wrap .i64 (b.getD 1 0))))) none then
            if ((b.take (IntKind.wrap .i64 (2 + (IntKind.wrap .i64 (b.getD 1 0)))).toNat).drop 2).length ≤ maxLen ∧ ((b.take (IntKind.wrap .i64 (2 + (IntKind.wrap .i64 (b.getD 1 0)))).toNat).drop 2).length * 1 ≤ 140737488355328 then
            if out.length + [((b.getD 0 0), ((b.take (IntKind.wrap .i64 (2 + (IntKind.wrap .i64 (b.getD 1 0)))).toNat).drop 2))].length ≤ maxLen ∧ (out.length + [((b.getD 0 0), ((b.take (IntKind.wrap .i64 (2 + (IntKind.wrap .i64 (b.getD 1 0)))).toNat).drop 2))].length) * 32 ≤ 140737488355328 then
            if cutOk b.length (some (IntKind.wrap .i64 (2 + (IntKind.wrap .i64 (b.getD 1 0))))) none none then
            f86_seg_options_L2 n ((b.take b.length).drop (IntKind.wrap .i64 (2 + (IntKind.wrap .i64 (b.getD 1 0)))).toNat) (out ++ [((b.getD 0 0), ((b.take (IntKind.wrap .i64 (2 + (IntKind.wrap .i64 (b.getD 1 0)))).toNat).drop 2))])
            else none
            else none
            else none
            else none
            else none
            else none
          else none
        else none
    else
      some (.inr out)
def f86_seg_options_L2_k (w : ((List (Int × List Int)) × Bool) ⊕ (List (Int × List Int))) (o : Out) : Prop := match w with
  | .inl e => o = f86_seg_options_out e
  | .inr e => At Go.Proofs.Try.prog Go.Proofs.Try.f86 0 8 ⟨[(4, .one (.c (.own 0 (.pair (.int .u8) (.slice (.int .u8))) e)))], [(0, some ⟨30, 0⟩)], [], 1⟩ o
theorem f86_seg_options_L2_ok (n : Nat) : ∀ (b : List Int) (out : List (Int × List Int)) (w : ((List (Int × List Int)) × Bool) ⊕ (List (Int × List Int))) (h : f86_seg_options_L2 n b out = some w) (o : Out) (hk : f86_seg_options_L2_k w o), At Go.Proofs.Try.prog Go.Proofs.Try.f86 0 2 ⟨[(0, .one (.c (.d (.sl (.int .u8) b)))), (4, .one (.c (.own 0 (.pair (.int .u8) (.slice (.int .u8))) out)))], [(0, some ⟨30, 0⟩)], [], 1⟩ o := by
  induction n with
  | zero => intro b out w h; rw [f86_seg_options_L2] at h; cases h
  | succ n ih =>
    intro b out w h o hk
    rw [f86_seg_options_L2] at h
    rcases iteS h with ⟨b239_e0, h⟩ | ⟨b239_e0, h⟩
    · refine At.step hm ht ⟨[], [true], [], [0, 4], [0]⟩ 3 ⟨[(0, .one (.c (.d (.sl (.int .u8) b)))), (4, .one (.c (.own 0 (.pair (.int .u8) (.slice (.int .u8))) out)))], [(0, some ⟨30, 0⟩)], [], 1⟩ [(decide ((((b.length : Nat) : Int) : Int) > 0)) = true] (by kernel_rfl) ⟨b239_e0, trivial⟩ ?_
      rcases iteS h with ⟨b240_3, h⟩ | ⟨b240_3, h⟩
      · refine At.step hm ht ⟨[(3, .b true)], [true], [], [], []⟩ 4 ⟨[], [], [], 0⟩ [(decide ((((b.length : Nat) : Int) : Int) < 2)) = true, true = true] (by kernel_rfl) ⟨b240_3, rfl, trivial⟩ ?_
        have h := Option.some.inj h
        subst h
        have hk : o = f86_seg_options_out ([], false) := hk
        subst hk
        exact At.fin hm ht ⟨[], [], [.nil false 2 0 (.pair (.int .u8) (.slice (.int .u8))) (some 30)], [2, 3], [2]⟩ [] (by kernel_rfl) trivial
      · obtain ⟨g240_0, h⟩ := ifS h
        rcases iteS h with ⟨b240_9, h⟩ | ⟨b240_9, h⟩
        · refine At.step hm ht ⟨[(3, .b false), (9, .b true)], [true], [], [], []⟩ 4 ⟨[], [], [], 0⟩ [(decide ((((b.length : Nat) : Int) : Int) < 2)) = false, (0 : Int) ≤ 0 ∧ 0 < (((b).length : Nat) : Int), (((b.getD 0 0) : Int) == 0) = true, true = true] (by kernel_rfl) ⟨b240_3, g240_0, b240_9, rfl, trivial⟩ ?_
          have h := Option.some.inj h
          subst h
          have hk : o = f86_seg_options_out ([], false) := hk
          subst hk
          exact At.fin hm ht ⟨[], [], [.nil false 2 0 (.pair (.int .u8) (.slice (.int .u8))) (some 30)], [2, 3], [2]⟩ [] (by kernel_rfl) trivial
        · obtain ⟨g240_1, h⟩ := ifS h
          rcases iteS h with ⟨b240_e0, h⟩ | ⟨b240_e0, h⟩
          · refine At.step hm ht ⟨[(3, .b false), (9, .b false)], [true], [], [], []⟩ 4 ⟨[], [], [], 0⟩ [(decide ((((b.length : Nat) : Int) : Int) < 2)) = false, (0 : Int) ≤ 0 ∧ 0 < (((b).length : Nat) : Int), (((b.getD 0 0) : Int) == 0) = false, (0 : Int) ≤ 1 ∧ 1 < (((b).length : Nat) : Int), (decide (((IntKind.wrap .i64 (b.getD 1 0)) : Int) > (IntKind.wrap .i64 (((b.length : Nat) : Int) - 2)))) = true] (by kernel_rfl) ⟨b240_3, g240_0, b240_9, g240_1, b240_e0, trivial⟩ ?_
            have h := Option.some.inj h
            subst h
            have hk : o = f86_seg_options_out ([], false) := hk
            subst hk
            exact At.fin hm ht ⟨[], [], [.nil false 2 0 (.pair (.int .u8) (.slice (.int .u8))) (some 30)], [2, 3], [2]⟩ [] (by kernel_rfl) trivial
          · refine At.step hm ht ⟨[(3, .b false), (9, .b false)], [false], [], [0, 4], [0]⟩ 5 ⟨[(0, .one (.c (.d (.sl (.int .u8) b)))), (4, .one (.c (.own 0 (.pair (.int .u8) (.slice (.int .u8))) out)))], [(0, some ⟨30, 0⟩)], [], 1⟩ [(decide ((((b.length : Nat) : Int) : Int) < 2)) = false, (0 : Int) ≤ 0 ∧ 0 < (((b).length : Nat) : Int), (((b.getD 0 0) : Int) == 0) = false, (0 : Int) ≤ 1 ∧ 1 < (((b).length : Nat) : Int), (decide (((IntKind.wrap .i64 (b.getD 1 0)) : Int) > (IntKind.wrap .i64 (((b.length : Nat) : Int) - 2)))) = false] (by kernel_rfl) ⟨b240_3, g240_0, b240_9, g240_1, b240_e0, trivial⟩ ?_
            obtain ⟨g244_0, h⟩ := ifS h
            refine At.step hm ht ⟨[], [], [], [0, 4, 5], [0]⟩ 6 ⟨[(0, .one (.c (.d (.sl (.int .u8) b)))), (4, .one (.c (.own 0 (.pair (.int .u8) (.slice (.int .u8))) out))), (5, .one (.c (.d (.int .i64 (IntKind.wrap .i64 (2 + (IntKind.wrap .i64 (b.getD 1 0))))))))], [(0, some ⟨30, 0⟩)], [], 1⟩ [(0 : Int) ≤ 1 ∧ 1 < (((b).length : Nat) : Int)] (by kernel_rfl) ⟨g244_0, trivial⟩ ?_
            obtain ⟨g245_0, h⟩ := ifS h
            obtain ⟨g245_1, h⟩ := ifS h
            obtain ⟨g245_2, h⟩ := ifS h
            obtain ⟨g245_3, h⟩ := ifS h
            refine At.step hm ht ⟨[], [], [], [0, 4, 5], [11]⟩ 7 ⟨[(0, .one (.c (.d (.sl (.int .u8) b)))), (4, .one (.c (.own 0 (.pair (.int .u8) (.slice (.int .u8))) (out ++ [((b.getD 0 0), ((b.take (IntKind.wrap .i64 (2 + (IntKind.wrap .i64 (b.getD 1 0)))).toNat).drop 2))])))), (5, .one (.c (.d (.int .i64 (IntKind.wrap .i64 (2 + (IntKind.wrap .i64 (b.getD 1 0))))))))], [(0, some ⟨30, 0⟩)], [], 1⟩ [(0 : Int) ≤ 0 ∧ 0 < (((b).length : Nat) : Int), cutOk b.length (some 2) (some (IntKind.wrap .i64 (2 + (IntKind.wrap .i64 (b.getD 1 0))))) none, ((b.take (IntKind.wrap .i64 (2 + (IntKind.wrap .i64 (b.getD 1 0)))).toNat).drop 2).length ≤ maxLen ∧ ((b.take (IntKind.wrap .i64 (2 + (IntKind.wrap .i64 (b.getD 1 0)))).toNat).drop 2).length * 1 ≤ 140737488355328, out.length + [((b.getD 0 0), ((b.take (IntKind.wrap .i64 (2 + (IntKind.wrap .i64 (b.getD 1 0)))).toNat).drop 2))].length ≤ maxLen ∧ (out.length + [((b.getD 0 0), ((b.take (IntKind.wrap .i64 (2 + (IntKind.wrap .i64 (b.getD 1 0)))).toNat).drop 2))].length) * 32 ≤ 140737488355328] (by kernel_rfl) ⟨g245_0, g245_1, g245_2, g245_3, trivial⟩ ?_
            obtain ⟨g246_0, h⟩ := ifS h
            refine At.step hm ht ⟨[], [], [], [0, 4], [0]⟩ 2 ⟨[(0, .one (.c (.d (.sl (.int .u8) ((b.take b.length).drop (IntKind.wrap .i64 (2 + (IntKind.wrap .i64 (b.getD 1 0)))).toNat))))), (4, .one (.c (.own 0 (.pair (.int .u8) (.slice (.int .u8))) (out ++ [((b.getD 0 0), ((b.take (IntKind.wrap .i64 (2 + (IntKind.wrap .i64 (b.getD 1 0)))).toNat).drop 2))]))))], [(0, some ⟨30, 0⟩)], [], 1⟩ [cutOk b.length (some (IntKind.wrap .i64 (2 + (IntKind.wrap .i64 (b.getD 1 0))))) none none] (by kernel_rfl) ⟨g246_0, trivial⟩ ?_
            exact ih ((b.take b.length).drop (IntKind.wrap .i64 (2 + (IntKind.wrap .i64 (b.getD 1 0)))).toNat) (out ++ [((b.getD 0 0), ((b.take (IntKind.wrap .i64 (2 + (IntKind.wrap .i64 (b.getD 1 0)))).toNat).drop 2))]) w h o hk
    · refine At.step hm ht ⟨[], [false], [], [4], [0]⟩ 8 ⟨[(4, .one (.c (.own 0 (.pair (.int .u8) (.slice (.int .u8))) out)))], [(0, some ⟨30, 0⟩)], [], 1⟩ [(decide ((((b.length : Nat) : Int) : Int) > 0)) = false] (by kernel_rfl) ⟨b239_e0, trivial⟩ ?_
      have h := Option.some.inj h
      subst h
      exact hk
def f86_seg_options (n : Nat) (b : List Int) : Option ((List (Int × List Int)) × Bool) :=
  (f86_seg_options_L2 n b []).bind fun w247 =>
  match w247 with
  | .inl e248 =>
    some (e248.1, e248.2)
  | .inr e249 =>
    some (e249, true)
theorem f86_seg_options_ok (n : Nat) (b : List Int) (r : (List (Int × List Int)) × Bool) (h : f86_seg_options n b = some r) : FnOK Go.Proofs.Try.prog 86 (f86_seg_options_in b) (f86_seg_options_out r) := by
  unfold f86_seg_options at h
  refine At.fn (r := 0) Go.Proofs.Try.func86 rfl (by kernel_rfl) rfl rfl (by kernel_rfl) ?_
  show At Go.Proofs.Try.prog Go.Proofs.Try.f86 0 0 ⟨[(0, .one (.c (.d (.sl (.int .u8) b))))], [], [], 0⟩ _
  refine At.step hm ht ⟨[], [], [], [0], []⟩ 1 ⟨[(0, .one (.c (.d (.sl (.int .u8) b))))], [], [], 0⟩ [] (by kernel_rfl) trivial ?_
  refine At.step hm ht ⟨[], [], [.nil false 4 0 (.pair (.int .u8) (.slice (.int .u8))) (some 30)], [0, 4], [1]⟩ 2 ⟨[(0, .one (.c (.d (.sl (.int .u8) b)))), (4, .one (.c (.own 0 (.pair (.int .u8) (.slice (.int .u8))) [])))], [(0, some ⟨30, 0⟩)], [], 1⟩ [] (by kernel_rfl) trivial ?_
  obtain ⟨w247, cw247, h⟩ := bindS h
  refine f86_seg_options_L2_ok n b [] w247 cw247 _ ?_
  rcases w247 with e248 | e249
  · have h := Option.some.inj h
    subst h
    rfl
  · show At Go.Proofs.Try.prog Go.Proofs.Try.f86 0 8 ⟨[(4, .one (.c (.own 0 (.pair (.int .u8) (.slice (.int .u8))) e249)))], [(0, some ⟨30, 0⟩)], [], 1⟩ _
    have h := Option.some.inj h
    subst h
    exact At.fin hm ht ⟨[], [], [], [2, 3], [0]⟩ [] (by kernel_rfl) trivial
/-! brougham/seg.Parse -/
def f47_seg_Parse_in (b : List Int) : Inn := ⟨[.c (.d (.sl (.int .u8) b))], [], [], 0⟩
def f47_seg_Parse_out (r : Int × Int × Int × Int × Int × Int × (List (Int × List Int)) × List Int) : Out := ⟨.tup [.agg [.d (.int .u16 r.2.1), .d (.int .u16 r.2.2.1), .d (.int .u32 r.2.2.2.1), .d (.int .u32 r.2.2.2.2.1), .d (.int .u8 r.2.2.2.2.2.1), .own 1 (.pair (.int .u8) (.slice (.int .u8))) r.2.2.2.2.2.2.1, .own 2 (.int .u8) r.2.2.2.2.2.2.2], .c (.d (.int .i64 r.1))], [(1, ⟨30, 0⟩), (2, ⟨5, 0⟩)], [(0, [.d (.int .u16 r.2.1), .d (.int .u16 r.2.2.1), .d (.int .u32 r.2.2.2.1), .d (.int .u32 r.2.2.2.2.1), .d (.int .u8 r.2.2.2.2.2.1), .own 1 (.pair (.int .u8) (.slice (.int .u8))) r.2.2.2.2.2.2.1, .own 2 (.int .u8) r.2.2.2.2.2.2.2])], 3⟩
def f47_seg_Parse (n : Nat) (b : List Int) : Option (Int × Int × Int × Int × Int × Int × (List (Int × List Int)) × List Int) :=
  (f83_pack_Get n b [2, 2, 4, 4, 1, 1]).bind fun r258_0 =>
  if (!r258_0.2.2) = true then
    some (70, 0, 0, 0, 0, 0, [], [])
  else
    if (0 : Int) ≤ 4 ∧ 4 < (((r258_0.1).length : Nat) : Int) then
    if (decide (((r258_0.1.getD 4 0) : Int) > 7)) = true then
      some (70, 0, 0, 0, 0, 0, [], [])
    else
      if (0 : Int) ≤ 0 ∧ 0 < (((r258_0.1).length : Nat) : Int) then
      if (0 : Int) ≤ 1 ∧ 1 < (((r258_0.1).length : Nat) : Int) then
      if (0 : Int) ≤ 2 ∧ 2 < (((r258_0.1).length : Nat) : Int) then
      if (0 : Int) ≤ 3 ∧ 3 < (((r258_0.1).length : Nat) : Int) then
      if (0 : Int) ≤ 4 ∧ 4 < (((r258_0.1).length : Nat) : Int) then
      if (0 : Int) ≤ 5 ∧ 5 < (((r258_0.1).length : Nat) : Int) then
      if (decide (((IntKind.wrap .i64 (r258_0.1.getD 5 0)) : Int) > 200)) = true then
        some (71, 0, 0, 0, 0, 0, [], [])
      else
        if (decide (((IntKind.wrap .i64 (r258_0.1.getD 5 0)) : Int) > ((r258_0.2.1.length : Nat) : Int))) = true then
          some (71, 0, 0, 0, 0, 0, [], [])
        else
          if cutOk r258_0.2.1.length none (some (IntKind.wrap .i64 (r258_0.1.getD 5 0))) (some (IntKind.wrap .i64 (r258_0.1.getD 5 0))) then
          (f86_seg_options n (r258_0.2.1.take (IntKind.wrap .i64 (r258_0.1.getD 5 0)).toNat)).bind fun r267_1 =>
          if (!r267_1.2) = true then
            some (71, 0, 0, 0, 0, 0, [], [])
          else
            if (decide (((IntKind.wrap .i64 (((r258_0.2.1.length : Nat) : Int) - (IntKind.wrap .i64 (r258_0.1.getD 5 0)))) : Int) > 1024)) = true then
              some (72, 0, 0, 0, 0, 0, [], [])
            else
              if cutOk r258_0.2.1.length (some (IntKind.wrap .i64 (r258_0.1.getD 5 0))) none none then
              if ((r258_0.2.1.take r258_0.2.1.length).drop (IntKind.wrap .i64 (r258_0.1.getD 5 0)).toNat).length ≤ maxLen ∧ ((r258_0.2.1.take r258_0.2.1.length).drop (IntKind.wrap .i64 (r258_0.1.getD 5 0)).toNat).length * 1 ≤ 140737488355328 then
              some (0, (IntKind.wrap .u16 (r258_0.1.getD 0 0)), (IntKind.wrap .u16 (r258_0.1.getD 1 0)), (IntKind.wrap .u32 (r258_0.1.getD 2 0)), (IntKind.wrap .u32 (r258_0.1.getD 3 0)), (IntKind.wrap .u8 (r258_0.1.getD 4 0)), r267_1.1, ((r258_0.2.1.take r258_0.2.1.length).drop (IntKind.wrap .i64 (r258_0.1.getD 5 0)).toNat))
              else none
              else none
          else none
      else none
      else none
      else none
      else none
      else none
      else none
    else none
theorem f47_seg_Parse_ok (n : Nat) (b : List Int) (r : Int × Int × Int × Int × Int × Int × (List (Int × List Int)) × List Int) (h : f47_seg_Parse n b = some r) : FnOK Go.Proofs.Try.prog 47 (f47_seg_Parse_in b) (f47_seg_Parse_out r) := by
  unfold f47_seg_Parse at h
  refine At.fn (r := 0) Go.Proofs.Try.func47 rfl (by kernel_rfl) rfl rfl (by kernel_rfl) ?_
  show At Go.Proofs.Try.prog Go.Proofs.Try.f47 0 0 ⟨[(0, .one (.c (.d (.sl (.int .u8) b))))], [], [], 0⟩ _
  refine At.step hm ht ⟨[], [], [], [0, 2], [0]⟩ 1 ⟨[(0, .one (.c (.d (.sl (.int .u8) b)))), (2, .one (.c (.ptr 0 0)))], [], [(0, [.d (.int .u16 0), .d (.int .u16 0), .d (.int .u32 0), .d (.int .u32 0), .d (.int .u8 0), .d (.sl .unit []), .d (.sl .unit [])])], 1⟩ [] (by kernel_rfl) trivial ?_
  obtain ⟨r258_0, cr258_0, h⟩ := bindS h
  refine At.step hm ht ⟨[(2, .call [] [] (f83_pack_Get_out r258_0))], [], [], [2, 4, 5, 6], [0, 3, 4]⟩ 2 ⟨[(2, .one (.c (.ptr 0 0))), (4, .one (.c (.own 1 (.int .u64) r258_0.1))), (5, .one (.c (.own 2 (.int .u8) r258_0.2.1))), (6, .one (.c (.d (.bool r258_0.2.2))))], [(1, some ⟨36, 0⟩), (2, some ⟨5, 0⟩)], [(0, [.d (.int .u16 0), .d (.int .u16 0), .d (.int .u32 0), .d (.int .u32 0), .d (.int .u8 0), .d (.sl .unit []), .d (.sl .unit [])])], 3⟩ [FnOK Go.Proofs.Try.prog 83 (f83_pack_Get_in b [2, 2, 4, 4, 1, 1]) (f83_pack_Get_out r258_0)] (by kernel_rfl) ⟨(f83_pack_Get_ok n b [2, 2, 4, 4, 1, 1] r258_0 cr258_0), trivial⟩ ?_
  rcases iteS h with ⟨b259_2, h⟩ | ⟨b259_2, h⟩
  · refine At.step hm ht ⟨[(2, .b true)], [true], [], [2], [0]⟩ 3 ⟨[(2, .one (.c (.ptr 0 0)))], [], [(0, [.d (.int .u16 0), .d (.int .u16 0), .d (.int .u32 0), .d (.int .u32 0), .d (.int .u8 0), .d (.sl .unit []), .d (.sl .unit [])])], 1⟩ [(!r258_0.2.2) = true, true = true] (by kernel_rfl) ⟨b259_2, rfl, trivial⟩ ?_
    have h := Option.some.inj h
    subst h
    exact At.fin hm ht ⟨[], [], [.nil true 0 5 (.pair (.int .u8) (.slice (.int .u8))) (some 30), .nil true 0 6 (.int .u8) (some 5)], [2, 3], [0, 4, 5]⟩ [0 + 7 ≤ 7] (by kernel_rfl) ⟨(by decide), trivial⟩
  · obtain ⟨g259_0, h⟩ := ifS h
    rcases iteS h with ⟨b259_e0, h⟩ | ⟨b259_e0, h⟩
    · refine At.step hm ht ⟨[(2, .b false)], [true], [], [2], [0]⟩ 3 ⟨[(2, .one (.c (.ptr 0 0)))], [], [(0, [.d (.int .u16 0), .d (.int .u16 0), .d (.int .u32 0), .d (.int .u32 0), .d (.int .u8 0), .d (.sl .unit []), .d (.sl .unit [])])], 1⟩ [(!r258_0.2.2) = false, (0 : Int) ≤ 4 ∧ 4 < (((r258_0.1).length : Nat) : Int), (decide (((r258_0.1.getD 4 0) : Int) > 7)) = true] (by kernel_rfl) ⟨b259_2, g259_0, b259_e0, trivial⟩ ?_
      have h := Option.some.inj h
      subst h
      exact At.fin hm ht ⟨[], [], [.nil true 0 5 (.pair (.int .u8) (.slice (.int .u8))) (some 30), .nil true 0 6 (.int .u8) (some 5)], [2, 3], [0, 4, 5]⟩ [0 + 7 ≤ 7] (by kernel_rfl) ⟨(by decide), trivial⟩
    · refine At.step hm ht ⟨[(2, .b false)], [false], [], [2, 4, 5], [0, 1, 2]⟩ 4 ⟨[(2, .one (.c (.ptr 0 0))), (4, .one (.c (.own 1 (.int .u64) r258_0.1))), (5, .one (.c (.own 2 (.int .u8) r258_0.2.1)))], [(1, some ⟨36, 0⟩), (2, some ⟨5, 0⟩)], [(0, [.d (.int .u16 0), .d (.int .u16 0), .d (.int .u32 0), .d (.int .u32 0), .d (.int .u8 0), .d (.sl .unit []), .d (.sl .unit [])])], 3⟩ [(!r258_0.2.2) = false, (0 : Int) ≤ 4 ∧ 4 < (((r258_0.1).length : Nat) : Int), (decide (((r258_0.1.getD 4 0) : Int) > 7)) = false] (by kernel_rfl) ⟨b259_2, g259_0, b259_e0, trivial⟩ ?_
      obtain ⟨g262_0, h⟩ := ifS h
      obtain ⟨g262_1, h⟩ := ifS h
      obtain ⟨g262_2, h⟩ := ifS h
      obtain ⟨g262_3, h⟩ := ifS h
      obtain ⟨g262_4, h⟩ := ifS h
      refine At.step hm ht ⟨[], [], [], [2, 4, 5, 7], [0, 1, 2, 24]⟩ 5 ⟨[(2, .one (.c (.ptr 0 0))), (4, .one (.c (.own 1 (.int .u64) r258_0.1))), (5, .one (.c (.own 2 (.int .u8) r258_0.2.1))), (7, .one (.c (.ptr 3 0)))], [(1, some ⟨36, 0⟩), (2, some ⟨5, 0⟩)], [(0, [.d (.int .u16 0), .d (.int .u16 0), .d (.int .u32 0), .d (.int .u32 0), .d (.int .u8 0), .d (.sl .unit []), .d (.sl .unit [])]), (3, [.d (.int .u16 (IntKind.wrap .u16 (r258_0.1.getD 0 0))), .d (.int .u16 (IntKind.wrap .u16 (r258_0.1.getD 1 0))), .d (.int .u32 (IntKind.wrap .u32 (r258_0.1.getD 2 0))), .d (.int .u32 (IntKind.wrap .u32 (r258_0.1.getD 3 0))), .d (.int .u8 (IntKind.wrap .u8 (r258_0.1.getD 4 0))), .d (.sl .unit []), .d (.sl .unit [])])], 4⟩ [(0 : Int) ≤ 0 ∧ 0 < (((r258_0.1).length : Nat) : Int), (0 : Int) ≤ 1 ∧ 1 < (((r258_0.1).length : Nat) : Int), (0 : Int) ≤ 2 ∧ 2 < (((r258_0.1).length : Nat) : Int), (0 : Int) ≤ 3 ∧ 3 < (((r258_0.1).length : Nat) : Int), (0 : Int) ≤ 4 ∧ 4 < (((r258_0.1).length : Nat) : Int), 0 + 7 ≤ 7] (by kernel_rfl) ⟨g262_0, g262_1, g262_2, g262_3, g262_4, (by decide), trivial⟩ ?_
      obtain ⟨g263_0, h⟩ := ifS h
      refine At.step hm ht ⟨[], [], [], [2, 5, 7, 8], [0, 2, 3]⟩ 6 ⟨[(2, .one (.c (.ptr 0 0))), (5, .one (.c (.own 1 (.int .u8) r258_0.2.1))), (7, .one (.c (.ptr 2 0))), (8, .one (.c (.d (.int .i64 (IntKind.wrap .i64 (r258_0.1.getD 5 0))))))], [(1, some ⟨5, 0⟩)], [(0, [.d (.int .u16 0), .d (.int .u16 0), .d (.int .u32 0), .d (.int .u32 0), .d (.int .u8 0), .d (.sl .unit []), .d (.sl .unit [])]), (2, [.d (.int .u16 (IntKind.wrap .u16 (r258_0.1.getD 0 0))), .d (.int .u16 (IntKind.wrap .u16 (r258_0.1.getD 1 0))), .d (.int .u32 (IntKind.wrap .u32 (r258_0.1.getD 2 0))), .d (.int .u32 (IntKind.wrap .u32 (r258_0.1.getD 3 0))), .d (.int .u8 (IntKind.wrap .u8 (r258_0.1.getD 4 0))), .d (.sl .unit []), .d (.sl .unit [])])], 3⟩ [(0 : Int) ≤ 5 ∧ 5 < (((r258_0.1).length : Nat) : Int)] (by kernel_rfl) ⟨g263_0, trivial⟩ ?_
      rcases iteS h with ⟨b264_2, h⟩ | ⟨b264_2, h⟩
      · refine At.step hm ht ⟨[(2, .b true)], [true], [], [2], [0]⟩ 7 ⟨[(2, .one (.c (.ptr 0 0)))], [], [(0, [.d (.int .u16 0), .d (.int .u16 0), .d (.int .u32 0), .d (.int .u32 0), .d (.int .u8 0), .d (.sl .unit []), .d (.sl .unit [])])], 1⟩ [(decide (((IntKind.wrap .i64 (r258_0.1.getD 5 0)) : Int) > 200)) = true, true = true] (by kernel_rfl) ⟨b264_2, rfl, trivial⟩ ?_
        have h := Option.some.inj h
        subst h
        exact At.fin hm ht ⟨[], [], [.nil true 0 5 (.pair (.int .u8) (.slice (.int .u8))) (some 30), .nil true 0 6 (.int .u8) (some 5)], [2, 3], [0, 4, 5]⟩ [0 + 7 ≤ 7] (by kernel_rfl) ⟨(by decide), trivial⟩
      · rcases iteS h with ⟨b264_e0, h⟩ | ⟨b264_e0, h⟩
        · refine At.step hm ht ⟨[(2, .b false)], [true], [], [2], [0]⟩ 7 ⟨[(2, .one (.c (.ptr 0 0)))], [], [(0, [.d (.int .u16 0), .d (.int .u16 0), .d (.int .u32 0), .d (.int .u32 0), .d (.int .u8 0), .d (.sl .unit []), .d (.sl .unit [])])], 1⟩ [(decide (((IntKind.wrap .i64 (r258_0.1.getD 5 0)) : Int) > 200)) = false, (decide (((IntKind.wrap .i64 (r258_0.1.getD 5 0)) : Int) > ((r258_0.2.1.length : Nat) : Int))) = true] (by kernel_rfl) ⟨b264_2, b264_e0, trivial⟩ ?_
          have h := Option.some.inj h
          subst h
          exact At.fin hm ht ⟨[], [], [.nil true 0 5 (.pair (.int .u8) (.slice (.int .u8))) (some 30), .nil true 0 6 (.int .u8) (some 5)], [2, 3], [0, 4, 5]⟩ [0 + 7 ≤ 7] (by kernel_rfl) ⟨(by decide), trivial⟩
        · refine At.step hm ht ⟨[(2, .b false)], [false], [], [2, 5, 7, 8], [0, 1, 2]⟩ 8 ⟨[(2, .one (.c (.ptr 0 0))), (5, .one (.c (.own 1 (.int .u8) r258_0.2.1))), (7, .one (.c (.ptr 2 0))), (8, .one (.c (.d (.int .i64 (IntKind.wrap .i64 (r258_0.1.getD 5 0))))))], [(1, some ⟨5, 0⟩)], [(0, [.d (.int .u16 0), .d (.int .u16 0), .d (.int .u32 0), .d (.int .u32 0), .d (.int .u8 0), .d (.sl .unit []), .d (.sl .unit [])]), (2, [.d (.int .u16 (IntKind.wrap .u16 (r258_0.1.getD 0 0))), .d (.int .u16 (IntKind.wrap .u16 (r258_0.1.getD 1 0))), .d (.int .u32 (IntKind.wrap .u32 (r258_0.1.getD 2 0))), .d (.int .u32 (IntKind.wrap .u32 (r258_0.1.getD 3 0))), .d (.int .u8 (IntKind.wrap .u8 (r258_0.1.getD 4 0))), .d (.sl .unit []), .d (.sl .unit [])])], 3⟩ [(decide (((IntKind.wrap .i64 (r258_0.1.getD 5 0)) : Int) > 200)) = false, (decide (((IntKind.wrap .i64 (r258_0.1.getD 5 0)) : Int) > ((r258_0.2.1.length : Nat) : Int))) = false] (by kernel_rfl) ⟨b264_2, b264_e0, trivial⟩ ?_
          obtain ⟨g267_0, h⟩ := ifS h
          obtain ⟨r267_1, cr267_1, h⟩ := bindS h
          refine At.step hm ht ⟨[(4, .call [] [] (f86_seg_options_out r267_1))], [], [], [2, 5, 6, 7, 8, 9], [0, 1, 2, 7]⟩ 9 ⟨[(2, .one (.c (.ptr 0 0))), (5, .one (.c (.own 1 (.int .u8) r258_0.2.1))), (6, .one (.c (.d (.bool r267_1.2)))), (7, .one (.c (.ptr 2 0))), (8, .one (.c (.d (.int .i64 (IntKind.wrap .i64 (r258_0.1.getD 5 0)))))), (9, .one (.c (.own 3 (.pair (.int .u8) (.slice (.int .u8))) r267_1.1)))], [(1, some ⟨5, 0⟩), (3, some ⟨30, 0⟩)], [(0, [.d (.int .u16 0), .d (.int .u16 0), .d (.int .u32 0), .d (.int .u32 0), .d (.int .u8 0), .d (.sl .unit []), .d (.sl .unit [])]), (2, [.d (.int .u16 (IntKind.wrap .u16 (r258_0.1.getD 0 0))), .d (.int .u16 (IntKind.wrap .u16 (r258_0.1.getD 1 0))), .d (.int .u32 (IntKind.wrap .u32 (r258_0.1.getD 2 0))), .d (.int .u32 (IntKind.wrap .u32 (r258_0.1.getD 3 0))), .d (.int .u8 (IntKind.wrap .u8 (r258_0.1.getD 4 0))), .d (.sl .unit []), .d (.sl .unit [])])], 4⟩ [cutOk r258_0.2.1.length none (some (IntKind.wrap .i64 (r258_0.1.getD 5 0))) (some (IntKind.wrap .i64 (r258_0.1.getD 5 0))), FnOK Go.Proofs.Try.prog 86 (f86_seg_options_in (r258_0.2.1.take (IntKind.wrap .i64 (r258_0.1.getD 5 0)).toNat)) (f86_seg_options_out r267_1)] (by kernel_rfl) ⟨g267_0, (f86_seg_options_ok n (r258_0.2.1.take (IntKind.wrap .i64 (r258_0.1.getD 5 0)).toNat) r267_1 cr267_1), trivial⟩ ?_
          rcases iteS h with ⟨b268_e0, h⟩ | ⟨b268_e0, h⟩
          · refine At.step hm ht ⟨[], [true], [], [2], [0]⟩ 10 ⟨[(2, .one (.c (.ptr 0 0)))], [], [(0, [.d (.int .u16 0), .d (.int .u16 0), .d (.int .u32 0), .d (.int .u32 0), .d (.int .u8 0), .d (.sl .unit []), .d (.sl .unit [])])], 1⟩ [(!r267_1.2) = true] (by kernel_rfl) ⟨b268_e0, trivial⟩ ?_
            have h := Option.some.inj h
            subst h
            exact At.fin hm ht ⟨[], [], [.nil true 0 5 (.pair (.int .u8) (.slice (.int .u8))) (some 30), .nil true 0 6 (.int .u8) (some 5)], [2, 3], [0, 4, 5]⟩ [0 + 7 ≤ 7] (by kernel_rfl) ⟨(by decide), trivial⟩
          · refine At.step hm ht ⟨[], [false], [], [2, 5, 7, 8, 9], [0, 1, 2, 3]⟩ 11 ⟨[(2, .one (.c (.ptr 0 0))), (5, .one (.c (.own 1 (.int .u8) r258_0.2.1))), (7, .one (.c (.ptr 2 0))), (8, .one (.c (.d (.int .i64 (IntKind.wrap .i64 (r258_0.1.getD 5 0)))))), (9, .one (.c (.own 3 (.pair (.int .u8) (.slice (.int .u8))) r267_1.1)))], [(1, some ⟨5, 0⟩), (3, some ⟨30, 0⟩)], [(0, [.d (.int .u16 0), .d (.int .u16 0), .d (.int .u32 0), .d (.int .u32 0), .d (.int .u8 0), .d (.sl .unit []), .d (.sl .unit [])]), (2, [.d (.int .u16 (IntKind.wrap .u16 (r258_0.1.getD 0 0))), .d (.int .u16 (IntKind.wrap .u16 (r258_0.1.getD 1 0))), .d (.int .u32 (IntKind.wrap .u32 (r258_0.1.getD 2 0))), .d (.int .u32 (IntKind.wrap .u32 (r258_0.1.getD 3 0))), .d (.int .u8 (IntKind.wrap .u8 (r258_0.1.getD 4 0))), .d (.sl .unit []), .d (.sl .unit [])])], 4⟩ [(!r267_1.2) = false] (by kernel_rfl) ⟨b268_e0, trivial⟩ ?_
            rcases iteS h with ⟨b270_e0, h⟩ | ⟨b270_e0, h⟩
            · refine At.step hm ht ⟨[], [true], [], [2], [0]⟩ 12 ⟨[(2, .one (.c (.ptr 0 0)))], [], [(0, [.d (.int .u16 0), .d (.int .u16 0), .d (.int .u32 0), .d (.int .u32 0), .d (.int .u8 0), .d (.sl .unit []), .d (.sl .unit [])])], 1⟩ [(decide (((IntKind.wrap .i64 (((r258_0.2.1.length : Nat) : Int) - (IntKind.wrap .i64 (r258_0.1.getD 5 0)))) : Int) > 1024)) = true] (by kernel_rfl) ⟨b270_e0, trivial⟩ ?_
              have h := Option.some.inj h
              subst h
              exact At.fin hm ht ⟨[], [], [.nil true 0 5 (.pair (.int .u8) (.slice (.int .u8))) (some 30), .nil true 0 6 (.int .u8) (some 5)], [2, 3], [0, 4, 5]⟩ [0 + 7 ≤ 7] (by kernel_rfl) ⟨(by decide), trivial⟩
            · refine At.step hm ht ⟨[], [false], [], [2, 5, 7, 8, 9], [0, 1, 2, 3]⟩ 13 ⟨[(2, .one (.c (.ptr 0 0))), (5, .one (.c (.own 1 (.int .u8) r258_0.2.1))), (7, .one (.c (.ptr 2 0))), (8, .one (.c (.d (.int .i64 (IntKind.wrap .i64 (r258_0.1.getD 5 0)))))), (9, .one (.c (.own 3 (.pair (.int .u8) (.slice (.int .u8))) r267_1.1)))], [(1, some ⟨5, 0⟩), (3, some ⟨30, 0⟩)], [(0, [.d (.int .u16 0), .d (.int .u16 0), .d (.int .u32 0), .d (.int .u32 0), .d (.int .u8 0), .d (.sl .unit []), .d (.sl .unit [])]), (2, [.d (.int .u16 (IntKind.wrap .u16 (r258_0.1.getD 0 0))), .d (.int .u16 (IntKind.wrap .u16 (r258_0.1.getD 1 0))), .d (.int .u32 (IntKind.wrap .u32 (r258_0.1.getD 2 0))), .d (.int .u32 (IntKind.wrap .u32 (r258_0.1.getD 3 0))), .d (.int .u8 (IntKind.wrap .u8 (r258_0.1.getD 4 0))), .d (.sl .unit []), .d (.sl .unit [])])], 4⟩ [(decide (((IntKind.wrap .i64 (((r258_0.2.1.length : Nat) : Int) - (IntKind.wrap .i64 (r258_0.1.getD 5 0)))) : Int) > 1024)) = false] (by kernel_rfl) ⟨b270_e0, trivial⟩ ?_
              obtain ⟨g272_0, h⟩ := ifS h
              obtain ⟨g272_1, h⟩ := ifS h
              refine At.step hm ht ⟨[], [], [], [2, 7], [0, 2, 3, 8]⟩ 14 ⟨[(2, .one (.c (.ptr 0 0))), (7, .one (.c (.ptr 1 0)))], [(2, some ⟨30, 0⟩), (3, some ⟨5, 0⟩)], [(0, [.d (.int .u16 0), .d (.int .u16 0), .d (.int .u32 0), .d (.int .u32 0), .d (.int .u8 0), .d (.sl .unit []), .d (.sl .unit [])]), (1, [.d (.int .u16 (IntKind.wrap .u16 (r258_0.1.getD 0 0))), .d (.int .u16 (IntKind.wrap .u16 (r258_0.1.getD 1 0))), .d (.int .u32 (IntKind.wrap .u32 (r258_0.1.getD 2 0))), .d (.int .u32 (IntKind.wrap .u32 (r258_0.1.getD 3 0))), .d (.int .u8 (IntKind.wrap .u8 (r258_0.1.getD 4 0))), .own 2 (.pair (.int .u8) (.slice (.int .u8))) r267_1.1, .own 3 (.int .u8) ((r258_0.2.1.take r258_0.2.1.length).drop (IntKind.wrap .i64 (r258_0.1.getD 5 0)).toNat)])], 4⟩ [cutOk r258_0.2.1.length (some (IntKind.wrap .i64 (r258_0.1.getD 5 0))) none none, ((r258_0.2.1.take r258_0.2.1.length).drop (IntKind.wrap .i64 (r258_0.1.getD 5 0)).toNat).length ≤ maxLen ∧ ((r258_0.2.1.take r258_0.2.1.length).drop (IntKind.wrap .i64 (r258_0.1.getD 5 0)).toNat).length * 1 ≤ 140737488355328, 5 + 1 ≤ 7, 6 + 1 ≤ 7] (by kernel_rfl) ⟨g272_0, g272_1, (by decide), (by decide), trivial⟩ ?_
              have h := Option.some.inj h
              subst h
              exact At.fin hm ht ⟨[], [], [], [2, 3], [0, 2, 3]⟩ [0 + 7 ≤ 7] (by kernel_rfl) ⟨(by decide), trivial⟩
/-! brougham/seg.Right -/
def f42_seg_Right_in (s_0 : Int) (s_1 : Int) (s_2 : Int) (s_3 : Int) (s_4 : Int) (s_5 : List (Int × List Int)) (s_6 : List Int) : Inn := ⟨[.agg [.d (.int .u16 s_0), .d (.int .u16 s_1), .d (.int .u32 s_2), .d (.int .u32 s_3), .d (.int .u8 s_4), .d (.sl (.pair (.int .u8) (.slice (.int .u8))) s_5), .d (.sl (.int .u8) s_6)]], [], [], 0⟩
def f42_seg_Right_out (r : Int) : Out := ⟨.one (.c (.d (.int .i64 r))), [], [], 0⟩
def f42_seg_Right_L5 : Nat → Int → (List (Int × List Int)) → Int → Int → Int → Int → Int → Int → Int → (List (Int × List Int)) → (List Int) → Option ((Int) ⊕ (Int × Int × Int × Int × Int × (List (Int × List Int)) × List Int))
  | 0, _, _, _, _, _, _, _, _, _, _, _ => none
  | n + 1, n_, t10, t11, t12, s_0, s_1, s_2, s_3, s_4, s_5, s_6 =>
    if (decide ((t12 : Int) < t11)) = true then
      if (0 : Int) ≤ t12 ∧ t12 < (((t10).length : Nat) : Int) then
      if ((((t10.getD t12.toNat (0, [])).1) : Int) == 0) = true then
        some (.inl 71)
      else
        if (decide ((((((t10.getD t12.toNat (0, [])).2).length : Nat) : Int) : Int) > 255)) = true then
          some (.inl 71)
        else
          if (decide (((IntKind.wrap .i64 (n_ + (IntKind.wrap .i64 (2 + ((((t10.getD t12.toNat (0, [])).2).length : Nat) : Int))))) : Int) > 200)) = true then
            some (.inl 71)
          else
            f42_seg_Right_L5 n (IntKind.wrap .i64 (n_ + (IntKind.wrap .i64 (2 + ((((t10.getD t12.toNat (0, [])).2).length : Nat) : Int))))) t10 t11 (IntKind.wrap .i64 (t12 + 1)) s_0 s_1 s_2 s_3 s_4 s_5 s_6
      else none
    else
      some (.inr ((s_0, s_1, s_2, s_3, s_4, s_5, s_6)))
def f42_seg_Right_L5_k (w : (Int) ⊕ (Int × Int × Int × Int × Int × (List (Int × List Int)) × List Int)) (o : Out) : Prop := match w with
  | .inl e => o = f42_seg_Right_out e
  | .inr e => At Go.Proofs.Try.prog Go.Proofs.Try.f42 0 13 ⟨[(1, .one (.c (.ptr 0 0)))], [], [(0, [.d (.int .u16 e.1), .d (.int .u16 e.2.1), .d (.int .u32 e.2.2.1), .d (.int .u32 e.2.2.2.1), .d (.int .u8 e.2.2.2.2.1), .d (.sl (.pair (.int .u8) (.slice (.int .u8))) e.2.2.2.2.2.1), .d (.sl (.int .u8) e.2.2.2.2.2.2)])], 1⟩ o
theorem f42_seg_Right_L5_ok (n : Nat) : ∀ (n_ : Int) (t10 : List (Int × List Int)) (t11 : Int) (t12 : Int) (s_0 : Int) (s_1 : Int) (s_2 : Int) (s_3 : Int) (s_4 : Int) (s_5 : List (Int × List Int)) (s_6 : List Int) (w : (Int) ⊕ (Int × Int × Int × Int × Int × (List (Int × List Int)) × List Int)) (h : f42_seg_Right_L5 n n_ t10 t11 t12 s_0 s_1 s_2 s_3 s_4 s_5 s_6 = some w) (o : Out) (hk : f42_seg_Right_L5_k w o), At Go.Proofs.Try.prog Go.Proofs.Try.f42 0 5 ⟨[(1, .one (.c (.ptr 0 0))), (3, .one (.c (.d (.int .i64 n_)))), (10, .one (.c (.d (.sl (.pair (.int .u8) (.slice (.int .u8))) t10)))), (11, .one (.c (.d (.int .i64 t11)))), (12, .one (.c (.d (.int .i64 t12))))], [], [(0, [.d (.int .u16 s_0), .d (.int .u16 s_1), .d (.int .u32 s_2), .d (.int .u32 s_3), .d (.int .u8 s_4), .d (.sl (.pair (.int .u8) (.slice (.int .u8))) s_5), .d (.sl (.int .u8) s_6)])], 1⟩ o := by
  induction n with
  | zero => intro n_ t10 t11 t12 s_0 s_1 s_2 s_3 s_4 s_5 s_6 w h; rw [f42_seg_Right_L5] at h; cases h
  | succ n ih =>
    intro n_ t10 t11 t12 s_0 s_1 s_2 s_3 s_4 s_5 s_6 w h o hk
    rw [f42_seg_Right_L5] at h
    rcases iteS h with ⟨b282_e0, h⟩ | ⟨b282_e0, h⟩
    · refine At.step hm ht ⟨[], [true], [], [1, 3, 10, 11, 12], [0]⟩ 6 ⟨[(1, .one (.c (.ptr 0 0))), (3, .one (.c (.d (.int .i64 n_)))), (10, .one (.c (.d (.sl (.pair (.int .u8) (.slice (.int .u8))) t10)))), (11, .one (.c (.d (.int .i64 t11)))), (12, .one (.c (.d (.int .i64 t12))))], [], [(0, [.d (.int .u16 s_0), .d (.int .u16 s_1), .d (.int .u32 s_2), .d (.int .u32 s_3), .d (.int .u8 s_4), .d (.sl (.pair (.int .u8) (.slice (.int .u8))) s_5), .d (.sl (.int .u8) s_6)])], 1⟩ [(decide ((t12 : Int) < t11)) = true] (by kernel_rfl) ⟨b282_e0, trivial⟩ ?_
      obtain ⟨g283_0, h⟩ := ifS h
      refine At.step hm ht ⟨[], [], [], [1, 3, 5, 10, 11, 12], [0, 3]⟩ 7 ⟨[(1, .one (.c (.ptr 0 0))), (3, .one (.c (.d (.int .i64 n_)))), (5, .one (.c (.ptr 1 0))), (10, .one (.c (.d (.sl (.pair (.int .u8) (.slice (.int .u8))) t10)))), (11, .one (.c (.d (.int .i64 t11)))), (12, .one (.c (.d (.int .i64 t12))))], [], [(0, [.d (.int .u16 s_0), .d (.int .u16 s_1), .d (.int .u32 s_2), .d (.int .u32 s_3), .d (.int .u8 s_4), .d (.sl (.pair (.int .u8) (.slice (.int .u8))) s_5), .d (.sl (.int .u8) s_6)]), (1, [.d (.int .u8 ((t10.getD t12.toNat (0, [])).1)), .d (.sl (.int .u8) ((t10.getD t12.toNat (0, [])).2))])], 2⟩ [(0 : Int) ≤ t12 ∧ t12 < (((t10).length : Nat) : Int), 0 + 2 ≤ 2] (by kernel_rfl) ⟨g283_0, (by decide), trivial⟩ ?_
      rcases iteS h with ⟨b284_3, h⟩ | ⟨b284_3, h⟩
      · refine At.step hm ht ⟨[(3, .b true)], [true], [], [], []⟩ 8 ⟨[], [], [], 0⟩ [((((t10.getD t12.toNat (0, [])).1) : Int) == 0) = true, true = true] (by kernel_rfl) ⟨b284_3, rfl, trivial⟩ ?_
        have h := Option.some.inj h
        subst h
        have hk : o = f42_seg_Right_out 71 := hk
        subst hk
        exact At.fin hm ht ⟨[], [], [], [2], []⟩ [] (by kernel_rfl) trivial
      · rcases iteS h with ⟨b284_e0, h⟩ | ⟨b284_e0, h⟩
        · refine At.step hm ht ⟨[(3, .b false)], [true], [], [], []⟩ 8 ⟨[], [], [], 0⟩ [((((t10.getD t12.toNat (0, [])).1) : Int) == 0) = false, (decide ((((((t10.getD t12.toNat (0, [])).2).length : Nat) : Int) : Int) > 255)) = true] (by kernel_rfl) ⟨b284_3, b284_e0, trivial⟩ ?_
          have h := Option.some.inj h
          subst h
          have hk : o = f42_seg_Right_out 71 := hk
          subst hk
          exact At.fin hm ht ⟨[], [], [], [2], []⟩ [] (by kernel_rfl) trivial
        · refine At.step hm ht ⟨[(3, .b false)], [false], [], [1, 3, 5, 10, 11, 12], [0, 1]⟩ 9 ⟨[(1, .one (.c (.ptr 0 0))), (3, .one (.c (.d (.int .i64 n_)))), (5, .one (.c (.ptr 1 0))), (10, .one (.c (.d (.sl (.pair (.int .u8) (.slice (.int .u8))) t10)))), (11, .one (.c (.d (.int .i64 t11)))), (12, .one (.c (.d (.int .i64 t12))))], [], [(0, [.d (.int .u16 s_0), .d (.int .u16 s_1), .d (.int .u32 s_2), .d (.int .u32 s_3), .d (.int .u8 s_4), .d (.sl (.pair (.int .u8) (.slice (.int .u8))) s_5), .d (.sl (.int .u8) s_6)]), (1, [.d (.int .u8 ((t10.getD t12.toNat (0, [])).1)), .d (.sl (.int .u8) ((t10.getD t12.toNat (0, [])).2))])], 2⟩ [((((t10.getD t12.toNat (0, [])).1) : Int) == 0) = false, (decide ((((((t10.getD t12.toNat (0, [])).2).length : Nat) : Int) : Int) > 255)) = false] (by kernel_rfl) ⟨b284_3, b284_e0, trivial⟩ ?_
          refine At.step hm ht ⟨[], [], [], [1, 3, 10, 11, 12], [0]⟩ 10 ⟨[(1, .one (.c (.ptr 0 0))), (3, .one (.c (.d (.int .i64 (IntKind.wrap .i64 (n_ + (IntKind.wrap .i64 (2 + ((((t10.getD t12.toNat (0, [])).2).length : Nat) : Int))))))))), (10, .one (.c (.d (.sl (.pair (.int .u8) (.slice (.int .u8))) t10)))), (11, .one (.c (.d (.int .i64 t11)))), (12, .one (.c (.d (.int .i64 t12))))], [], [(0, [.d (.int .u16 s_0), .d (.int .u16 s_1), .d (.int .u32 s_2), .d (.int .u32 s_3), .d (.int .u8 s_4), .d (.sl (.pair (.int .u8) (.slice (.int .u8))) s_5), .d (.sl (.int .u8) s_6)])], 1⟩ [] (by kernel_rfl) trivial ?_
          rcases iteS h with ⟨b288_e0, h⟩ | ⟨b288_e0, h⟩
          · refine At.step hm ht ⟨[], [true], [], [], []⟩ 11 ⟨[], [], [], 0⟩ [(decide (((IntKind.wrap .i64 (n_ + (IntKind.wrap .i64 (2 + ((((t10.getD t12.toNat (0, [])).2).length : Nat) : Int))))) : Int) > 200)) = true] (by kernel_rfl) ⟨b288_e0, trivial⟩ ?_
            have h := Option.some.inj h
            subst h
            have hk : o = f42_seg_Right_out 71 := hk
            subst hk
            exact At.fin hm ht ⟨[], [], [], [2], []⟩ [] (by kernel_rfl) trivial
          · refine At.step hm ht ⟨[], [false], [], [1, 3, 10, 11, 12], [0]⟩ 12 ⟨[(1, .one (.c (.ptr 0 0))), (3, .one (.c (.d (.int .i64 (IntKind.wrap .i64 (n_ + (IntKind.wrap .i64 (2 + ((((t10.getD t12.toNat (0, [])).2).length : Nat) : Int))))))))), (10, .one (.c (.d (.sl (.pair (.int .u8) (.slice (.int .u8))) t10)))), (11, .one (.c (.d (.int .i64 t11)))), (12, .one (.c (.d (.int .i64 t12))))], [], [(0, [.d (.int .u16 s_0), .d (.int .u16 s_1), .d (.int .u32 s_2), .d (.int .u32 s_3), .d (.int .u8 s_4), .d (.sl (.pair (.int .u8) (.slice (.int .u8))) s_5), .d (.sl (.int .u8) s_6)])], 1⟩ [(decide (((IntKind.wrap .i64 (n_ + (IntKind.wrap .i64 (2 + ((((t10.getD t12.toNat (0, [])).2).length : Nat) : Int))))) : Int) > 200)) = false] (by kernel_rfl) ⟨b288_e0, trivial⟩ ?_
            refine At.step hm ht ⟨[], [], [], [1, 3, 10, 11, 12], [0]⟩ 5 ⟨[(1, .one (.c (.ptr 0 0))), (3, .one (.c (.d (.int .i64 (IntKind.wrap .i64 (n_ + (IntKind.wrap .i64 (2 + ((((t10.getD t12.toNat (0, [])).2).length : Nat) : Int))))))))), (10, .one (.c (.d (.sl (.pair (.int .u8) (.slice (.int .u8))) t10)))), (11, .one (.c (.d (.int .i64 t11)))), (12, .one (.c (.d (.int .i64 (IntKind.wrap .i64 (t12 + 1))))))], [], [(0, [.d (.int .u16 s_0), .d (.int .u16 s_1), .d (.int .u32 s_2), .d (.int .u32 s_3), .d (.int .u8 s_4), .d (.sl (.pair (.int .u8) (.slice (.int .u8))) s_5), .d (.sl (.int .u8) s_6)])], 1⟩ [] (by kernel_rfl) trivial ?_
            exact ih (IntKind.wrap .i64 (n_ + (IntKind.wrap .i64 (2 + ((((t10.getD t12.toNat (0, [])).2).length : Nat) : Int))))) t10 t11 (IntKind.wrap .i64 (t12 + 1)) s_0 s_1 s_2 s_3 s_4 s_5 s_6 w h o hk
    · refine At.step hm ht ⟨[], [false], [], [1], [0]⟩ 13 ⟨[(1, .one (.c (.ptr 0 0)))], [], [(0, [.d (.int .u16 s_0), .d (.int .u16 s_1), .d (.int .u32 s_2), .d (.int .u32 s_3), .d (.int .u8 s_4), .d (.sl (.pair (.int .u8) (.slice (.int .u8))) s_5), .d (.sl (.int .u8) s_6)])], 1⟩ [(decide ((t12 : Int) < t11)) = false] (by kernel_rfl) ⟨b282_e0, trivial⟩ ?_
      have h := Option.some.inj h
      subst h
      exact hk
def f42_seg_Right (n : Nat) (s_0 : Int) (s_1 : Int) (s_2 : Int) (s_3 : Int) (s_4 : Int) (s_5 : List (Int × List Int)) (s_6 : List Int) : Option (Int) :=
  if (decide ((s_4 : Int) > 7)) = true then
    some 70
  else
    (f42_seg_Right_L5 n 0 s_5 ((s_5.length : Nat) : Int) 0 s_0 s_1 s_2 s_3 s_4 s_5 s_6).bind fun w291 =>
    match w291 with
    | .inl e292 =>
      some e292
    | .inr e293 =>
      if (decide ((((e293.2.2.2.2.2.2.length : Nat) : Int) : Int) > 1024)) = true then
        some 72
      else
        some 0
theorem f42_seg_Right_ok (n : Nat) (s_0 : Int) (s_1 : Int) (s_2 : Int) (s_3 : Int) (s_4 : Int) (s_5 : List (Int × List Int)) (s_6 : List Int) (r : Int) (h : f42_seg_Right n s_0 s_1 s_2 s_3 s_4 s_5 s_6 = some r) : FnOK Go.Proofs.Try.prog 42 (f42_seg_Right_in s_0 s_1 s_2 s_3 s_4 s_5 s_6) (f42_seg_Right_out r) := by
  unfold f42_seg_Right at h
  refine At.fn (r := 0) Go.Proofs.Try.func42 rfl (by kernel_rfl) rfl rfl (by kernel_rfl) ?_
  show At Go.Proofs.Try.prog Go.Proofs.Try.f42 0 0 ⟨[(0, .one (.agg [.d (.int .u16 s_0), .d (.int .u16 s_1), .d (.int .u32 s_2), .d (.int .u32 s_3), .d (.int .u8 s_4), .d (.sl (.pair (.int .u8) (.slice (.int .u8))) s_5), .d (.sl (.int .u8) s_6)]))], [], [], 0⟩ _
  refine At.step hm ht ⟨[], [], [], [1], [0]⟩ 1 ⟨[(1, .one (.c (.ptr 0 0)))], [], [(0, [.d (.int .u16 s_0), .d (.int .u16 s_1), .d (.int .u32 s_2), .d (.int .u32 s_3), .d (.int .u8 s_4), .d (.sl (.pair (.int .u8) (.slice (.int .u8))) s_5), .d (.sl (.int .u8) s_6)])], 1⟩ [] (by kernel_rfl) trivial ?_
  rcases iteS h with ⟨b278_e0, h⟩ | ⟨b278_e0, h⟩
  · refine At.step hm ht ⟨[], [true], [], [], []⟩ 2 ⟨[], [], [], 0⟩ [(decide ((s_4 : Int) > 7)) = true] (by kernel_rfl) ⟨b278_e0, trivial⟩ ?_
    have h := Option.some.inj h
    subst h
    exact At.fin hm ht ⟨[], [], [], [2], []⟩ [] (by kernel_rfl) trivial
  · refine At.step hm ht ⟨[], [false], [], [1], [0]⟩ 3 ⟨[(1, .one (.c (.ptr 0 0)))], [], [(0, [.d (.int .u16 s_0), .d (.int .u16 s_1), .d (.int .u32 s_2), .d (.int .u32 s_3), .d (.int .u8 s_4), .d (.sl (.pair (.int .u8) (.slice (.int .u8))) s_5), .d (.sl (.int .u8) s_6)])], 1⟩ [(decide ((s_4 : Int) > 7)) = false] (by kernel_rfl) ⟨b278_e0, trivial⟩ ?_
    refine At.step hm ht ⟨[], [], [], [1, 3], [0]⟩ 4 ⟨[(1, .one (.c (.ptr 0 0))), (3, .one (.c (.d (.int .i64 0))))], [], [(0, [.d (.int .u16 s_0), .d (.int .u16 s_1), .d (.int .u32 s_2), .d (.int .u32 s_3), .d (.int .u8 s_4), .d (.sl (.pair (.int .u8) (.slice (.int .u8))) s_5), .d (.sl (.int .u8) s_6)])], 1⟩ [] (by kernel_rfl) trivial ?_
    refine At.step hm ht ⟨[], [], [], [1, 3, 10, 11, 12], [0]⟩ 5 ⟨[(1, .one (.c (.ptr 0 0))), (3, .one (.c (.d (.int .i64 0)))), (10, .one (.c (.d (.sl (.pair (.int .u8) (.slice (.int .u8))) s_5)))), (11, .one (.c (.d (.int .i64 ((s_5.length : Nat) : Int))))), (12, .one (.c (.d (.int .i64 0))))], [], [(0, [.d (.int .u16 s_0), .d (.int .u16 s_1), .d (.int .u32 s_2), .d (.int .u32 s_3), .d (.int .u8 s_4), .d (.sl (.pair (.int .u8) (.slice (.int .u8))) s_5), .d (.sl (.int .u8) s_6)])], 1⟩ [] (by kernel_rfl) trivial ?_
    obtain ⟨w291, cw291, h⟩ := bindS h
    refine f42_seg_Right_L5_ok n 0 s_5 ((s_5.length : Nat) : Int) 0 s_0 s_1 s_2 s_3 s_4 s_5 s_6 w291 cw291 _ ?_
    rcases w291 with e292 | e293
    · have h := Option.some.inj h
      subst h
      rfl
    · show At Go.Proofs.Try.prog Go.Proofs.Try.f42 0 13 ⟨[(1, .one (.c (.ptr 0 0)))], [], [(0, [.d (.int .u16 e293.1), .d (.int .u16 e293.2.1), .d (.int .u32 e293.2.2.1), .d (.int .u32 e293.2.2.2.1), .d (.int .u8 e293.2.2.2.2.1), .d (.sl (.pair (.int .u8) (.slice (.int .u8))) e293.2.2.2.2.2.1), .d (.sl (.int .u8) e293.2.2.2.2.2.2)])], 1⟩ _
      rcases iteS h with ⟨b294_e0, h⟩ | ⟨b294_e0, h⟩
      · refine At.step hm ht ⟨[], [true], [], [], []⟩ 14 ⟨[], [], [], 0⟩ [(decide ((((e293.2.2.2.2.2.2.length : Nat) : Int) : Int) > 1024)) = true] (by kernel_rfl) ⟨b294_e0, trivial⟩ ?_
        have h := Option.some.inj h
        subst h
        exact At.fin hm ht ⟨[], [], [], [2], []⟩ [] (by kernel_rfl) trivial
      · refine At.step hm ht ⟨[], [false], [], [], []⟩ 15 ⟨[], [], [], 0⟩ [(decide ((((e293.2.2.2.2.2.2.length : Nat) : Int) : Int) > 1024)) = false] (by kernel_rfl) ⟨b294_e0, trivial⟩ ?_
        have h := Option.some.inj h
        subst h
        exact At.fin hm ht ⟨[], [], [], [2], []⟩ [] (by kernel_rfl) trivial
/-! brougham/pack.H -/
def f85_pack_H_in (n_ : Int) : Inn := ⟨[.c (.d (.int .u16 n_))], [], [], 0⟩
def f85_pack_H_out (r : Int × Int) : Out := ⟨.one (.agg [.d (.int .i64 r.1), .d (.int .u64 r.2)]), [], [(0, [.d (.int .i64 r.1), .d (.int .u64 r.2)])], 1⟩
def f85_pack_H (n_ : Int) : Option (Int × Int) :=
  some (2, (IntKind.wrap .u64 n_))
theorem f85_pack_H_ok (n_ : Int) (r : Int × Int) (h : f85_pack_H n_ = some r) : FnOK Go.Proofs.Try.prog 85 (f85_pack_H_in n_) (f85_pack_H_out r) := by
  unfold f85_pack_H at h
  refine At.fn (r := 0) Go.Proofs.Try.func85 rfl (by kernel_rfl) rfl rfl (by kernel_rfl) ?_
  show At Go.Proofs.Try.prog Go.Proofs.Try.f85 0 0 ⟨[(0, .one (.c (.d (.int .u16 n_))))], [], [], 0⟩ _
  refine At.step hm ht ⟨[], [], [], [0, 2], [0]⟩ 1 ⟨[(0, .one (.c (.d (.int .u16 n_)))), (2, .one (.c (.ptr 0 0)))], [], [(0, [.d (.int .i64 0), .d (.int .u64 0)])], 1⟩ [] (by kernel_rfl) trivial ?_
  have h := Option.some.inj h
  subst h
  exact At.fin hm ht ⟨[], [], [], [2], [0]⟩ [0 + 2 ≤ 2] (by kernel_rfl) ⟨(by decide), trivial⟩
/-! brougham/pack.W -/
def f76_pack_W_in (n_ : Int) : Inn := ⟨[.c (.d (.int .u32 n_))], [], [], 0⟩
def f76_pack_W_out (r : Int × Int) : Out := ⟨.one (.agg [.d (.int .i64 r.1), .d (.int .u64 r.2)]), [], [(0, [.d (.int .i64 r.1), .d (.int .u64 r.2)])], 1⟩
def f76_pack_W (n_ : Int) : Option (Int × Int) :=
  some (4, (IntKind.wrap .u64 n_))
theorem f76_pack_W_ok (n_ : Int) (r : Int × Int) (h : f76_pack_W n_ = some r) : FnOK Go.Proofs.Try.prog 76 (f76_pack_W_in n_) (f76_pack_W_out r) := by
  unfold f76_pack_W at h
  refine At.fn (r := 0) Go.Proofs.Try.func76 rfl (by kernel_rfl) rfl rfl (by kernel_rfl) ?_
  show At Go.Proofs.Try.prog Go.Proofs.Try.f76 0 0 ⟨[(0, .one (.c (.d (.int .u32 n_))))], [], [], 0⟩ _
  refine At.step hm ht ⟨[], [], [], [0, 2], [0]⟩ 1 ⟨[(0, .one (.c (.d (.int .u32 n_)))), (2, .one (.c (.ptr 0 0)))], [], [(0, [.d (.int .i64 0), .d (.int .u64 0)])], 1⟩ [] (by kernel_rfl) trivial ?_
  have h := Option.some.inj h
  subst h
  exact At.fin hm ht ⟨[], [], [], [2], [0]⟩ [0 + 2 ≤ 2] (by kernel_rfl) ⟨(by decide), trivial⟩
/-! brougham/pack.B -/
def f77_pack_B_in (n_ : Int) : Inn := ⟨[.c (.d (.int .u8 n_))], [], [], 0⟩
def f77_pack_B_out (r : Int × Int) : Out := ⟨.one (.agg [.d (.int .i64 r.1), .d (.int .u64 r.2)]), [], [(0, [.d (.int .i64 r.1), .d (.int .u64 r.2)])], 1⟩
def f77_pack_B (n_ : Int) : Option (Int × Int) :=
  some (1, (IntKind.wrap .u64 n_))
theorem f77_pack_B_ok (n_ : Int) (r : Int × Int) (h : f77_pack_B n_ = some r) : FnOK Go.Proofs.Try.prog 77 (f77_pack_B_in n_) (f77_pack_B_out r) := by
  unfold f77_pack_B at h
  refine At.fn (r := 0) Go.Proofs.Try.func77 rfl (by kernel_rfl) rfl rfl (by kernel_rfl) ?_
  show At Go.Proofs.Try.prog Go.Proofs.Try.f77 0 0 ⟨[(0, .one (.c (.d (.int .u8 n_))))], [], [], 0⟩ _
  refine At.step hm ht ⟨[], [], [], [0, 2], [0]⟩ 1 ⟨[(0, .one (.c (.d (.int .u8 n_)))), (2, .one (.c (.ptr 0 0)))], [], [(0, [.d (.int .i64 0), .d (.int .u64 0)])], 1⟩ [] (by kernel_rfl) trivial ?_
  have h := Option.some.inj h
  subst h
  exact At.fin hm ht ⟨[], [], [], [2], [0]⟩ [0 + 2 ≤ 2] (by kernel_rfl) ⟨(by decide), trivial⟩
/-! brougham/pack.Put -/
def f73_pack_Put_in (b : List Int) (l : List (Int × Int)) : Inn := ⟨[.c (.d (.sl (.int .u8) b)), .c (.d (.sl (.pair (.int .i64) (.int .u64)) l))], [], [], 0⟩
def f73_pack_Put_out (r : List Int) : Out := ⟨.one (.c (.own 0 (.int .u8) r)), [(0, ⟨5, 0⟩)], [], 1⟩
def f73_pack_Put_L7 : Nat → (List Int) → Int → (List (Int × Int)) → Int → Int → Int → Int → Option (List Int × (List (Int × Int)) × Int × Int)
  | 0, _, _, _, _, _, _, _ => none
  | n + 1, out, i, t11, t12, t13, f_0, f_1 =>
    if (decide ((i : Int) ≥ 0)) = true then
      if (0 : Int) ≤ (IntKind.wrap .i64 (8 * i)) then
      if out.length + [(IntKind.wrap .u8 (Int.fdiv f_1 (2 ^ (min (IntKind.wrap .i64 (8 * i)).toNat (IntKind.bits .u64)))))].length ≤ maxLen ∧ (out.length + [(IntKind.wrap .u8 (Int.fdiv f_1 (2 ^ (min (IntKind.wrap .i64 (8 * i)).toNat (IntKind.bits .u64)))))].length) * 1 ≤ 140737488355328 then
      f73_pack_Put_L7 n (out ++ [(IntKind.wrap .u8 (Int.fdiv f_1 (2 ^ (min (IntKind.wrap .i64 (8 * i)).toNat (IntKind.bits .u64)))))]) (IntKind.wrap .i64 (i - 1)) t11 t12 t13 f_0 f_1
      else none
      else none
    else
      some ((out, t11, t12, t13))
def f73_pack_Put_L7_k (e : List Int × (List (Int × Int)) × Int × Int) (o : Out) : Prop := At Go.Proofs.Try.prog Go.Proofs.Try.f73 0 10 ⟨[(5, .one (.c (.own 0 (.int .u8) e.1))), (11, .one (.c (.d (.sl (.pair (.int .i64) (.int .u64)) e.2.1)))), (12, .one (.c (.d (.int .i64 e.2.2.1)))), (13, .one (.c (.d (.int .i64 e.2.2.2))))], [(0, some ⟨5, 0⟩)], [], 1⟩ o
theorem f73_pack_Put_L7_ok (n : Nat) : ∀ (out : List Int) (i : Int) (t11 : List (Int × Int)) (t12 : Int) (t13 : Int) (f_0 : Int) (f_1 : Int) (w : List Int × (List (Int × Int)) × Int × Int) (h : f73_pack_Put_L7 n out i t11 t12 t13 f_0 f_1 = some w) (o : Out) (hk : f73_pack_Put_L7_k w o), At Go.Proofs.Try.prog Go.Proofs.Try.f73 0 7 ⟨[(5, .one (.c (.own 0 (.int .u8) out))), (7, .one (.c (.ptr 1 0))), (8, .one (.c (.d (.int .i64 i)))), (11, .one (.c (.d (.sl (.pair (.int .i64) (.int .u64)) t11)))), (12, .one (.c (.d (.int .i64 t12)))), (13, .one (.c (.d (.int .i64 t13))))], [(0, some ⟨5, 0⟩)], [(1, [.d (.int .i64 f_0), .d (.int .u64 f_1)])], 2⟩ o := by
  induction n with
  | zero => intro out i t11 t12 t13 f_0 f_1 w h; rw [f73_pack_Put_L7] at h; cases h
  | succ n ih =>
    intro out i t11 t12 t13 f_0 f_1 w h o hk
    rw [f73_pack_Put_L7] at h
    rcases iteS h with ⟨b337_e0, h⟩ | ⟨b337_e0, h⟩
    · refine At.step hm ht ⟨[], [true], [], [5, 7, 8, 11, 12, 13], [0, 1]⟩ 9 ⟨[(5, .one (.c (.own 0 (.int .u8) out))), (7, .one (.c (.ptr 1 0))), (8, .one (.c (.d (.int .i64 i)))), (11, .one (.c (.d (.sl (.pair (.int .i64) (.int .u64)) t11)))), (12, .one (.c (.d (.int .i64 t12)))), (13, .one (.c (.d (.int .i64 t13))))], [(0, some ⟨5, 0⟩)], [(1, [.d (.int .i64 f_0), .d (.int .u64 f_1)])], 2⟩ [(decide ((i : Int) ≥ 0)) = true] (by kernel_rfl) ⟨b337_e0, trivial⟩ ?_
      obtain ⟨g338_0, h⟩ := ifS h
      obtain ⟨g338_1, h⟩ := ifS h
      refine At.step hm ht ⟨[], [], [], [5, 7, 8, 11, 12, 13], [10, 1]⟩ 8 ⟨[(5, .one (.c (.own 0 (.int .u8) (out ++ [(IntKind.wrap .u8 (Int.fdiv f_1 (2 ^ (min (IntKind.wrap .i64 (8 * i)).toNat (IntKind.bits .u64)))))])))), (7, .one (.c (.ptr 1 0))), (8, .one (.c (.d (.int .i64 i)))), (11, .one (.c (.d (.sl (.pair (.int .i64) (.int .u64)) t11)))), (12, .one (.c (.d (.int .i64 t12)))), (13, .one (.c (.d (.int .i64 t13))))], [(0, some ⟨5, 0⟩)], [(1, [.d (.int .i64 f_0), .d (.int .u64 f_1)])], 2⟩ [(0 : Int) ≤ (IntKind.wrap .i64 (8 * i)), out.length + [(IntKind.wrap .u8 (Int.fdiv f_1 (2 ^ (min (IntKind.wrap .i64 (8 * i)).toNat (IntKind.bits .u64)))))].length ≤ maxLen ∧ (out.length + [(IntKind.wrap .u8 (Int.fdiv f_1 (2 ^ (min (IntKind.wrap .i64 (8 * i)).toNat (IntKind.bits .u64)))))].length) * 1 ≤ 140737488355328] (by kernel_rfl) ⟨g338_0, g338_1, trivial⟩ ?_
      refine At.step hm ht ⟨[], [], [], [5, 7, 8, 11, 12, 13], [0, 1]⟩ 7 ⟨[(5, .one (.c (.own 0 (.int .u8) (out ++ [(IntKind.wrap .u8 (Int.fdiv f_1 (2 ^ (min (IntKind.wrap .i64 (8 * i)).toNat (IntKind.bits .u64)))))])))), (7, .one (.c (.ptr 1 0))), (8, .one (.c (.d (.int .i64 (IntKind.wrap .i64 (i - 1)))))), (11, .one (.c (.d (.sl (.pair (.int .i64) (.int .u64)) t11)))), (12, .one (.c (.d (.int .i64 t12)))), (13, .one (.c (.d (.int .i64 t13))))], [(0, some ⟨5, 0⟩)], [(1, [.d (.int .i64 f_0), .d (.int .u64 f_1)])], 2⟩ [] (by kernel_rfl) trivial ?_
      exact ih (out ++ [(IntKind.wrap .u8 (Int.fdiv f_1 (2 ^ (min (IntKind.wrap .i64 (8 * i)).toNat (IntKind.bits .u64)))))]) (IntKind.wrap .i64 (i - 1)) t11 t12 t13 f_0 f_1 w h o hk
    · refine At.step hm ht ⟨[], [false], [], [5, 11, 12, 13], [0]⟩ 10 ⟨[(5, .one (.c (.own 0 (.int .u8) out))), (11, .one (.c (.d (.sl (.pair (.int .i64) (.int .u64)) t11)))), (12, .one (.c (.d (.int .i64 t12)))), (13, .one (.c (.d (.int .i64 t13))))], [(0, some ⟨5, 0⟩)], [], 1⟩ [(decide ((i : Int) ≥ 0)) = false] (by kernel_rfl) ⟨b337_e0, trivial⟩ ?_
      have h := Option.some.inj h
      subst h
      exact hk
def f73_pack_Put_L3 : Nat → (List Int) → (List (Int × Int)) → Int → Int → Option (List Int)
  | 0, _, _, _, _ => none
  | n + 1, out, t11, t12, t13 =>
    if (decide ((t13 : Int) < t12)) = true then
      if (0 : Int) ≤ t13 ∧ t13 < (((t11).length : Nat) : Int) then
      if (decide ((((t11.getD t13.toNat (0, 0)).1) : Int) < 1)) = true then
        f73_pack_Put_L3 n out t11 t12 (IntKind.wrap .i64 (t13 + 1))
      else
        if (decide ((((t11.getD t13.toNat (0, 0)).1) : Int) > 8)) = true then
          f73_pack_Put_L3 n out t11 t12 (IntKind.wrap .i64 (t13 + 1))
        else
          (f73_pack_Put_L7 n out (IntKind.wrap .i64 (((t11.getD t13.toNat (0, 0)).1) - 1)) t11 t12 t13 ((t11.getD t13.toNat (0, 0)).1) ((t11.getD t13.toNat (0, 0)).2)).bind fun w340 =>
          f73_pack_Put_L3 n w340.1 w340.2.1 w340.2.2.1 (IntKind.wrap .i64 (w340.2.2.2 + 1))
      else none
    else
      some (out)
def f73_pack_Put_L3_k (e : List Int) (o : Out) : Prop := At Go.Proofs.Try.prog Go.Proofs.Try.f73 0 11 ⟨[(5, .one (.c (.own 0 (.int .u8) e)))], [(0, some ⟨5, 0⟩)], [], 1⟩ o
theorem f73_pack_Put_L3_ok (n : Nat) : ∀ (out : List Int) (t11 : List (Int × Int)) (t12 : Int) (t13 : Int) (w : List Int) (h : f73_pack_Put_L3 n out t11 t12 t13 = some w) (o : Out) (hk : f73_pack_Put_L3_k w o), At Go.Proofs.Try.prog Go.Proofs.Try.f73 0 3 ⟨[(5, .one (.c (.own 0 (.int .u8) out))), (11, .one (.c (.d (.sl (.pair (.int .i64) (.int .u64)) t11)))), (12, .one (.c (.d (.int .i64 t12)))), (13, .one (.c (.d (.int .i64 t13))))], [(0, some ⟨5, 0⟩)], [], 1⟩ o := by
  induction n with
  | zero => intro out t11 t12 t13 w h; rw [f73_pack_Put_L3] at h; cases h
  | succ n ih =>
    intro out t11 t12 t13 w h o hk
    rw [f73_pack_Put_L3] at h
    rcases iteS h with ⟨b331_e0, h⟩ | ⟨b331_e0, h⟩
    · refine At.step hm ht ⟨[], [true], [], [5, 11, 12, 13], [0]⟩ 4 ⟨[(5, .one (.c (.own 0 (.int .u8) out))), (11, .one (.c (.d (.sl (.pair (.int .i64) (.int .u64)) t11)))), (12, .one (.c (.d (.int .i64 t12)))), (13, .one (.c (.d (.int .i64 t13))))], [(0, some ⟨5, 0⟩)], [], 1⟩ [(decide ((t13 : Int) < t12)) = true] (by kernel_rfl) ⟨b331_e0, trivial⟩ ?_
      obtain ⟨g332_0, h⟩ := ifS h
      refine At.step hm ht ⟨[], [], [], [5, 7, 11, 12, 13], [0, 3]⟩ 5 ⟨[(5, .one (.c (.own 0 (.int .u8) out))), (7, .one (.c (.ptr 1 0))), (11, .one (.c (.d (.sl (.pair (.int .i64) (.int .u64)) t11)))), (12, .one (.c (.d (.int .i64 t12)))), (13, .one (.c (.d (.int .i64 t13))))], [(0, some ⟨5, 0⟩)], [(1, [.d (.int .i64 ((t11.getD t13.toNat (0, 0)).1)), .d (.int .u64 ((t11.getD t13.toNat (0, 0)).2))])], 2⟩ [(0 : Int) ≤ t13 ∧ t13 < (((t11).length : Nat) : Int), 0 + 2 ≤ 2] (by kernel_rfl) ⟨g332_0, (by decide), trivial⟩ ?_
      rcases iteS h with ⟨b333_3, h⟩ | ⟨b333_3, h⟩
      · refine At.step hm ht ⟨[(3, .b true)], [true], [], [5, 11, 12, 13], [0]⟩ 10 ⟨[(5, .one (.c (.own 0 (.int .u8) out))), (11, .one (.c (.d (.sl (.pair (.int .i64) (.int .u64)) t11)))), (12, .one (.c (.d (.int .i64 t12)))), (13, .one (.c (.d (.int .i64 t13))))], [(0, some ⟨5, 0⟩)], [], 1⟩ [(decide ((((t11.getD t13.toNat (0, 0)).1) : Int) < 1)) = true, true = true] (by kernel_rfl) ⟨b333_3, rfl, trivial⟩ ?_
        refine At.step hm ht ⟨[], [], [], [5, 11, 12, 13], [0]⟩ 3 ⟨[(5, .one (.c (.own 0 (.int .u8) out))), (11, .one (.c (.d (.sl (.pair (.int .i64) (.int .u64)) t11)))), (12, .one (.c (.d (.int .i64 t12)))), (13, .one (.c (.d (.int .i64 (IntKind.wrap .i64 (t13 + 1))))))], [(0, some ⟨5, 0⟩)], [], 1⟩ [] (by kernel_rfl) trivial ?_
        exact ih out t11 t12 (IntKind.wrap .i64 (t13 + 1)) w h o hk
      · rcases iteS h with ⟨b333_e0, h⟩ | ⟨b333_e0, h⟩
        · refine At.step hm ht ⟨[(3, .b false)], [true], [], [5, 11, 12, 13], [0]⟩ 10 ⟨[(5, .one (.c (.own 0 (.int .u8) out))), (11, .one (.c (.d (.sl (.pair (.int .i64) (.int .u64)) t11)))), (12, .one (.c (.d (.int .i64 t12)))), (13, .one (.c (.d (.int .i64 t13))))], [(0, some ⟨5, 0⟩)], [], 1⟩ [(decide ((((t11.getD t13.toNat (0, 0)).1) : Int) < 1)) = false, (decide ((((t11.getD t13.toNat (0, 0)).1) : Int) > 8)) = true] (by kernel_rfl) ⟨b333_3, b333_e0, trivial⟩ ?_
          refine At.step hm ht ⟨[], [], [], [5, 11, 12, 13], [0]⟩ 3 ⟨[(5, .one (.c (.own 0 (.int .u8) out))), (11, .one (.c (.d (.sl (.pair (.int .i64) (.int .u64)) t11)))), (12, .one (.c (.d (.int .i64 t12)))), (13, .one (.c (.d (.int .i64 (IntKind.wrap .i64 (t13 + 1))))))], [(0, some ⟨5, 0⟩)], [], 1⟩ [] (by kernel_rfl) trivial ?_
          exact ih out t11 t12 (IntKind.wrap .i64 (t13 + 1)) w h o hk
        · refine At.step hm ht ⟨[(3, .b false)], [false], [], [5, 7, 11, 12, 13], [0, 1]⟩ 6 ⟨[(5, .one (.c (.own 0 (.int .u8) out))), (7, .one (.c (.ptr 1 0))), (11, .one (.c (.d (.sl (.pair (.int .i64) (.int .u64)) t11)))), (12, .one (.c (.d (.int .i64 t12)))), (13, .one (.c (.d (.int .i64 t13))))], [(0, some ⟨5, 0⟩)], [(1, [.d (.int .i64 ((t11.getD t13.toNat (0, 0)).1)), .d (.int .u64 ((t11.getD t13.toNat (0, 0)).2))])], 2⟩ [(decide ((((t11.getD t13.toNat (0, 0)).1) : Int) < 1)) = false, (decide ((((t11.getD t13.toNat (0, 0)).1) : Int) > 8)) = false] (by kernel_rfl) ⟨b333_3, b333_e0, trivial⟩ ?_
          refine At.step hm ht ⟨[], [], [], [5, 7, 8, 11, 12, 13], [0, 1]⟩ 7 ⟨[(5, .one (.c (.own 0 (.int .u8) out))), (7, .one (.c (.ptr 1 0))), (8, .one (.c (.d (.int .i64 (IntKind.wrap .i64 (((t11.getD t13.toNat (0, 0)).1) - 1)))))), (11, .one (.c (.d (.sl (.pair (.int .i64) (.int .u64)) t11)))), (12, .one (.c (.d (.int .i64 t12)))), (13, .one (.c (.d (.int .i64 t13))))], [(0, some ⟨5, 0⟩)], [(1, [.d (.int .i64 ((t11.getD t13.toNat (0, 0)).1)), .d (.int .u64 ((t11.getD t13.toNat (0, 0)).2))])], 2⟩ [] (by kernel_rfl) trivial ?_
          obtain ⟨w340, cw340, h⟩ := bindS h
          refine f73_pack_Put_L7_ok n out (IntKind.wrap .i64 (((t11.getD t13.toNat (0, 0)).1) - 1)) t11 t12 t13 ((t11.getD t13.toNat (0, 0)).1) ((t11.getD t13.toNat (0, 0)).2) w340 cw340 _ ?_
          show At Go.Proofs.Try.prog Go.Proofs.Try.f73 0 10 ⟨[(5, .one (.c (.own 0 (.int .u8) w340.1))), (11, .one (.c (.d (.sl (.pair (.int .i64) (.int .u64)) w340.2.1)))), (12, .one (.c (.d (.int .i64 w340.2.2.1)))), (13, .one (.c (.d (.int .i64 w340.2.2.2))))], [(0, some ⟨5, 0⟩)], [], 1⟩ _
          refine At.step hm ht ⟨[], [], [], [5, 11, 12, 13], [0]⟩ 3 ⟨[(5, .one (.c (.own 0 (.int .u8) w340.1))), (11, .one (.c (.d (.sl (.pair (.int .i64) (.int .u64)) w340.2.1)))), (12, .one (.c (.d (.int .i64 w340.2.2.1)))), (13, .one (.c (.d (.int .i64 (IntKind.wrap .i64 (w340.2.2.2 + 1))))))], [(0, some ⟨5, 0⟩)], [], 1⟩ [] (by kernel_rfl) trivial ?_
          exact ih w340.1 w340.2.1 w340.2.2.1 (IntKind.wrap .i64 (w340.2.2.2 + 1)) w h o hk
    · refine At.step hm ht ⟨[], [false], [], [5], [0]⟩ 11 ⟨[(5, .one (.c (.own 0 (.int .u8) out)))], [(0, some ⟨5, 0⟩)], [], 1⟩ [(decide ((t13 : Int) < t12)) = false] (by kernel_rfl) ⟨b331_e0, trivial⟩ ?_
      have h := Option.some.inj h
      subst h
      exact hk
def f73_pack_Put (n : Nat) (b : List Int) (l : List (Int × Int)) : Option (List Int) :=
  if b.length ≤ maxLen ∧ b.length * 1 ≤ 140737488355328 then
  (f73_pack_Put_L3 n b l ((l.length : Nat) : Int) 0).bind fun w343 =>
  some w343
  else none
theorem f73_pack_Put_ok (n : Nat) (b : List Int) (l : List (Int × Int)) (r : List Int) (h : f73_pack_Put n b l = some r) : FnOK Go.Proofs.Try.prog 73 (f73_pack_Put_in b l) (f73_pack_Put_out r) := by
  unfold f73_pack_Put at h
  refine At.fn (r := 0) Go.Proofs.Try.func73 rfl (by kernel_rfl) rfl rfl (by kernel_rfl) ?_
  show At Go.Proofs.Try.prog Go.Proofs.Try.f73 0 0 ⟨[(0, .one (.c (.d (.sl (.int .u8) b)))), (1, .one (.c (.d (.sl (.pair (.int .i64) (.int .u64)) l))))], [], [], 0⟩ _
  refine At.step hm ht ⟨[], [], [], [0, 1], []⟩ 1 ⟨[(0, .one (.c (.d (.sl (.int .u8) b)))), (1, .one (.c (.d (.sl (.pair (.int .i64) (.int .u64)) l))))], [], [], 0⟩ [] (by kernel_rfl) trivial ?_
  obtain ⟨g329_0, h⟩ := ifS h
  refine At.step hm ht ⟨[], [], [], [1, 5], [1]⟩ 2 ⟨[(1, .one (.c (.d (.sl (.pair (.int .i64) (.int .u64)) l)))), (5, .one (.c (.own 0 (.int .u8) b)))], [(0, some ⟨5, 0⟩)], [], 1⟩ [b.length ≤ maxLen ∧ b.length * 1 ≤ 140737488355328] (by kernel_rfl) ⟨g329_0, trivial⟩ ?_
  refine At.step hm ht ⟨[], [], [], [5, 11, 12, 13], [0]⟩ 3 ⟨[(5, .one (.c (.own 0 (.int .u8) b))), (11, .one (.c (.d (.sl (.pair (.int .i64) (.int .u64)) l)))), (12, .one (.c (.d (.int .i64 ((l.length : Nat) : Int))))), (13, .one (.c (.d (.int .i64 0))))], [(0, some ⟨5, 0⟩)], [], 1⟩ [] (by kernel_rfl) trivial ?_
  obtain ⟨w343, cw343, h⟩ := bindS h
  refine f73_pack_Put_L3_ok n b l ((l.length : Nat) : Int) 0 w343 cw343 _ ?_
  show At Go.Proofs.Try.prog Go.Proofs.Try.f73 0 11 ⟨[(5, .one (.c (.own 0 (.int .u8) w343)))], [(0, some ⟨5, 0⟩)], [], 1⟩ _
  have h := Option.some.inj h
  subst h
  exact At.fin hm ht ⟨[], [], [], [4], [0]⟩ [] (by kernel_rfl) trivial
/-! brougham/seg.Header -/
def f44_seg_Header_in (s_0 : Int) (s_1 : Int) (s_2 : Int) (s_3 : Int) (s_4 : Int) (s_5 : List (Int × List Int)) (s_6 : List Int) : Inn := ⟨[.agg [.d (.int .u16 s_0), .d (.int .u16 s_1), .d (.int .u32 s_2), .d (.int .u32 s_3), .d (.int .u8 s_4), .d (.sl (.pair (.int .u8) (.slice (.int .u8))) s_5), .d (.sl (.int .u8) s_6)]], [], [], 0⟩
def f44_seg_Header_out (r : List Int) : Out := ⟨.one (.c (.own 0 (.int .u8) r)), [(0, ⟨5, 0⟩)], [], 1⟩
def f44_seg_Header (n : Nat) (s_0 : Int) (s_1 : Int) (s_2 : Int) (s_3 : Int) (s_4 : Int) (s_5 : List (Int × List Int)) (s_6 : List Int) : Option (List Int) :=
  (f85_pack_H s_0).bind fun r321_0 =>
  (f85_pack_H s_1).bind fun r321_1 =>
  (f76_pack_W s_2).bind fun r321_2 =>
  (f76_pack_W s_3).bind fun r321_3 =>
  (f77_pack_B s_4).bind fun r321_4 =>
  (f73_pack_Put n [] [r321_0, r321_1, r321_2, r321_3, r321_4]).bind fun r321_5 =>
  some r321_5
theorem f44_seg_Header_ok (n : Nat) (s_0 : Int) (s_1 : Int) (s_2 : Int) (s_3 : Int) (s_4 : Int) (s_5 : List (Int × List Int)) (s_6 : List Int) (r : List Int) (h : f44_seg_Header n s_0 s_1 s_2 s_3 s_4 s_5 s_6 = some r) : FnOK Go.Proofs.Try.prog 44 (f44_seg_Header_in s_0 s_1 s_2 s_3 s_4 s_5 s_6) (f44_seg_Header_out r) := by
  unfold f44_seg_Header at h
  refine At.fn (r := 0) Go.Proofs.Try.func44 rfl (by kernel_rfl) rfl rfl (by kernel_rfl) ?_
  show At Go.Proofs.Try.prog Go.Proofs.Try.f44 0 0 ⟨[(0, .one (.agg [.d (.int .u16 s_0), .d (.int .u16 s_1), .d (.int .u32 s_2), .d (.int .u32 s_3), .d (.int .u8 s_4), .d (.sl (.pair (.int .u8) (.slice (.int .u8))) s_5), .d (.sl (.int .u8) s_6)]))], [], [], 0⟩ _
  refine At.step hm ht ⟨[], [], [], [1], [0]⟩ 1 ⟨[(1, .one (.c (.ptr 0 0)))], [], [(0, [.d (.int .u16 s_0), .d (.int .u16 s_1), .d (.int .u32 s_2), .d (.int .u32 s_3), .d (.int .u8 s_4), .d (.sl (.pair (.int .u8) (.slice (.int .u8))) s_5), .d (.sl (.int .u8) s_6)])], 1⟩ [] (by kernel_rfl) trivial ?_
  obtain ⟨r321_0, cr321_0, h⟩ := bindS h
  obtain ⟨r321_1, cr321_1, h⟩ := bindS h
  obtain ⟨r321_2, cr321_2, h⟩ := bindS h
  obtain ⟨r321_3, cr321_3, h⟩ := bindS h
  obtain ⟨r321_4, cr321_4, h⟩ := bindS h
  obtain ⟨r321_5, cr321_5, h⟩ := bindS h
  have h := Option.some.inj h
  subst h
  exact At.fin hm ht ⟨[(2, .call [] [] (f85_pack_H_out r321_0)), (5, .call [] [] (f85_pack_H_out r321_1)), (8, .call [] [] (f76_pack_W_out r321_2)), (11, .call [] [] (f76_pack_W_out r321_3)), (14, .call [] [] (f77_pack_B_out r321_4)), (16, .call [] [(0, 0, (.int .u8))] (f73_pack_Put_out r321_5))], [], [], [2], [17]⟩ [FnOK Go.Proofs.Try.prog 85 (f85_pack_H_in s_0) (f85_pack_H_out r321_0), FnOK Go.Proofs.Try.prog 85 (f85_pack_H_in s_1) (f85_pack_H_out r321_1), FnOK Go.Proofs.Try.prog 76 (f76_pack_W_in s_2) (f76_pack_W_out r321_2), FnOK Go.Proofs.Try.prog 76 (f76_pack_W_in s_3) (f76_pack_W_out r321_3), FnOK Go.Proofs.Try.prog 77 (f77_pack_B_in s_4) (f77_pack_B_out r321_4), FnOK Go.Proofs.Try.prog 73 (f73_pack_Put_in [] [r321_0, r321_1, r321_2, r321_3, r321_4]) (f73_pack_Put_out r321_5)] (by kernel_rfl) ⟨(f85_pack_H_ok s_0 r321_0 cr321_0), (f85_pack_H_ok s_1 r321_1 cr321_1), (f76_pack_W_ok s_2 r321_2 cr321_2), (f76_pack_W_ok s_3 r321_3 cr321_3), (f77_pack_B_ok s_4 r321_4 cr321_4), (f73_pack_Put_ok n [] [r321_0, r321_1, r321_2, r321_3, r321_4] r321_5 cr321_5), trivial⟩
/-! brougham/seg.Encode -/
def f40_seg_Encode_in (s_0 : Int) (s_1 : Int) (s_2 : Int) (s_3 : Int) (s_4 : Int) (s_5 : List (Int × List Int)) (s_6 : List Int) : Inn := ⟨[.agg [.d (.int .u16 s_0), .d (.int .u16 s_1), .d (.int .u32 s_2), .d (.int .u32 s_3), .d (.int .u8 s_4), .d (.sl (.pair (.int .u8) (.slice (.int .u8))) s_5), .d (.sl (.int .u8) s_6)]], [], [], 0⟩
def f40_seg_Encode_out (r : List Int × Int) : Out := ⟨.tup [.c (.own 0 (.int .u8) r.1), .c (.d (.int .i64 r.2))], [(0, ⟨5, 0⟩)], [], 1⟩
def f40_seg_Encode_L6 : Nat → (List Int) → (List (Int × List Int)) → Int → Int → Int → Int → Int → Int → Int → (List (Int × List Int)) → (List Int) → Option (List Int × Int × Int × Int × Int × Int × (List (Int × List Int)) × List Int)
  | 0, _, _, _, _, _, _, _, _, _, _, _ => none
  | n + 1, opts, t15, t16, t17, s_0, s_1, s_2, s_3, s_4, s_5, s_6 =>
    if (decide ((t17 : Int) < t16)) = true then
      if (0 : Int) ≤ t17 ∧ t17 < (((t15).length : Nat) : Int) then
      if opts.length + [(t15.getD t17.toNat (0, [])).1, (IntKind.wrap .u8 ((((t15.getD t17.toNat (0, [])).2).length : Nat) : Int))].length ≤ maxLen ∧ (opts.length + [(t15.getD t17.toNat (0, [])).1, (IntKind.wrap .u8 ((((t15.getD t17.toNat (0, [])).2).length : Nat) : Int))].length) * 1 ≤ 140737488355328 then
      if (opts ++ [(t15.getD t17.toNat (0, [])).1, (IntKind.wrap .u8 ((((t15.getD t17.toNat (0, [])).2).length : Nat) : Int))]).length + ((t15.getD t17.toNat (0, [])).2).length ≤ maxLen ∧ ((opts ++ [(t15.getD t17.toNat (0, [])).1, (IntKind.wrap .u8 ((((t15.getD t17.toNat (0, [])).2).length : Nat) : Int))]).length + ((t15.getD t17.toNat (0, [])).2).length) * 1 ≤ 140737488355328 then
      f40_seg_Encode_L6 n ((opts ++ [(t15.getD t17.toNat (0, [])).1, (IntKind.wrap .u8 ((((t15.getD t17.toNat (0, [])).2).length : Nat) : Int))]) ++ (t15.getD t17.toNat (0, [])).2) t15 t16 (IntKind.wrap .i64 (t17 + 1)) s_0 s_1 s_2 s_3 s_4 s_5 s_6
      else none
      else none
      else none
    else
      some ((opts, s_0, s_1, s_2, s_3, s_4, s_5, s_6))
def f40_seg_Encode_L6_k (e : List Int × Int × Int × Int × Int × Int × (List (Int × List Int)) × List Int) (o : Out) : Prop := At Go.Proofs.Try.prog Go.Proofs.Try.f40 0 11 ⟨[(1, .one (.c (.ptr 0 0))), (5, .one (.c (.own 1 (.int .u8) e.1)))], [(1, some ⟨5, 0⟩)], [(0, [.d (.int .u16 e.2.1), .d (.int .u16 e.2.2.1), .d (.int .u32 e.2.2.2.1), .d (.int .u32 e.2.2.2.2.1), .d (.int .u8 e.2.2.2.2.2.1), .d (.sl (.pair (.int .u8) (.slice (.int .u8))) e.2.2.2.2.2.2.1), .d (.sl (.int .u8) e.2.2.2.2.2.2.2)])], 2⟩ o
theorem f40_seg_Encode_L6_ok (n : Nat) : ∀ (opts : List Int) (t15 : List (Int × List Int)) (t16 : Int) (t17 : Int) (s_0 : Int) (s_1 : Int) (s_2 : Int) (s_3 : Int) (s_4 : Int) (s_5 : List (Int × List Int)) (s_6 : List Int) (w : List Int × Int × Int × Int × Int × Int × (List (Int × List Int)) × List Int) (h : f40_seg_Encode_L6 n opts t15 t16 t17 s_0 s_1 s_2 s_3 s_4 s_5 s_6 = some w) (o : Out) (hk : f40_seg_Encode_L6_k w o), At Go.Proofs.Try.prog Go.Proofs.Try.f40 0 6 ⟨[(1, .one (.c (.ptr 0 0))), (5, .one (.c (.own 1 (.int .u8) opts))), (15, .one (.c (.d (.sl (.pair (.int .u8) (.slice (.int .u8))) t15)))), (16, .one (.c (.d (.int .i64 t16)))), (17, .one (.c (.d (.int .i64 t17))))], [(1, some ⟨5, 0⟩)], [(0, [.d (.int .u16 s_0), .d (.int .u16 s_1), .d (.int .u32 s_2), .d (.int .u32 s_3), .d (.int .u8 s_4), .d (.sl (.pair (.int .u8) (.slice (.int .u8))) s_5), .d (.sl (.int .u8) s_6)])], 2⟩ o := by
  induction n with
  | zero => intro opts t15 t16 t17 s_0 s_1 s_2 s_3 s_4 s_5 s_6 w h; rw [f40_seg_Encode_L6] at h; cases h
  | succ n ih =>
    intro opts t15 t16 t17 s_0 s_1 s_2 s_3 s_4 s_5 s_6 w h o hk
    rw [f40_seg_Encode_L6] at h
    rcases iteS h with ⟨b353_e0, h⟩ | ⟨b353_e0, h⟩
    · refine At.step hm ht ⟨[], [true], [], [1, 5, 15, 16, 17], [0, 1]⟩ 7 ⟨[(1, .one (.c (.ptr 0 0))), (5, .one (.c (.own 1 (.int .u8) opts))), (15, .one (.c (.d (.sl (.pair (.int .u8) (.slice (.int .u8))) t15)))), (16, .one (.c (.d (.int .i64 t16)))), (17, .one (.c (.d (.int .i64 t17))))], [(1, some ⟨5, 0⟩)], [(0, [.d (.int .u16 s_0), .d (.int .u16 s_1), .d (.int .u32 s_2), .d (.int .u32 s_3), .d (.int .u8 s_4), .d (.sl (.pair (.int .u8) (.slice (.int .u8))) s_5), .d (.sl (.int .u8) s_6)])], 2⟩ [(decide ((t17 : Int) < t16)) = true] (by kernel_rfl) ⟨b353_e0, trivial⟩ ?_
      obtain ⟨g354_0, h⟩ := ifS h
      refine At.step hm ht ⟨[], [], [], [1, 5, 7, 15, 16, 17], [0, 1, 4]⟩ 8 ⟨[(1, .one (.c (.ptr 0 0))), (5, .one (.c (.own 1 (.int .u8) opts))), (7, .one (.c (.ptr 2 0))), (15, .one (.c (.d (.sl (.pair (.int .u8) (.slice (.int .u8))) t15)))), (16, .one (.c (.d (.int .i64 t16)))), (17, .one (.c (.d (.int .i64 t17))))], [(1, some ⟨5, 0⟩)], [(0, [.d (.int .u16 s_0), .d (.int .u16 s_1), .d (.int .u32 s_2), .d (.int .u32 s_3), .d (.int .u8 s_4), .d (.sl (.pair (.int .u8) (.slice (.int .u8))) s_5), .d (.sl (.int .u8) s_6)]), (2, [.d (.int .u8 ((t15.getD t17.toNat (0, [])).1)), .d (.sl (.int .u8) ((t15.getD t17.toNat (0, [])).2))])], 3⟩ [(0 : Int) ≤ t17 ∧ t17 < (((t15).length : Nat) : Int), 0 + 2 ≤ 2] (by kernel_rfl) ⟨g354_0, (by decide), trivial⟩ ?_
      obtain ⟨g355_0, h⟩ := ifS h
      refine At.step hm ht ⟨[], [], [], [1, 5, 7, 15, 16, 17], [0, 11, 2]⟩ 9 ⟨[(1, .one (.c (.ptr 0 0))), (5, .one (.c (.own 1 (.int .u8) (opts ++ [(t15.getD t17.toNat (0, [])).1, (IntKind.wrap .u8 ((((t15.getD t17.toNat (0, [])).2).length : Nat) : Int))])))), (7, .one (.c (.ptr 2 0))), (15, .one (.c (.d (.sl (.pair (.int .u8) (.slice (.int .u8))) t15)))), (16, .one (.c (.d (.int .i64 t16)))), (17, .one (.c (.d (.int .i64 t17))))], [(1, some ⟨5, 0⟩)], [(0, [.d (.int .u16 s_0), .d (.int .u16 s_1), .d (.int .u32 s_2), .d (.int .u32 s_3), .d (.int .u8 s_4), .d (.sl (.pair (.int .u8) (.slice (.int .u8))) s_5), .d (.sl (.int .u8) s_6)]), (2, [.d (.int .u8 ((t15.getD t17.toNat (0, [])).1)), .d (.sl (.int .u8) ((t15.getD t17.toNat (0, [])).2))])], 3⟩ [opts.length + [(t15.getD t17.toNat (0, [])).1, (IntKind.wrap .u8 ((((t15.getD t17.toNat (0, [])).2).length : Nat) : Int))].length ≤ maxLen ∧ (opts.length + [(t15.getD t17.toNat (0, [])).1, (IntKind.wrap .u8 ((((t15.getD t17.toNat (0, [])).2).length : Nat) : Int))].length) * 1 ≤ 140737488355328] (by kernel_rfl) ⟨g355_0, trivial⟩ ?_
      obtain ⟨g356_0, h⟩ := ifS h
      refine At.step hm ht ⟨[], [], [], [1, 5, 15, 16, 17], [0, 6]⟩ 10 ⟨[(1, .one (.c (.ptr 0 0))), (5, .one (.c (.own 1 (.int .u8) ((opts ++ [(t15.getD t17.toNat (0, [])).1, (IntKind.wrap .u8 ((((t15.getD t17.toNat (0, [])).2).length : Nat) : Int))]) ++ (t15.getD t17.toNat (0, [])).2)))), (15, .one (.c (.d (.sl (.pair (.int .u8) (.slice (.int .u8))) t15)))), (16, .one (.c (.d (.int .i64 t16)))), (17, .one (.c (.d (.int .i64 t17))))], [(1, some ⟨5, 0⟩)], [(0, [.d (.int .u16 s_0), .d (.int .u16 s_1), .d (.int .u32 s_2), .d (.int .u32 s_3), .d (.int .u8 s_4), .d (.sl (.pair (.int .u8) (.slice (.int .u8))) s_5), .d (.sl (.int .u8) s_6)])], 2⟩ [(opts ++ [(t15.getD t17.toNat (0, [])).1, (IntKind.wrap .u8 ((((t15.getD t17.toNat (0, [])).2).length : Nat) : Int))]).length + ((t15.getD t17.toNat (0, [])).2).length ≤ maxLen ∧ ((opts ++ [(t15.getD t17.toNat (0, [])).1, (IntKind.wrap .u8 ((((t15.getD t17.toNat (0, [])).2).length : Nat) : Int))]).length + ((t15.getD t17.toNat (0, [])).2).length) * 1 ≤ 140737488355328] (by kernel_rfl) ⟨g356_0, trivial⟩ ?_
      refine At.step hm ht ⟨[], [], [], [1, 5, 15, 16, 17], [0, 1]⟩ 6 ⟨[(1, .one (.c (.ptr 0 0))), (5, .one (.c (.own 1 (.int .u8) ((opts ++ [(t15.getD t17.toNat (0, [])).1, (IntKind.wrap .u8 ((((t15.getD t17.toNat (0, [])).2).length : Nat) : Int))]) ++ (t15.getD t17.toNat (0, [])).2)))), (15, .one (.c (.d (.sl (.pair (.int .u8) (.slice (.int .u8))) t15)))), (16, .one (.c (.d (.int .i64 t16)))), (17, .one (.c (.d (.int .i64 (IntKind.wrap .i64 (t17 + 1))))))], [(1, some ⟨5, 0⟩)], [(0, [.d (.int .u16 s_0), .d (.int .u16 s_1), .d (.int .u32 s_2), .d (.int .u32 s_3), .d (.int .u8 s_4), .d (.sl (.pair (.int .u8) (.slice (.int .u8))) s_5), .d (.sl (.int .u8) s_6)])], 2⟩ [] (by kernel_rfl) trivial ?_
      exact ih ((opts ++ [(t15.getD t17.toNat (0, [])).1, (IntKind.wrap .u8 ((((t15.getD t17.toNat (0, [])).2).length : Nat) : Int))]) ++ (t15.getD t17.toNat (0, [])).2) t15 t16 (IntKind.wrap .i64 (t17 + 1)) s_0 s_1 s_2 s_3 s_4 s_5 s_6 w h o hk
    · refine At.step hm ht ⟨[], [false], [], [1, 5], [0, 1]⟩ 11 ⟨[(1, .one (.c (.ptr 0 0))), (5, .one (.c (.own 1 (.int .u8) opts)))], [(1, some ⟨5, 0⟩)], [(0, [.d (.int .u16 s_0), .d (.int .u16 s_1), .d (.int .u32 s_2), .d (.int .u32 s_3), .d (.int .u8 s_4), .d (.sl (.pair (.int .u8) (.slice (.int .u8))) s_5), .d (.sl (.int .u8) s_6)])], 2⟩ [(decide ((t17 : Int) < t16)) = false] (by kernel_rfl) ⟨b353_e0, trivial⟩ ?_
      have h := Option.some.inj h
      subst h
      exact hk
def f40_seg_Encode (n : Nat) (s_0 : Int) (s_1 : Int) (s_2 : Int) (s_3 : Int) (s_4 : Int) (s_5 : List (Int × List Int)) (s_6 : List Int) : Option (List Int × Int) :=
  (f42_seg_Right n s_0 s_1 s_2 s_3 s_4 s_5 s_6).bind fun r348_0 =>
  if ((r348_0 : Int) != 0) = true then
    some ([], r348_0)
  else
    (f40_seg_Encode_L6 n [] s_5 ((s_5.length : Nat) : Int) 0 s_0 s_1 s_2 s_3 s_4 s_5 s_6).bind fun w358 =>
    (f44_seg_Header n w358.2.1 w358.2.2.1 w358.2.2.2.1 w358.2.2.2.2.1 w358.2.2.2.2.2.1 w358.2.2.2.2.2.2.1 w358.2.2.2.2.2.2.2).bind fun r360_0 =>
    (f77_pack_B (IntKind.wrap .u8 ((w358.1.length : Nat) : Int))).bind fun r360_1 =>
    (f73_pack_Put n r360_0 [r360_1]).bind fun r360_2 =>
    if r360_2.length + w358.1.length ≤ maxLen ∧ (r360_2.length + w358.1.length) * 1 ≤ 140737488355328 then
    if (r360_2 ++ w358.1).length + w358.2.2.2.2.2.2.2.length ≤ maxLen ∧ ((r360_2 ++ w358.1).length + w358.2.2.2.2.2.2.2.length) * 1 ≤ 140737488355328 then
    some (((r360_2 ++ w358.1) ++ w358.2.2.2.2.2.2.2), 0)
    else none
    else none
theorem f40_seg_Encode_ok (n : Nat) (s_0 : Int) (s_1 : Int) (s_2 : Int) (s_3 : Int) (s_4 : Int) (s_5 : List (Int × List Int)) (s_6 : List Int) (r : List Int × Int) (h : f40_seg_Encode n s_0 s_1 s_2 s_3 s_4 s_5 s_6 = some r) : FnOK Go.Proofs.Try.prog 40 (f40_seg_Encode_in s_0 s_1 s_2 s_3 s_4 s_5 s_6) (f40_seg_Encode_out r) := by
  unfold f40_seg_Encode at h
  refine At.fn (r := 0) Go.Proofs.Try.func40 rfl (by kernel_rfl) rfl rfl (by kernel_rfl) ?_
  show At Go.Proofs.Try.prog Go.Proofs.Try.f40 0 0 ⟨[(0, .one (.agg [.d (.int .u16 s_0), .d (.int .u16 s_1), .d (.int .u32 s_2), .d (.int .u32 s_3), .d (.int .u8 s_4), .d (.sl (.pair (.int .u8) (.slice (.int .u8))) s_5), .d (.sl (.int .u8) s_6)]))], [], [], 0⟩ _
  refine At.step hm ht ⟨[], [], [], [1], [0]⟩ 1 ⟨[(1, .one (.c (.ptr 0 0)))], [], [(0, [.d (.int .u16 s_0), .d (.int .u16 s_1), .d (.int .u32 s_2), .d (.int .u32 s_3), .d (.int .u8 s_4), .d (.sl (.pair (.int .u8) (.slice (.int .u8))) s_5), .d (.sl (.int .u8) s_6)])], 1⟩ [] (by kernel_rfl) trivial ?_
  obtain ⟨r348_0, cr348_0, h⟩ := bindS h
  refine At.step hm ht ⟨[(1, .call [] [] (f42_seg_Right_out r348_0))], [], [], [1, 4], [0]⟩ 2 ⟨[(1, .one (.c (.ptr 0 0))), (4, .one (.c (.d (.int .i64 r348_0))))], [], [(0, [.d (.int .u16 s_0), .d (.int .u16 s_1), .d (.int .u32 s_2), .d (.int .u32 s_3), .d (.int .u8 s_4), .d (.sl (.pair (.int .u8) (.slice (.int .u8))) s_5), .d (.sl (.int .u8) s_6)])], 1⟩ [FnOK Go.Proofs.Try.prog 42 (f42_seg_Right_in s_0 s_1 s_2 s_3 s_4 s_5 s_6) (f42_seg_Right_out r348_0)] (by kernel_rfl) ⟨(f42_seg_Right_ok n s_0 s_1 s_2 s_3 s_4 s_5 s_6 r348_0 cr348_0), trivial⟩ ?_
  rcases iteS h with ⟨b349_e0, h⟩ | ⟨b349_e0, h⟩
  · refine At.step hm ht ⟨[], [true], [], [4], []⟩ 3 ⟨[(4, .one (.c (.d (.int .i64 r348_0))))], [], [], 0⟩ [((r348_0 : Int) != 0) = true] (by kernel_rfl) ⟨b349_e0, trivial⟩ ?_
    have h := Option.some.inj h
    subst h
    exact At.fin hm ht ⟨[], [], [.nil false 2 0 (.int .u8) (some 5)], [2, 3], [3]⟩ [] (by kernel_rfl) trivial
  · refine At.step hm ht ⟨[], [false], [], [1], [0]⟩ 4 ⟨[(1, .one (.c (.ptr 0 0)))], [], [(0, [.d (.int .u16 s_0), .d (.int .u16 s_1), .d (.int .u32 s_2), .d (.int .u32 s_3), .d (.int .u8 s_4), .d (.sl (.pair (.int .u8) (.slice (.int .u8))) s_5), .d (.sl (.int .u8) s_6)])], 1⟩ [((r348_0 : Int) != 0) = false] (by kernel_rfl) ⟨b349_e0, trivial⟩ ?_
    refine At.step hm ht ⟨[], [], [], [1, 5], [0]⟩ 5 ⟨[(1, .one (.c (.ptr 0 0))), (5, .one (.c (.d (.sl .unit []))))], [], [(0, [.d (.int .u16 s_0), .d (.int .u16 s_1), .d (.int .u32 s_2), .d (.int .u32 s_3), .d (.int .u8 s_4), .d (.sl (.pair (.int .u8) (.slice (.int .u8))) s_5), .d (.sl (.int .u8) s_6)])], 1⟩ [] (by kernel_rfl) trivial ?_
    refine At.step hm ht ⟨[], [], [.nil false 5 0 (.int .u8) (some 5)], [1, 5, 15, 16, 17], [0, 5]⟩ 6 ⟨[(1, .one (.c (.ptr 0 0))), (5, .one (.c (.own 1 (.int .u8) []))), (15, .one (.c (.d (.sl (.pair (.int .u8) (.slice (.int .u8))) s_5)))), (16, .one (.c (.d (.int .i64 ((s_5.length : Nat) : Int))))), (17, .one (.c (.d (.int .i64 0))))], [(1, some ⟨5, 0⟩)], [(0, [.d (.int .u16 s_0), .d (.int .u16 s_1), .d (.int .u32 s_2), .d (.int .u32 s_3), .d (.int .u8 s_4), .d (.sl (.pair (.int .u8) (.slice (.int .u8))) s_5), .d (.sl (.int .u8) s_6)])], 2⟩ [] (by kernel_rfl) trivial ?_
    obtain ⟨w358, cw358, h⟩ := bindS h
    refine f40_seg_Encode_L6_ok n [] s_5 ((s_5.length : Nat) : Int) 0 s_0 s_1 s_2 s_3 s_4 s_5 s_6 w358 cw358 _ ?_
    show At Go.Proofs.Try.prog Go.Proofs.Try.f40 0 11 ⟨[(1, .one (.c (.ptr 0 0))), (5, .one (.c (.own 1 (.int .u8) w358.1)))], [(1, some ⟨5, 0⟩)], [(0, [.d (.int .u16 w358.2.1), .d (.int .u16 w358.2.2.1), .d (.int .u32 w358.2.2.2.1), .d (.int .u32 w358.2.2.2.2.1), .d (.int .u8 w358.2.2.2.2.2.1), .d (.sl (.pair (.int .u8) (.slice (.int .u8))) w358.2.2.2.2.2.2.1), .d (.sl (.int .u8) w358.2.2.2.2.2.2.2)])], 2⟩ _
    obtain ⟨r360_0, cr360_0, h⟩ := bindS h
    obtain ⟨r360_1, cr360_1, h⟩ := bindS h
    obtain ⟨r360_2, cr360_2, h⟩ := bindS h
    refine At.step hm ht ⟨[(1, .call [] [] (f44_seg_Header_out r360_0)), (5, .call [] [] (f77_pack_B_out r360_1)), (7, .call [] [] (f73_pack_Put_out r360_2))], [], [], [1, 5, 8], [0, 1, 9]⟩ 12 ⟨[(1, .one (.c (.ptr 0 0))), (5, .one (.c (.own 1 (.int .u8) w358.1))), (8, .one (.c (.own 2 (.int .u8) r360_2)))], [(1, some ⟨5, 0⟩), (2, some ⟨5, 0⟩)], [(0, [.d (.int .u16 w358.2.1), .d (.int .u16 w358.2.2.1), .d (.int .u32 w358.2.2.2.1), .d (.int .u32 w358.2.2.2.2.1), .d (.int .u8 w358.2.2.2.2.2.1), .d (.sl (.pair (.int .u8) (.slice (.int .u8))) w358.2.2.2.2.2.2.1), .d (.sl (.int .u8) w358.2.2.2.2.2.2.2)])], 3⟩ [FnOK Go.Proofs.Try.prog 44 (f44_seg_Header_in w358.2.1 w358.2.2.1 w358.2.2.2.1 w358.2.2.2.2.1 w358.2.2.2.2.2.1 w358.2.2.2.2.2.2.1 w358.2.2.2.2.2.2.2) (f44_seg_Header_out r360_0), FnOK Go.Proofs.Try.prog 77 (f77_pack_B_in (IntKind.wrap .u8 ((w358.1.length : Nat) : Int))) (f77_pack_B_out r360_1), FnOK Go.Proofs.Try.prog 73 (f73_pack_Put_in r360_0 [r360_1]) (f73_pack_Put_out r360_2)] (by kernel_rfl) ⟨(f44_seg_Header_ok n w358.2.1 w358.2.2.1 w358.2.2.2.1 w358.2.2.2.2.1 w358.2.2.2.2.2.1 w358.2.2.2.2.2.2.1 w358.2.2.2.2.2.2.2 r360_0 cr360_0), (f77_pack_B_ok (IntKind.wrap .u8 ((w358.1.length : Nat) : Int)) r360_1 cr360_1), (f73_pack_Put_ok n r360_0 [r360_1] r360_2 cr360_2), trivial⟩ ?_
    obtain ⟨g361_0, h⟩ := ifS h
    obtain ⟨g361_1, h⟩ := ifS h
    have h := Option.some.inj h
    subst h
    exact At.fin hm ht ⟨[], [], [], [2, 3], [8]⟩ [r360_2.length + w358.1.length ≤ maxLen ∧ (r360_2.length + w358.1.length) * 1 ≤ 140737488355328, (r360_2 ++ w358.1).length + w358.2.2.2.2.2.2.2.length ≤ maxLen ∧ ((r360_2 ++ w358.1).length + w358.2.2.2.2.2.2.2.length) * 1 ≤ 140737488355328] (by kernel_rfl) ⟨g361_0, g361_1, trivial⟩
/-! brougham/broughamlaw07.alive -/
def f46_broughamlaw07_alive_in : Inn := ⟨[], [], [], 0⟩
def f46_broughamlaw07_alive_out (r : Bool) : Out := ⟨.one (.c (.d (.bool r))), [], [], 0⟩
def f46_broughamlaw07_alive (n : Nat) : Option (Bool) :=
  (f47_seg_Parse n [0, 0, 0, 0, 0, 0, 0, 0, 0, 0, 0, 0, 0, 0]).bind fun r122_0 =>
  (f40_seg_Encode n 1 0 0 0 1 [(3, [97, 98])] [120]).bind fun r274_0 =>
  if ((r122_0.1 : Int) == 0) = true then
    if ((r122_0.2.1 : Int) == 0) = true then
      if ((r274_0.2 : Int) == 0) = true then
        if ((((r274_0.1.length : Nat) : Int) : Int) == 19) = true then
          (f53_seg_Take 0 0 0 0 1 [] [120]).bind fun r362_0 =>
          some ((r362_0 : Int) == 2)
        else
          some false
      else
        some false
    else
      some false
  else
    some false
theorem f46_broughamlaw07_alive_ok (n : Nat) (r : Bool) (h : f46_broughamlaw07_alive n = some r) : FnOK Go.Proofs.Try.prog 46 (f46_broughamlaw07_alive_in) (f46_broughamlaw07_alive_out r) := by
  unfold f46_broughamlaw07_alive at h
  refine At.fn (r := 0) Go.Proofs.Try.func46 rfl (by kernel_rfl) rfl rfl (by kernel_rfl) ?_
  show At Go.Proofs.Try.prog Go.Proofs.Try.f46 0 0 ⟨[], [], [], 0⟩ _
  refine At.step hm ht ⟨[], [], [], [], []⟩ 1 ⟨[], [], [], 0⟩ [] (by kernel_rfl) trivial ?_
  obtain ⟨r122_0, cr122_0, h⟩ := bindS h
  refine At.step hm ht ⟨[(1, .call [] [] (f47_seg_Parse_out r122_0))], [], [], [1, 2], [7, 2, 3]⟩ 2 ⟨[(1, .one (.c (.ptr 0 0))), (2, .one (.c (.d (.int .i64 r122_0.1))))], [(1, some ⟨30, 0⟩), (2, some ⟨5, 0⟩)], [(0, [.d (.int .u16 r122_0.2.1), .d (.int .u16 r122_0.2.2.1), .d (.int .u32 r122_0.2.2.2.1), .d (.int .u32 r122_0.2.2.2.2.1), .d (.int .u8 r122_0.2.2.2.2.2.1), .own 1 (.pair (.int .u8) (.slice (.int .u8))) r122_0.2.2.2.2.2.2.1, .own 2 (.int .u8) r122_0.2.2.2.2.2.2.2])], 3⟩ [FnOK Go.Proofs.Try.prog 47 (f47_seg_Parse_in [0, 0, 0, 0, 0, 0, 0, 0, 0, 0, 0, 0, 0, 0]) (f47_seg_Parse_out r122_0), 0 + 7 ≤ 7] (by kernel_rfl) ⟨(f47_seg_Parse_ok n [0, 0, 0, 0, 0, 0, 0, 0, 0, 0, 0, 0, 0, 0] r122_0 cr122_0), (by decide), trivial⟩ ?_
  obtain ⟨r274_0, cr274_0, h⟩ := bindS h
  refine At.step hm ht ⟨[(7, .call [] [] (f40_seg_Encode_out r274_0))], [], [], [1, 2, 3, 4], [0, 10, 1, 2]⟩ 3 ⟨[(1, .one (.c (.ptr 0 0))), (2, .one (.c (.d (.int .i64 r122_0.1)))), (3, .one (.c (.own 1 (.int .u8) r274_0.1))), (4, .one (.c (.d (.int .i64 r274_0.2))))], [(1, some ⟨5, 0⟩), (2, some ⟨30, 0⟩), (3, some ⟨5, 0⟩)], [(0, [.d (.int .u16 r122_0.2.1), .d (.int .u16 r122_0.2.2.1), .d (.int .u32 r122_0.2.2.2.1), .d (.int .u32 r122_0.2.2.2.2.1), .d (.int .u8 r122_0.2.2.2.2.2.1), .own 2 (.pair (.int .u8) (.slice (.int .u8))) r122_0.2.2.2.2.2.2.1, .own 3 (.int .u8) r122_0.2.2.2.2.2.2.2])], 4⟩ [FnOK Go.Proofs.Try.prog 40 (f40_seg_Encode_in 1 0 0 0 1 [(3, [97, 98])] [120]) (f40_seg_Encode_out r274_0)] (by kernel_rfl) ⟨(f40_seg_Encode_ok n 1 0 0 0 1 [(3, [97, 98])] [120] r274_0 cr274_0), trivial⟩ ?_
  rcases iteS h with ⟨b362_2, h⟩ | ⟨b362_2, h⟩
  · rcases iteS h with ⟨b362_7, h⟩ | ⟨b362_7, h⟩
    · rcases iteS h with ⟨b362_11, h⟩ | ⟨b362_11, h⟩
      · rcases iteS h with ⟨b362_16, h⟩ | ⟨b362_16, h⟩
        · obtain ⟨r362_0, cr362_0, h⟩ := bindS h
          have h := Option.some.inj h
          subst h
          exact At.fin hm ht ⟨[(2, .b true), (7, .b true), (11, .b true), (16, .b true), (20, .call [] [(0, 5, (.pair (.int .u8) (.slice (.int .u8))))] (f53_seg_Take_out r362_0))], [], [], [0], []⟩ [((r122_0.1 : Int) == 0) = true, ((r122_0.2.1 : Int) == 0) = true, ((r274_0.2 : Int) == 0) = true, ((((r274_0.1.length : Nat) : Int) : Int) == 19) = true, FnOK Go.Proofs.Try.prog 53 (f53_seg_Take_in 0 0 0 0 1 [] [120]) (f53_seg_Take_out r362_0)] (by kernel_rfl) ⟨b362_2, b362_7, b362_11, b362_16, (f53_seg_Take_ok 0 0 0 0 1 [] [120] r362_0 cr362_0), trivial⟩
        · have h := Option.some.inj h
          subst h
          exact At.fin hm ht ⟨[(2, .b true), (7, .b true), (11, .b true), (16, .b false)], [], [], [0], []⟩ [((r122_0.1 : Int) == 0) = true, ((r122_0.2.1 : Int) == 0) = true, ((r274_0.2 : Int) == 0) = true, ((((r274_0.1.length : Nat) : Int) : Int) == 19) = false] (by kernel_rfl) ⟨b362_2, b362_7, b362_11, b362_16, trivial⟩
      · have h := Option.some.inj h
        subst h
        exact At.fin hm ht ⟨[(2, .b true), (7, .b true), (11, .b false)], [], [], [0], []⟩ [((r122_0.1 : Int) == 0) = true, ((r122_0.2.1 : Int) == 0) = true, ((r274_0.2 : Int) == 0) = false] (by kernel_rfl) ⟨b362_2, b362_7, b362_11, trivial⟩
    · have h := Option.some.inj h
      subst h
      exact At.fin hm ht ⟨[(2, .b true), (7, .b false)], [], [], [0], []⟩ [((r122_0.1 : Int) == 0) = true, ((r122_0.2.1 : Int) == 0) = false] (by kernel_rfl) ⟨b362_2, b362_7, trivial⟩
  · have h := Option.some.inj h
    subst h
    exact At.fin hm ht ⟨[(2, .b false)], [], [], [0], []⟩ [((r122_0.1 : Int) == 0) = false] (by kernel_rfl) ⟨b362_2, trivial⟩
/-! brougham/broughamlaw07.SegParts -/
def f10_broughamlaw07_SegParts_in (s_0 : Int) (s_1 : Int) (s_2 : Int) (s_3 : Int) (s_4 : Int) (s_5 : List (Int × List Int)) (s_6 : List Int) (kind : Int) (l : List (Int × List Int)) : Inn := ⟨[.agg [.d (.int .u16 s_0), .d (.int .u16 s_1), .d (.int .u32 s_2), .d (.int .u32 s_3), .d (.int .u8 s_4), .d (.sl (.pair (.int .u8) (.slice (.int .u8))) s_5), .d (.sl (.int .u8) s_6)], .c (.d (.int .u8 kind)), .c (.d (.sl (.pair (.int .u8) (.slice (.int .u8))) l))], [], [], 0⟩
def f10_broughamlaw07_SegParts_out (r : Bool) : Out := ⟨.one (.c (.d (.bool r))), [], [], 0⟩
def f10_broughamlaw07_SegParts_L11 : Nat → (List (Int × List Int)) → Bool → Bool → Int → Int → Int → Int → Int → Int → (List (Int × List Int)) → (List Int) → Int → (List Int) → Int → (List Int) → Int → Int → Int → Int → Int → (List (Int × List Int)) → (List Int) → Int → Int → Int → Int → Int → (List (Int × List Int)) → (List Int) → Option ((List (Int × List Int)) × Bool × Bool × Int × Int × Int × Int × Int × (List (Int × List Int)) × List Int × Int × List Int × Int × List Int × Int × Int × Int × Int × Int × (List (Int × List Int)) × List Int × Int × Int × Int × Int × Int × (List (Int × List Int)) × List Int)
  | 0, _, _, _, _, _, _, _, _, _, _, _, _, _, _, _, _, _, _, _, _, _, _, _, _, _, _, _, _, _ => none
  | n + 1, l, ok, is_, i, s_0, s_1, s_2, s_3, s_4, s_5, s_6, o__0, o__1, p_0, p_1, want_0, want_1, want_2, want_3, want_4, want_5, want_6, c_0, c_1, c_2, c_3, c_4, c_5, b6_0 =>
    if (decide ((i : Int) < ((b6_0.length : Nat) : Int))) = true then
      if (0 : Int) ≤ i ∧ i < (((b6_0).length : Nat) : Int) then
      if (0 : Int) ≤ i ∧ i < (((b6_0).length : Nat) : Int) then
      f10_broughamlaw07_SegParts_L11 n l ok is_ (IntKind.wrap .i64 (i + 1)) s_0 s_1 s_2 s_3 s_4 s_5 s_6 o__0 o__1 p_0 p_1 want_0 want_1 want_2 want_3 want_4 want_5 want_6 c_0 c_1 c_2 c_3 c_4 c_5 (b6_0.set i.toNat (bits .xor .u8 (b6_0.getD i.toNat 0) 255))
      else none
      else none
    else
      some ((l, ok, is_, s_0, s_1, s_2, s_3, s_4, s_5, s_6, o__0, o__1, p_0, p_1, want_0, want_1, want_2, want_3, want_4, want_5, want_6, c_0, c_1, c_2, c_3, c_4, c_5, b6_0))
def f10_broughamlaw07_SegParts_L11_k (e : (List (Int × List Int)) × Bool × Bool × Int × Int × Int × Int × Int × (List (Int × List Int)) × List Int × Int × List Int × Int × List Int × Int × Int × Int × Int × Int × (List (Int × List Int)) × List Int × Int × Int × Int × Int × Int × (List (Int × List Int)) × List Int) (o : Out) : Prop := At Go.Proofs.Try.prog Go.Proofs.Try.f10 0 14 ⟨[(2, .one (.c (.d (.sl (.pair (.int .u8) (.slice (.int .u8))) e.1)))), (3, .one (.c (.ptr 0 0))), (7, .one (.c (.ptr 1 0))), (8, .one (.c (.d (.bool e.2.1)))), (9, .one (.c (.ptr 2 0))), (10, .one (.c (.d (.bool e.2.2.1)))), (11, .one (.c (.ptr 3 0))), (12, .one (.c (.ptr 4 0)))], [(5, some ⟨30, 0⟩), (6, some ⟨5, 2⟩)], [(0, [.d (.int .u16 e.2.2.2.1), .d (.int .u16 e.2.2.2.2.1), .d (.int .u32 e.2.2.2.2.2.1), .d (.int .u32 e.2.2.2.2.2.2.1), .d (.int .u8 e.2.2.2.2.2.2.2.1), .d (.sl (.pair (.int .u8) (.slice (.int .u8))) e.2.2.2.2.2.2.2.2.1), .d (.sl (.int .u8) e.2.2.2.2.2.2.2.2.2.1)]), (1, [.d (.int .u8 e.2.2.2.2.2.2.2.2.2.2.1), .d (.sl (.int .u8) e.2.2.2.2.2.2.2.2.2.2.2.1)]), (2, [.d (.int .u8 e.2.2.2.2.2.2.2.2.2.2.2.2.1), .d (.sl (.int .u8) e.2.2.2.2.2.2.2.2.2.2.2.2.2.1)]), (3, [.d (.int .u16 e.2.2.2.2.2.2.2.2.2.2.2.2.2.2.1), .d (.int .u16 e.2.2.2.2.2.2.2.2.2.2.2.2.2.2.2.1), .d (.int .u32 e.2.2.2.2.2.2.2.2.2.2.2.2.2.2.2.2.1), .d (.int .u32 e.2.2.2.2.2.2.2.2.2.2.2.2.2.2.2.2.2.1), .d (.int .u8 e.2.2.2.2.2.2.2.2.2.2.2.2.2.2.2.2.2.2.1), .d (.sl (.pair (.int .u8) (.slice (.int .u8))) e.2.2.2.2.2.2.2.2.2.2.2.2.2.2.2.2.2.2.2.1), .d (.sl (.int .u8) e.2.2.2.2.2.2.2.2.2.2.2.2.2.2.2.2.2.2.2.2.1)]), (4, [.d (.int .u16 e.2.2.2.2.2.2.2.2.2.2.2.2.2.2.2.2.2.2.2.2.2.1), .d (.int .u16 e.2.2.2.2.2.2.2.2.2.2.2.2.2.2.2.2.2.2.2.2.2.2.1), .d (.int .u32 e.2.2.2.2.2.2.2.2.2.2.2.2.2.2.2.2.2.2.2.2.2.2.2.1), .d (.int .u32 e.2.2.2.2.2.2.2.2.2.2.2.2.2.2.2.2.2.2.2.2.2.2.2.2.1), .d (.int .u8 e.2.2.2.2.2.2.2.2.2.2.2.2.2.2.2.2.2.2.2.2.2.2.2.2.2.1), .own 5 (.pair (.int .u8) (.slice (.int .u8))) e.2.2.2.2.2.2.2.2.2.2.2.2.2.2.2.2.2.2.2.2.2.2.2.2.2.2.1, .row 6 (.int .u8)]), (6, [.run (.int .u8) e.2.2.2.2.2.2.2.2.2.2.2.2.2.2.2.2.2.2.2.2.2.2.2.2.2.2.2])], 7⟩ o
theorem f10_broughamlaw07_SegParts_L11_ok (n : Nat) : ∀ (l : List (Int × List Int)) (ok : Bool) (is_ : Bool) (i : Int) (s_0 : Int) (s_1 : Int) (s_2 : Int) (s_3 : Int) (s_4 : Int) (s_5 : List (Int × List Int)) (s_6 : List Int) (o__0 : Int) (o__1 : List Int) (p_0 : Int) (p_1 : List Int) (want_0 : Int) (want_1 : Int) (want_2 : Int) (want_3 : Int) (want_4 : Int) (want_5 : List (Int × List Int)) (want_6 : List Int) (c_0 : Int) (c_1 : Int) (c_2 : Int) (c_3 : Int) (c_4 : Int) (c_5 : List (Int × List Int)) (b6_0 : List Int) (w : (List (Int × List Int)) × Bool × Bool × Int × Int × Int × Int × Int × (List (Int × List Int)) × List Int × Int × List Int × Int × List Int × Int × Int × Int × Int × Int × (List (Int × List Int)) × List Int × Int × Int × Int × Int × Int × (List (Int × List Int)) × List Int) (h : f10_broughamlaw07_SegParts_L11 n l ok is_ i s_0 s_1 s_2 s_3 s_4 s_5 s_6 o__0 o__1 p_0 p_1 want_0 want_1 want_2 want_3 want_4 want_5 want_6 c_0 c_1 c_2 c_3 c_4 c_5 b6_0 = some w) (o : Out) (hk : f10_broughamlaw07_SegParts_L11_k w o), At Go.Proofs.Try.prog Go.Proofs.Try.f10 0 11 ⟨[(2, .one (.c (.d (.sl (.pair (.int .u8) (.slice (.int .u8))) l)))), (3, .one (.c (.ptr 0 0))), (7, .one (.c (.ptr 1 0))), (8, .one (.c (.d (.bool ok)))), (9, .one (.c (.ptr 2 0))), (10, .one (.c (.d (.bool is_)))), (11, .one (.c (.ptr 3 0))), (12, .one (.c (.ptr 4 0))), (13, .one (.c (.d (.int .i64 i))))], [(5, some ⟨30, 0⟩), (6, some ⟨5, 2⟩)], [(0, [.d (.int .u16 s_0), .d (.int .u16 s_1), .d (.int .u32 s_2), .d (.int .u32 s_3), .d (.int .u8 s_4), .d (.sl (.pair (.int .u8) (.slice (.int .u8))) s_5), .d (.sl (.int .u8) s_6)]), (1, [.d (.int .u8 o__0), .d (.sl (.int .u8) o__1)]), (2, [.d (.int .u8 p_0), .d (.sl (.int .u8) p_1)]), (3, [.d (.int .u16 want_0), .d (.int .u16 want_1), .d (.int .u32 want_2), .d (.int .u32 want_3), .d (.int .u8 want_4), .d (.sl (.pair (.int .u8) (.slice (.int .u8))) want_5), .d (.sl (.int .u8) want_6)]), (4, [.d (.int .u16 c_0), .d (.int .u16 c_1), .d (.int .u32 c_2), .d (.int .u32 c_3), .d (.int .u8 c_4), .own 5 (.pair (.int .u8) (.slice (.int .u8))) c_5, .row 6 (.int .u8)]), (6, [.run (.int .u8) b6_0])], 7⟩ o := by
  induction n with
  | zero => intro l ok is_ i s_0 s_1 s_2 s_3 s_4 s_5 s_6 o__0 o__1 p_0 p_1 want_0 want_1 want_2 want_3 want_4 want_5 want_6 c_0 c_1 c_2 c_3 c_4 c_5 b6_0 w h; rw [f10_broughamlaw07_SegParts_L11] at h; cases h
  | succ n ih =>
    intro l ok is_ i s_0 s_1 s_2 s_3 s_4 s_5 s_6 o__0 o__1 p_0 p_1 want_0 want_1 want_2 want_3 want_4 want_5 want_6 c_0 c_1 c_2 c_3 c_4 c_5 b6_0 w h o hk
    rw [f10_broughamlaw07_SegParts_L11] at h
    rcases iteS h with ⟨b85_e0, h⟩ | ⟨b85_e0, h⟩
    · refine At.step hm ht ⟨[], [true], [], [2, 3, 7, 8, 9, 10, 11, 12, 13], [0, 1, 2, 3, 4, 5, 6]⟩ 13 ⟨[(2, .one (.c (.d (.sl (.pair (.int .u8) (.slice (.int .u8))) l)))), (3, .one (.c (.ptr 0 0))), (7, .one (.c (.ptr 1 0))), (8, .one (.c (.d (.bool ok)))), (9, .one (.c (.ptr 2 0))), (10, .one (.c (.d (.bool is_)))), (11, .one (.c (.ptr 3 0))), (12, .one (.c (.ptr 4 0))), (13, .one (.c (.d (.int .i64 i))))], [(5, some ⟨30, 0⟩), (6, some ⟨5, 2⟩)], [(0, [.d (.int .u16 s_0), .d (.int .u16 s_1), .d (.int .u32 s_2), .d (.int .u32 s_3), .d (.int .u8 s_4), .d (.sl (.pair (.int .u8) (.slice (.int .u8))) s_5), .d (.sl (.int .u8) s_6)]), (1, [.d (.int .u8 o__0), .d (.sl (.int .u8) o__1)]), (2, [.d (.int .u8 p_0), .d (.sl (.int .u8) p_1)]), (3, [.d (.int .u16 want_0), .d (.int .u16 want_1), .d (.int .u32 want_2), .d (.int .u32 want_3), .d (.int .u8 want_4), .d (.sl (.pair (.int .u8) (.slice (.int .u8))) want_5), .d (.sl (.int .u8) want_6)]), (4, [.d (.int .u16 c_0), .d (.int .u16 c_1), .d (.int .u32 c_2), .d (.int .u32 c_3), .d (.int .u8 c_4), .own 5 (.pair (.int .u8) (.slice (.int .u8))) c_5, .row 6 (.int .u8)]), (6, [.run (.int .u8) b6_0])], 7⟩ [(decide ((i : Int) < ((b6_0.length : Nat) : Int))) = true] (by kernel_rfl) ⟨b85_e0, trivial⟩ ?_
      obtain ⟨g86_0, h⟩ := ifS h
      obtain ⟨g86_1, h⟩ := ifS h
      refine At.step hm ht ⟨[], [], [], [2, 3, 7, 8, 9, 10, 11, 12, 13], [0, 1, 2, 3, 4, 5, 6]⟩ 12 ⟨[(2, .one (.c (.d (.sl (.pair (.int .u8) (.slice (.int .u8))) l)))), (3, .one (.c (.ptr 0 0))), (7, .one (.c (.ptr 1 0))), (8, .one (.c (.d (.bool ok)))), (9, .one (.c (.ptr 2 0))), (10, .one (.c (.d (.bool is_)))), (11, .one (.c (.ptr 3 0))), (12, .one (.c (.ptr 4 0))), (13, .one (.c (.d (.int .i64 i))))], [(5, some ⟨30, 0⟩), (6, some ⟨5, 2⟩)], [(0, [.d (.int .u16 s_0), .d (.int .u16 s_1), .d (.int .u32 s_2), .d (.int .u32 s_3), .d (.int .u8 s_4), .d (.sl (.pair (.int .u8) (.slice (.int .u8))) s_5), .d (.sl (.int .u8) s_6)]), (1, [.d (.int .u8 o__0), .d (.sl (.int .u8) o__1)]), (2, [.d (.int .u8 p_0), .d (.sl (.int .u8) p_1)]), (3, [.d (.int .u16 want_0), .d (.int .u16 want_1), .d (.int .u32 want_2), .d (.int .u32 want_3), .d (.int .u8 want_4), .d (.sl (.pair (.int .u8) (.slice (.int .u8))) want_5), .d (.sl (.int .u8) want_6)]), (4, [.d (.int .u16 c_0), .d (.int .u16 c_1), .d (.int .u32 c_2), .d (.int .u32 c_3), .d (.int .u8 c_4), .own 5 (.pair (.int .u8) (.slice (.int .u8))) c_5, .row 6 (.int .u8)]), (6, [.run (.int .u8) (b6_0.set i.toNat (bits .xor .u8 (b6_0.getD i.toNat 0) 255))])], 7⟩ [(0 : Int) ≤ i ∧ i < (((b6_0).length : Nat) : Int), (0 : Int) ≤ i ∧ i < (((b6_0).length : Nat) : Int)] (by kernel_rfl) ⟨g86_0, g86_1, trivial⟩ ?_
      refine At.step hm ht ⟨[], [], [], [2, 3, 7, 8, 9, 10, 11, 12, 13], [0, 1, 2, 3, 4, 5, 6]⟩ 11 ⟨[(2, .one (.c (.d (.sl (.pair (.int .u8) (.slice (.int .u8))) l)))), (3, .one (.c (.ptr 0 0))), (7, .one (.c (.ptr 1 0))), (8, .one (.c (.d (.bool ok)))), (9, .one (.c (.ptr 2 0))), (10, .one (.c (.d (.bool is_)))), (11, .one (.c (.ptr 3 0))), (12, .one (.c (.ptr 4 0))), (13, .one (.c (.d (.int .i64 (IntKind.wrap .i64 (i + 1))))))], [(5, some ⟨30, 0⟩), (6, some ⟨5, 2⟩)], [(0, [.d (.int .u16 s_0), .d (.int .u16 s_1), .d (.int .u32 s_2), .d (.int .u32 s_3), .d (.int .u8 s_4), .d (.sl (.pair (.int .u8) (.slice (.int .u8))) s_5), .d (.sl (.int .u8) s_6)]), (1, [.d (.int .u8 o__0), .d (.sl (.int .u8) o__1)]), (2, [.d (.int .u8 p_0), .d (.sl (.int .u8) p_1)]), (3, [.d (.int .u16 want_0), .d (.int .u16 want_1), .d (.int .u32 want_2), .d (.int .u32 want_3), .d (.int .u8 want_4), .d (.sl (.pair (.int .u8) (.slice (.int .u8))) want_5), .d (.sl (.int .u8) want_6)]), (4, [.d (.int .u16 c_0), .d (.int .u16 c_1), .d (.int .u32 c_2), .d (.int .u32 c_3), .d (.int .u8 c_4), .own 5 (.pair (.int .u8) (.slice (.int .u8))) c_5, .row 6 (.int .u8)]), (6, [.run (.int .u8) (b6_0.set i.toNat (bits .xor .u8 (b6_0.getD i.toNat 0) 255))])], 7⟩ [] (by kernel_rfl) trivial ?_
      exact ih l ok is_ (IntKind.wrap .i64 (i + 1)) s_0 s_1 s_2 s_3 s_4 s_5 s_6 o__0 o__1 p_0 p_1 want_0 want_1 want_2 want_3 want_4 want_5 want_6 c_0 c_1 c_2 c_3 c_4 c_5 (b6_0.set i.toNat (bits .xor .u8 (b6_0.getD i.toNat 0) 255)) w h o hk
    · refine At.step hm ht ⟨[], [false], [], [2, 3, 7, 8, 9, 10, 11, 12], [0, 1, 2, 3, 4, 5, 6]⟩ 14 ⟨[(2, .one (.c (.d (.sl (.pair (.int .u8) (.slice (.int .u8))) l)))), (3, .one (.c (.ptr 0 0))), (7, .one (.c (.ptr 1 0))), (8, .one (.c (.d (.bool ok)))), (9, .one (.c (.ptr 2 0))), (10, .one (.c (.d (.bool is_)))), (11, .one (.c (.ptr 3 0))), (12, .one (.c (.ptr 4 0)))], [(5, some ⟨30, 0⟩), (6, some ⟨5, 2⟩)], [(0, [.d (.int .u16 s_0), .d (.int .u16 s_1), .d (.int .u32 s_2), .d (.int .u32 s_3), .d (.int .u8 s_4), .d (.sl (.pair (.int .u8) (.slice (.int .u8))) s_5), .d (.sl (.int .u8) s_6)]), (1, [.d (.int .u8 o__0), .d (.sl (.int .u8) o__1)]), (2, [.d (.int .u8 p_0), .d (.sl (.int .u8) p_1)]), (3, [.d (.int .u16 want_0), .d (.int .u16 want_1), .d (.int .u32 want_2), .d (.int .u32 want_3), .d (.int .u8 want_4), .d (.sl (.pair (.int .u8) (.slice (.int .u8))) want_5), .d (.sl (.int .u8) want_6)]), (4, [.d (.int .u16 c_0), .d (.int .u16 c_1), .d (.int .u32 c_2), .d (.int .u32 c_3), .d (.int .u8 c_4), .own 5 (.pair (.int .u8) (.slice (.int .u8))) c_5, .row 6 (.int .u8)]), (6, [.run (.int .u8) b6_0])], 7⟩ [(decide ((i : Int) < ((b6_0.length : Nat) : Int))) = false] (by kernel_rfl) ⟨b85_e0, trivial⟩ ?_
      have h := Option.some.inj h
      subst h
      exact hk
def f10_broughamlaw07_SegParts (n : Nat) (s_0 : Int) (s_1 : Int) (s_2 : Int) (s_3 : Int) (s_4 : Int) (s_5 : List (Int × List Int)) (s_6 : List Int) (kind : Int) (l : List (Int × List Int)) : Option (Bool) :=
  (f15_broughamlaw07_Great n s_0 s_1 s_2 s_3 s_4 s_5 s_6).bind fun r2_0 =>
  if r2_0 = true then
    some true
  else
    (f15_broughamlaw07_Great n 0 0 0 0 0 l []).bind fun r2_1 =>
    if r2_1 = true then
      some true
    else
      (f50_seg_First n s_0 s_1 s_2 s_3 s_4 s_5 s_6 kind).bind fun r18_0 =>
      (f51_broughamref07_First n s_0 s_1 s_2 s_3 s_4 s_5 s_6 kind).bind fun r30_0 =>
      (f52_seg_Copy n s_0 s_1 s_2 s_3 s_4 s_5 s_6).bind fun r43_0 =>
      (f49_broughamref07_Same n r43_0.1 r43_0.2.1 r43_0.2.2.1 r43_0.2.2.2.1 r43_0.2.2.2.2.1 r43_0.2.2.2.2.2.1 s_0 s_1 s_2 s_3 s_4 s_5 s_6 r43_0.2.2.2.2.2.2).bind fun r62_0 =>
      if (!r62_0.1) = true then
        some false
      else
        (f10_broughamlaw07_SegParts_L11 n l r18_0.1 r30_0.1 0 s_0 s_1 s_2 s_3 s_4 s_5 s_6 r18_0.2.1 r18_0.2.2 r30_0.2.1 r30_0.2.2 s_0 s_1 s_2 s_3 s_4 l s_6 r43_0.1 r43_0.2.1 r43_0.2.2.1 r43_0.2.2.2.1 r43_0.2.2.2.2.1 r43_0.2.2.2.2.2.1 r62_0.2).bind fun w88 =>
        (f52_seg_Copy n w88.2.2.2.1 w88.2.2.2.2.1 w88.2.2.2.2.2.1 w88.2.2.2.2.2.2.1 w88.2.2.2.2.2.2.2.1 w88.2.2.2.2.2.2.2.2.1 w88.2.2.2.2.2.2.2.2.2.1).bind fun r90_0 =>
        (f53_seg_Take w88.2.2.2.1 w88.2.2.2.2.1 w88.2.2.2.2.2.1 w88.2.2.2.2.2.2.1 w88.2.2.2.2.2.2.2.1 w88.2.2.2.2.2.2.2.2.1 w88.2.2.2.2.2.2.2.2.2.1).bind fun r91_0 =>
        (f54_broughamref07_Take w88.2.2.2.1 w88.2.2.2.2.1 w88.2.2.2.2.2.1 w88.2.2.2.2.2.2.1 w88.2.2.2.2.2.2.2.1 w88.2.2.2.2.2.2.2.2.1 w88.2.2.2.2.2.2.2.2.2.1).bind fun r91_1 =>
        if ((r91_0 : Int) == r91_1) = true then
          if (w88.2.1 == w88.2.2.1) = true then
            (f18_broughamref07_SameOption w88.2.2.2.2.2.2.2.2.2.2.1 w88.2.2.2.2.2.2.2.2.2.2.2.1 w88.2.2.2.2.2.2.2.2.2.2.2.2.1 w88.2.2.2.2.2.2.2.2.2.2.2.2.2.1).bind fun r91_2 =>
            if r91_2 = true then
              (f55_seg_Of w88.2.2.2.1 w88.2.2.2.2.1 w88.2.2.2.2.2.1 w88.2.2.2.2.2.2.1 w88.2.2.2.2.2.2.2.1 w88.2.2.2.2.2.2.2.2.1 w88.2.2.2.2.2.2.2.2.2.1 w88.1).bind fun r91_3 =>
              (f49_broughamref07_Same_v2 n r91_3.1 r91_3.2.1 r91_3.2.2.1 r91_3.2.2.2.1 r91_3.2.2.2.2.1 r91_3.2.2.2.2.2.1 r91_3.2.2.2.2.2.2 w88.2.2.2.2.2.2.2.2.2.2.2.2.2.2.1 w88.2.2.2.2.2.2.2.2.2.2.2.2.2.2.2.1 w88.2.2.2.2.2.2.2.2.2.2.2.2.2.2.2.2.1 w88.2.2.2.2.2.2.2.2.2.2.2.2.2.2.2.2.2.1 w88.2.2.2.2.2.2.2.2.2.2.2.2.2.2.2.2.2.2.1 w88.2.2.2.2.2.2.2.2.2.2.2.2.2.2.2.2.2.2.2.1 w88.2.2.2.2.2.2.2.2.2.2.2.2.2.2.2.2.2.2.2.2.1).bind fun r91_4 =>
              if r91_4 = true then
                (f49_broughamref07_Same n r90_0.1 r90_0.2.1 r90_0.2.2.1 r90_0.2.2.2.1 r90_0.2.2.2.2.1 r90_0.2.2.2.2.2.1 w88.2.2.2.1 w88.2.2.2.2.1 w88.2.2.2.2.2.1 w88.2.2.2.2.2.2.1 w88.2.2.2.2.2.2.2.1 w88.2.2.2.2.2.2.2.2.1 w88.2.2.2.2.2.2.2.2.2.1 r90_0.2.2.2.2.2.2).bind fun r91_5 =>
                if r91_5.1 = true then
                  if ((((w88.2.2.2.2.2.2.2.2.2.1.length : Nat) : Int) : Int) == 0) = true then
                    (f46_broughamlaw07_alive n).bind fun r91_6 =>
                    some r91_6
                  else
                    if (0 : Int) ≤ 0 ∧ 0 < (((w88.2.2.2.2.2.2.2.2.2.2.2.2.2.2.2.2.2.2.2.2.2.2.2.2.2.2.2).length : Nat) : Int) then
                    if (0 : Int) ≤ 0 ∧ 0 < (((w88.2.2.2.2.2.2.2.2.2.1).length : Nat) : Int) then
                    if (((w88.2.2.2.2.2.2.2.2.2.2.2.2.2.2.2.2.2.2.2.2.2.2.2.2.2.2.2.getD 0 0) : Int) != (w88.2.2.2.2.2.2.2.2.2.1.getD 0 0)) = true then
                      (f46_broughamlaw07_alive n).bind fun r91_8 =>
                      some r91_8
                    else
                      some false
                    else none
                    else none
                else
                  some false
              else
                some false
            else
              some false
          else
            some false
        else
          some false
theorem f10_broughamlaw07_SegParts_ok (n : Nat) (s_0 : Int) (s_1 : Int) (s_2 : Int) (s_3 : Int) (s_4 : Int) (s_5 : List (Int × List Int)) (s_6 : List Int) (kind : Int) (l : List (Int × List Int)) (r : Bool) (h : f10_broughamlaw07_SegParts n s_0 s_1 s_2 s_3 s_4 s_5 s_6 kind l = some r) : FnOK Go.Proofs.Try.prog 10 (f10_broughamlaw07_SegParts_in s_0 s_1 s_2 s_3 s_4 s_5 s_6 kind l) (f10_broughamlaw07_SegParts_out r) := by
  unfold f10_broughamlaw07_SegParts at h
  refine At.fn (r := 0) Go.Proofs.Try.func10 rfl (by kernel_rfl) rfl rfl (by kernel_rfl) ?_
  show At Go.Proofs.Try.prog Go.Proofs.Try.f10 0 0 ⟨[(0, .one (.agg [.d (.int .u16 s_0), .d (.int .u16 s_1), .d (.int .u32 s_2), .d (.int .u32 s_3), .d (.int .u8 s_4), .d (.sl (.pair (.int .u8) (.slice (.int .u8))) s_5), .d (.sl (.int .u8) s_6)])), (1, .one (.c (.d (.int .u8 kind)))), (2, .one (.c (.d (.sl (.pair (.int .u8) (.slice (.int .u8))) l))))], [], [], 0⟩ _
  refine At.step hm ht ⟨[], [], [], [1, 2, 3], [0]⟩ 1 ⟨[(1, .one (.c (.d (.int .u8 kind)))), (2, .one (.c (.d (.sl (.pair (.int .u8) (.slice (.int .u8))) l)))), (3, .one (.c (.ptr 0 0)))], [], [(0, [.d (.int .u16 s_0), .d (.int .u16 s_1), .d (.int .u32 s_2), .d (.int .u32 s_3), .d (.int .u8 s_4), .d (.sl (.pair (.int .u8) (.slice (.int .u8))) s_5), .d (.sl (.int .u8) s_6)])], 1⟩ [] (by kernel_rfl) trivial ?_
  obtain ⟨r2_0, cr2_0, h⟩ := bindS h
  rcases iteS h with ⟨b2_2, h⟩ | ⟨b2_2, h⟩
  · refine At.step hm ht ⟨[(1, .call [] [] (f15_broughamlaw07_Great_out r2_0)), (2, .b true)], [true], [], [], []⟩ 2 ⟨[], [], [], 0⟩ [FnOK Go.Proofs.Try.prog 15 (f15_broughamlaw07_Great_in s_0 s_1 s_2 s_3 s_4 s_5 s_6) (f15_broughamlaw07_Great_out r2_0), r2_0 = true, true = true] (by kernel_rfl) ⟨(f15_broughamlaw07_Great_ok n s_0 s_1 s_2 s_3 s_4 s_5 s_6 r2_0 cr2_0), b2_2, rfl, trivial⟩ ?_
    have h := Option.some.inj h
    subst h
    exact At.fin hm ht ⟨[], [], [], [6], []⟩ [] (by kernel_rfl) trivial
  · obtain ⟨r2_1, cr2_1, h⟩ := bindS h
    rcases iteS h with ⟨b2_e0, h⟩ | ⟨b2_e0, h⟩
    · refine At.step hm ht ⟨[(1, .call [] [] (f15_broughamlaw07_Great_out r2_0)), (2, .b false), (5, .call [] [(0, 6, (.int .u8))] (f15_broughamlaw07_Great_out r2_1))], [true], [], [], []⟩ 2 ⟨[], [], [], 0⟩ [FnOK Go.Proofs.Try.prog 15 (f15_broughamlaw07_Great_in s_0 s_1 s_2 s_3 s_4 s_5 s_6) (f15_broughamlaw07_Great_out r2_0), r2_0 = false, FnOK Go.Proofs.Try.prog 15 (f15_broughamlaw07_Great_in 0 0 0 0 0 l []) (f15_broughamlaw07_Great_out r2_1), r2_1 = true] (by kernel_rfl) ⟨(f15_broughamlaw07_Great_ok n s_0 s_1 s_2 s_3 s_4 s_5 s_6 r2_0 cr2_0), b2_2, (f15_broughamlaw07_Great_ok n 0 0 0 0 0 l [] r2_1 cr2_1), b2_e0, trivial⟩ ?_
      have h := Option.some.inj h
      subst h
      exact At.fin hm ht ⟨[], [], [], [6], []⟩ [] (by kernel_rfl) trivial
    · refine At.step hm ht ⟨[(1, .call [] [] (f15_broughamlaw07_Great_out r2_0)), (2, .b false), (5, .call [] [(0, 6, (.int .u8))] (f15_broughamlaw07_Great_out r2_1))], [false], [], [1, 2, 3], [0]⟩ 3 ⟨[(1, .one (.c (.d (.int .u8 kind)))), (2, .one (.c (.d (.sl (.pair (.int .u8) (.slice (.int .u8))) l)))), (3, .one (.c (.ptr 0 0)))], [], [(0, [.d (.int .u16 s_0), .d (.int .u16 s_1), .d (.int .u32 s_2), .d (.int .u32 s_3), .d (.int .u8 s_4), .d (.sl (.pair (.int .u8) (.slice (.int .u8))) s_5), .d (.sl (.int .u8) s_6)])], 1⟩ [FnOK Go.Proofs.Try.prog 15 (f15_broughamlaw07_Great_in s_0 s_1 s_2 s_3 s_4 s_5 s_6) (f15_broughamlaw07_Great_out r2_0), r2_0 = false, FnOK Go.Proofs.Try.prog 15 (f15_broughamlaw07_Great_in 0 0 0 0 0 l []) (f15_broughamlaw07_Great_out r2_1), r2_1 = false] (by kernel_rfl) ⟨(f15_broughamlaw07_Great_ok n s_0 s_1 s_2 s_3 s_4 s_5 s_6 r2_0 cr2_0), b2_2, (f15_broughamlaw07_Great_ok n 0 0 0 0 0 l [] r2_1 cr2_1), b2_e0, trivial⟩ ?_
      obtain ⟨r18_0, cr18_0, h⟩ := bindS h
      refine At.step hm ht ⟨[(2, .call [] [] (f50_seg_First_out r18_0))], [], [], [1, 2, 3, 7, 8], [0, 7]⟩ 4 ⟨[(1, .one (.c (.d (.int .u8 kind)))), (2, .one (.c (.d (.sl (.pair (.int .u8) (.slice (.int .u8))) l)))), (3, .one (.c (.ptr 0 0))), (7, .one (.c (.ptr 1 0))), (8, .one (.c (.d (.bool r18_0.1))))], [], [(0, [.d (.int .u16 s_0), .d (.int .u16 s_1), .d (.int .u32 s_2), .d (.int .u32 s_3), .d (.int .u8 s_4), .d (.sl (.pair (.int .u8) (.slice (.int .u8))) s_5), .d (.sl (.int .u8) s_6)]), (1, [.d (.int .u8 r18_0.2.1), .d (.sl (.int .u8) r18_0.2.2)])], 2⟩ [FnOK Go.Proofs.Try.prog 50 (f50_seg_First_in s_0 s_1 s_2 s_3 s_4 s_5 s_6 kind) (f50_seg_First_out r18_0), 0 + 2 ≤ 2] (by kernel_rfl) ⟨(f50_seg_First_ok n s_0 s_1 s_2 s_3 s_4 s_5 s_6 kind r18_0 cr18_0), (by decide), trivial⟩ ?_
      obtain ⟨r30_0, cr30_0, h⟩ := bindS h
      refine At.step hm ht ⟨[(2, .call [] [] (f51_broughamref07_First_out r30_0))], [], [], [2, 3, 7, 8, 9, 10], [0, 1, 8]⟩ 5 ⟨[(2, .one (.c (.d (.sl (.pair (.int .u8) (.slice (.int .u8))) l)))), (3, .one (.c (.ptr 0 0))), (7, .one (.c (.ptr 1 0))), (8, .one (.c (.d (.bool r18_0.1)))), (9, .one (.c (.ptr 2 0))), (10, .one (.c (.d (.bool r30_0.1))))], [], [(0, [.d (.int .u16 s_0), .d (.int .u16 s_1), .d (.int .u32 s_2), .d (.int .u32 s_3), .d (.int .u8 s_4), .d (.sl (.pair (.int .u8) (.slice (.int .u8))) s_5), .d (.sl (.int .u8) s_6)]), (1, [.d (.int .u8 r18_0.2.1), .d (.sl (.int .u8) r18_0.2.2)]), (2, [.d (.int .u8 r30_0.2.1), .d (.sl (.int .u8) r30_0.2.2)])], 3⟩ [FnOK Go.Proofs.Try.prog 51 (f51_broughamref07_First_in s_0 s_1 s_2 s_3 s_4 s_5 s_6 kind) (f51_broughamref07_First_out r30_0), 0 + 2 ≤ 2] (by kernel_rfl) ⟨(f51_broughamref07_First_ok n s_0 s_1 s_2 s_3 s_4 s_5 s_6 kind r30_0 cr30_0), (by decide), trivial⟩ ?_
      refine At.step hm ht ⟨[], [], [], [2, 3, 7, 8, 9, 10, 11], [0, 1, 2, 4]⟩ 6 ⟨[(2, .one (.c (.d (.sl (.pair (.int .u8) (.slice (.int .u8))) l)))), (3, .one (.c (.ptr 0 0))), (7, .one (.c (.ptr 1 0))), (8, .one (.c (.d (.bool r18_0.1)))), (9, .one (.c (.ptr 2 0))), (10, .one (.c (.d (.bool r30_0.1)))), (11, .one (.c (.ptr 3 0)))], [], [(0, [.d (.int .u16 s_0), .d (.int .u16 s_1), .d (.int .u32 s_2), .d (.int .u32 s_3), .d (.int .u8 s_4), .d (.sl (.pair (.int .u8) (.slice (.int .u8))) s_5), .d (.sl (.int .u8) s_6)]), (1, [.d (.int .u8 r18_0.2.1), .d (.sl (.int .u8) r18_0.2.2)]), (2, [.d (.int .u8 r30_0.2.1), .d (.sl (.int .u8) r30_0.2.2)]), (3, [.d (.int .u16 s_0), .d (.int .u16 s_1), .d (.int .u32 s_2), .d (.int .u32 s_3), .d (.int .u8 s_4), .d (.sl (.pair (.int .u8) (.slice (.int .u8))) s_5), .d (.sl (.int .u8) s_6)])], 4⟩ [0 + 7 ≤ 7] (by kernel_rfl) ⟨(by decide), trivial⟩ ?_
      refine At.step hm ht ⟨[], [], [], [2, 3, 7, 8, 9, 10, 11], [0, 1, 2, 3]⟩ 7 ⟨[(2, .one (.c (.d (.sl (.pair (.int .u8) (.slice (.int .u8))) l)))), (3, .one (.c (.ptr 0 0))), (7, .one (.c (.ptr 1 0))), (8, .one (.c (.d (.bool r18_0.1)))), (9, .one (.c (.ptr 2 0))), (10, .one (.c (.d (.bool r30_0.1)))), (11, .one (.c (.ptr 3 0)))], [], [(0, [.d (.int .u16 s_0), .d (.int .u16 s_1), .d (.int .u32 s_2), .d (.int .u32 s_3), .d (.int .u8 s_4), .d (.sl (.pair (.int .u8) (.slice (.int .u8))) s_5), .d (.sl (.int .u8) s_6)]), (1, [.d (.int .u8 r18_0.2.1), .d (.sl (.int .u8) r18_0.2.2)]), (2, [.d (.int .u8 r30_0.2.1), .d (.sl (.int .u8) r30_0.2.2)]), (3, [.d (.int .u16 s_0), .d (.int .u16 s_1), .d (.int .u32 s_2), .d (.int .u32 s_3), .d (.int .u8 s_4), .d (.sl (.pair (.int .u8) (.slice (.int .u8))) l), .d (.sl (.int .u8) s_6)])], 4⟩ [5 + 1 ≤ 7] (by kernel_rfl) ⟨(by decide), trivial⟩ ?_
      obtain ⟨r43_0, cr43_0, h⟩ := bindS h
      refine At.step hm ht ⟨[(1, .call [] [] (f52_seg_Copy_out r43_0))], [], [], [2, 3, 7, 8, 9, 10, 11, 12], [0, 1, 2, 3, 8, 6, 7]⟩ 8 ⟨[(2, .one (.c (.d (.sl (.pair (.int .u8) (.slice (.int .u8))) l)))), (3, .one (.c (.ptr 0 0))), (7, .one (.c (.ptr 1 0))), (8, .one (.c (.d (.bool r18_0.1)))), (9, .one (.c (.ptr 2 0))), (10, .one (.c (.d (.bool r30_0.1)))), (11, .one (.c (.ptr 3 0))), (12, .one (.c (.ptr 4 0)))], [(5, some ⟨30, 0⟩), (6, some ⟨5, 2⟩)], [(0, [.d (.int .u16 s_0), .d (.int .u16 s_1), .d (.int .u32 s_2), .d (.int .u32 s_3), .d (.int .u8 s_4), .d (.sl (.pair (.int .u8) (.slice (.int .u8))) s_5), .d (.sl (.int .u8) s_6)]), (1, [.d (.int .u8 r18_0.2.1), .d (.sl (.int .u8) r18_0.2.2)]), (2, [.d (.int .u8 r30_0.2.1), .d (.sl (.int .u8) r30_0.2.2)]), (3, [.d (.int .u16 s_0), .d (.int .u16 s_1), .d (.int .u32 s_2), .d (.int .u32 s_3), .d (.int .u8 s_4), .d (.sl (.pair (.int .u8) (.slice (.int .u8))) l), .d (.sl (.int .u8) s_6)]), (4, [.d (.int .u16 r43_0.1), .d (.int .u16 r43_0.2.1), .d (.int .u32 r43_0.2.2.1), .d (.int .u32 r43_0.2.2.2.1), .d (.int .u8 r43_0.2.2.2.2.1), .own 5 (.pair (.int .u8) (.slice (.int .u8))) r43_0.2.2.2.2.2.1, .row 6 (.int .u8)]), (6, [.run (.int .u8) r43_0.2.2.2.2.2.2])], 7⟩ [FnOK Go.Proofs.Try.prog 52 (f52_seg_Copy_in s_0 s_1 s_2 s_3 s_4 s_5 s_6) (f52_seg_Copy_out r43_0), 0 + 7 ≤ 7] (by kernel_rfl) ⟨(f52_seg_Copy_ok n s_0 s_1 s_2 s_3 s_4 s_5 s_6 r43_0 cr43_0), (by decide), trivial⟩ ?_
      obtain ⟨r62_0, cr62_0, h⟩ := bindS h
      rcases iteS h with ⟨b62_e0, h⟩ | ⟨b62_e0, h⟩
      · refine At.step hm ht ⟨[(2, .call [6] [] (f49_broughamref07_Same_out r62_0))], [true], [], [], []⟩ 9 ⟨[], [], [], 0⟩ [FnOK Go.Proofs.Try.prog 49 (f49_broughamref07_Same_in r43_0.1 r43_0.2.1 r43_0.2.2.1 r43_0.2.2.2.1 r43_0.2.2.2.2.1 r43_0.2.2.2.2.2.1 s_0 s_1 s_2 s_3 s_4 s_5 s_6 r43_0.2.2.2.2.2.2) (f49_broughamref07_Same_out r62_0), (!r62_0.1) = true] (by kernel_rfl) ⟨(f49_broughamref07_Same_ok n r43_0.1 r43_0.2.1 r43_0.2.2.1 r43_0.2.2.2.1 r43_0.2.2.2.2.1 r43_0.2.2.2.2.2.1 s_0 s_1 s_2 s_3 s_4 s_5 s_6 r43_0.2.2.2.2.2.2 r62_0 cr62_0), b62_e0, trivial⟩ ?_
        have h := Option.some.inj h
        subst h
        exact At.fin hm ht ⟨[], [], [], [6], []⟩ [] (by kernel_rfl) trivial
      · refine At.step hm ht ⟨[(2, .call [6] [] (f49_broughamref07_Same_out r62_0))], [false], [], [2, 3, 7, 8, 9, 10, 11, 12], [0, 1, 2, 3, 4, 5, 6]⟩ 10 ⟨[(2, .one (.c (.d (.sl (.pair (.int .u8) (.slice (.int .u8))) l)))), (3, .one (.c (.ptr 0 0))), (7, .one (.c (.ptr 1 0))), (8, .one (.c (.d (.bool r18_0.1)))), (9, .one (.c (.ptr 2 0))), (10, .one (.c (.d (.bool r30_0.1)))), (11, .one (.c (.ptr 3 0))), (12, .one (.c (.ptr 4 0)))], [(5, some ⟨30, 0⟩), (6, some ⟨5, 2⟩)], [(0, [.d (.int .u16 s_0), .d (.int .u16 s_1), .d (.int .u32 s_2), .d (.int .u32 s_3), .d (.int .u8 s_4), .d (.sl (.pair (.int .u8) (.slice (.int .u8))) s_5), .d (.sl (.int .u8) s_6)]), (1, [.d (.int .u8 r18_0.2.1), .d (.sl (.int .u8) r18_0.2.2)]), (2, [.d (.int .u8 r30_0.2.1), .d (.sl (.int .u8) r30_0.2.2)]), (3, [.d (.int .u16 s_0), .d (.int .u16 s_1), .d (.int .u32 s_2), .d (.int .u32 s_3), .d (.int .u8 s_4), .d (.sl (.pair (.int .u8) (.slice (.int .u8))) l), .d (.sl (.int .u8) s_6)]), (4, [.d (.int .u16 r43_0.1), .d (.int .u16 r43_0.2.1), .d (.int .u32 r43_0.2.2.1), .d (.int .u32 r43_0.2.2.2.1), .d (.int .u8 r43_0.2.2.2.2.1), .own 5 (.pair (.int .u8) (.slice (.int .u8))) r43_0.2.2.2.2.2.1, .row 6 (.int .u8)]), (6, [.run (.int .u8) r62_0.2])], 7⟩ [FnOK Go.Proofs.Try.prog 49 (f49_broughamref07_Same_in r43_0.1 r43_0.2.1 r43_0.2.2.1 r43_0.2.2.2.1 r43_0.2.2.2.2.1 r43_0.2.2.2.2.2.1 s_0 s_1 s_2 s_3 s_4 s_5 s_6 r43_0.2.2.2.2.2.2) (f49_broughamref07_Same_out r62_0), (!r62_0.1) = false] (by kernel_rfl) ⟨(f49_broughamref07_Same_ok n r43_0.1 r43_0.2.1 r43_0.2.2.1 r43_0.2.2.2.1 r43_0.2.2.2.2.1 r43_0.2.2.2.2.2.1 s_0 s_1 s_2 s_3 s_4 s_5 s_6 r43_0.2.2.2.2.2.2 r62_0 cr62_0), b62_e0, trivial⟩ ?_
        refine At.step hm ht ⟨[], [], [], [2, 3, 7, 8, 9, 10, 11, 12, 13], [0, 1, 2, 3, 4, 5, 6]⟩ 11 ⟨[(2, .one (.c (.d (.sl (.pair (.int .u8) (.slice (.int .u8))) l)))), (3, .one (.c (.ptr 0 0))), (7, .one (.c (.ptr 1 0))), (8, .one (.c (.d (.bool r18_0.1)))), (9, .one (.c (.ptr 2 0))), (10, .one (.c (.d (.bool r30_0.1)))), (11, .one (.c (.ptr 3 0))), (12, .one (.c (.ptr 4 0))), (13, .one (.c (.d (.int .i64 0))))], [(5, some ⟨30, 0⟩), (6, some ⟨5, 2⟩)], [(0, [.d (.int .u16 s_0), .d (.int .u16 s_1), .d (.int .u32 s_2), .d (.int .u32 s_3), .d (.int .u8 s_4), .d (.sl (.pair (.int .u8) (.slice (.int .u8))) s_5), .d (.sl (.int .u8) s_6)]), (1, [.d (.int .u8 r18_0.2.1), .d (.sl (.int .u8) r18_0.2.2)]), (2, [.d (.int .u8 r30_0.2.1), .d (.sl (.int .u8) r30_0.2.2)]), (3, [.d (.int .u16 s_0), .d (.int .u16 s_1), .d (.int .u32 s_2), .d (.int .u32 s_3), .d (.int .u8 s_4), .d (.sl (.pair (.int .u8) (.slice (.int .u8))) l), .d (.sl (.int .u8) s_6)]), (4, [.d (.int .u16 r43_0.1), .d (.int .u16 r43_0.2.1), .d (.int .u32 r43_0.2.2.1), .d (.int .u32 r43_0.2.2.2.1), .d (.int .u8 r43_0.2.2.2.2.1), .own 5 (.pair (.int .u8) (.slice (.int .u8))) r43_0.2.2.2.2.2.1, .row 6 (.int .u8)]), (6, [.run (.int .u8) r62_0.2])], 7⟩ [] (by kernel_rfl) trivial ?_
        obtain ⟨w88, cw88, h⟩ := bindS h
        refine f10_broughamlaw07_SegParts_L11_ok n l r18_0.1 r30_0.1 0 s_0 s_1 s_2 s_3 s_4 s_5 s_6 r18_0.2.1 r18_0.2.2 r30_0.2.1 r30_0.2.2 s_0 s_1 s_2 s_3 s_4 l s_6 r43_0.1 r43_0.2.1 r43_0.2.2.1 r43_0.2.2.2.1 r43_0.2.2.2.2.1 r43_0.2.2.2.2.2.1 r62_0.2 w88 cw88 _ ?_
        show At Go.Proofs.Try.prog Go.Proofs.Try.f10 0 14 ⟨[(2, .one (.c (.d (.sl (.pair (.int .u8) (.slice (.int .u8))) w88.1)))), (3, .one (.c (.ptr 0 0))), (7, .one (.c (.ptr 1 0))), (8, .one (.c (.d (.bool w88.2.1)))), (9, .one (.c (.ptr 2 0))), (10, .one (.c (.d (.bool w88.2.2.1)))), (11, .one (.c (.ptr 3 0))), (12, .one (.c (.ptr 4 0)))], [(5, some ⟨30, 0⟩), (6, some ⟨5, 2⟩)], [(0, [.d (.int .u16 w88.2.2.2.1), .d (.int .u16 w88.2.2.2.2.1), .d (.int .u32 w88.2.2.2.2.2.1), .d (.int .u32 w88.2.2.2.2.2.2.1), .d (.int .u8 w88.2.2.2.2.2.2.2.1), .d (.sl (.pair (.int .u8) (.slice (.int .u8))) w88.2.2.2.2.2.2.2.2.1), .d (.sl (.int .u8) w88.2.2.2.2.2.2.2.2.2.1)]), (1, [.d (.int .u8 w88.2.2.2.2.2.2.2.2.2.2.1), .d (.sl (.int .u8) w88.2.2.2.2.2.2.2.2.2.2.2.1)]), (2, [.d (.int .u8 w88.2.2.2.2.2.2.2.2.2.2.2.2.1), .d (.sl (.int .u8) w88.2.2.2.2.2.2.2.2.2.2.2.2.2.1)]), (3, [.d (.int .u16 w88.2.2.2.2.2.2.2.2.2.2.2.2.2.2.1), .d (.int .u16 w88.2.2.2.2.2.2.2.2.2.2.2.2.2.2.2.1), .d (.int .u32 w88.2.2.2.2.2.2.2.2.2.2.2.2.2.2.2.2.1), .d (.int .u32 w88.2.2.2.2.2.2.2.2.2.2.2.2.2.2.2.2.2.1), .d (.int .u8 w88.2.2.2.2.2.2.2.2.2.2.2.2.2.2.2.2.2.2.1), .d (.sl (.pair (.int .u8) (.slice (.int .u8))) w88.2.2.2.2.2.2.2.2.2.2.2.2.2.2.2.2.2.2.2.1), .d (.sl (.int .u8) w88.2.2.2.2.2.2.2.2.2.2.2.2.2.2.2.2.2.2.2.2.1)]), (4, [.d (.int .u16 w88.2.2.2.2.2.2.2.2.2.2.2.2.2.2.2.2.2.2.2.2.2.1), .d (.int .u16 w88.2.2.2.2.2.2.2.2.2.2.2.2.2.2.2.2.2.2.2.2.2.2.1), .d (.int .u32 w88.2.2.2.2.2.2.2.2.2.2.2.2.2.2.2.2.2.2.2.2.2.2.2.1), .d (.int .u32 w88.2.2.2.2.2.2.2.2.2.2.2.2.2.2.2.2.2.2.2.2.2.2.2.2.1), .d (.int .u8 w88.2.2.2.2.2.2.2.2.2.2.2.2.2.2.2.2.2.2.2.2.2.2.2.2.2.1), .own 5 (.pair (.int .u8) (.slice (.int .u8))) w88.2.2.2.2.2.2.2.2.2.2.2.2.2.2.2.2.2.2.2.2.2.2.2.2.2.2.1, .row 6 (.int .u8)]), (6, [.run (.int .u8) w88.2.2.2.2.2.2.2.2.2.2.2.2.2.2.2.2.2.2.2.2.2.2.2.2.2.2.2])], 7⟩ _
        obtain ⟨r90_0, cr90_0, h⟩ := bindS h
        refine At.step hm ht ⟨[(1, .call [] [] (f52_seg_Copy_out r90_0))], [], [], [2, 3, 7, 8, 9, 10, 11, 12, 14], [0, 1, 2, 3, 4, 11, 5, 6, 9, 10]⟩ 15 ⟨[(2, .one (.c (.d (.sl (.pair (.int .u8) (.slice (.int .u8))) w88.1)))), (3, .one (.c (.ptr 0 0))), (7, .one (.c (.ptr 1 0))), (8, .one (.c (.d (.bool w88.2.1)))), (9, .one (.c (.ptr 2 0))), (10, .one (.c (.d (.bool w88.2.2.1)))), (11, .one (.c (.ptr 3 0))), (12, .one (.c (.ptr 4 0))), (14, .one (.c (.ptr 5 0)))], [(6, some ⟨30, 0⟩), (7, some ⟨5, 2⟩), (8, some ⟨30, 0⟩), (9, some ⟨5, 2⟩)], [(0, [.d (.int .u16 w88.2.2.2.1), .d (.int .u16 w88.2.2.2.2.1), .d (.int .u32 w88.2.2.2.2.2.1), .d (.int .u32 w88.2.2.2.2.2.2.1), .d (.int .u8 w88.2.2.2.2.2.2.2.1), .d (.sl (.pair (.int .u8) (.slice (.int .u8))) w88.2.2.2.2.2.2.2.2.1), .d (.sl (.int .u8) w88.2.2.2.2.2.2.2.2.2.1)]), (1, [.d (.int .u8 w88.2.2.2.2.2.2.2.2.2.2.1), .d (.sl (.int .u8) w88.2.2.2.2.2.2.2.2.2.2.2.1)]), (2, [.d (.int .u8 w88.2.2.2.2.2.2.2.2.2.2.2.2.1), .d (.sl (.int .u8) w88.2.2.2.2.2.2.2.2.2.2.2.2.2.1)]), (3, [.d (.int .u16 w88.2.2.2.2.2.2.2.2.2.2.2.2.2.2.1), .d (.int .u16 w88.2.2.2.2.2.2.2.2.2.2.2.2.2.2.2.1), .d (.int .u32 w88.2.2.2.2.2.2.2.2.2.2.2.2.2.2.2.2.1), .d (.int .u32 w88.2.2.2.2.2.2.2.2.2.2.2.2.2.2.2.2.2.1), .d (.int .u8 w88.2.2.2.2.2.2.2.2.2.2.2.2.2.2.2.2.2.2.1), .d (.sl (.pair (.int .u8) (.slice (.int .u8))) w88.2.2.2.2.2.2.2.2.2.2.2.2.2.2.2.2.2.2.2.1), .d (.sl (.int .u8) w88.2.2.2.2.2.2.2.2.2.2.2.2.2.2.2.2.2.2.2.2.1)]), (4, [.d (.int .u16 w88.2.2.2.2.2.2.2.2.2.2.2.2.2.2.2.2.2.2.2.2.2.1), .d (.int .u16 w88.2.2.2.2.2.2.2.2.2.2.2.2.2.2.2.2.2.2.2.2.2.2.1), .d (.int .u32 w88.2.2.2.2.2.2.2.2.2.2.2.2.2.2.2.2.2.2.2.2.2.2.2.1), .d (.int .u32 w88.2.2.2.2.2.2.2.2.2.2.2.2.2.2.2.2.2.2.2.2.2.2.2.2.1), .d (.int .u8 w88.2.2.2.2.2.2.2.2.2.2.2.2.2.2.2.2.2.2.2.2.2.2.2.2.2.1), .own 6 (.pair (.int .u8) (.slice (.int .u8))) w88.2.2.2.2.2.2.2.2.2.2.2.2.2.2.2.2.2.2.2.2.2.2.2.2.2.2.1, .row 7 (.int .u8)]), (5, [.d (.int .u16 r90_0.1), .d (.int .u16 r90_0.2.1), .d (.int .u32 r90_0.2.2.1), .d (.int .u32 r90_0.2.2.2.1), .d (.int .u8 r90_0.2.2.2.2.1), .own 8 (.pair (.int .u8) (.slice (.int .u8))) r90_0.2.2.2.2.2.1, .row 9 (.int .u8)]), (7, [.run (.int .u8) w88.2.2.2.2.2.2.2.2.2.2.2.2.2.2.2.2.2.2.2.2.2.2.2.2.2.2.2]), (9, [.run (.int .u8) r90_0.2.2.2.2.2.2])], 10⟩ [FnOK Go.Proofs.Try.prog 52 (f52_seg_Copy_in w88.2.2.2.1 w88.2.2.2.2.1 w88.2.2.2.2.2.1 w88.2.2.2.2.2.2.1 w88.2.2.2.2.2.2.2.1 w88.2.2.2.2.2.2.2.2.1 w88.2.2.2.2.2.2.2.2.2.1) (f52_seg_Copy_out r90_0), 0 + 7 ≤ 7] (by kernel_rfl) ⟨(f52_seg_Copy_ok n w88.2.2.2.1 w88.2.2.2.2.1 w88.2.2.2.2.2.1 w88.2.2.2.2.2.2.1 w88.2.2.2.2.2.2.2.1 w88.2.2.2.2.2.2.2.2.1 w88.2.2.2.2.2.2.2.2.2.1 r90_0 cr90_0), (by decide), trivial⟩ ?_
        obtain ⟨r91_0, cr91_0, h⟩ := bindS h
        obtain ⟨r91_1, cr91_1, h⟩ := bindS h
        rcases iteS h with ⟨b91_5, h⟩ | ⟨b91_5, h⟩
        · rcases iteS h with ⟨b91_10, h⟩ | ⟨b91_10, h⟩
          · obtain ⟨r91_2, cr91_2, h⟩ := bindS h
            rcases iteS h with ⟨b91_15, h⟩ | ⟨b91_15, h⟩
            · obtain ⟨r91_3, cr91_3, h⟩ := bindS h
              obtain ⟨r91_4, cr91_4, h⟩ := bindS h
              rcases iteS h with ⟨b91_22, h⟩ | ⟨b91_22, h⟩
              · obtain ⟨r91_5, cr91_5, h⟩ := bindS h
                rcases iteS h with ⟨b91_27, h⟩ | ⟨b91_27, h⟩
                · rcases iteS h with ⟨b91_32, h⟩ | ⟨b91_32, h⟩
                  · obtain ⟨r91_6, cr91_6, h⟩ := bindS h
                    have h := Option.some.inj h
                    subst h
                    exact At.fin hm ht ⟨[(1, .call [] [] (f53_seg_Take_out r91_0)), (3, .call [] [] (f54_broughamref07_Take_out r91_1)), (5, .b true), (10, .b true), (13, .call [] [] (f18_broughamref07_SameOption_out r91_2)), (15, .b true), (18, .call [] [] (f55_seg_Of_out r91_3)), (20, .call [] [] (f49_broughamref07_Same_v2_out r91_4)), (22, .b true), (25, .call [9] [] (f49_broughamref07_Same_out r91_5)), (27, .b true), (32, .b true), (45, .call [] [] (f46_broughamlaw07_alive_out r91_6))], [], [], [6], []⟩ [FnOK Go.Proofs.Try.prog 53 (f53_seg_Take_in w88.2.2.2.1 w88.2.2.2.2.1 w88.2.2.2.2.2.1 w88.2.2.2.2.2.2.1 w88.2.2.2.2.2.2.2.1 w88.2.2.2.2.2.2.2.2.1 w88.2.2.2.2.2.2.2.2.2.1) (f53_seg_Take_out r91_0), FnOK Go.Proofs.Try.prog 54 (f54_broughamref07_Take_in w88.2.2.2.1 w88.2.2.2.2.1 w88.2.2.2.2.2.1 w88.2.2.2.2.2.2.1 w88.2.2.2.2.2.2.2.1 w88.2.2.2.2.2.2.2.2.1 w88.2.2.2.2.2.2.2.2.2.1) (f54_broughamref07_Take_out r91_1), ((r91_0 : Int) == r91_1) = true, (w88.2.1 == w88.2.2.1) = true, FnOK Go.Proofs.Try.prog 18 (f18_broughamref07_SameOption_in w88.2.2.2.2.2.2.2.2.2.2.1 w88.2.2.2.2.2.2.2.2.2.2.2.1 w88.2.2.2.2.2.2.2.2.2.2.2.2.1 w88.2.2.2.2.2.2.2.2.2.2.2.2.2.1) (f18_broughamref07_SameOption_out r91_2), r91_2 = true, FnOK Go.Proofs.Try.prog 55 (f55_seg_Of_in w88.2.2.2.1 w88.2.2.2.2.1 w88.2.2.2.2.2.1 w88.2.2.2.2.2.2.1 w88.2.2.2.2.2.2.2.1 w88.2.2.2.2.2.2.2.2.1 w88.2.2.2.2.2.2.2.2.2.1 w88.1) (f55_seg_Of_out r91_3), FnOK Go.Proofs.Try.prog 49 (f49_broughamref07_Same_v2_in r91_3.1 r91_3.2.1 r91_3.2.2.1 r91_3.2.2.2.1 r91_3.2.2.2.2.1 r91_3.2.2.2.2.2.1 r91_3.2.2.2.2.2.2 w88.2.2.2.2.2.2.2.2.2.2.2.2.2.2.1 w88.2.2.2.2.2.2.2.2.2.2.2.2.2.2.2.1 w88.2.2.2.2.2.2.2.2.2.2.2.2.2.2.2.2.1 w88.2.2.2.2.2.2.2.2.2.2.2.2.2.2.2.2.2.1 w88.2.2.2.2.2.2.2.2.2.2.2.2.2.2.2.2.2.2.1 w88.2.2.2.2.2.2.2.2.2.2.2.2.2.2.2.2.2.2.2.1 w88.2.2.2.2.2.2.2.2.2.2.2.2.2.2.2.2.2.2.2.2.1) (f49_broughamref07_Same_v2_out r91_4), r91_4 = true, FnOK Go.Proofs.Try.prog 49 (f49_broughamref07_Same_in r90_0.1 r90_0.2.1 r90_0.2.2.1 r90_0.2.2.2.1 r90_0.2.2.2.2.1 r90_0.2.2.2.2.2.1 w88.2.2.2.1 w88.2.2.2.2.1 w88.2.2.2.2.2.1 w88.2.2.2.2.2.2.1 w88.2.2.2.2.2.2.2.1 w88.2.2.2.2.2.2.2.2.1 w88.2.2.2.2.2.2.2.2.2.1 r90_0.2.2.2.2.2.2) (f49_broughamref07_Same_out r91_5), r91_5.1 = true, ((((w88.2.2.2.2.2.2.2.2.2.1.length : Nat) : Int) : Int) == 0) = true, FnOK Go.Proofs.Try.prog 46 (f46_broughamlaw07_alive_in) (f46_broughamlaw07_alive_out r91_6)] (by kernel_rfl) ⟨(f53_seg_Take_ok w88.2.2.2.1 w88.2.2.2.2.1 w88.2.2.2.2.2.1 w88.2.2.2.2.2.2.1 w88.2.2.2.2.2.2.2.1 w88.2.2.2.2.2.2.2.2.1 w88.2.2.2.2.2.2.2.2.2.1 r91_0 cr91_0), (f54_broughamref07_Take_ok w88.2.2.2.1 w88.2.2.2.2.1 w88.2.2.2.2.2.1 w88.2.2.2.2.2.2.1 w88.2.2.2.2.2.2.2.1 w88.2.2.2.2.2.2.2.2.1 w88.2.2.2.2.2.2.2.2.2.1 r91_1 cr91_1), b91_5, b91_10, (f18_broughamref07_SameOption_ok w88.2.2.2.2.2.2.2.2.2.2.1 w88.2.2.2.2.2.2.2.2.2.2.2.1 w88.2.2.2.2.2.2.2.2.2.2.2.2.1 w88.2.2.2.2.2.2.2.2.2.2.2.2.2.1 r91_2 cr91_2), b91_15, (f55_seg_Of_ok w88.2.2.2.1 w88.2.2.2.2.1 w88.2.2.2.2.2.1 w88.2.2.2.2.2.2.1 w88.2.2.2.2.2.2.2.1 w88.2.2.2.2.2.2.2.2.1 w88.2.2.2.2.2.2.2.2.2.1 w88.1 r91_3 cr91_3), (f49_broughamref07_Same_v2_ok n r91_3.1 r91_3.2.1 r91_3.2.2.1 r91_3.2.2.2.1 r91_3.2.2.2.2.1 r91_3.2.2.2.2.2.1 r91_3.2.2.2.2.2.2 w88.2.2.2.2.2.2.2.2.2.2.2.2.2.2.1 w88.2.2.2.2.2.2.2.2.2.2.2.2.2.2.2.1 w88.2.2.2.2.2.2.2.2.2.2.2.2.2.2.2.2.1 w88.2.2.2.2.2.2.2.2.2.2.2.2.2.2.2.2.2.1 w88.2.2.2.2.2.2.2.2.2.2.2.2.2.2.2.2.2.2.1 w88.2.2.2.2.2.2.2.2.2.2.2.2.2.2.2.2.2.2.2.1 w88.2.2.2.2.2.2.2.2.2.2.2.2.2.2.2.2.2.2.2.2.1 r91_4 cr91_4), b91_22, (f49_broughamref07_Same_ok n r90_0.1 r90_0.2.1 r90_0.2.2.1 r90_0.2.2.2.1 r90_0.2.2.2.2.1 r90_0.2.2.2.2.2.1 w88.2.2.2.1 w88.2.2.2.2.1 w88.2.2.2.2.2.1 w88.2.2.2.2.2.2.1 w88.2.2.2.2.2.2.2.1 w88.2.2.2.2.2.2.2.2.1 w88.2.2.2.2.2.2.2.2.2.1 r90_0.2.2.2.2.2.2 r91_5 cr91_5), b91_27, b91_32, (f46_broughamlaw07_alive_ok n r91_6 cr91_6), trivial⟩
                  · obtain ⟨g91_6, h⟩ := ifS h
                    obtain ⟨g91_7, h⟩ := ifS h
                    rcases iteS h with ⟨b91_44, h⟩ | ⟨b91_44, h⟩
                    · obtain ⟨r91_8, cr91_8, h⟩ := bindS h
                      have h := Option.some.inj h
                      subst h
                      exact At.fin hm ht ⟨[(1, .call [] [] (f53_seg_Take_out r91_0)), (3, .call [] [] (f54_broughamref07_Take_out r91_1)), (5, .b true), (10, .b true), (13, .call [] [] (f18_broughamref07_SameOption_out r91_2)), (15, .b true), (18, .call [] [] (f55_seg_Of_out r91_3)), (20, .call [] [] (f49_broughamref07_Same_v2_out r91_4)), (22, .b true), (25, .call [9] [] (f49_broughamref07_Same_out r91_5)), (27, .b true), (32, .b false), (44, .b true), (45, .call [] [] (f46_broughamlaw07_alive_out r91_8))], [], [], [6], []⟩ [FnOK Go.Proofs.Try.prog 53 (f53_seg_Take_in w88.2.2.2.1 w88.2.2.2.2.1 w88.2.2.2.2.2.1 w88.2.2.2.2.2.2.1 w88.2.2.2.2.2.2.2.1 w88.2.2.2.2.2.2.2.2.1 w88.2.2.2.2.2.2.2.2.2.1) (f53_seg_Take_out r91_0), FnOK Go.Proofs.Try.prog 54 (f54_broughamref07_Take_in w88.2.2.2.1 w88.2.2.2.2.1 w88.2.2.2.2.2.1 w88.2.2.2.2.2.2.1 w88.2.2.2.2.2.2.2.1 w88.2.2.2.2.2.2.2.2.1 w88.2.2.2.2.2.2.2.2.2.1) (f54_broughamref07_Take_out r91_1), ((r91_0 : Int) == r91_1) = true, (w88.2.1 == w88.2.2.1) = true, FnOK Go.Proofs.Try.prog 18 (f18_broughamref07_SameOption_in w88.2.2.2.2.2.2.2.2.2.2.1 w88.2.2.2.2.2.2.2.2.2.2.2.1 w88.2.2.2.2.2.2.2.2.2.2.2.2.1 w88.2.2.2.2.2.2.2.2.2.2.2.2.2.1) (f18_broughamref07_SameOption_out r91_2), r91_2 = true, FnOK Go.Proofs.Try.prog 55 (f55_seg_Of_in w88.2.2.2.1 w88.2.2.2.2.1 w88.2.2.2.2.2.1 w88.2.2.2.2.2.2.1 w88.2.2.2.2.2.2.2.1 w88.2.2.2.2.2.2.2.2.1 w88.2.2.2.2.2.2.2.2.2.1 w88.1) (f55_seg_Of_out r91_3), FnOK Go.Proofs.Try.prog 49 (f49_broughamref07_Same_v2_in r91_3.1 r91_3.2.1 r91_3.2.2.1 r91_3.2.2.2.1 r91_3.2.2.2.2.1 r91_3.2.2.2.2.2.1 r91_3.2.2.2.2.2.2 w88.2.2.2.2.2.2.2.2.2.2.2.2.2.2.1 w88.2.2.2.2.2.2.2.2.2.2.2.2.2.2.2.1 w88.2.2.2.2.2.2.2.2.2.2.2.2.2.2.2.2.1 w88.2.2.2.2.2.2.2.2.2.2.2.2.2.2.2.2.2.1 w88.2.2.2.2.2.2.2.2.2.2.2.2.2.2.2.2.2.2.1 w88.2.2.2.2.2.2.2.2.2.2.2.2.2.2.2.2.2.2.2.1 w88.2.2.2.2.2.2.2.2.2.2.2.2.2.2.2.2.2.2.2.2.1) (f49_broughamref07_Same_v2_out r91_4), r91_4 = true, FnOK Go.Proofs.Try.prog 49 (f49_broughamref07_Same_in r90_0.1 r90_0.2.1 r90_0.2.2.1 r90_0.2.2.2.1 r90_0.2.2.2.2.1 r90_0.2.2.2.2.2.1 w88.2.2.2.1 w88.2.2.2.2.1 w88.2.2.2.2.2.1 w88.2.2.2.2.2.2.1 w88.2.2.2.2.2.2.2.1 w88.2.2.2.2.2.2.2.2.1 w88.2.2.2.2.2.2.2.2.2.1 r90_0.2.2.2.2.2.2) (f49_broughamref07_Same_out r91_5), r91_5.1 = true, ((((w88.2.2.2.2.2.2.2.2.2.1.length : Nat) : Int) : Int) == 0) = false, (0 : Int) ≤ 0 ∧ 0 < (((w88.2.2.2.2.2.2.2.2.2.2.2.2.2.2.2.2.2.2.2.2.2.2.2.2.2.2.2).length : Nat) : Int), (0 : Int) ≤ 0 ∧ 0 < (((w88.2.2.2.2.2.2.2.2.2.1).length : Nat) : Int), (((w88.2.2.2.2.2.2.2.2.2.2.2.2.2.2.2.2.2.2.2.2.2.2.2.2.2.2.2.getD 0 0) : Int) != (w88.2.2.2.2.2.2.2.2.2.1.getD 0 0)) = true, FnOK Go.Proofs.Try.prog 46 (f46_broughamlaw07_alive_in) (f46_broughamlaw07_alive_out r91_8)] (by kernel_rfl) ⟨(f53_seg_Take_ok w88.2.2.2.1 w88.2.2.2.2.1 w88.2.2.2.2.2.1 w88.2.2.2.2.2.2.1 w88.2.2.2.2.2.2.2.1 w88.2.2.2.2.2.2.2.2.1 w88.2.2.2.2.2.2.2.2.2.1 r91_0 cr91_0), (f54_broughamref07_Take_ok w88.2.2.2.1 w88.2.2.2.2.1 w88.2.2.2.2.2.1 w88.2.2.2.2.2.2.1 w88.2.2.2.2.2.2.2.1 w88.2.2.2.2.2.2.2.2.1 w88.2.2.2.2.2.2.2.2.2.1 r91_1 cr91_1), b91_5, b91_10, (f18_broughamref07_SameOption_ok w88.2.2.2.2.2.2.2.2.2.2.1 w88.2.2.2.2.2.2.2.2.2.2.2.1 w88.2.2.2.2.2.2.2.2.2.2.2.2.1 w88.2.2.2.2.2.2.2.2.2.2.2.2.2.1 r91_2 cr91_2), b91_15, (f55_seg_Of_ok w88.2.2.2.1 w88.2.2.2.2.1 w88.2.2.2.2.2.1 w88.2.2.2.2.2.2.1 w88.2.2.2.2.2.2.2.1 w88.2.2.2.2.2.2.2.2.1 w88.2.2.2.2.2.2.2.2.2.1 w88.1 r91_3 cr91_3), (f49_broughamref07_Same_v2_ok n r91_3.1 r91_3.2.1 r91_3.2.2.1 r91_3.2.2.2.1 r91_3.2.2.2.2.1 r91_3.2.2.2.2.2.1 r91_3.2.2.2.2.2.2 w88.2.2.2.2.2.2.2.2.2.2.2.2.2.2.1 w88.2.2.2.2.2.2.2.2.2.2.2.2.2.2.2.1 w88.2.2.2.2.2.2.2.2.2.2.2.2.2.2.2.2.1 w88.2.2.2.2.2.2.2.2.2.2.2.2.2.2.2.2.2.1 w88.2.2.2.2.2.2.2.2.2.2.2.2.2.2.2.2.2.2.1 w88.2.2.2.2.2.2.2.2.2.2.2.2.2.2.2.2.2.2.2.1 w88.2.2.2.2.2.2.2.2.2.2.2.2.2.2.2.2.2.2.2.2.1 r91_4 cr91_4), b91_22, (f49_broughamref07_Same_ok n r90_0.1 r90_0.2.1 r90_0.2.2.1 r90_0.2.2.2.1 r90_0.2.2.2.2.1 r90_0.2.2.2.2.2.1 w88.2.2.2.1 w88.2.2.2.2.1 w88.2.2.2.2.2.1 w88.2.2.2.2.2.2.1 w88.2.2.2.2.2.2.2.1 w88.2.2.2.2.2.2.2.2.1 w88.2.2.2.2.2.2.2.2.2.1 r90_0.2.2.2.2.2.2 r91_5 cr91_5), b91_27, b91_32, g91_6, g91_7, b91_44, (f46_broughamlaw07_alive_ok n r91_8 cr91_8), trivial⟩
                    · have h := Option.some.inj h
                      subst h
                      exact At.fin hm ht ⟨[(1, .call [] [] (f53_seg_Take_out r91_0)), (3, .call [] [] (f54_broughamref07_Take_out r91_1)), (5, .b true), (10, .b true), (13, .call [] [] (f18_broughamref07_SameOption_out r91_2)), (15, .b true), (18, .call [] [] (f55_seg_Of_out r91_3)), (20, .call [] [] (f49_broughamref07_Same_v2_out r91_4)), (22, .b true), (25, .call [9] [] (f49_broughamref07_Same_out r91_5)), (27, .b true), (32, .b false), (44, .b false)], [], [], [6], []⟩ [FnOK Go.Proofs.Try.prog 53 (f53_seg_Take_in w88.2.2.2.1 w88.2.2.2.2.1 w88.2.2.2.2.2.1 w88.2.2.2.2.2.2.1 w88.2.2.2.2.2.2.2.1 w88.2.2.2.2.2.2.2.2.1 w88.2.2.2.2.2.2.2.2.2.1) (f53_seg_Take_out r91_0), FnOK Go.Proofs.Try.prog 54 (f54_broughamref07_Take_in w88.2.2.2.1 w88.2.2.2.2.1 w88.2.2.2.2.2.1 w88.2.2.2.2.2.2.1 w88.2.2.2.2.2.2.2.1 w88.2.2.2.2.2.2.2.2.1 w88.2.2.2.2.2.2.2.2.2.1) (f54_broughamref07_Take_out r91_1), ((r91_0 : Int) == r91_1) = true, (w88.2.1 == w88.2.2.1) = true, FnOK Go.Proofs.Try.prog 18 (f18_broughamref07_SameOption_in w88.2.2.2.2.2.2.2.2.2.2.1 w88.2.2.2.2.2.2.2.2.2.2.2.1 w88.2.2.2.2.2.2.2.2.2.2.2.2.1 w88.2.2.2.2.2.2.2.2.2.2.2.2.2.1) (f18_broughamref07_SameOption_out r91_2), r91_2 = true, FnOK Go.Proofs.Try.prog 55 (f55_seg_Of_in w88.2.2.2.1 w88.2.2.2.2.1 w88.2.2.2.2.2.1 w88.2.2.2.2.2.2.1 w88.2.2.2.2.2.2.2.1 w88.2.2.2.2.2.2.2.2.1 w88.2.2.2.2.2.2.2.2.2.1 w88.1) (f55_seg_Of_out r91_3), FnOK Go.Proofs.Try.prog 49 (f49_broughamref07_Same_v2_in r91_3.1 r91_3.2.1 r91_3.2.2.1 r91_3.2.2.2.1 r91_3.2.2.2.2.1 r91_3.2.2.2.2.2.1 r91_3.2.2.2.2.2.2 w88.2.2.2.2.2.2.2.2.2.2.2.2.2.2.1 w88.2.2.2.2.2.2.2.2.2.2.2.2.2.2.2.1 w88.2.2.2.2.2.2.2.2.2.2.2.2.2.2.2.2.1 w88.2.2.2.2.2.2.2.2.2.2.2.2.2.2.2.2.2.1 w88.2.2.2.2.2.2.2.2.2.2.2.2.2.2.2.2.2.2.1 w88.2.2.2.2.2.2.2.2.2.2.2.2.2.2.2.2.2.2.2.1 w88.2.2.2.2.2.2.2.2.2.2.2.2.2.2.2.2.2.2.2.2.1) (f49_broughamref07_Same_v2_out r91_4), r91_4 = true, FnOK Go.Proofs.Try.prog 49 (f49_broughamref07_Same_in r90_0.1 r90_0.2.1 r90_0.2.2.1 r90_0.2.2.2.1 r90_0.2.2.2.2.1 r90_0.2.2.2.2.2.1 w88.2.2.2.1 w88.2.2.2.2.1 w88.2.2.2.2.2.1 w88.2.2.2.2.2.2.1 w88.2.2.2.2.2.2.2.1 w88.2.2.2.2.2.2.2.2.1 w88.2.2.2.2.2.2.2.2.2.1 r90_0.2.2.2.2.2.2) (f49_broughamref07_Same_out r91_5), r91_5.1 = true, ((((w88.2.2.2.2.2.2.2.2.2.1.length : Nat) : Int) : Int) == 0) = false, (0 : Int) ≤ 0 ∧ 0 < (((w88.2.2.2.2.2.2.2.2.2.2.2.2.2.2.2.2.2.2.2.2.2.2.2.2.2.2.2).length : Nat) : Int), (0 : Int) ≤ 0 ∧ 0 < (((w88.2.2.2.2.2.2.2.2.2.1).length : Nat) : Int), (((w88.2.2.2.2.2.2.2.2.2.2.2.2.2.2.2.2.2.2.2.2.2.2.2.2.2.2.2.getD 0 0) : Int) != (w88.2.2.2.2.2.2.2.2.2.1.getD 0 0)) = false] (by kernel_rfl) ⟨(f53_seg_Take_ok w88.2.2.2.1 w88.2.2.2.2.1 w88.2.2.2.2.2.1 w88.2.2.2.2.2.2.1 w88.2.2.2.2.2.2.2.1 w88.2.2.2.2.2.2.2.2.1 w88.2.2.2.2.2.2.2.2.2.1 r91_0 cr91_0), (f54_broughamref07_Take_ok w88.2.2.2.1 w88.2.2.2.2.1 w88.2.2.2.2.2.1 w88.2.2.2.2.2.2.1 w88.2.2.2.2.2.2.2.1 w88.2.2.2.2.2.2.2.2.1 w88.2.2.2.2.2.2.2.2.2.1 r91_1 cr91_1), b91_5, b91_10, (f18_broughamref07_SameOption_ok w88.2.2.2.2.2.2.2.2.2.2.1 w88.2.2.2.2.2.2.2.2.2.2.2.1 w88.2.2.2.2.2.2.2.2.2.2.2.2.1 w88.2.2.2.2.2.2.2.2.2.2.2.2.2.1 r91_2 cr91_2), b91_15, (f55_seg_Of_ok w88.2.2.2.1 w88.2.2.2.2.1 w88.2.2.2.2.2.1 w88.2.2.2.2.2.2.1 w88.2.2.2.2.2.2.2.1 w88.2.2.2.2.2.2.2.2.1 w88.2.2.2.2.2.2.2.2.2.1 w88.1 r91_3 cr91_3), (f49_broughamref07_Same_v2_ok n r91_3.1 r91_3.2.1 r91_3.2.2.1 r91_3.2.2.2.1 r91_3.2.2.2.2.1 r91_3.2.2.2.2.2.1 r91_3.2.2.2.2.2.2 w88.2.2.2.2.2.2.2.2.2.2.2.2.2.2.1 w88.2.2.2.2.2.2.2.2.2.2.2.2.2.2.2.1 w88.2.2.2.2.2.2.2.2.2.2.2.2.2.2.2.2.1 w88.2.2.2.2.2.2.2.2.2.2.2.2.2.2.2.2.2.1 w88.2.2.2.2.2.2.2.2.2.2.2.2.2.2.2.2.2.2.1 w88.2.2.2.2.2.2.2.2.2.2.2.2.2.2.2.2.2.2.2.1 w88.2.2.2.2.2.2.2.2.2.2.2.2.2.2.2.2.2.2.2.2.1 r91_4 cr91_4), b91_22, (f49_broughamref07_Same_ok n r90_0.1 r90_0.2.1 r90_0.2.2.1 r90_0.2.2.2.1 r90_0.2.2.2.2.1 r90_0.2.2.2.2.2.1 w88.2.2.2.1 w88.2.2.2.2.1 w88.2.2.2.2.2.1 w88.2.2.2.2.2.2.1 w88.2.2.2.2.2.2.2.1 w88.2.2.2.2.2.2.2.2.1 w88.2.2.2.2.2.2.2.2.2.1 r90_0.2.2.2.2.2.2 r91_5 cr91_5), b91_27, b91_32, g91_6, g91_7, b91_44, trivial⟩
                · have h := Option.some.inj h
                  subst h
                  exact At.fin hm ht ⟨[(1, .call [] [] (f53_seg_Take_out r91_0)), (3, .call [] [] (f54_broughamref07_Take_out r91_1)), (5, .b true), (10, .b true), (13, .call [] [] (f18_broughamref07_SameOption_out r91_2)), (15, .b true), (18, .call [] [] (f55_seg_Of_out r91_3)), (20, .call [] [] (f49_broughamref07_Same_v2_out r91_4)), (22, .b true), (25, .call [9] [] (f49_broughamref07_Same_out r91_5)), (27, .b false)], [], [], [6], []⟩ [FnOK Go.Proofs.Try.prog 53 (f53_seg_Take_in w88.2.2.2.1 w88.2.2.2.2.1 w88.2.2.2.2.2.1 w88.2.2.2.2.2.2.1 w88.2.2.2.2.2.2.2.1 w88.2.2.2.2.2.2.2.2.1 w88.2.2.2.2.2.2.2.2.2.1) (f53_seg_Take_out r91_0), FnOK Go.Proofs.Try.prog 54 (f54_broughamref07_Take_in w88.2.2.2.1 w88.2.2.2.2.1 w88.2.2.2.2.2.1 w88.2.2.2.2.2.2.1 w88.2.2.2.2.2.2.2.1 w88.2.2.2.2.2.2.2.2.1 w88.2.2.2.2.2.2.2.2.2.1) (f54_broughamref07_Take_out r91_1), ((r91_0 : Int) == r91_1) = true, (w88.2.1 == w88.2.2.1) = true, FnOK Go.Proofs.Try.prog 18 (f18_broughamref07_SameOption_in w88.2.2.2.2.2.2.2.2.2.2.1 w88.2.2.2.2.2.2.2.2.2.2.2.1 w88.2.2.2.2.2.2.2.2.2.2.2.2.1 w88.2.2.2.2.2.2.2.2.2.2.2.2.2.1) (f18_broughamref07_SameOption_out r91_2), r91_2 = true, FnOK Go.Proofs.Try.prog 55 (f55_seg_Of_in w88.2.2.2.1 w88.2.2.2.2.1 w88.2.2.2.2.2.1 w88.2.2.2.2.2.2.1 w88.2.2.2.2.2.2.2.1 w88.2.2.2.2.2.2.2.2.1 w88.2.2.2.2.2.2.2.2.2.1 w88.1) (f55_seg_Of_out r91_3), FnOK Go.Proofs.Try.prog 49 (f49_broughamref07_Same_v2_in r91_3.1 r91_3.2.1 r91_3.2.2.1 r91_3.2.2.2.1 r91_3.2.2.2.2.1 r91_3.2.2.2.2.2.1 r91_3.2.2.2.2.2.2 w88.2.2.2.2.2.2.2.2.2.2.2.2.2.2.1 w88.2.2.2.2.2.2.2.2.2.2.2.2.2.2.2.1 w88.2.2.2.2.2.2.2.2.2.2.2.2.2.2.2.2.1 w88.2.2.2.2.2.2.2.2.2.2.2.2.2.2.2.2.2.1 w88.2.2.2.2.2.2.2.2.2.2.2.2.2.2.2.2.2.2.1 w88.2.2.2.2.2.2.2.2.2.2.2.2.2.2.2.2.2.2.2.1 w88.2.2.2.2.2.2.2.2.2.2.2.2.2.2.2.2.2.2.2.2.1) (f49_broughamref07_Same_v2_out r91_4), r91_4 = true, FnOK Go.Proofs.Try.prog 49 (f49_broughamref07_Same_in r90_0.1 r90_0.2.1 r90_0.2.2.1 r90_0.2.2.2.1 r90_0.2.2.2.2.1 r90_0.2.2.2.2.2.1 w88.2.2.2.1 w88.2.2.2.2.1 w88.2.2.2.2.2.1 w88.2.2.2.2.2.2.1 w88.2.2.2.2.2.2.2.1 w88.2.2.2.2.2.2.2.2.1 w88.2.2.2.2.2.2.2.2.2.1 r90_0.2.2.2.2.2.2) (f49_broughamref07_Same_out r91_5), r91_5.1 = false] (by kernel_rfl) ⟨(f53_seg_Take_ok w88.2.2.2.1 w88.2.2.2.2.1 w88.2.2.2.2.2.1 w88.2.2.2.2.2.2.1 w88.2.2.2.2.2.2.2.1 w88.2.2.2.2.2.2.2.2.1 w88.2.2.2.2.2.2.2.2.2.1 r91_0 cr91_0), (f54_broughamref07_Take_ok w88.2.2.2.1 w88.2.2.2.2.1 w88.2.2.2.2.2.1 w88.2.2.2.2.2.2.1 w88.2.2.2.2.2.2.2.1 w88.2.2.2.2.2.2.2.2.1 w88.2.2.2.2.2.2.2.2.2.1 r91_1 cr91_1), b91_5, b91_10, (f18_broughamref07_SameOption_ok w88.2.2.2.2.2.2.2.2.2.2.1 w88.2.2.2.2.2.2.2.2.2.2.2.1 w88.2.2.2.2.2.2.2.2.2.2.2.2.1 w88.2.2.2.2.2.2.2.2.2.2.2.2.2.1 r91_2 cr91_2), b91_15, (f55_seg_Of_ok w88.2.2.2.1 w88.2.2.2.2.1 w88.2.2.2.2.2.1 w88.2.2.2.2.2.2.1 w88.2.2.2.2.2.2.2.1 w88.2.2.2.2.2.2.2.2.1 w88.2.2.2.2.2.2.2.2.2.1 w88.1 r91_3 cr91_3), (f49_broughamref07_Same_v2_ok n r91_3.1 r91_3.2.1 r91_3.2.2.1 r91_3.2.2.2.1 r91_3.2.2.2.2.1 r91_3.2.2.2.2.2.1 r91_3.2.2.2.2.2.2 w88.2.2.2.2.2.2.2.2.2.2.2.2.2.2.1 w88.2.2.2.2.2.2.2.2.2.2.2.2.2.2.2.1 w88.2.2.2.2.2.2.2.2.2.2.2.2.2.2.2.2.1 w88.2.2.2.2.2.2.2.2.2.2.2.2.2.2.2.2.2.1 w88.2.2.2.2.2.2.2.2.2.2.2.2.2.2.2.2.2.2.1 w88.2.2.2.2.2.2.2.2.2.2.2.2.2.2.2.2.2.2.2.1 w88.2.2.2.2.2.2.2.2.2.2.2.2.2.2.2.2.2.2.2.2.1 r91_4 cr91_4), b91_22, (f49_broughamref07_Same_ok n r90_0.1 r90_0.2.1 r90_0.2.2.1 r90_0.2.2.2.1 r90_0.2.2.2.2.1 r90_0.2.2.2.2.2.1 w88.2.2.2.1 w88.2.2.2.2.1 w88.2.2.2.2.2.1 w88.2.2.2.2.2.2.1 w88.2.2.2.2.2.2.2.1 w88.2.2.2.2.2.2.2.2.1 w88.2.2.2.2.2.2.2.2.2.1 r90_0.2.2.2.2.2.2 r91_5 cr91_5), b91_27, trivial⟩
              · have h := Option.some.inj h
                subst h
                exact At.fin hm ht ⟨[(1, .call [] [] (f53_seg_Take_out r91_0)), (3, .call [] [] (f54_broughamref07_Take_out r91_1)), (5, .b true), (10, .b true), (13, .call [] [] (f18_broughamref07_SameOption_out r91_2)), (15, .b true), (18, .call [] [] (f55_seg_Of_out r91_3)), (20, .call [] [] (f49_broughamref07_Same_v2_out r91_4)), (22, .b false)], [], [], [6], []⟩ [FnOK Go.Proofs.Try.prog 53 (f53_seg_Take_in w88.2.2.2.1 w88.2.2.2.2.1 w88.2.2.2.2.2.1 w88.2.2.2.2.2.2.1 w88.2.2.2.2.2.2.2.1 w88.2.2.2.2.2.2.2.2.1 w88.2.2.2.2.2.2.2.2.2.1) (f53_seg_Take_out r91_0), FnOK Go.Proofs.Try.prog 54 (f54_broughamref07_Take_in w88.2.2.2.1 w88.2.2.2.2.1 w88.2.2.2.2.2.1 w88.2.2.2.2.2.2.1 w88.2.2.2.2.2.2.2.1 w88.2.2.2.2.2.2.2.2.1 w88.2.2.2.2.2.2.2.2.2.1) (f54_broughamref07_Take_out r91_1), ((r91_0 : Int) == r91_1) = true, (w88.2.1 == w88.2.2.1) = true, FnOK Go.Proofs.Try.prog 18 (f18_broughamref07_SameOption_in w88.2.2.2.2.2.2.2.2.2.2.1 w88.2.2.2.2.2.2.2.2.2.2.2.1 w88.2.2.2.2.2.2.2.2.2.2.2.2.1 w88.2.2.2.2.2.2.2.2.2.2.2.2.2.1) (f18_broughamref07_SameOption_out r91_2), r91_2 = true, FnOK Go.Proofs.Try.prog 55 (f55_seg_Of_in w88.2.2.2.1 w88.2.2.2.2.1 w88.2.2.2.2.2.1 w88.2.2.2.2.2.2.1 w88.2.2.2.2.2.2.2.1 w88.2.2.2.2.2.2.2.2.1 w88.2.2.2.2.2.2.2.2.2.1 w88.1) (f55_seg_Of_out r91_3), FnOK Go.Proofs.Try.prog 49 (f49_broughamref07_Same_v2_in r91_3.1 r91_3.2.1 r91_3.2.2.1 r91_3.2.2.2.1 r91_3.2.2.2.2.1 r91_3.2.2.2.2.2.1 r91_3.2.2.2.2.2.2 w88.2.2.2.2.2.2.2.2.2.2.2.2.2.2.1 w88.2.2.2.2.2.2.2.2.2.2.2.2.2.2.2.1 w88.2.2.2.2.2.2.2.2.2.2.2.2.2.2.2.2.1 w88.2.2.2.2.2.2.2.2.2.2.2.2.2.2.2.2.2.1 w88.2.2.2.2.2.2.2.2.2.2.2.2.2.2.2.2.2.2.1 w88.2.2.2.2.2.2.2.2.2.2.2.2.2.2.2.2.2.2.2.1 w88.2.2.2.2.2.2.2.2.2.2.2.2.2.2.2.2.2.2.2.2.1) (f49_broughamref07_Same_v2_out r91_4), r91_4 = false] (by kernel_rfl) ⟨(f53_seg_Take_ok w88.2.2.2.1 w88.2.2.2.2.1 w88.2.2.2.2.2.1 w88.2.2.2.2.2.2.1 w88.2.2.2.2.2.2.2.1 w88.2.2.2.2.2.2.2.2.1 w88.2.2.2.2.2.2.2.2.2.1 r91_0 cr91_0), (f54_broughamref07_Take_ok w88.2.2.2.1 w88.2.2.2.2.1 w88.2.2.2.2.2.1 w88.2.2.2.2.2.2.1 w88.2.2.2.2.2.2.2.1 w88.2.2.2.2.2.2.2.2.1 w88.2.2.2.2.2.2.2.2.2.1 r91_1 cr91_1), b91_5, b91_10, (f18_broughamref07_SameOption_ok w88.2.2.2.2.2.2.2.2.2.2.1 w88.2.2.2.2.2.2.2.2.2.2.2.1 w88.2.2.2.2.2.2.2.2.2.2.2.2.1 w88.2.2.2.2.2.2.2.2.2.2.2.2.2.1 r91_2 cr91_2), b91_15, (f55_seg_Of_ok w88.2.2.2.1 w88.2.2.2.2.1 w88.2.2.2.2.2.1 w88.2.2.2.2.2.2.1 w88.2.2.2.2.2.2.2.1 w88.2.2.2.2.2.2.2.2.1 w88.2.2.2.2.2.2.2.2.2.1 w88.1 r91_3 cr91_3), (f49_broughamref07_Same_v2_ok n r91_3.1 r91_3.2.1 r91_3.2.2.1 r91_3.2.2.2.1 r91_3.2.2.2.2.1 r91_3.2.2.2.2.2.1 r91_3.2.2.2.2.2.2 w88.2.2.2.2.2.2.2.2.2.2.2.2.2.2.1 w88.2.2.2.2.2.2.2.2.2.2.2.2.2.2.2.1 w88.2.2.2.2.2.2.2.2.2.2.2.2.2.2.2.2.1 w88.2.2.2.2.2.2.2.2.2.2.2.2.2.2.2.2.2.1 w88.2.2.2.2.2.2.2.2.2.2.2.2.2.2.2.2.2.2.1 w88.2.2.2.2.2.2.2.2.2.2.2.2.2.2.2.2.2.2.2.1 w88.2.2.2.2.2.2.2.2.2.2.2.2.2.2.2.2.2.2.2.2.1 r91_4 cr91_4), b91_22, trivial⟩
            · have h := Option.some.inj h
              subst h
              exact At.fin hm ht ⟨[(1, .call [] [] (f53_seg_Take_out r91_0)), (3, .call [] [] (f54_broughamref07_Take_out r91_1)), (5, .b true), (10, .b true), (13, .call [] [] (f18_broughamref07_SameOption_out r91_2)), (15, .b false)], [], [], [6], []⟩ [FnOK Go.Proofs.Try.prog 53 (f53_seg_Take_in w88.2.2.2.1 w88.2.2.2.2.1 w88.2.2.2.2.2.1 w88.2.2.2.2.2.2.1 w88.2.2.2.2.2.2.2.1 w88.2.2.2.2.2.2.2.2.1 w88.2.2.2.2.2.2.2.2.2.1) (f53_seg_Take_out r91_0), FnOK Go.Proofs.Try.prog 54 (f54_broughamref07_Take_in w88.2.2.2.1 w88.2.2.2.2.1 w88.2.2.2.2.2.1 w88.2.2.2.2.2.2.1 w88.2.2.2.2.2.2.2.1 w88.2.2.2.2.2.2.2.2.1 w88.2.2.2.2.2.2.2.2.2.1) (f54_broughamref07_Take_out r91_1), ((r91_0 : Int) == r91_1) = true, (w88.2.1 == w88.2.2.1) = true, FnOK Go.Proofs.Try.prog 18 (f18_broughamref07_SameOption_in w88.2.2.2.2.2.2.2.2.2.2.1 w88.2.2.2.2.2.2.2.2.2.2.2.1 w88.2.2.2.2.2.2.2.2.2.2.2.2.1 w88.2.2.2.2.2.2.2.2.2.2.2.2.2.1) (f18_broughamref07_SameOption_out r91_2), r91_2 = false] (by kernel_rfl) ⟨(f53_seg_Take_ok w88.2.2.2.1 w88.2.2.2.2.1 w88.2.2.2.2.2.1 w88.2.2.2.2.2.2.1 w88.2.2.2.2.2.2.2.1 w88.2.2.2.2.2.2.2.2.1 w88.2.2.2.2.2.2.2.2.2.1 r91_0 cr91_0), (f54_broughamref07_Take_ok w88.2.2.2.1 w88.2.2.2.2.1 w88.2.2.2.2.2.1 w88.2.2.2.2.2.2.1 w88.2.2.2.2.2.2.2.1 w88.2.2.2.2.2.2.2.2.1 w88.2.2.2.2.2.2.2.2.2.1 r91_1 cr91_1), b91_5, b91_10, (f18_broughamref07_SameOption_ok w88.2.2.2.2.2.2.2.2.2.2.1 w88.2.2.2.2.2.2.2.2.2.2.2.1 w88.2.2.2.2.2.2.2.2.2.2.2.2.1 w88.2.2.2.2.2.2.2.2.2.2.2.2.2.1 r91_2 cr91_2), b91_15, trivial⟩
          · have h := Option.some.inj h
            subst h
            exact At.fin hm ht ⟨[(1, .call [] [] (f53_seg_Take_out r91_0)), (3, .call [] [] (f54_broughamref07_Take_out r91_1)), (5, .b true), (10, .b false)], [], [], [6], []⟩ [FnOK Go.Proofs.Try.prog 53 (f53_seg_Take_in w88.2.2.2.1 w88.2.2.2.2.1 w88.2.2.2.2.2.1 w88.2.2.2.2.2.2.1 w88.2.2.2.2.2.2.2.1 w88.2.2.2.2.2.2.2.2.1 w88.2.2.2.2.2.2.2.2.2.1) (f53_seg_Take_out r91_0), FnOK Go.Proofs.Try.prog 54 (f54_broughamref07_Take_in w88.2.2.2.1 w88.2.2.2.2.1 w88.2.2.2.2.2.1 w88.2.2.2.2.2.2.1 w88.2.2.2.2.2.2.2.1 w88.2.2.2.2.2.2.2.2.1 w88.2.2.2.2.2.2.2.2.2.1) (f54_broughamref07_Take_out r91_1), ((r91_0 : Int) == r91_1) = true, (w88.2.1 == w88.2.2.1) = false] (by kernel_rfl) ⟨(f53_seg_Take_ok w88.2.2.2.1 w88.2.2.2.2.1 w88.2.2.2.2.2.1 w88.2.2.2.2.2.2.1 w88.2.2.2.2.2.2.2.1 w88.2.2.2.2.2.2.2.2.1 w88.2.2.2.2.2.2.2.2.2.1 r91_0 cr91_0), (f54_broughamref07_Take_ok w88.2.2.2.1 w88.2.2.2.2.1 w88.2.2.2.2.2.1 w88.2.2.2.2.2.2.1 w88.2.2.2.2.2.2.2.1 w88.2.2.2.2.2.2.2.2.1 w88.2.2.2.2.2.2.2.2.2.1 r91_1 cr91_1), b91_5, b91_10, trivial⟩
        · have h := Option.some.inj h
          subst h
          exact At.fin hm ht ⟨[(1, .call [] [] (f53_seg_Take_out r91_0)), (3, .call [] [] (f54_broughamref07_Take_out r91_1)), (5, .b false)], [], [], [6], []⟩ [FnOK Go.Proofs.Try.prog 53 (f53_seg_Take_in w88.2.2.2.1 w88.2.2.2.2.1 w88.2.2.2.2.2.1 w88.2.2.2.2.2.2.1 w88.2.2.2.2.2.2.2.1 w88.2.2.2.2.2.2.2.2.1 w88.2.2.2.2.2.2.2.2.2.1) (f53_seg_Take_out r91_0), FnOK Go.Proofs.Try.prog 54 (f54_broughamref07_Take_in w88.2.2.2.1 w88.2.2.2.2.1 w88.2.2.2.2.2.1 w88.2.2.2.2.2.2.1 w88.2.2.2.2.2.2.2.1 w88.2.2.2.2.2.2.2.2.1 w88.2.2.2.2.2.2.2.2.2.1) (f54_broughamref07_Take_out r91_1), ((r91_0 : Int) == r91_1) = false] (by kernel_rfl) ⟨(f53_seg_Take_ok w88.2.2.2.1 w88.2.2.2.2.1 w88.2.2.2.2.2.1 w88.2.2.2.2.2.2.1 w88.2.2.2.2.2.2.2.1 w88.2.2.2.2.2.2.2.2.1 w88.2.2.2.2.2.2.2.2.2.1 r91_0 cr91_0), (f54_broughamref07_Take_ok w88.2.2.2.1 w88.2.2.2.2.1 w88.2.2.2.2.2.1 w88.2.2.2.2.2.2.1 w88.2.2.2.2.2.2.2.1 w88.2.2.2.2.2.2.2.2.1 w88.2.2.2.2.2.2.2.2.2.1 r91_1 cr91_1), b91_5, trivial⟩
end Go.Proofs.YtddglebabaaghaaF07b
