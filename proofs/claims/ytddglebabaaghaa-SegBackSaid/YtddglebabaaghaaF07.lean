/- What the functions compute, and that they do: printed by a program of this session (zgen.py), proved by Zed. -/
import Derived.Test.YtddglebabaaghaaProg
import Derived.Test.YtddglebabaaghaaZedY
namespace Go.Proofs.YtddglebabaaghaaF07
open Go Zed
set_option maxRecDepth 100000
set_option linter.unusedVariables false
def tab : Tab := [(3, ⟨.int .i64, 1, 8, [.int .i64 0], some (.int .i64), none⟩), (5, ⟨.int .u8, 1, 1, [.int .u8 0], some (.int .u8), none⟩), (9, ⟨.str, 1, 16, [.str (⟨#[]⟩ : ByteArray)], some .str, none⟩), (22, ⟨.int .u16, 1, 2, [.int .u16 0], some (.int .u16), none⟩), (23, ⟨.int .u32, 1, 4, [.int .u32 0], some (.int .u32), none⟩), (24, ⟨.slice 30, 1, 24, [.sl .unit []], some (.slice (.pair (.int .u8) (.slice (.int .u8)))), none⟩), (25, ⟨.slice 5, 1, 24, [.sl .unit []], some (.slice (.int .u8)), none⟩), (27, ⟨.struct [(0, 22), (1, 22), (2, 23), (3, 23), (4, 5), (5, 24), (6, 25)], 7, 64, [.int .u16 0, .int .u16 0, .int .u32 0, .int .u32 0, .int .u8 0, .sl .unit [], .sl .unit []], some (.pair (.int .u16) (.pair (.int .u16) (.pair (.int .u32) (.pair (.int .u32) (.pair (.int .u8) (.pair (.slice (.pair (.int .u8) (.slice (.int .u8)))) (.slice (.int .u8)))))))), some [(0, 22), (1, 22), (2, 23), (3, 23), (4, 5), (5, 24), (6, 25)]⟩), (30, ⟨.struct [(0, 5), (1, 25)], 2, 32, [.int .u8 0, .sl .unit []], some (.pair (.int .u8) (.slice (.int .u8))), some [(0, 5), (1, 25)]⟩), (36, ⟨.int .u64, 1, 8, [.int .u64 0], some (.int .u64), none⟩), (82, ⟨.int .i64, 1, 8, [.int .i64 0], some (.int .i64), none⟩), (128, ⟨.struct [(0, 3), (1, 36)], 2, 16, [.int .i64 0, .int .u64 0], some (.pair (.int .i64) (.int .u64)), some [(0, 3), (1, 36)]⟩), (136, ⟨.slice 36, 1, 24, [.sl .unit []], some (.slice (.int .u64)), none⟩), (144, ⟨.slice 3, 1, 24, [.sl .unit []], some (.slice (.int .i64)), none⟩), (151, ⟨.slice 128, 1, 24, [.sl .unit []], some (.slice (.pair (.int .i64) (.int .u64))), none⟩)]
theorem ht : TabOk Go.Proofs.Try.prog tab := tabOk_of (ts := [3, 5, 9, 22, 23, 24, 25, 27, 30, 36, 82, 128, 136, 144, 151]) (by kernel_rfl)
theorem hm : Go.Proofs.Try.prog.follows .mixedOrders = true := by kernel_rfl
/-! brougham/broughamlaw07.Great -/
def f15_broughamlaw07_Great_in (s_0 : Int) (s_1 : Int) (s_2 : Int) (s_3 : Int) (s_4 : Int) (s_5 : List (Int × List Int)) (s_6 : List Int) : Inn := ⟨[.agg [.d (.int .u16 s_0), .d (.int .u16 s_1), .d (.int .u32 s_2), .d (.int .u32 s_3), .d (.int .u8 s_4), .d (.sl (.pair (.int .u8) (.slice (.int .u8))) s_5), .d (.sl (.int .u8) s_6)]], [], [], 0⟩
def f15_broughamlaw07_Great_out (r : Bool) : Out := ⟨.one (.c (.d (.bool r))), [], [], 0⟩
def f15_broughamlaw07_Great_L4 : Nat → Int → Int → Int → Int → Int → Int → (List (Int × List Int)) → (List Int) → Option ((Bool) ⊕ (Unit))
  | 0, _, _, _, _, _, _, _, _ => none
  | n + 1, i, s_0, s_1, s_2, s_3, s_4, s_5, s_6 =>
    if (decide ((i : Int) < ((s_5.length : Nat) : Int))) = true then
      if (0 : Int) ≤ i ∧ i < (((s_5).length : Nat) : Int) then
      if (decide ((((((s_5.getD i.toNat (0, [])).2).length : Nat) : Int) : Int) > 400)) = true then
        some (.inl true)
      else
        f15_broughamlaw07_Great_L4 n (IntKind.wrap .i64 (i + 1)) s_0 s_1 s_2 s_3 s_4 s_5 s_6
      else none
    else
      some (.inr ())
def f15_broughamlaw07_Great_L4_k (w : (Bool) ⊕ (Unit)) (o : Out) : Prop := match w with
  | .inl e => o = f15_broughamlaw07_Great_out e
  | .inr e => At Go.Proofs.Try.prog Go.Proofs.Try.f15 0 8 ⟨[], [], [], 0⟩ o
theorem f15_broughamlaw07_Great_L4_ok (n : Nat) : ∀ (i : Int) (s_0 : Int) (s_1 : Int) (s_2 : Int) (s_3 : Int) (s_4 : Int) (s_5 : List (Int × List Int)) (s_6 : List Int) (w : (Bool) ⊕ (Unit)) (h : f15_broughamlaw07_Great_L4 n i s_0 s_1 s_2 s_3 s_4 s_5 s_6 = some w) (o : Out) (hk : f15_broughamlaw07_Great_L4_k w o), At Go.Proofs.Try.prog Go.Proofs.Try.f15 0 4 ⟨[(1, .one (.c (.ptr 0 0))), (3, .one (.c (.d (.int .i64 i))))], [], [(0, [.d (.int .u16 s_0), .d (.int .u16 s_1), .d (.int .u32 s_2), .d (.int .u32 s_3), .d (.int .u8 s_4), .d (.sl (.pair (.int .u8) (.slice (.int .u8))) s_5), .d (.sl (.int .u8) s_6)])], 1⟩ o := by
  induction n with
  | zero => intro i s_0 s_1 s_2 s_3 s_4 s_5 s_6 w h; rw [f15_broughamlaw07_Great_L4] at h; cases h
  | succ n ih =>
    intro i s_0 s_1 s_2 s_3 s_4 s_5 s_6 w h o hk
    rw [f15_broughamlaw07_Great_L4] at h
    rcases iteS h with ⟨b8_e0, h⟩ | ⟨b8_e0, h⟩
    · refine At.step hm ht ⟨[], [true], [], [1, 3], [0]⟩ 6 ⟨[(1, .one (.c (.ptr 0 0))), (3, .one (.c (.d (.int .i64 i))))], [], [(0, [.d (.int .u16 s_0), .d (.int .u16 s_1), .d (.int .u32 s_2), .d (.int .u32 s_3), .d (.int .u8 s_4), .d (.sl (.pair (.int .u8) (.slice (.int .u8))) s_5), .d (.sl (.int .u8) s_6)])], 1⟩ [(decide ((i : Int) < ((s_5.length : Nat) : Int))) = true] (by kernel_rfl) ⟨b8_e0, trivial⟩ ?_
      obtain ⟨g9_0, h⟩ := ifS h
      rcases iteS h with ⟨b9_e0, h⟩ | ⟨b9_e0, h⟩
      · refine At.step hm ht ⟨[], [true], [], [], []⟩ 7 ⟨[], [], [], 0⟩ [(0 : Int) ≤ i ∧ i < (((s_5).length : Nat) : Int), (decide ((((((s_5.getD i.toNat (0, [])).2).length : Nat) : Int) : Int) > 400)) = true] (by kernel_rfl) ⟨g9_0, b9_e0, trivial⟩ ?_
        have h := Option.some.inj h
        subst h
        have hk : o = f15_broughamlaw07_Great_out true := hk
        subst hk
        exact At.fin hm ht ⟨[], [], [], [2], []⟩ [] (by kernel_rfl) trivial
      · refine At.step hm ht ⟨[], [false], [], [1, 3], [0]⟩ 5 ⟨[(1, .one (.c (.ptr 0 0))), (3, .one (.c (.d (.int .i64 i))))], [], [(0, [.d (.int .u16 s_0), .d (.int .u16 s_1), .d (.int .u32 s_2), .d (.int .u32 s_3), .d (.int .u8 s_4), .d (.sl (.pair (.int .u8) (.slice (.int .u8))) s_5), .d (.sl (.int .u8) s_6)])], 1⟩ [(0 : Int) ≤ i ∧ i < (((s_5).length : Nat) : Int), (decide ((((((s_5.getD i.toNat (0, [])).2).length : Nat) : Int) : Int) > 400)) = false] (by kernel_rfl) ⟨g9_0, b9_e0, trivial⟩ ?_
        refine At.step hm ht ⟨[], [], [], [1, 3], [0]⟩ 4 ⟨[(1, .one (.c (.ptr 0 0))), (3, .one (.c (.d (.int .i64 (IntKind.wrap .i64 (i + 1))))))], [], [(0, [.d (.int .u16 s_0), .d (.int .u16 s_1), .d (.int .u32 s_2), .d (.int .u32 s_3), .d (.int .u8 s_4), .d (.sl (.pair (.int .u8) (.slice (.int .u8))) s_5), .d (.sl (.int .u8) s_6)])], 1⟩ [] (by kernel_rfl) trivial ?_
        exact ih (IntKind.wrap .i64 (i + 1)) s_0 s_1 s_2 s_3 s_4 s_5 s_6 w h o hk
    · refine At.step hm ht ⟨[], [false], [], [], []⟩ 8 ⟨[], [], [], 0⟩ [(decide ((i : Int) < ((s_5.length : Nat) : Int))) = false] (by kernel_rfl) ⟨b8_e0, trivial⟩ ?_
      have h := Option.some.inj h
      subst h
      exact hk
def f15_broughamlaw07_Great (n : Nat) (s_0 : Int) (s_1 : Int) (s_2 : Int) (s_3 : Int) (s_4 : Int) (s_5 : List (Int × List Int)) (s_6 : List Int) : Option (Bool) :=
  if (decide ((((s_5.length : Nat) : Int) : Int) > 120)) = true then
    some true
  else
    if (decide ((((s_6.length : Nat) : Int) : Int) > 2000)) = true then
      some true
    else
      (f15_broughamlaw07_Great_L4 n 0 s_0 s_1 s_2 s_3 s_4 s_5 s_6).bind fun w12 =>
      match w12 with
      | .inl e13 =>
        some e13
      | .inr e14 =>
        some false
theorem f15_broughamlaw07_Great_ok (n : Nat) (s_0 : Int) (s_1 : Int) (s_2 : Int) (s_3 : Int) (s_4 : Int) (s_5 : List (Int × List Int)) (s_6 : List Int) (r : Bool) (h : f15_broughamlaw07_Great n s_0 s_1 s_2 s_3 s_4 s_5 s_6 = some r) : FnOK Go.Proofs.Try.prog 15 (f15_broughamlaw07_Great_in s_0 s_1 s_2 s_3 s_4 s_5 s_6) (f15_broughamlaw07_Great_out r) := by
  unfold f15_broughamlaw07_Great at h
  refine At.fn (r := 0) Go.Proofs.Try.func15 rfl (by kernel_rfl) rfl rfl (by kernel_rfl) ?_
  show At Go.Proofs.Try.prog Go.Proofs.Try.f15 0 0 ⟨[(0, .one (.agg [.d (.int .u16 s_0), .d (.int .u16 s_1), .d (.int .u32 s_2), .d (.int .u32 s_3), .d (.int .u8 s_4), .d (.sl (.pair (.int .u8) (.slice (.int .u8))) s_5), .d (.sl (.int .u8) s_6)]))], [], [], 0⟩ _
  refine At.step hm ht ⟨[], [], [], [1], [0]⟩ 1 ⟨[(1, .one (.c (.ptr 0 0)))], [], [(0, [.d (.int .u16 s_0), .d (.int .u16 s_1), .d (.int .u32 s_2), .d (.int .u32 s_3), .d (.int .u8 s_4), .d (.sl (.pair (.int .u8) (.slice (.int .u8))) s_5), .d (.sl (.int .u8) s_6)])], 1⟩ [] (by kernel_rfl) trivial ?_
  rcases iteS h with ⟨b4_4, h⟩ | ⟨b4_4, h⟩
  · refine At.step hm ht ⟨[(4, .b true)], [true], [], [], []⟩ 2 ⟨[], [], [], 0⟩ [(decide ((((s_5.length : Nat) : Int) : Int) > 120)) = true, true = true] (by kernel_rfl) ⟨b4_4, rfl, trivial⟩ ?_
    have h := Option.some.inj h
    subst h
    exact At.fin hm ht ⟨[], [], [], [2], []⟩ [] (by kernel_rfl) trivial
  · rcases iteS h with ⟨b4_e0, h⟩ | ⟨b4_e0, h⟩
    · refine At.step hm ht ⟨[(4, .b false)], [true], [], [], []⟩ 2 ⟨[], [], [], 0⟩ [(decide ((((s_5.length : Nat) : Int) : Int) > 120)) = false, (decide ((((s_6.length : Nat) : Int) : Int) > 2000)) = true] (by kernel_rfl) ⟨b4_4, b4_e0, trivial⟩ ?_
      have h := Option.some.inj h
      subst h
      exact At.fin hm ht ⟨[], [], [], [2], []⟩ [] (by kernel_rfl) trivial
    · refine At.step hm ht ⟨[(4, .b false)], [false], [], [1], [0]⟩ 3 ⟨[(1, .one (.c (.ptr 0 0)))], [], [(0, [.d (.int .u16 s_0), .d (.int .u16 s_1), .d (.int .u32 s_2), .d (.int .u32 s_3), .d (.int .u8 s_4), .d (.sl (.pair (.int .u8) (.slice (.int .u8))) s_5), .d (.sl (.int .u8) s_6)])], 1⟩ [(decide ((((s_5.length : Nat) : Int) : Int) > 120)) = false, (decide ((((s_6.length : Nat) : Int) : Int) > 2000)) = false] (by kernel_rfl) ⟨b4_4, b4_e0, trivial⟩ ?_
      refine At.step hm ht ⟨[], [], [], [1, 3], [0]⟩ 4 ⟨[(1, .one (.c (.ptr 0 0))), (3, .one (.c (.d (.int .i64 0))))], [], [(0, [.d (.int .u16 s_0), .d (.int .u16 s_1), .d (.int .u32 s_2), .d (.int .u32 s_3), .d (.int .u8 s_4), .d (.sl (.pair (.int .u8) (.slice (.int .u8))) s_5), .d (.sl (.int .u8) s_6)])], 1⟩ [] (by kernel_rfl) trivial ?_
      obtain ⟨w12, cw12, h⟩ := bindS h
      refine f15_broughamlaw07_Great_L4_ok n 0 s_0 s_1 s_2 s_3 s_4 s_5 s_6 w12 cw12 _ ?_
      rcases w12 with e13 | e14
      · have h := Option.some.inj h
        subst h
        rfl
      · show At Go.Proofs.Try.prog Go.Proofs.Try.f15 0 8 ⟨[], [], [], 0⟩ _
        have h := Option.some.inj h
        subst h
        exact At.fin hm ht ⟨[], [], [], [2], []⟩ [] (by kernel_rfl) trivial
/-! brougham/seg.Right -/
def f42_seg_Right_in (s_0 : Int) (s_1 : Int) (s_2 : Int) (s_3 : Int) (s_4 : Int) (s_5 : List (Int × List Int)) (s_6 : List Int) : Inn := ⟨[.agg [.d (.int .u16 s_0), .d (.int .u16 s_1), .d (.int .u32 s_2), .d (.int .u32 s_3), .d (.int .u8 s_4), .d (.sl (.pair (.int .u8) (.slice (.int .u8))) s_5), .d (.sl (.int .u8) s_6)]], [], [], 0⟩
def f42_seg_Right_out (r : Int) : Out := ⟨.one (.c (.d (.int .i64 r))), [], [], 0⟩
def f42_seg_Right_L5 : Nat → Int → (List (Int × List Int)) → Int → Int → Int → Int → Int → Int → Int → (List (Int × List Int)) → (List Int) → Option ((Int) ⊕ (Int × Int × Int × Int × Int × (List (Int × List Int)) × List Int))
  | 0, _, _, _, _, _, _, _, _, _, _, _ => none
  | n + 1, n_, t10, t11, t12, s_0, s_1, s_2, s_3, s_4, s_5, s_6 =>
    if (decide ((t12 : Int) < t11)) = true then
      if (0 : Int) ≤ t12 ∧ t12 < (((t10).length : Nat) : Int) then
      if ((((t10.getD t12.toNat (0, [])).1) : Int) == 0) = true then
        some (.inl 71)
      else
        if (decide ((((((t10.getD t12.toNat (0, [])).2).length : Nat) : Int) : Int) > 255)) = true then
          some (.inl 71)
        else
          if (decide (((IntKind.wrap .i64 (n_ + (IntKind.wrap .i64 (2 + ((((t10.getD t12.toNat (0, [])).2).length : Nat) : Int))))) : Int) > 200)) = true then
            some (.inl 71)
          else
            f42_seg_Right_L5 n (IntKind.wrap .i64 (n_ + (IntKind.wrap .i64 (2 + ((((t10.getD t12.toNat (0, [])).2).length : Nat) : Int))))) t10 t11 (IntKind.wrap .i64 (t12 + 1)) s_0 s_1 s_2 s_3 s_4 s_5 s_6
      else none
    else
      some (.inr ((s_0, s_1, s_2, s_3, s_4, s_5, s_6)))
def f42_seg_Right_L5_k (w : (Int) ⊕ (Int × Int × Int × Int × Int × (List (Int × List Int)) × List Int)) (o : Out) : Prop := match w with
  | .inl e => o = f42_seg_Right_out e
  | .inr e => At Go.Proofs.Try.prog Go.Proofs.Try.f42 0 13 ⟨[(1, .one (.c (.ptr 0 0)))], [], [(0, [.d (.int .u16 e.1), .d (.int .u16 e.2.1), .d (.int .u32 e.2.2.1), .d (.int .u32 e.2.2.2.1), .d (.int .u8 e.2.2.2.2.1), .d (.sl (.pair (.int .u8) (.slice (.int .u8))) e.2.2.2.2.2.1), .d (.sl (.int .u8) e.2.2.2.2.2.2)])], 1⟩ o
theorem f42_seg_Right_L5_ok (n : Nat) : ∀ (n_ : Int) (t10 : List (Int × List Int)) (t11 : Int) (t12 : Int) (s_0 : Int) (s_1 : Int) (s_2 : Int) (s_3 : Int) (s_4 : Int) (s_5 : List (Int × List Int)) (s_6 : List Int) (w : (Int) ⊕ (Int × Int × Int × Int × Int × (List (Int × List Int)) × List Int)) (h : f42_seg_Right_L5 n n_ t10 t11 t12 s_0 s_1 s_2 s_3 s_4 s_5 s_6 = some w) (o : Out) (hk : f42_seg_Right_L5_k w o), At Go.Proofs.Try.prog Go.Proofs.Try.f42 0 5 ⟨[(1, .one (.c (.ptr 0 0))), (3, .one (.c (.d (.int .i64 n_)))), (10, .one (.c (.d (.sl (.pair (.int .u8) (.slice (.int .u8))) t10)))), (11, .one (.c (.d (.int .i64 t11)))), (12, .one (.c (.d (.int .i64 t12))))], [], [(0, [.d (.int .u16 s_0), .d (.int .u16 s_1), .d (.int .u32 s_2), .d (.int .u32 s_3), .d (.int .u8 s_4), .d (.sl (.pair (.int .u8) (.slice (.int .u8))) s_5), .d (.sl (.int .u8) s_6)])], 1⟩ o := by
  induction n with
  | zero => intro n_ t10 t11 t12 s_0 s_1 s_2 s_3 s_4 s_5 s_6 w h; rw [f42_seg_Right_L5] at h; cases h
  | succ n ih =>
    intro n_ t10 t11 t12 s_0 s_1 s_2 s_3 s_4 s_5 s_6 w h o hk
    rw [f42_seg_Right_L5] at h
    rcases iteS h with ⟨b25_e0, h⟩ | ⟨b25_e0, h⟩
    · refine At.step hm ht ⟨[], [true], [], [1, 3, 10, 11, 12], [0]⟩ 6 ⟨[(1, .one (.c (.ptr 0 0))), (3, .one (.c (.d (.int .i64 n_)))), (10, .one (.c (.d (.sl (.pair (.int .u8) (.slice (.int .u8))) t10)))), (11, .one (.c (.d (.int .i64 t11)))), (12, .one (.c (.d (.int .i64 t12))))], [], [(0, [.d (.int .u16 s_0), .d (.int .u16 s_1), .d (.int .u32 s_2), .d (.int .u32 s_3), .d (.int .u8 s_4), .d (.sl (.pair (.int .u8) (.slice (.int .u8))) s_5), .d (.sl (.int .u8) s_6)])], 1⟩ [(decide ((t12 : Int) < t11)) = true] (by kernel_rfl) ⟨b25_e0, trivial⟩ ?_
      obtain ⟨g26_0, h⟩ := ifS h
      refine At.step hm ht ⟨[], [], [], [1, 3, 5, 10, 11, 12], [0, 3]⟩ 7 ⟨[(1, .one (.c (.ptr 0 0))), (3, .one (.c (.d (.int .i64 n_)))), (5, .one (.c (.ptr 1 0))), (10, .one (.c (.d (.sl (.pair (.int .u8) (.slice (.int .u8))) t10)))), (11, .one (.c (.d (.int .i64 t11)))), (12, .one (.c (.d (.int .i64 t12))))], [], [(0, [.d (.int .u16 s_0), .d (.int .u16 s_1), .d (.int .u32 s_2), .d (.int .u32 s_3), .d (.int .u8 s_4), .d (.sl (.pair (.int .u8) (.slice (.int .u8))) s_5), .d (.sl (.int .u8) s_6)]), (1, [.d (.int .u8 ((t10.getD t12.toNat (0, [])).1)), .d (.sl (.int .u8) ((t10.getD t12.toNat (0, [])).2))])], 2⟩ [(0 : Int) ≤ t12 ∧ t12 < (((t10).length : Nat) : Int), 0 + 2 ≤ 2] (by kernel_rfl) ⟨g26_0, (by decide), trivial⟩ ?_
      rcases iteS h with ⟨b27_3, h⟩ | ⟨b27_3, h⟩
      · refine At.step hm ht ⟨[(3, .b true)], [true], [], [], []⟩ 8 ⟨[], [], [], 0⟩ [((((t10.getD t12.toNat (0, [])).1) : Int) == 0) = true, true = true] (by kernel_rfl) ⟨b27_3, rfl, trivial⟩ ?_
        have h := Option.some.inj h
        subst h
        have hk : o = f42_seg_Right_out 71 := hk
        subst hk
        exact At.fin hm ht ⟨[], [], [], [2], []⟩ [] (by kernel_rfl) trivial
      · rcases iteS h with ⟨b27_e0, h⟩ | ⟨b27_e0, h⟩
        · refine At.step hm ht ⟨[(3, .b false)], [true], [], [], []⟩ 8 ⟨[], [], [], 0⟩ [((((t10.getD t12.toNat (0, [])).1) : Int) == 0) = false, (decide ((((((t10.getD t12.toNat (0, [])).2).length : Nat) : Int) : Int) > 255)) = true] (by kernel_rfl) ⟨b27_3, b27_e0, trivial⟩ ?_
          have h := Option.some.inj h
          subst h
          have hk : o = f42_seg_Right_out 71 := hk
          subst hk
          exact At.fin hm ht ⟨[], [], [], [2], []⟩ [] (by kernel_rfl) trivial
        · refine At.step hm ht ⟨[(3, .b false)], [false], [], [1, 3, 5, 10, 11, 12], [0, 1]⟩ 9 ⟨[(1, .one (.c (.ptr 0 0))), (3, .one (.c (.d (.int .i64 n_)))), (5, .one (.c (.ptr 1 0))), (10, .one (.c (.d (.sl (.pair (.int .u8) (.slice (.int .u8))) t10)))), (11, .one (.c (.d (.int .i64 t11)))), (12, .one (.c (.d (.int .i64 t12))))], [], [(0, [.d (.int .u16 s_0), .d (.int .u16 s_1), .d (.int .u32 s_2), .d (.int .u32 s_3), .d (.int .u8 s_4), .d (.sl (.pair (.int .u8) (.slice (.int .u8))) s_5), .d (.sl (.int .u8) s_6)]), (1, [.d (.int .u8 ((t10.getD t12.toNat (0, [])).1)), .d (.sl (.int .u8) ((t10.getD t12.toNat (0, [])).2))])], 2⟩ [((((t10.getD t12.toNat (0, [])).1) : Int) == 0) = false, (decide ((((((t10.getD t12.toNat (0, [])).2).length : Nat) : Int) : Int) > 255)) = false] (by kernel_rfl) ⟨b27_3, b27_e0, trivial⟩ ?_
          refine At.step hm ht ⟨[], [], [], [1, 3, 10, 11, 12], [0]⟩ 10 ⟨[(1, .one (.c (.ptr 0 0))), (3, .one (.c (.d (.int .i64 (IntKind.wrap .i64 (n_ + (IntKind.wrap .i64 (2 + ((((t10.getD t12.toNat (0, [])).2).length : Nat) : Int))))))))), (10, .one (.c (.d (.sl (.pair (.int .u8) (.slice (.int .u8))) t10)))), (11, .one (.c (.d (.int .i64 t11)))), (12, .one (.c (.d (.int .i64 t12))))], [], [(0, [.d (.int .u16 s_0), .d (.int .u16 s_1), .d (.int .u32 s_2), .d (.int .u32 s_3), .d (.int .u8 s_4), .d (.sl (.pair (.int .u8) (.slice (.int .u8))) s_5), .d (.sl (.int .u8) s_6)])], 1⟩ [] (by kernel_rfl) trivial ?_
          rcases iteS h with ⟨b31_e0, h⟩ | ⟨b31_e0, h⟩
          · refine At.step hm ht ⟨[], [true], [], [], []⟩ 11 ⟨[], [], [], 0⟩ [(decide (((IntKind.wrap .i64 (n_ + (IntKind.wrap .i64 (2 + ((((t10.getD t12.toNat (0, [])).2).length : Nat) : Int))))) : Int) > 200)) = true] (by kernel_rfl) ⟨b31_e0, trivial⟩ ?_
            have h := Option.some.inj h
            subst h
            have hk : o = f42_seg_Right_out 71 := hk
            subst hk
            exact At.fin hm ht ⟨[], [], [], [2], []⟩ [] (by kernel_rfl) trivial
          · refine At.step hm ht ⟨[], [false], [], [1, 3, 10, 11, 12], [0]⟩ 12 ⟨[(1, .one (.c (.ptr 0 0))), (3, .one (.c (.d (.int .i64 (IntKind.wrap .i64 (n_ + (IntKind.wrap .i64 (2 + ((((t10.getD t12.toNat (0, [])).2).length : Nat) : Int))))))))), (10, .one (.c (.d (.sl (.pair (.int .u8) (.slice (.int .u8))) t10)))), (11, .one (.c (.d (.int .i64 t11)))), (12, .one (.c (.d (.int .i64 t12))))], [], [(0, [.d (.int .u16 s_0), .d (.int .u16 s_1), .d (.int .u32 s_2), .d (.int .u32 s_3), .d (.int .u8 s_4), .d (.sl (.pair (.int .u8) (.slice (.int .u8))) s_5), .d (.sl (.int .u8) s_6)])], 1⟩ [(decide (((IntKind.wrap .i64 (n_ + (IntKind.wrap .i64 (2 + ((((t10.getD t12.toNat (0, [])).2).length : Nat) : Int))))) : Int) > 200)) = false] (by kernel_rfl) ⟨b31_e0, trivial⟩ ?_
            refine At.step hm ht ⟨[], [], [], [1, 3, 10, 11, 12], [0]⟩ 5 ⟨[(1, .one (.c (.ptr 0 0))), (3, .one (.c (.d (.int .i64 (IntKind.wrap .i64 (n_ + (IntKind.wrap .i64 (2 + ((((t10.getD t12.toNat (0, [])).2).length : Nat) : Int))))))))), (10, .one (.c (.d (.sl (.pair (.int .u8) (.slice (.int .u8))) t10)))), (11, .one (.c (.d (.int .i64 t11)))), (12, .one (.c (.d (.int .i64 (IntKind.wrap .i64 (t12 + 1))))))], [], [(0, [.d (.int .u16 s_0), .d (.int .u16 s_1), .d (.int .u32 s_2), .d (.int .u32 s_3), .d (.int .u8 s_4), .d (.sl (.pair (.int .u8) (.slice (.int .u8))) s_5), .d (.sl (.int .u8) s_6)])], 1⟩ [] (by kernel_rfl) trivial ?_
            exact ih (IntKind.wrap .i64 (n_ + (IntKind.wrap .i64 (2 + ((((t10.getD t12.toNat (0, [])).2).length : Nat) : Int))))) t10 t11 (IntKind.wrap .i64 (t12 + 1)) s_0 s_1 s_2 s_3 s_4 s_5 s_6 w h o hk
    · refine At.step hm ht ⟨[], [false], [], [1], [0]⟩ 13 ⟨[(1, .one (.c (.ptr 0 0)))], [], [(0, [.d (.int .u16 s_0), .d (.int .u16 s_1), .d (.int .u32 s_2), .d (.int .u32 s_3), .d (.int .u8 s_4), .d (.sl (.pair (.int .u8) (.slice (.int .u8))) s_5), .d (.sl (.int .u8) s_6)])], 1⟩ [(decide ((t12 : Int) < t11)) = false] (by kernel_rfl) ⟨b25_e0, trivial⟩ ?_
      have h := Option.some.inj h
      subst h
      exact hk
def f42_seg_Right (n : Nat) (s_0 : Int) (s_1 : Int) (s_2 : Int) (s_3 : Int) (s_4 : Int) (s_5 : List (Int × List Int)) (s_6 : List Int) : Option (Int) :=
  if (decide ((s_4 : Int) > 7)) = true then
    some 70
  else
    (f42_seg_Right_L5 n 0 s_5 ((s_5.length : Nat) : Int) 0 s_0 s_1 s_2 s_3 s_4 s_5 s_6).bind fun w34 =>
    match w34 with
    | .inl e35 =>
      some e35
    | .inr e36 =>
      if (decide ((((e36.2.2.2.2.2.2.length : Nat) : Int) : Int) > 1024)) = true then
        some 72
      else
        some 0
theorem f42_seg_Right_ok (n : Nat) (s_0 : Int) (s_1 : Int) (s_2 : Int) (s_3 : Int) (s_4 : Int) (s_5 : List (Int × List Int)) (s_6 : List Int) (r : Int) (h : f42_seg_Right n s_0 s_1 s_2 s_3 s_4 s_5 s_6 = some r) : FnOK Go.Proofs.Try.prog 42 (f42_seg_Right_in s_0 s_1 s_2 s_3 s_4 s_5 s_6) (f42_seg_Right_out r) := by
  unfold f42_seg_Right at h
  refine At.fn (r := 0) Go.Proofs.Try.func42 rfl (by kernel_rfl) rfl rfl (by kernel_rfl) ?_
  show At Go.Proofs.Try.prog Go.Proofs.Try.f42 0 0 ⟨[(0, .one (.agg [.d (.int .u16 s_0), .d (.int .u16 s_1), .d (.int .u32 s_2), .d (.int .u32 s_3), .d (.int .u8 s_4), .d (.sl (.pair (.int .u8) (.slice (.int .u8))) s_5), .d (.sl (.int .u8) s_6)]))], [], [], 0⟩ _
  refine At.step hm ht ⟨[], [], [], [1], [0]⟩ 1 ⟨[(1, .one (.c (.ptr 0 0)))], [], [(0, [.d (.int .u16 s_0), .d (.int .u16 s_1), .d (.int .u32 s_2), .d (.int .u32 s_3), .d (.int .u8 s_4), .d (.sl (.pair (.int .u8) (.slice (.int .u8))) s_5), .d (.sl (.int .u8) s_6)])], 1⟩ [] (by kernel_rfl) trivial ?_
  rcases iteS h with ⟨b21_e0, h⟩ | ⟨b21_e0, h⟩
  · refine At.step hm ht ⟨[], [true], [], [], []⟩ 2 ⟨[], [], [], 0⟩ [(decide ((s_4 : Int) > 7)) = true] (by kernel_rfl) ⟨b21_e0, trivial⟩ ?_
    have h := Option.some.inj h
    subst h
    exact At.fin hm ht ⟨[], [], [], [2], []⟩ [] (by kernel_rfl) trivial
  · refine At.step hm ht ⟨[], [false], [], [1], [0]⟩ 3 ⟨[(1, .one (.c (.ptr 0 0)))], [], [(0, [.d (.int .u16 s_0), .d (.int .u16 s_1), .d (.int .u32 s_2), .d (.int .u32 s_3), .d (.int .u8 s_4), .d (.sl (.pair (.int .u8) (.slice (.int .u8))) s_5), .d (.sl (.int .u8) s_6)])], 1⟩ [(decide ((s_4 : Int) > 7)) = false] (by kernel_rfl) ⟨b21_e0, trivial⟩ ?_
    refine At.step hm ht ⟨[], [], [], [1, 3], [0]⟩ 4 ⟨[(1, .one (.c (.ptr 0 0))), (3, .one (.c (.d (.int .i64 0))))], [], [(0, [.d (.int .u16 s_0), .d (.int .u16 s_1), .d (.int .u32 s_2), .d (.int .u32 s_3), .d (.int .u8 s_4), .d (.sl (.pair (.int .u8) (.slice (.int .u8))) s_5), .d (.sl (.int .u8) s_6)])], 1⟩ [] (by kernel_rfl) trivial ?_
    refine At.step hm ht ⟨[], [], [], [1, 3, 10, 11, 12], [0]⟩ 5 ⟨[(1, .one (.c (.ptr 0 0))), (3, .one (.c (.d (.int .i64 0)))), (10, .one (.c (.d (.sl (.pair (.int .u8) (.slice (.int .u8))) s_5)))), (11, .one (.c (.d (.int .i64 ((s_5.length : Nat) : Int))))), (12, .one (.c (.d (.int .i64 0))))], [], [(0, [.d (.int .u16 s_0), .d (.int .u16 s_1), .d (.int .u32 s_2), .d (.int .u32 s_3), .d (.int .u8 s_4), .d (.sl (.pair (.int .u8) (.slice (.int .u8))) s_5), .d (.sl (.int .u8) s_6)])], 1⟩ [] (by kernel_rfl) trivial ?_
    obtain ⟨w34, cw34, h⟩ := bindS h
    refine f42_seg_Right_L5_ok n 0 s_5 ((s_5.length : Nat) : Int) 0 s_0 s_1 s_2 s_3 s_4 s_5 s_6 w34 cw34 _ ?_
    rcases w34 with e35 | e36
    · have h := Option.some.inj h
      subst h
      rfl
    · show At Go.Proofs.Try.prog Go.Proofs.Try.f42 0 13 ⟨[(1, .one (.c (.ptr 0 0)))], [], [(0, [.d (.int .u16 e36.1), .d (.int .u16 e36.2.1), .d (.int .u32 e36.2.2.1), .d (.int .u32 e36.2.2.2.1), .d (.int .u8 e36.2.2.2.2.1), .d (.sl (.pair (.int .u8) (.slice (.int .u8))) e36.2.2.2.2.2.1), .d (.sl (.int .u8) e36.2.2.2.2.2.2)])], 1⟩ _
      rcases iteS h with ⟨b37_e0, h⟩ | ⟨b37_e0, h⟩
      · refine At.step hm ht ⟨[], [true], [], [], []⟩ 14 ⟨[], [], [], 0⟩ [(decide ((((e36.2.2.2.2.2.2.length : Nat) : Int) : Int) > 1024)) = true] (by kernel_rfl) ⟨b37_e0, trivial⟩ ?_
        have h := Option.some.inj h
        subst h
        exact At.fin hm ht ⟨[], [], [], [2], []⟩ [] (by kernel_rfl) trivial
      · refine At.step hm ht ⟨[], [false], [], [], []⟩ 15 ⟨[], [], [], 0⟩ [(decide ((((e36.2.2.2.2.2.2.length : Nat) : Int) : Int) > 1024)) = false] (by kernel_rfl) ⟨b37_e0, trivial⟩ ?_
        have h := Option.some.inj h
        subst h
        exact At.fin hm ht ⟨[], [], [], [2], []⟩ [] (by kernel_rfl) trivial
/-! brougham/pack.H -/
def f85_pack_H_in (n_ : Int) : Inn := ⟨[.c (.d (.int .u16 n_))], [], [], 0⟩
def f85_pack_H_out (r : Int × Int) : Out := ⟨.one (.agg [.d (.int .i64 r.1), .d (.int .u64 r.2)]), [], [(0, [.d (.int .i64 r.1), .d (.int .u64 r.2)])], 1⟩
def f85_pack_H (n_ : Int) : Option (Int × Int) :=
  some (2, (IntKind.wrap .u64 n_))
theorem f85_pack_H_ok (n_ : Int) (r : Int × Int) (h : f85_pack_H n_ = some r) : FnOK Go.Proofs.Try.prog 85 (f85_pack_H_in n_) (f85_pack_H_out r) := by
  unfold f85_pack_H at h
  refine At.fn (r := 0) Go.Proofs.Try.func85 rfl (by kernel_rfl) rfl rfl (by kernel_rfl) ?_
  show At Go.Proofs.Try.prog Go.Proofs.Try.f85 0 0 ⟨[(0, .one (.c (.d (.int .u16 n_))))], [], [], 0⟩ _
  refine At.step hm ht ⟨[], [], [], [0, 2], [0]⟩ 1 ⟨[(0, .one (.c (.d (.int .u16 n_)))), (2, .one (.c (.ptr 0 0)))], [], [(0, [.d (.int .i64 0), .d (.int .u64 0)])], 1⟩ [] (by kernel_rfl) trivial ?_
  have h := Option.some.inj h
  subst h
  exact At.fin hm ht ⟨[], [], [], [2], [0]⟩ [0 + 2 ≤ 2] (by kernel_rfl) ⟨(by decide), trivial⟩
/-! brougham/pack.W -/
def f76_pack_W_in (n_ : Int) : Inn := ⟨[.c (.d (.int .u32 n_))], [], [], 0⟩
def f76_pack_W_out (r : Int × Int) : Out := ⟨.one (.agg [.d (.int .i64 r.1), .d (.int .u64 r.2)]), [], [(0, [.d (.int .i64 r.1), .d (.int .u64 r.2)])], 1⟩
def f76_pack_W (n_ : Int) : Option (Int × Int) :=
  some (4, (IntKind.wrap .u64 n_))
theorem f76_pack_W_ok (n_ : Int) (r : Int × Int) (h : f76_pack_W n_ = some r) : FnOK Go.Proofs.Try.prog 76 (f76_pack_W_in n_) (f76_pack_W_out r) := by
  unfold f76_pack_W at h
  refine At.fn (r := 0) Go.Proofs.Try.func76 rfl (by kernel_rfl) rfl rfl (by kernel_rfl) ?_
  show At Go.Proofs.Try.prog Go.Proofs.Try.f76 0 0 ⟨[(0, .one (.c (.d (.int .u32 n_))))], [], [], 0⟩ _
  refine At.step hm ht ⟨[], [], [], [0, 2], [0]⟩ 1 ⟨[(0, .one (.c (.d (.int .u32 n_)))), (2, .one (.c (.ptr 0 0)))], [], [(0, [.d (.int .i64 0), .d (.int .u64 0)])], 1⟩ [] (by kernel_rfl) trivial ?_
  have h := Option.some.inj h
  subst h
  exact At.fin hm ht ⟨[], [], [], [2], [0]⟩ [0 + 2 ≤ 2] (by kernel_rfl) ⟨(by decide), trivial⟩
/-! brougham/pack.B -/
def f77_pack_B_in (n_ : Int) : Inn := ⟨[.c (.d (.int .u8 n_))], [], [], 0⟩
def f77_pack_B_out (r : Int × Int) : Out := ⟨.one (.agg [.d (.int .i64 r.1), .d (.int .u64 r.2)]), [], [(0, [.d (.int .i64 r.1), .d (.int .u64 r.2)])], 1⟩
def f77_pack_B (n_ : Int) : Option (Int × Int) :=
  some (1, (IntKind.wrap .u64 n_))
theorem f77_pack_B_ok (n_ : Int) (r : Int × Int) (h : f77_pack_B n_ = some r) : FnOK Go.Proofs.Try.prog 77 (f77_pack_B_in n_) (f77_pack_B_out r) := by
  unfold f77_pack_B at h
  refine At.fn (r := 0) Go.Proofs.Try.func77 rfl (by kernel_rfl) rfl rfl (by kernel_rfl) ?_
  show At Go.Proofs.Try.prog Go.Proofs.Try.f77 0 0 ⟨[(0, .one (.c (.d (.int .u8 n_))))], [], [], 0⟩ _
  refine At.step hm ht ⟨[], [], [], [0, 2], [0]⟩ 1 ⟨[(0, .one (.c (.d (.int .u8 n_)))), (2, .one (.c (.ptr 0 0)))], [], [(0, [.d (.int .i64 0), .d (.int .u64 0)])], 1⟩ [] (by kernel_rfl) trivial ?_
  have h := Option.some.inj h
  subst h
  exact At.fin hm ht ⟨[], [], [], [2], [0]⟩ [0 + 2 ≤ 2] (by kernel_rfl) ⟨(by decide), trivial⟩
/-! brougham/pack.Put -/
def f73_pack_Put_in (b : List Int) (l : List (Int × Int)) : Inn := ⟨[.c (.d (.sl (.int .u8) b)), .c (.d (.sl (.pair (.int .i64) (.int .u64)) l))], [], [], 0⟩
def f73_pack_Put_out (r : List Int) : Out := ⟨.one (.c (.own 0 (.int .u8) r)), [(0, ⟨5, 0⟩)], [], 1⟩
def f73_pack_Put_L7 : Nat → (List Int) → Int → (List (Int × Int)) → Int → Int → Int → Int → Option (List Int × (List (Int × Int)) × Int × Int)
  | 0, _, _, _, _, _, _, _ => none
  | n + 1, out, i, t11, t12, t13, f_0, f_1 =>
    if (decide ((i : Int) ≥ 0)) = true then
      if (0 : Int) ≤ (IntKind.wrap .i64 (8 * i)) then
      if out.length + [(IntKind.wrap .u8 (Int.fdiv f_1 (2 ^ (min (IntKind.wrap .i64 (8 * i)).toNat (IntKind.bits .u64)))))].length ≤ maxLen ∧ (out.length + [(IntKind.wrap .u8 (Int.fdiv f_1 (2 ^ (min (IntKind.wrap .i64 (8 * i)).toNat (IntKind.bits .u64)))))].length) * 1 ≤ 140737488355328 then
      f73_pack_Put_L7 n (out ++ [(IntKind.wrap .u8 (Int.fdiv f_1 (2 ^ (min (IntKind.wrap .i64 (8 * i)).toNat (IntKind.bits .u64)))))]) (IntKind.wrap .i64 (i - 1)) t11 t12 t13 f_0 f_1
      else none
      else none
    else
      some ((out, t11, t12, t13))
def f73_pack_Put_L7_k (e : List Int × (List (Int × Int)) × Int × Int) (o : Out) : Prop := At Go.Proofs.Try.prog Go.Proofs.Try.f73 0 10 ⟨[(5, .one (.c (.own 0 (.int .u8) e.1))), (11, .one (.c (.d (.sl (.pair (.int .i64) (.int .u64)) e.2.1)))), (12, .one (.c (.d (.int .i64 e.2.2.1)))), (13, .one (.c (.d (.int .i64 e.2.2.2))))], [(0, some ⟨5, 0⟩)], [], 1⟩ o
theorem f73_pack_Put_L7_ok (n : Nat) : ∀ (out : List Int) (i : Int) (t11 : List (Int × Int)) (t12 : Int) (t13 : Int) (f_0 : Int) (f_1 : Int) (w : List Int × (List (Int × Int)) × Int × Int) (h : f73_pack_Put_L7 n out i t11 t12 t13 f_0 f_1 = some w) (o : Out) (hk : f73_pack_Put_L7_k w o), At Go.Proofs.Try.prog Go.Proofs.Try.f73 0 7 ⟨[(5, .one (.c (.own 0 (.int .u8) out))), (7, .one (.c (.ptr 1 0))), (8, .one (.c (.d (.int .i64 i)))), (11, .one (.c (.d (.sl (.pair (.int .i64) (.int .u64)) t11)))), (12, .one (.c (.d (.int .i64 t12)))), (13, .one (.c (.d (.int .i64 t13))))], [(0, some ⟨5, 0⟩)], [(1, [.d (.int .i64 f_0), .d (.int .u64 f_1)])], 2⟩ o := by
  induction n with
  | zero => intro out i t11 t12 t13 f_0 f_1 w h; rw [f73_pack_Put_L7] at h; cases h
  | succ n ih =>
    intro out i t11 t12 t13 f_0 f_1 w h o hk
    rw [f73_pack_Put_L7] at h
    rcases iteS h with ⟨b80_e0, h⟩ | ⟨b80_e0, h⟩
    · refine At.step hm ht ⟨[], [true], [], [5, 7, 8, 11, 12, 13], [0, 1]⟩ 9 ⟨[(5, .one (.c (.own 0 (.int .u8) out))), (7, .one (.c (.ptr 1 0))), (8, .one (.c (.d (.int .i64 i)))), (11, .one (.c (.d (.sl (.pair (.int .i64) (.int .u64)) t11)))), (12, .one (.c (.d (.int .i64 t12)))), (13, .one (.c (.d (.int .i64 t13))))], [(0, some ⟨5, 0⟩)], [(1, [.d (.int .i64 f_0), .d (.int .u64 f_1)])], 2⟩ [(decide ((i : Int) ≥ 0)) = true] (by kernel_rfl) ⟨b80_e0, trivial⟩ ?_
      obtain ⟨g81_0, h⟩ := ifS h
      obtain ⟨g81_1, h⟩ := ifS h
      refine At.step hm ht ⟨[], [], [], [5, 7, 8, 11, 12, 13], [10, 1]⟩ 8 ⟨[(5, .one (.c (.own 0 (.int .u8) (out ++ [(IntKind.wrap .u8 (Int.fdiv f_1 (2 ^ (min (IntKind.wrap .i64 (8 * i)).toNat (IntKind.bits .u64)))))])))), (7, .one (.c (.ptr 1 0))), (8, .one (.c (.d (.int .i64 i)))), (11, .one (.c (.d (.sl (.pair (.int .i64) (.int .u64)) t11)))), (12, .one (.c (.d (.int .i64 t12)))), (13, .one (.c (.d (.int .i64 t13))))], [(0, some ⟨5, 0⟩)], [(1, [.d (.int .i64 f_0), .d (.int .u64 f_1)])], 2⟩ [(0 : Int) ≤ (IntKind.wrap .i64 (8 * i)), out.length + [(IntKind.wrap .u8 (Int.fdiv f_1 (2 ^ (min (IntKind.wrap .i64 (8 * i)).toNat (IntKind.bits .u64)))))].length ≤ maxLen ∧ (out.length + [(IntKind.wrap .u8 (Int.fdiv f_1 (2 ^ (min (IntKind.wrap .i64 (8 * i)).toNat (IntKind.bits .u64)))))].length) * 1 ≤ 140737488355328] (by kernel_rfl) ⟨g81_0, g81_1, trivial⟩ ?_
      refine At.step hm ht ⟨[], [], [], [5, 7, 8, 11, 12, 13], [0, 1]⟩ 7 ⟨[(5, .one (.c (.own 0 (.int .u8) (out ++ [(IntKind.wrap .u8 (Int.fdiv f_1 (2 ^ (min (IntKind.wrap .i64 (8 * i)).toNat (IntKind.bits .u64)))))])))), (7, .one (.c (.ptr 1 0))), (8, .one (.c (.d (.int .i64 (IntKind.wrap .i64 (i - 1)))))), (11, .one (.c (.d (.sl (.pair (.int .i64) (.int .u64)) t11)))), (12, .one (.c (.d (.int .i64 t12)))), (13, .one (.c (.d (.int .i64 t13))))], [(0, some ⟨5, 0⟩)], [(1, [.d (.int .i64 f_0), .d (.int .u64 f_1)])], 2⟩ [] (by kernel_rfl) trivial ?_
      exact ih (out ++ [(IntKind.wrap .u8 (Int.fdiv f_1 (2 ^ (min (IntKind.wrap .i64 (8 * i)).toNat (IntKind.bits .u64)))))]) (IntKind.wrap .i64 (i - 1)) t11 t12 t13 f_0 f_1 w h o hk
    · refine At.step hm ht ⟨[], [false], [], [5, 11, 12, 13], [0]⟩ 10 ⟨[(5, .one (.c (.own 0 (.int .u8) out))), (11, .one (.c (.d (.sl (.pair (.int .i64) (.int .u64)) t11)))), (12, .one (.c (.d (.int .i64 t12)))), (13, .one (.c (.d (.int .i64 t13))))], [(0, some ⟨5, 0⟩)], [], 1⟩ [(decide ((i : Int) ≥ 0)) = false] (by kernel_rfl) ⟨b80_e0, trivial⟩ ?_
      have h := Option.some.inj h
      subst h
      exact hk
def f73_pack_Put_L3 : Nat → (List Int) → (List (Int × Int)) → Int → Int → Option (List Int)
  | 0, _, _, _, _ => none
  | n + 1, out, t11, t12, t13 =>
    if (decide ((t13 : Int) < t12)) = true then
      if (0 : Int) ≤ t13 ∧ t13 < (((t11).length : Nat) : Int) then
      if (decide ((((t11.getD t13.toNat (0, 0)).1) : Int) < 1)) = true then
        f73_pack_Put_L3 n out t11 t12 (IntKind.wrap .i64 (t13 + 1))
      else
        if (decide ((((t11.getD t13.toNat (0, 0)).1) : Int) > 8)) = true then
          f73_pack_Put_L3 n out t11 t12 (IntKind.wrap .i64 (t13 + 1))
        else
          (f73_pack_Put_L7 n out (IntKind.wrap .i64 (((t11.getD t13.toNat (0, 0)).1) - 1)) t11 t12 t13 ((t11.getD t13.toNat (0, 0)).1) ((t11.getD t13.toNat (0, 0)).2)).bind fun w83 =>
          f73_pack_Put_L3 n w83.1 w83.2.1 w83.2.2.1 (IntKind.wrap .i64 (w83.2.2.2 + 1))
      else none
    else
      some (out)
def f73_pack_Put_L3_k (e : List Int) (o : Out) : Prop := At Go.Proofs.Try.prog Go.Proofs.Try.f73 0 11 ⟨[(5, .one (.c (.own 0 (.int .u8) e)))], [(0, some ⟨5, 0⟩)], [], 1⟩ o
theorem f73_pack_Put_L3_ok (n : Nat) : ∀ (out : List Int) (t11 : List (Int × Int)) (t12 : Int) (t13 : Int) (w : List Int) (h : f73_pack_Put_L3 n out t11 t12 t13 = some w) (o : Out) (hk : f73_pack_Put_L3_k w o), At Go.Proofs.Try.prog Go.Proofs.Try.f73 0 3 ⟨[(5, .one (.c (.own 0 (.int .u8) out))), (11, .one (.c (.d (.sl (.pair (.int .i64) (.int .u64)) t11)))), (12, .one (.c (.d (.int .i64 t12)))), (13, .one (.c (.d (.int .i64 t13))))], [(0, some ⟨5, 0⟩)], [], 1⟩ o := by
  induction n with
  | zero => intro out t11 t12 t13 w h; rw [f73_pack_Put_L3] at h; cases h
  | succ n ih =>
    intro out t11 t12 t13 w h o hk
    rw [f73_pack_Put_L3] at h
    rcases iteS h with ⟨b74_e0, h⟩ | ⟨b74_e0, h⟩
    · refine At.step hm ht ⟨[], [true], [], [5, 11, 12, 13], [0]⟩ 4 ⟨[(5, .one (.c (.own 0 (.int .u8) out))), (11, .one (.c (.d (.sl (.pair (.int .i64) (.int .u64)) t11)))), (12, .one (.c (.d (.int .i64 t12)))), (13, .one (.c (.d (.int .i64 t13))))], [(0, some ⟨5, 0⟩)], [], 1⟩ [(decide ((t13 : Int) < t12)) = true] (by kernel_rfl) ⟨b74_e0, trivial⟩ ?_
      obtain ⟨g75_0, h⟩ := ifS h
      refine At.step hm ht ⟨[], [], [], [5, 7, 11, 12, 13], [0, 3]⟩ 5 ⟨[(5, .one (.c (.own 0 (.int .u8) out))), (7, .one (.c (.ptr 1 0))), (11, .one (.c (.d (.sl (.pair (.int .i64) (.int .u64)) t11)))), (12, .one (.c (.d (.int .i64 t12)))), (13, .one (.c (.d (.int .i64 t13))))], [(0, some ⟨5, 0⟩)], [(1, [.d (.int .i64 ((t11.getD t13.toNat (0, 0)).1)), .d (.int .u64 ((t11.getD t13.toNat (0, 0)).2))])], 2⟩ [(0 : Int) ≤ t13 ∧ t13 < (((t11).length : Nat) : Int), 0 + 2 ≤ 2] (by kernel_rfl) ⟨g75_0, (by decide), trivial⟩ ?_
      rcases iteS h with ⟨b76_3, h⟩ | ⟨b76_3, h⟩
      · refine At.step hm ht ⟨[(3, .b true)], [true], [], [5, 11, 12, 13], [0]⟩ 10 ⟨[(5, .one (.c (.own 0 (.int .u8) out))), (11, .one (.c (.d (.sl (.pair (.int .i64) (.int .u64)) t11)))), (12, .one (.c (.d (.int .i64 t12)))), (13, .one (.c (.d (.int .i64 t13))))], [(0, some ⟨5, 0⟩)], [], 1⟩ [(decide ((((t11.getD t13.toNat (0, 0)).1) : Int) < 1)) = true, true = true] (by kernel_rfl) ⟨b76_3, rfl, trivial⟩ ?_
        refine At.step hm ht ⟨[], [], [], [5, 11, 12, 13], [0]⟩ 3 ⟨[(5, .one (.c (.own 0 (.int .u8) out))), (11, .one (.c (.d (.sl (.pair (.int .i64) (.int .u64)) t11)))), (12, .one (.c (.d (.int .i64 t12)))), (13, .one (.c (.d (.int .i64 (IntKind.wrap .i64 (t13 + 1))))))], [(0, some ⟨5, 0⟩)], [], 1⟩ [] (by kernel_rfl) trivial ?_
        exact ih out t11 t12 (IntKind.wrap .i64 (t13 + 1)) w h o hk
      · rcases iteS h with ⟨b76_e0, h⟩ | ⟨b76_e0, h⟩
        · refine At.step hm ht ⟨[(3, .b false)], [true], [], [5, 11, 12, 13], [0]⟩ 10 ⟨[(5, .one (.c (.own 0 (.int .u8) out))), (11, .one (.c (.d (.sl (.pair (.int .i64) (.int .u64)) t11)))), (12, .one (.c (.d (.int .i64 t12)))), (13, .one (.c (.d (.int .i64 t13))))], [(0, some ⟨5, 0⟩)], [], 1⟩ [(decide ((((t11.getD t13.toNat (0, 0)).1) : Int) < 1)) = false, (decide ((((t11.getD t13.toNat (0, 0)).1) : Int) > 8)) = true] (by kernel_rfl) ⟨b76_3, b76_e0, trivial⟩ ?_
          refine At.step hm ht ⟨[], [], [], [5, 11, 12, 13], [0]⟩ 3 ⟨[(5, .one (.c (.own 0 (.int .u8) out))), (11, .one (.c (.d (.sl (.pair (.int .i64) (.int .u64)) t11)))), (12, .one (.c (.d (.int .i64 t12)))), (13, .one (.c (.d (.int .i64 (IntKind.wrap .i64 (t13 + 1))))))], [(0, some ⟨5, 0⟩)], [], 1⟩ [] (by kernel_rfl) trivial ?_
          exact ih out t11 t12 (IntKind.wrap .i64 (t13 + 1)) w h o hk
        · refine At.step hm ht ⟨[(3, .b false)], [false], [], [5, 7, 11, 12, 13], [0, 1]⟩ 6 ⟨[(5, .one (.c (.own 0 (.int .u8) out))), (7, .one (.c (.ptr 1 0))), (11, .one (.c (.d (.sl (.pair (.int .i64) (.int .u64)) t11)))), (12, .one (.c (.d (.int .i64 t12)))), (13, .one (.c (.d (.int .i64 t13))))], [(0, some ⟨5, 0⟩)], [(1, [.d (.int .i64 ((t11.getD t13.toNat (0, 0)).1)), .d (.int .u64 ((t11.getD t13.toNat (0, 0)).2))])], 2⟩ [(decide ((((t11.getD t13.toNat (0, 0)).1) : Int) < 1)) = false, (decide ((((t11.getD t13.toNat (0, 0)).1) : Int) > 8)) = false] (by kernel_rfl) ⟨b76_3, b76_e0, trivial⟩ ?_
          refine At.step hm ht ⟨[], [], [], [5, 7, 8, 11, 12, 13], [0, 1]⟩ 7 ⟨[(5, .one (.c (.own 0 (.int .u8) out))), (7, .one (.c (.ptr 1 0))), (8, .one (.c (.d (.int .i64 (IntKind.wrap .i64 (((t11.getD t13.toNat (0, 0)).1) - 1)))))), (11, .one (.c (.d (.sl (.pair (.int .i64) (.int .u64)) t11)))), (12, .one (.c (.d (.int .i64 t12)))), (13, .one (.c (.d (.int .i64 t13))))], [(0, some ⟨5, 0⟩)], [(1, [.d (.int .i64 ((t11.getD t13.toNat (0, 0)).1)), .d (.int .u64 ((t11.getD t13.toNat (0, 0)).2))])], 2⟩ [] (by kernel_rfl) trivial ?_
          obtain ⟨w83, cw83, h⟩ := bindS h
          refine f73_pack_Put_L7_ok n out (IntKind.wrap .i64 (((t11.getD t13.toNat (0, 0)).1) - 1)) t11 t12 t13 ((t11.getD t13.toNat (0, 0)).1) ((t11.getD t13.toNat (0, 0)).2) w83 cw83 _ ?_
          show At Go.Proofs.Try.prog Go.Proofs.Try.f73 0 10 ⟨[(5, .one (.c (.own 0 (.int .u8) w83.1))), (11, .one (.c (.d (.sl (.pair (.int .i64) (.int .u64)) w83.2.1)))), (12, .one (.c (.d (.int .i64 w83.2.2.1)))), (13, .one (.c (.d (.int .i64 w83.2.2.2))))], [(0, some ⟨5, 0⟩)], [], 1⟩ _
          refine At.step hm ht ⟨[], [], [], [5, 11, 12, 13], [0]⟩ 3 ⟨[(5, .one (.c (.own 0 (.int .u8) w83.1))), (11, .one (.c (.d (.sl (.pair (.int .i64) (.int .u64)) w83.2.1)))), (12, .one (.c (.d (.int .i64 w83.2.2.1)))), (13, .one (.c (.d (.int .i64 (IntKind.wrap .i64 (w83.2.2.2 + 1))))))], [(0, some ⟨5, 0⟩)], [], 1⟩ [] (by kernel_rfl) trivial ?_
          exact ih w83.1 w83.2.1 w83.2.2.1 (IntKind.wrap .i64 (w83.2.2.2 + 1)) w h o hk
    · refine At.step hm ht ⟨[], [false], [], [5], [0]⟩ 11 ⟨[(5, .one (.c (.own 0 (.int .u8) out)))], [(0, some ⟨5, 0⟩)], [], 1⟩ [(decide ((t13 : Int) < t12)) = false] (by kernel_rfl) ⟨b74_e0, trivial⟩ ?_
      have h := Option.some.inj h
      subst h
      exact hk
def f73_pack_Put (n : Nat) (b : List Int) (l : List (Int × Int)) : Option (List Int) :=
  if b.length ≤ maxLen ∧ b.length * 1 ≤ 140737488355328 then
  (f73_pack_Put_L3 n b l ((l.length : Nat) : Int) 0).bind fun w86 =>
  some w86
  else none
theorem f73_pack_Put_ok (n : Nat) (b : List Int) (l : List (Int × Int)) (r : List Int) (h : f73_pack_Put n b l = some r) : FnOK Go.Proofs.Try.prog 73 (f73_pack_Put_in b l) (f73_pack_Put_out r) := by
  unfold f73_pack_Put at h
  refine At.fn (r := 0) Go.Proofs.Try.func73 rfl (by kernel_rfl) rfl rfl (by kernel_rfl) ?_
  show At Go.Proofs.Try.prog Go.Proofs.Try.f73 0 0 ⟨[(0, .one (.c (.d (.sl (.int .u8) b)))), (1, .one (.c (.d (.sl (.pair (.int .i64) (.int .u64)) l))))], [], [], 0⟩ _
  refine At.step hm ht ⟨[], [], [], [0, 1], []⟩ 1 ⟨[(0, .one (.c (.d (.sl (.int .u8) b)))), (1, .one (.c (.d (.sl (.pair (.int .i64) (.int .u64)) l))))], [], [], 0⟩ [] (by kernel_rfl) trivial ?_
  obtain ⟨g72_0, h⟩ := ifS h
  refine At.step hm ht ⟨[], [], [], [1, 5], [1]⟩ 2 ⟨[(1, .one (.c (.d (.sl (.pair (.int .i64) (.int .u64)) l)))), (5, .one (.c (.own 0 (.int .u8) b)))], [(0, some ⟨5, 0⟩)], [], 1⟩ [b.length ≤ maxLen ∧ b.length * 1 ≤ 140737488355328] (by kernel_rfl) ⟨g72_0, trivial⟩ ?_
  refine At.step hm ht ⟨[], [], [], [5, 11, 12, 13], [0]⟩ 3 ⟨[(5, .one (.c (.own 0 (.int .u8) b))), (11, .one (.c (.d (.sl (.pair (.int .i64) (.int .u64)) l)))), (12, .one (.c (.d (.int .i64 ((l.length : Nat) : Int))))), (13, .one (.c (.d (.int .i64 0))))], [(0, some ⟨5, 0⟩)], [], 1⟩ [] (by kernel_rfl) trivial ?_
  obtain ⟨w86, cw86, h⟩ := bindS h
  refine f73_pack_Put_L3_ok n b l ((l.length : Nat) : Int) 0 w86 cw86 _ ?_
  show At Go.Proofs.Try.prog Go.Proofs.Try.f73 0 11 ⟨[(5, .one (.c (.own 0 (.int .u8) w86)))], [(0, some ⟨5, 0⟩)], [], 1⟩ _
  have h := Option.some.inj h
  subst h
  exact At.fin hm ht ⟨[], [], [], [4], [0]⟩ [] (by kernel_rfl) trivial
/-! brougham/seg.Header -/
def f44_seg_Header_in (s_0 : Int) (s_1 : Int) (s_2 : Int) (s_3 : Int) (s_4 : Int) (s_5 : List (Int × List Int)) (s_6 : List Int) : Inn := ⟨[.agg [.d (.int .u16 s_0), .d (.int .u16 s_1), .d (.int .u32 s_2), .d (.int .u32 s_3), .d (.int .u8 s_4), .d (.sl (.pair (.int .u8) (.slice (.int .u8))) s_5), .d (.sl (.int .u8) s_6)]], [], [], 0⟩
def f44_seg_Header_out (r : List Int) : Out := ⟨.one (.c (.own 0 (.int .u8) r)), [(0, ⟨5, 0⟩)], [], 1⟩
def f44_seg_Header (n : Nat) (s_0 : Int) (s_1 : Int) (s_2 : Int) (s_3 : Int) (s_4 : Int) (s_5 : List (Int × List Int)) (s_6 : List Int) : Option (List Int) :=
  (f85_pack_H s_0).bind fun r64_0 =>
  (f85_pack_H s_1).bind fun r64_1 =>
  (f76_pack_W s_2).bind fun r64_2 =>
  (f76_pack_W s_3).bind fun r64_3 =>
  (f77_pack_B s_4).bind fun r64_4 =>
  (f73_pack_Put n [] [r64_0, r64_1, r64_2, r64_3, r64_4]).bind fun r64_5 =>
  some r64_5
theorem f44_seg_Header_ok (n : Nat) (s_0 : Int) (s_1 : Int) (s_2 : Int) (s_3 : Int) (s_4 : Int) (s_5 : List (Int × List Int)) (s_6 : List Int) (r : List Int) (h : f44_seg_Header n s_0 s_1 s_2 s_3 s_4 s_5 s_6 = some r) : FnOK Go.Proofs.Try.prog 44 (f44_seg_Header_in s_0 s_1 s_2 s_3 s_4 s_5 s_6) (f44_seg_Header_out r) := by
  unfold f44_seg_Header at h
  refine At.fn (r := 0) Go.Proofs.Try.func44 rfl (by kernel_rfl) rfl rfl (by kernel_rfl) ?_
  show At Go.Proofs.Try.prog Go.Proofs.Try.f44 0 0 ⟨[(0, .one (.agg [.d (.int .u16 s_0), .d (.int .u16 s_1), .d (.int .u32 s_2), .d (.int .u32 s_3), .d (.int .u8 s_4), .d (.sl (.pair (.int .u8) (.slice (.int .u8))) s_5), .d (.sl (.int .u8) s_6)]))], [], [], 0⟩ _
  refine At.step hm ht ⟨[], [], [], [1], [0]⟩ 1 ⟨[(1, .one (.c (.ptr 0 0)))], [], [(0, [.d (.int .u16 s_0), .d (.int .u16 s_1), .d (.int .u32 s_2), .d (.int .u32 s_3), .d (.int .u8 s_4), .d (.sl (.pair (.int .u8) (.slice (.int .u8))) s_5), .d (.sl (.int .u8) s_6)])], 1⟩ [] (by kernel_rfl) trivial ?_
  obtain ⟨r64_0, cr64_0, h⟩ := bindS h
  obtain ⟨r64_1, cr64_1, h⟩ := bindS h
  obtain ⟨r64_2, cr64_2, h⟩ := bindS h
  obtain ⟨r64_3, cr64_3, h⟩ := bindS h
  obtain ⟨r64_4, cr64_4, h⟩ := bindS h
  obtain ⟨r64_5, cr64_5, h⟩ := bindS h
  have h := Option.some.inj h
  subst h
  exact At.fin hm ht ⟨[(2, .call [] [] (f85_pack_H_out r64_0)), (5, .call [] [] (f85_pack_H_out r64_1)), (8, .call [] [] (f76_pack_W_out r64_2)), (11, .call [] [] (f76_pack_W_out r64_3)), (14, .call [] [] (f77_pack_B_out r64_4)), (16, .call [] [(0, 0, (.int .u8))] (f73_pack_Put_out r64_5))], [], [], [2], [17]⟩ [FnOK Go.Proofs.Try.prog 85 (f85_pack_H_in s_0) (f85_pack_H_out r64_0), FnOK Go.Proofs.Try.prog 85 (f85_pack_H_in s_1) (f85_pack_H_out r64_1), FnOK Go.Proofs.Try.prog 76 (f76_pack_W_in s_2) (f76_pack_W_out r64_2), FnOK Go.Proofs.Try.prog 76 (f76_pack_W_in s_3) (f76_pack_W_out r64_3), FnOK Go.Proofs.Try.prog 77 (f77_pack_B_in s_4) (f77_pack_B_out r64_4), FnOK Go.Proofs.Try.prog 73 (f73_pack_Put_in [] [r64_0, r64_1, r64_2, r64_3, r64_4]) (f73_pack_Put_out r64_5)] (by kernel_rfl) ⟨(f85_pack_H_ok s_0 r64_0 cr64_0), (f85_pack_H_ok s_1 r64_1 cr64_1), (f76_pack_W_ok s_2 r64_2 cr64_2), (f76_pack_W_ok s_3 r64_3 cr64_3), (f77_pack_B_ok s_4 r64_4 cr64_4), (f73_pack_Put_ok n [] [r64_0, r64_1, r64_2, r64_3, r64_4] r64_5 cr64_5), trivial⟩
/-! brougham/seg.Encode -/
def f40_seg_Encode_in (s_0 : Int) (s_1 : Int) (s_2 : Int) (s_3 : Int) (s_4 : Int) (s_5 : List (Int × List Int)) (s_6 : List Int) : Inn := ⟨[.agg [.d (.int .u16 s_0), .d (.int .u16 s_1), .d (.int .u32 s_2), .d (.int .u32 s_3), .d (.int .u8 s_4), .d (.sl (.pair (.int .u8) (.slice (.int .u8))) s_5), .d (.sl (.int .u8) s_6)]], [], [], 0⟩
def f40_seg_Encode_out (r : List Int × Int) : Out := ⟨.tup [.c (.own 0 (.int .u8) r.1), .c (.d (.int .i64 r.2))], [(0, ⟨5, 0⟩)], [], 1⟩
def f40_seg_Encode_L6 : Nat → (List Int) → (List (Int × List Int)) → Int → Int → Int → Int → Int → Int → Int → (List (Int × List Int)) → (List Int) → Option (List Int × Int × Int × Int × Int × Int × (List (Int × List Int)) × List Int)
  | 0, _, _, _, _, _, _, _, _, _, _, _ => none
  | n + 1, opts, t15, t16, t17, s_0, s_1, s_2, s_3, s_4, s_5, s_6 =>
    if (decide ((t17 : Int) < t16)) = true then
      if (0 : Int) ≤ t17 ∧ t17 < (((t15).length : Nat) : Int) then
      if opts.length + [(t15.getD t17.toNat (0, [])).1, (IntKind.wrap .u8 ((((t15.getD t17.toNat (0, [])).2).length : Nat) : Int))].length ≤ maxLen ∧ (opts.length + [(t15.getD t17.toNat (0, [])).1, (IntKind.wrap .u8 ((((t15.getD t17.toNat (0, [])).2).length : Nat) : Int))].length) * 1 ≤ 140737488355328 then
      if (opts ++ [(t15.getD t17.toNat (0, [])).1, (IntKind.wrap .u8 ((((t15.getD t17.toNat (0, [])).2).length : Nat) : Int))]).length + ((t15.getD t17.toNat (0, [])).2).length ≤ maxLen ∧ ((opts ++ [(t15.getD t17.toNat (0, [])).1, (IntKind.wrap .u8 ((((t15.getD t17.toNat (0, [])).2).length : Nat) : Int))]).length + ((t15.getD t17.toNat (0, [])).2).length) * 1 ≤ 140737488355328 then
      f40_seg_Encode_L6 n ((opts ++ [(t15.getD t17.toNat (0, [])).1, (IntKind.wrap .u8 ((((t15.getD t17.toNat (0, [])).2).length : Nat) : Int))]) ++ (t15.getD t17.toNat (0, [])).2) t15 t16 (IntKind.wrap .i64 (t17 + 1)) s_0 s_1 s_2 s_3 s_4 s_5 s_6
      else none
      else none
      else none
    else
      some ((opts, s_0, s_1, s_2, s_3, s_4, s_5, s_6))
def f40_seg_Encode_L6_k (e : List Int × Int × Int × Int × Int × Int × (List (Int × List Int)) × List Int) (o : Out) : Prop := At Go.Proofs.Try.prog Go.Proofs.Try.f40 0 11 ⟨[(1, .one (.c (.ptr 0 0))), (5, .one (.c (.own 1 (.int .u8) e.1)))], [(1, some ⟨5, 0⟩)], [(0, [.d (.int .u16 e.2.1), .d (.int .u16 e.2.2.1), .d (.int .u32 e.2.2.2.1), .d (.int .u32 e.2.2.2.2.1), .d (.int .u8 e.2.2.2.2.2.1), .d (.sl (.pair (.int .u8) (.slice (.int .u8))) e.2.2.2.2.2.2.1), .d (.sl (.int .u8) e.2.2.2.2.2.2.2)])], 2⟩ o
theorem f40_seg_Encode_L6_ok (n : Nat) : ∀ (opts : List Int) (t15 : List (Int × List Int)) (t16 : Int) (t17 : Int) (s_0 : Int) (s_1 : Int) (s_2 : Int) (s_3 : Int) (s_4 : Int) (s_5 : List (Int × List Int)) (s_6 : List Int) (w : List Int × Int × Int × Int × Int × Int × (List (Int × List Int)) × List Int) (h : f40_seg_Encode_L6 n opts t15 t16 t17 s_0 s_1 s_2 s_3 s_4 s_5 s_6 = some w) (o : Out) (hk : f40_seg_Encode_L6_k w o), At Go.Proofs.Try.prog Go.Proofs.Try.f40 0 6 ⟨[(1, .one (.c (.ptr 0 0))), (5, .one (.c (.own 1 (.int .u8) opts))), (15, .one (.c (.d (.sl (.pair (.int .u8) (.slice (.int .u8))) t15)))), (16, .one (.c (.d (.int .i64 t16)))), (17, .one (.c (.d (.int .i64 t17))))], [(1, some ⟨5, 0⟩)], [(0, [.d (.int .u16 s_0), .d (.int .u16 s_1), .d (.int .u32 s_2), .d (.int .u32 s_3), .d (.int .u8 s_4), .d (.sl (.pair (.int .u8) (.slice (.int .u8))) s_5), .d (.sl (.int .u8) s_6)])], 2⟩ o := by
  induction n with
  | zero => intro opts t15 t16 t17 s_0 s_1 s_2 s_3 s_4 s_5 s_6 w h; rw [f40_seg_Encode_L6] at h; cases h
  | succ n ih =>
    intro opts t15 t16 t17 s_0 s_1 s_2 s_3 s_4 s_5 s_6 w h o hk
    rw [f40_seg_Encode_L6] at h
    rcases iteS h with ⟨b96_e0, h⟩ | ⟨b96_e0, h⟩
    · refine At.step hm ht ⟨[], [true], [], [1, 5, 15, 16, 17], [0, 1]⟩ 7 ⟨[(1, .one (.c (.ptr 0 0))), (5, .one (.c (.own 1 (.int .u8) opts))), (15, .one (.c (.d (.sl (.pair (.int .u8) (.slice (.int .u8))) t15)))), (16, .one (.c (.d (.int .i64 t16)))), (17, .one (.c (.d (.int .i64 t17))))], [(1, some ⟨5, 0⟩)], [(0, [.d (.int .u16 s_0), .d (.int .u16 s_1), .d (.int .u32 s_2), .d (.int .u32 s_3), .d (.int .u8 s_4), .d (.sl (.pair (.int .u8) (.slice (.int .u8))) s_5), .d (.sl (.int .u8) s_6)])], 2⟩ [(decide ((t17 : Int) < t16)) = true] (by kernel_rfl) ⟨b96_e0, trivial⟩ ?_
      obtain ⟨g97_0, h⟩ := ifS h
      refine At.step hm ht ⟨[], [], [], [1, 5, 7, 15, 16, 17], [0, 1, 4]⟩ 8 ⟨[(1, .one (.c (.ptr 0 0))), (5, .one (.c (.own 1 (.int .u8) opts))), (7, .one (.c (.ptr 2 0))), (15, .one (.c (.d (.sl (.pair (.int .u8) (.slice (.int .u8))) t15)))), (16, .one (.c (.d (.int .i64 t16)))), (17, .one (.c (.d (.int .i64 t17))))], [(1, some ⟨5, 0⟩)], [(0, [.d (.int .u16 s_0), .d (.int .u16 s_1), .d (.int .u32 s_2), .d (.int .u32 s_3), .d (.int .u8 s_4), .d (.sl (.pair (.int .u8) (.slice (.int .u8))) s_5), .d (.sl (.int .u8) s_6)]), (2, [.d (.int .u8 ((t15.getD t17.toNat (0, [])).1)), .d (.sl (.int .u8) ((t15.getD t17.toNat (0, [])).2))])], 3⟩ [(0 : Int) ≤ t17 ∧ t17 < (((t15).length : Nat) : Int), 0 + 2 ≤ 2] (by kernel_rfl) ⟨g97_0, (by decide), trivial⟩ ?_
      obtain ⟨g98_0, h⟩ := ifS h
      refine At.step hm ht ⟨[], [], [], [1, 5, 7, 15, 16, 17], [0, 11, 2]⟩ 9 ⟨[(1, .one (.c (.ptr 0 0))), (5, .one (.c (.own 1 (.int .u8) (opts ++ [(t15.getD t17.toNat (0, [])).1, (IntKind.wrap .u8 ((((t15.getD t17.toNat (0, [])).2).length : Nat) : Int))])))), (7, .one (.c (.ptr 2 0))), (15, .one (.c (.d (.sl (.pair (.int .u8) (.slice (.int .u8))) t15)))), (16, .one (.c (.d (.int .i64 t16)))), (17, .one (.c (.d (.int .i64 t17))))], [(1, some ⟨5, 0⟩)], [(0, [.d (.int .u16 s_0), .d (.int .u16 s_1), .d (.int .u32 s_2), .d (.int .u32 s_3), .d (.int .u8 s_4), .d (.sl (.pair (.int .u8) (.slice (.int .u8))) s_5), .d (.sl (.int .u8) s_6)]), (2, [.d (.int .u8 ((t15.getD t17.toNat (0, [])).1)), .d (.sl (.int .u8) ((t15.getD t17.toNat (0, [])).2))])], 3⟩ [opts.length + [(t15.getD t17.toNat (0, [])).1, (IntKind.wrap .u8 ((((t15.getD t17.toNat (0, [])).2).length : Nat) : Int))].length ≤ maxLen ∧ (opts.length + [(t15.getD t17.toNat (0, [])).1, (IntKind.wrap .u8 ((((t15.getD t17.toNat (0, [])).2).length : Nat) : Int))].length) * 1 ≤ 140737488355328] (by kernel_rfl) ⟨g98_0, trivial⟩ ?_
      obtain ⟨g99_0, h⟩ := ifS h
      refine At.step hm ht ⟨[], [], [], [1, 5, 15, 16, 17], [0, 6]⟩ 10 ⟨[(1, .one (.c (.ptr 0 0))), (5, .one (.c (.own 1 (.int .u8) ((opts ++ [(t15.getD t17.toNat (0, [])).1, (IntKind.wrap .u8 ((((t15.getD t17.toNat (0, [])).2).length : Nat) : Int))]) ++ (t15.getD t17.toNat (0, [])).2)))), (15, .one (.c (.d (.sl (.pair (.int .u8) (.slice (.int .u8))) t15)))), (16, .one (.c (.d (.int .i64 t16)))), (17, .one (.c (.d (.int .i64 t17))))], [(1, some ⟨5, 0⟩)], [(0, [.d (.int .u16 s_0), .d (.int .u16 s_1), .d (.int .u32 s_2), .d (.int .u32 s_3), .d (.int .u8 s_4), .d (.sl (.pair (.int .u8) (.slice (.int .u8))) s_5), .d (.sl (.int .u8) s_6)])], 2⟩ [(opts ++ [(t15.getD t17.toNat (0, [])).1, (IntKind.wrap .u8 ((((t15.getD t17.toNat (0, [])).2).length : Nat) : Int))]).length + ((t15.getD t17.toNat (0, [])).2).length ≤ maxLen ∧ ((opts ++ [(t15.getD t17.toNat (0, [])).1, (IntKind.wrap .u8 ((((t15.getD t17.toNat (0, [])).2).length : Nat) : Int))]).length + ((t15.getD t17.toNat (0, [])).2).length) * 1 ≤ 140737488355328] (by kernel_rfl) ⟨g99_0, trivial⟩ ?_
      refine At.step hm ht ⟨[], [], [], [1, 5, 15, 16, 17], [0, 1]⟩ 6 ⟨[(1, .one (.c (.ptr 0 0))), (5, .one (.c (.own 1 (.int .u8) ((opts ++ [(t15.getD t17.toNat (0, [])).1, (IntKind.wrap .u8 ((((t15.getD t17.toNat (0, [])).2).length : Nat) : Int))]) ++ (t15.getD t17.toNat (0, [])).2)))), (15, .one (.c (.d (.sl (.pair (.int .u8) (.slice (.int .u8))) t15)))), (16, .one (.c (.d (.int .i64 t16)))), (17, .one (.c (.d (.int .i64 (IntKind.wrap .i64 (t17 + 1))))))], [(1, some ⟨5, 0⟩)], [(0, [.d (.int .u16 s_0), .d (.int .u16 s_1), .d (.int .u32 s_2), .d (.int .u32 s_3), .d (.int .u8 s_4), .d (.sl (.pair (.int .u8) (.slice (.int .u8))) s_5), .d (.sl (.int .u8) s_6)])], 2⟩ [] (by kernel_rfl) trivial ?_
      exact ih ((opts ++ [(t15.getD t17.toNat (0, [])).1, (IntKind.wrap .u8 ((((t15.getD t17.toNat (0, [])).2).length : Nat) : Int))]) ++ (t15.getD t17.toNat (0, [])).2) t15 t16 (IntKind.wrap .i64 (t17 + 1)) s_0 s_1 s_2 s_3 s_4 s_5 s_6 w h o hk
    · refine At.step hm ht ⟨[], [false], [], [1, 5], [0, 1]⟩ 11 ⟨[(1, .one (.c (.ptr 0 0))), (5, .one (.c (.own 1 (.int .u8) opts)))], [(1, some ⟨5, 0⟩)], [(0, [.d (.int .u16 s_0), .d (.int .u16 s_1), .d (.int .u32 s_2), .d (.int .u32 s_3), .d (.int .u8 s_4), .d (.sl (.pair (.int .u8) (.slice (.int .u8))) s_5), .d (.sl (.int .u8) s_6)])], 2⟩ [(decide ((t17 : Int) < t16)) = false] (by kernel_rfl) ⟨b96_e0, trivial⟩ ?_
      have h := Option.some.inj h
      subst h
      exact hk
def f40_seg_Encode (n : Nat) (s_0 : Int) (s_1 : Int) (s_2 : Int) (s_3 : Int) (s_4 : Int) (s_5 : List (Int × List Int)) (s_6 : List Int) : Option (List Int × Int) :=
  (f42_seg_Right n s_0 s_1 s_2 s_3 s_4 s_5 s_6).bind fun r91_0 =>
  if ((r91_0 : Int) != 0) = true then
    some ([], r91_0)
  else
    (f40_seg_Encode_L6 n [] s_5 ((s_5.length : Nat) : Int) 0 s_0 s_1 s_2 s_3 s_4 s_5 s_6).bind fun w101 =>
    (f44_seg_Header n w101.2.1 w101.2.2.1 w101.2.2.2.1 w101.2.2.2.2.1 w101.2.2.2.2.2.1 w101.2.2.2.2.2.2.1 w101.2.2.2.2.2.2.2).bind fun r103_0 =>
    (f77_pack_B (IntKind.wrap .u8 ((w101.1.length : Nat) : Int))).bind fun r103_1 =>
    (f73_pack_Put n r103_0 [r103_1]).bind fun r103_2 =>
    if r103_2.length + w101.1.length ≤ maxLen ∧ (r103_2.length + w101.1.length) * 1 ≤ 140737488355328 then
    if (r103_2 ++ w101.1).length + w101.2.2.2.2.2.2.2.length ≤ maxLen ∧ ((r103_2 ++ w101.1).length + w101.2.2.2.2.2.2.2.length) * 1 ≤ 140737488355328 then
    some (((r103_2 ++ w101.1) ++ w101.2.2.2.2.2.2.2), 0)
    else none
    else none
theorem f40_seg_Encode_ok (n : Nat) (s_0 : Int) (s_1 : Int) (s_2 : Int) (s_3 : Int) (s_4 : Int) (s_5 : List (Int × List Int)) (s_6 : List Int) (r : List Int × Int) (h : f40_seg_Encode n s_0 s_1 s_2 s_3 s_4 s_5 s_6 = some r) : FnOK Go.Proofs.Try.prog 40 (f40_seg_Encode_in s_0 s_1 s_2 s_3 s_4 s_5 s_6) (f40_seg_Encode_out r) := by
  unfold f40_seg_Encode at h
  refine At.fn (r := 0) Go.Proofs.Try.func40 rfl (by kernel_rfl) rfl rfl (by kernel_rfl) ?_
  show At Go.Proofs.Try.prog Go.Proofs.Try.f40 0 0 ⟨[(0, .one (.agg [.d (.int .u16 s_0), .d (.int .u16 s_1), .d (.int .u32 s_2), .d (.int .u32 s_3), .d (.int .u8 s_4), .d (.sl (.pair (.int .u8) (.slice (.int .u8))) s_5), .d (.sl (.int .u8) s_6)]))], [], [], 0⟩ _
  refine At.step hm ht ⟨[], [], [], [1], [0]⟩ 1 ⟨[(1, .one (.c (.ptr 0 0)))], [], [(0, [.d (.int .u16 s_0), .d (.int .u16 s_1), .d (.int .u32 s_2), .d (.int .u32 s_3), .d (.int .u8 s_4), .d (.sl (.pair (.int .u8) (.slice (.int .u8))) s_5), .d (.sl (.int .u8) s_6)])], 1⟩ [] (by kernel_rfl) trivial ?_
  obtain ⟨r91_0, cr91_0, h⟩ := bindS h
  refine At.step hm ht ⟨[(1, .call [] [] (f42_seg_Right_out r91_0))], [], [], [1, 4], [0]⟩ 2 ⟨[(1, .one (.c (.ptr 0 0))), (4, .one (.c (.d (.int .i64 r91_0))))], [], [(0, [.d (.int .u16 s_0), .d (.int .u16 s_1), .d (.int .u32 s_2), .d (.int .u32 s_3), .d (.int .u8 s_4), .d (.sl (.pair (.int .u8) (.slice (.int .u8))) s_5), .d (.sl (.int .u8) s_6)])], 1⟩ [FnOK Go.Proofs.Try.prog 42 (f42_seg_Right_in s_0 s_1 s_2 s_3 s_4 s_5 s_6) (f42_seg_Right_out r91_0)] (by kernel_rfl) ⟨(f42_seg_Right_ok n s_0 s_1 s_2 s_3 s_4 s_5 s_6 r91_0 cr91_0), trivial⟩ ?_
  rcases iteS h with ⟨b92_e0, h⟩ | ⟨b92_e0, h⟩
  · refine At.step hm ht ⟨[], [true], [], [4], []⟩ 3 ⟨[(4, .one (.c (.d (.int .i64 r91_0))))], [], [], 0⟩ [((r91_0 : Int) != 0) = true] (by kernel_rfl) ⟨b92_e0, trivial⟩ ?_
    have h := Option.some.inj h
    subst h
    exact At.fin hm ht ⟨[], [], [.nil false 2 0 (.int .u8) (some 5)], [2, 3], [3]⟩ [] (by kernel_rfl) trivial
  · refine At.step hm ht ⟨[], [false], [], [1], [0]⟩ 4 ⟨[(1, .one (.c (.ptr 0 0)))], [], [(0, [.d (.int .u16 s_0), .d (.int .u16 s_1), .d (.int .u32 s_2), .d (.int .u32 s_3), .d (.int .u8 s_4), .d (.sl (.pair (.int .u8) (.slice (.int .u8))) s_5), .d (.sl (.int .u8) s_6)])], 1⟩ [((r91_0 : Int) != 0) = false] (by kernel_rfl) ⟨b92_e0, trivial⟩ ?_
    refine At.step hm ht ⟨[], [], [], [1, 5], [0]⟩ 5 ⟨[(1, .one (.c (.ptr 0 0))), (5, .one (.c (.d (.sl .unit []))))], [], [(0, [.d (.int .u16 s_0), .d (.int .u16 s_1), .d (.int .u32 s_2), .d (.int .u32 s_3), .d (.int .u8 s_4), .d (.sl (.pair (.int .u8) (.slice (.int .u8))) s_5), .d (.sl (.int .u8) s_6)])], 1⟩ [] (by kernel_rfl) trivial ?_
    refine At.step hm ht ⟨[], [], [.nil false 5 0 (.int .u8) (some 5)], [1, 5, 15, 16, 17], [0, 5]⟩ 6 ⟨[(1, .one (.c (.ptr 0 0))), (5, .one (.c (.own 1 (.int .u8) []))), (15, .one (.c (.d (.sl (.pair (.int .u8) (.slice (.int .u8))) s_5)))), (16, .one (.c (.d (.int .i64 ((s_5.length : Nat) : Int))))), (17, .one (.c (.d (.int .i64 0))))], [(1, some ⟨5, 0⟩)], [(0, [.d (.int .u16 s_0), .d (.int .u16 s_1), .d (.int .u32 s_2), .d (.int .u32 s_3), .d (.int .u8 s_4), .d (.sl (.pair (.int .u8) (.slice (.int .u8))) s_5), .d (.sl (.int .u8) s_6)])], 2⟩ [] (by kernel_rfl) trivial ?_
    obtain ⟨w101, cw101, h⟩ := bindS h
    refine f40_seg_Encode_L6_ok n [] s_5 ((s_5.length : Nat) : Int) 0 s_0 s_1 s_2 s_3 s_4 s_5 s_6 w101 cw101 _ ?_
    show At Go.Proofs.Try.prog Go.Proofs.Try.f40 0 11 ⟨[(1, .one (.c (.ptr 0 0))), (5, .one (.c (.own 1 (.int .u8) w101.1)))], [(1, some ⟨5, 0⟩)], [(0, [.d (.int .u16 w101.2.1), .d (.int .u16 w101.2.2.1), .d (.int .u32 w101.2.2.2.1), .d (.int .u32 w101.2.2.2.2.1), .d (.int .u8 w101.2.2.2.2.2.1), .d (.sl (.pair (.int .u8) (.slice (.int .u8))) w101.2.2.2.2.2.2.1), .d (.sl (.int .u8) w101.2.2.2.2.2.2.2)])], 2⟩ _
    obtain ⟨r103_0, cr103_0, h⟩ := bindS h
    obtain ⟨r103_1, cr103_1, h⟩ := bindS h
    obtain ⟨r103_2, cr103_2, h⟩ := bindS h
    refine At.step hm ht ⟨[(1, .call [] [] (f44_seg_Header_out r103_0)), (5, .call [] [] (f77_pack_B_out r103_1)), (7, .call [] [] (f73_pack_Put_out r103_2))], [], [], [1, 5, 8], [0, 1, 9]⟩ 12 ⟨[(1, .one (.c (.ptr 0 0))), (5, .one (.c (.own 1 (.int .u8) w101.1))), (8, .one (.c (.own 2 (.int .u8) r103_2)))], [(1, some ⟨5, 0⟩), (2, some ⟨5, 0⟩)], [(0, [.d (.int .u16 w101.2.1), .d (.int .u16 w101.2.2.1), .d (.int .u32 w101.2.2.2.1), .d (.int .u32 w101.2.2.2.2.1), .d (.int .u8 w101.2.2.2.2.2.1), .d (.sl (.pair (.int .u8) (.slice (.int .u8))) w101.2.2.2.2.2.2.1), .d (.sl (.int .u8) w101.2.2.2.2.2.2.2)])], 3⟩ [FnOK Go.Proofs.Try.prog 44 (f44_seg_Header_in w101.2.1 w101.2.2.1 w101.2.2.2.1 w101.2.2.2.2.1 w101.2.2.2.2.2.1 w101.2.2.2.2.2.2.1 w101.2.2.2.2.2.2.2) (f44_seg_Header_out r103_0), FnOK Go.Proofs.Try.prog 77 (f77_pack_B_in (IntKind.wrap .u8 ((w101.1.length : Nat) : Int))) (f77_pack_B_out r103_1), FnOK Go.Proofs.Try.prog 73 (f73_pack_Put_in r103_0 [r103_1]) (f73_pack_Put_out r103_2)] (by kernel_rfl) ⟨(f44_seg_Header_ok n w101.2.1 w101.2.2.1 w101.2.2.2.1 w101.2.2.2.2.1 w101.2.2.2.2.2.1 w101.2.2.2.2.2.2.1 w101.2.2.2.2.2.2.2 r103_0 cr103_0), (f77_pack_B_ok (IntKind.wrap .u8 ((w101.1.length : Nat) : Int)) r103_1 cr103_1), (f73_pack_Put_ok n r103_0 [r103_1] r103_2 cr103_2), trivial⟩ ?_
    obtain ⟨g104_0, h⟩ := ifS h
    obtain ⟨g104_1, h⟩ := ifS h
    have h := Option.some.inj h
    subst h
    exact At.fin hm ht ⟨[], [], [], [2, 3], [8]⟩ [r103_2.length + w101.1.length ≤ maxLen ∧ (r103_2.length + w101.1.length) * 1 ≤ 140737488355328, (r103_2 ++ w101.1).length + w101.2.2.2.2.2.2.2.length ≤ maxLen ∧ ((r103_2 ++ w101.1).length + w101.2.2.2.2.2.2.2.length) * 1 ≤ 140737488355328] (by kernel_rfl) ⟨g104_0, g104_1, trivial⟩
/-! brougham/broughamref07.Right -/
def f43_broughamref07_Right_in (s_0 : Int) (s_1 : Int) (s_2 : Int) (s_3 : Int) (s_4 : Int) (s_5 : List (Int × List Int)) (s_6 : List Int) : Inn := ⟨[.agg [.d (.int .u16 s_0), .d (.int .u16 s_1), .d (.int .u32 s_2), .d (.int .u32 s_3), .d (.int .u8 s_4), .d (.sl (.pair (.int .u8) (.slice (.int .u8))) s_5), .d (.sl (.int .u8) s_6)]], [], [], 0⟩
def f43_broughamref07_Right_out (r : Int) : Out := ⟨.one (.c (.d (.int .i64 r))), [], [], 0⟩
def f43_broughamref07_Right_L5 : Nat → Int → Int → Int → Int → Int → Int → Int → (List (Int × List Int)) → (List Int) → Option ((Int) ⊕ (Int × Int × Int × Int × Int × Int × (List (Int × List Int)) × List Int))
  | 0, _, _, _, _, _, _, _, _, _ => none
  | n + 1, n_, i, s_0, s_1, s_2, s_3, s_4, s_5, s_6 =>
    if (decide ((i : Int) < ((s_5.length : Nat) : Int))) = true then
      if (0 : Int) ≤ i ∧ i < (((s_5).length : Nat) : Int) then
      if ((((s_5.getD i.toNat (0, [])).1) : Int) == 0) = true then
        some (.inl 71)
      else
        if (0 : Int) ≤ i ∧ i < (((s_5).length : Nat) : Int) then
        if (decide ((((((s_5.getD i.toNat (0, [])).2).length : Nat) : Int) : Int) > 255)) = true then
          some (.inl 71)
        else
          if (decide ((n_ : Int) > 200)) = true then
            some (.inl 71)
          else
            if (0 : Int) ≤ i ∧ i < (((s_5).length : Nat) : Int) then
            f43_broughamref07_Right_L5 n (IntKind.wrap .i64 (n_ + (IntKind.wrap .i64 (2 + ((((s_5.getD i.toNat (0, [])).2).length : Nat) : Int))))) (IntKind.wrap .i64 (i + 1)) s_0 s_1 s_2 s_3 s_4 s_5 s_6
            else none
        else none
      else none
    else
      some (.inr ((n_, s_0, s_1, s_2, s_3, s_4, s_5, s_6)))
def f43_broughamref07_Right_L5_k (w : (Int) ⊕ (Int × Int × Int × Int × Int × Int × (List (Int × List Int)) × List Int)) (o : Out) : Prop := match w with
  | .inl e => o = f43_broughamref07_Right_out e
  | .inr e => At Go.Proofs.Try.prog Go.Proofs.Try.f43 0 10 ⟨[(1, .one (.c (.ptr 0 0))), (3, .one (.c (.d (.int .i64 e.1))))], [], [(0, [.d (.int .u16 e.2.1), .d (.int .u16 e.2.2.1), .d (.int .u32 e.2.2.2.1), .d (.int .u32 e.2.2.2.2.1), .d (.int .u8 e.2.2.2.2.2.1), .d (.sl (.pair (.int .u8) (.slice (.int .u8))) e.2.2.2.2.2.2.1), .d (.sl (.int .u8) e.2.2.2.2.2.2.2)])], 1⟩ o
theorem f43_broughamref07_Right_L5_ok (n : Nat) : ∀ (n_ : Int) (i : Int) (s_0 : Int) (s_1 : Int) (s_2 : Int) (s_3 : Int) (s_4 : Int) (s_5 : List (Int × List Int)) (s_6 : List Int) (w : (Int) ⊕ (Int × Int × Int × Int × Int × Int × (List (Int × List Int)) × List Int)) (h : f43_broughamref07_Right_L5 n n_ i s_0 s_1 s_2 s_3 s_4 s_5 s_6 = some w) (o : Out) (hk : f43_broughamref07_Right_L5_k w o), At Go.Proofs.Try.prog Go.Proofs.Try.f43 0 5 ⟨[(1, .one (.c (.ptr 0 0))), (3, .one (.c (.d (.int .i64 n_)))), (4, .one (.c (.d (.int .i64 i))))], [], [(0, [.d (.int .u16 s_0), .d (.int .u16 s_1), .d (.int .u32 s_2), .d (.int .u32 s_3), .d (.int .u8 s_4), .d (.sl (.pair (.int .u8) (.slice (.int .u8))) s_5), .d (.sl (.int .u8) s_6)])], 1⟩ o := by
  induction n with
  | zero => intro n_ i s_0 s_1 s_2 s_3 s_4 s_5 s_6 w h; rw [f43_broughamref07_Right_L5] at h; cases h
  | succ n ih =>
    intro n_ i s_0 s_1 s_2 s_3 s_4 s_5 s_6 w h o hk
    rw [f43_broughamref07_Right_L5] at h
    rcases iteS h with ⟨b113_e0, h⟩ | ⟨b113_e0, h⟩
    · refine At.step hm ht ⟨[], [true], [], [1, 3, 4], [0]⟩ 7 ⟨[(1, .one (.c (.ptr 0 0))), (3, .one (.c (.d (.int .i64 n_)))), (4, .one (.c (.d (.int .i64 i))))], [], [(0, [.d (.int .u16 s_0), .d (.int .u16 s_1), .d (.int .u32 s_2), .d (.int .u32 s_3), .d (.int .u8 s_4), .d (.sl (.pair (.int .u8) (.slice (.int .u8))) s_5), .d (.sl (.int .u8) s_6)])], 1⟩ [(decide ((i : Int) < ((s_5.length : Nat) : Int))) = true] (by kernel_rfl) ⟨b113_e0, trivial⟩ ?_
      obtain ⟨g114_0, h⟩ := ifS h
      rcases iteS h with ⟨b114_7, h⟩ | ⟨b114_7, h⟩
      · refine At.step hm ht ⟨[(7, .b true)], [true], [], [], []⟩ 8 ⟨[], [], [], 0⟩ [(0 : Int) ≤ i ∧ i < (((s_5).length : Nat) : Int), ((((s_5.getD i.toNat (0, [])).1) : Int) == 0) = true, true = true] (by kernel_rfl) ⟨g114_0, b114_7, rfl, trivial⟩ ?_
        have h := Option.some.inj h
        subst h
        have hk : o = f43_broughamref07_Right_out 71 := hk
        subst hk
        exact At.fin hm ht ⟨[], [], [], [2], []⟩ [] (by kernel_rfl) trivial
      · obtain ⟨g114_1, h⟩ := ifS h
        rcases iteS h with ⟨b114_17, h⟩ | ⟨b114_17, h⟩
        · refine At.step hm ht ⟨[(7, .b false), (17, .b true)], [true], [], [], []⟩ 8 ⟨[], [], [], 0⟩ [(0 : Int) ≤ i ∧ i < (((s_5).length : Nat) : Int), ((((s_5.getD i.toNat (0, [])).1) : Int) == 0) = false, (0 : Int) ≤ i ∧ i < (((s_5).length : Nat) : Int), (decide ((((((s_5.getD i.toNat (0, [])).2).length : Nat) : Int) : Int) > 255)) = true, true = true] (by kernel_rfl) ⟨g114_0, b114_7, g114_1, b114_17, rfl, trivial⟩ ?_
          have h := Option.some.inj h
          subst h
          have hk : o = f43_broughamref07_Right_out 71 := hk
          subst hk
          exact At.fin hm ht ⟨[], [], [], [2], []⟩ [] (by kernel_rfl) trivial
        · rcases iteS h with ⟨b114_e0, h⟩ | ⟨b114_e0, h⟩
          · refine At.step hm ht ⟨[(7, .b false), (17, .b false)], [true], [], [], []⟩ 8 ⟨[], [], [], 0⟩ [(0 : Int) ≤ i ∧ i < (((s_5).length : Nat) : Int), ((((s_5.getD i.toNat (0, [])).1) : Int) == 0) = false, (0 : Int) ≤ i ∧ i < (((s_5).length : Nat) : Int), (decide ((((((s_5.getD i.toNat (0, [])).2).length : Nat) : Int) : Int) > 255)) = false, (decide ((n_ : Int) > 200)) = true] (by kernel_rfl) ⟨g114_0, b114_7, g114_1, b114_17, b114_e0, trivial⟩ ?_
            have h := Option.some.inj h
            subst h
            have hk : o = f43_broughamref07_Right_out 71 := hk
            subst hk
            exact At.fin hm ht ⟨[], [], [], [2], []⟩ [] (by kernel_rfl) trivial
          · refine At.step hm ht ⟨[(7, .b false), (17, .b false)], [false], [], [1, 3, 4], [0]⟩ 9 ⟨[(1, .one (.c (.ptr 0 0))), (3, .one (.c (.d (.int .i64 n_)))), (4, .one (.c (.d (.int .i64 i))))], [], [(0, [.d (.int .u16 s_0), .d (.int .u16 s_1), .d (.int .u32 s_2), .d (.int .u32 s_3), .d (.int .u8 s_4), .d (.sl (.pair (.int .u8) (.slice (.int .u8))) s_5), .d (.sl (.int .u8) s_6)])], 1⟩ [(0 : Int) ≤ i ∧ i < (((s_5).length : Nat) : Int), ((((s_5.getD i.toNat (0, [])).1) : Int) == 0) = false, (0 : Int) ≤ i ∧ i < (((s_5).length : Nat) : Int), (decide ((((((s_5.getD i.toNat (0, [])).2).length : Nat) : Int) : Int) > 255)) = false, (decide ((n_ : Int) > 200)) = false] (by kernel_rfl) ⟨g114_0, b114_7, g114_1, b114_17, b114_e0, trivial⟩ ?_
            obtain ⟨g118_0, h⟩ := ifS h
            refine At.step hm ht ⟨[], [], [], [1, 3, 4], [0]⟩ 6 ⟨[(1, .one (.c (.ptr 0 0))), (3, .one (.c (.d (.int .i64 (IntKind.wrap .i64 (n_ + (IntKind.wrap .i64 (2 + ((((s_5.getD i.toNat (0, [])).2).length : Nat) : Int))))))))), (4, .one (.c (.d (.int .i64 i))))], [], [(0, [.d (.int .u16 s_0), .d (.int .u16 s_1), .d (.int .u32 s_2), .d (.int .u32 s_3), .d (.int .u8 s_4), .d (.sl (.pair (.int .u8) (.slice (.int .u8))) s_5), .d (.sl (.int .u8) s_6)])], 1⟩ [(0 : Int) ≤ i ∧ i < (((s_5).length : Nat) : Int)] (by kernel_rfl) ⟨g118_0, trivial⟩ ?_
            refine At.step hm ht ⟨[], [], [], [1, 3, 4], [0]⟩ 5 ⟨[(1, .one (.c (.ptr 0 0))), (3, .one (.c (.d (.int .i64 (IntKind.wrap .i64 (n_ + (IntKind.wrap .i64 (2 + ((((s_5.getD i.toNat (0, [])).2).length : Nat) : Int))))))))), (4, .one (.c (.d (.int .i64 (IntKind.wrap .i64 (i + 1))))))], [], [(0, [.d (.int .u16 s_0), .d (.int .u16 s_1), .d (.int .u32 s_2), .d (.int .u32 s_3), .d (.int .u8 s_4), .d (.sl (.pair (.int .u8) (.slice (.int .u8))) s_5), .d (.sl (.int .u8) s_6)])], 1⟩ [] (by kernel_rfl) trivial ?_
            exact ih (IntKind.wrap .i64 (n_ + (IntKind.wrap .i64 (2 + ((((s_5.getD i.toNat (0, [])).2).length : Nat) : Int))))) (IntKind.wrap .i64 (i + 1)) s_0 s_1 s_2 s_3 s_4 s_5 s_6 w h o hk
    · refine At.step hm ht ⟨[], [false], [], [1, 3], [0]⟩ 10 ⟨[(1, .one (.c (.ptr 0 0))), (3, .one (.c (.d (.int .i64 n_))))], [], [(0, [.d (.int .u16 s_0), .d (.int .u16 s_1), .d (.int .u32 s_2), .d (.int .u32 s_3), .d (.int .u8 s_4), .d (.sl (.pair (.int .u8) (.slice (.int .u8))) s_5), .d (.sl (.int .u8) s_6)])], 1⟩ [(decide ((i : Int) < ((s_5.length : Nat) : Int))) = false] (by kernel_rfl) ⟨b113_e0, trivial⟩ ?_
      have h := Option.some.inj h
      subst h
      exact hk
def f43_broughamref07_Right (n : Nat) (s_0 : Int) (s_1 : Int) (s_2 : Int) (s_3 : Int) (s_4 : Int) (s_5 : List (Int × List Int)) (s_6 : List Int) : Option (Int) :=
  if (decide ((s_4 : Int) > 7)) = true then
    some 70
  else
    (f43_broughamref07_Right_L5 n 0 0 s_0 s_1 s_2 s_3 s_4 s_5 s_6).bind fun w120 =>
    match w120 with
    | .inl e121 =>
      some e121
    | .inr e122 =>
      if (decide ((e122.1 : Int) > 200)) = true then
        some 71
      else
        if (decide ((((e122.2.2.2.2.2.2.2.length : Nat) : Int) : Int) > 1024)) = true then
          some 72
        else
          some 0
theorem f43_broughamref07_Right_ok (n : Nat) (s_0 : Int) (s_1 : Int) (s_2 : Int) (s_3 : Int) (s_4 : Int) (s_5 : List (Int × List Int)) (s_6 : List Int) (r : Int) (h : f43_broughamref07_Right n s_0 s_1 s_2 s_3 s_4 s_5 s_6 = some r) : FnOK Go.Proofs.Try.prog 43 (f43_broughamref07_Right_in s_0 s_1 s_2 s_3 s_4 s_5 s_6) (f43_broughamref07_Right_out r) := by
  unfold f43_broughamref07_Right at h
  refine At.fn (r := 0) Go.Proofs.Try.func43 rfl (by kernel_rfl) rfl rfl (by kernel_rfl) ?_
  show At Go.Proofs.Try.prog Go.Proofs.Try.f43 0 0 ⟨[(0, .one (.agg [.d (.int .u16 s_0), .d (.int .u16 s_1), .d (.int .u32 s_2), .d (.int .u32 s_3), .d (.int .u8 s_4), .d (.sl (.pair (.int .u8) (.slice (.int .u8))) s_5), .d (.sl (.int .u8) s_6)]))], [], [], 0⟩ _
  refine At.step hm ht ⟨[], [], [], [1], [0]⟩ 1 ⟨[(1, .one (.c (.ptr 0 0)))], [], [(0, [.d (.int .u16 s_0), .d (.int .u16 s_1), .d (.int .u32 s_2), .d (.int .u32 s_3), .d (.int .u8 s_4), .d (.sl (.pair (.int .u8) (.slice (.int .u8))) s_5), .d (.sl (.int .u8) s_6)])], 1⟩ [] (by kernel_rfl) trivial ?_
  rcases iteS h with ⟨b109_e0, h⟩ | ⟨b109_e0, h⟩
  · refine At.step hm ht ⟨[], [true], [], [], []⟩ 2 ⟨[], [], [], 0⟩ [(decide ((s_4 : Int) > 7)) = true] (by kernel_rfl) ⟨b109_e0, trivial⟩ ?_
    have h := Option.some.inj h
    subst h
    exact At.fin hm ht ⟨[], [], [], [2], []⟩ [] (by kernel_rfl) trivial
  · refine At.step hm ht ⟨[], [false], [], [1], [0]⟩ 3 ⟨[(1, .one (.c (.ptr 0 0)))], [], [(0, [.d (.int .u16 s_0), .d (.int .u16 s_1), .d (.int .u32 s_2), .d (.int .u32 s_3), .d (.int .u8 s_4), .d (.sl (.pair (.int .u8) (.slice (.int .u8))) s_5), .d (.sl (.int .u8) s_6)])], 1⟩ [(decide ((s_4 : Int) > 7)) = false] (by kernel_rfl) ⟨b109_e0, trivial⟩ ?_
    refine At.step hm ht ⟨[], [], [], [1, 3], [0]⟩ 4 ⟨[(1, .one (.c (.ptr 0 0))), (3, .one (.c (.d (.int .i64 0))))], [], [(0, [.d (.int .u16 s_0), .d (.int .u16 s_1), .d (.int .u32 s_2), .d (.int .u32 s_3), .d (.int .u8 s_4), .d (.sl (.pair (.int .u8) (.slice (.int .u8))) s_5), .d (.sl (.int .u8) s_6)])], 1⟩ [] (by kernel_rfl) trivial ?_
    refine At.step hm ht ⟨[], [], [], [1, 3, 4], [0]⟩ 5 ⟨[(1, .one (.c (.ptr 0 0))), (3, .one (.c (.d (.int .i64 0)))), (4, .one (.c (.d (.int .i64 0))))], [], [(0, [.d (.int .u16 s_0), .d (.int .u16 s_1), .d (.int .u32 s_2), .d (.int .u32 s_3), .d (.int .u8 s_4), .d (.sl (.pair (.int .u8) (.slice (.int .u8))) s_5), .d (.sl (.int .u8) s_6)])], 1⟩ [] (by kernel_rfl) trivial ?_
    obtain ⟨w120, cw120, h⟩ := bindS h
    refine f43_broughamref07_Right_L5_ok n 0 0 s_0 s_1 s_2 s_3 s_4 s_5 s_6 w120 cw120 _ ?_
    rcases w120 with e121 | e122
    · have h := Option.some.inj h
      subst h
      rfl
    · show At Go.Proofs.Try.prog Go.Proofs.Try.f43 0 10 ⟨[(1, .one (.c (.ptr 0 0))), (3, .one (.c (.d (.int .i64 e122.1))))], [], [(0, [.d (.int .u16 e122.2.1), .d (.int .u16 e122.2.2.1), .d (.int .u32 e122.2.2.2.1), .d (.int .u32 e122.2.2.2.2.1), .d (.int .u8 e122.2.2.2.2.2.1), .d (.sl (.pair (.int .u8) (.slice (.int .u8))) e122.2.2.2.2.2.2.1), .d (.sl (.int .u8) e122.2.2.2.2.2.2.2)])], 1⟩ _
      rcases iteS h with ⟨b123_e0, h⟩ | ⟨b123_e0, h⟩
      · refine At.step hm ht ⟨[], [true], [], [], []⟩ 11 ⟨[], [], [], 0⟩ [(decide ((e122.1 : Int) > 200)) = true] (by kernel_rfl) ⟨b123_e0, trivial⟩ ?_
        have h := Option.some.inj h
        subst h
        exact At.fin hm ht ⟨[], [], [], [2], []⟩ [] (by kernel_rfl) trivial
      · refine At.step hm ht ⟨[], [false], [], [1], [0]⟩ 12 ⟨[(1, .one (.c (.ptr 0 0)))], [], [(0, [.d (.int .u16 e122.2.1), .d (.int .u16 e122.2.2.1), .d (.int .u32 e122.2.2.2.1), .d (.int .u32 e122.2.2.2.2.1), .d (.int .u8 e122.2.2.2.2.2.1), .d (.sl (.pair (.int .u8) (.slice (.int .u8))) e122.2.2.2.2.2.2.1), .d (.sl (.int .u8) e122.2.2.2.2.2.2.2)])], 1⟩ [(decide ((e122.1 : Int) > 200)) = false] (by kernel_rfl) ⟨b123_e0, trivial⟩ ?_
        rcases iteS h with ⟨b125_e0, h⟩ | ⟨b125_e0, h⟩
        · refine At.step hm ht ⟨[], [true], [], [], []⟩ 13 ⟨[], [], [], 0⟩ [(decide ((((e122.2.2.2.2.2.2.2.length : Nat) : Int) : Int) > 1024)) = true] (by kernel_rfl) ⟨b125_e0, trivial⟩ ?_
          have h := Option.some.inj h
          subst h
          exact At.fin hm ht ⟨[], [], [], [2], []⟩ [] (by kernel_rfl) trivial
        · refine At.step hm ht ⟨[], [false], [], [], []⟩ 14 ⟨[], [], [], 0⟩ [(decide ((((e122.2.2.2.2.2.2.2.length : Nat) : Int) : Int) > 1024)) = false] (by kernel_rfl) ⟨b125_e0, trivial⟩ ?_
          have h := Option.some.inj h
          subst h
          exact At.fin hm ht ⟨[], [], [], [2], []⟩ [] (by kernel_rfl) trivial
/-! brougham/broughamref02.Put -/
def f75_broughamref02_Put_in (n_ : Int) (bytes : Int) : Inn := ⟨[.c (.d (.sl .unit [])), .c (.d (.int .u64 n_)), .c (.d (.int .i64 bytes))], [], [], 0⟩
def f75_broughamref02_Put_out (r : List Int) : Out := ⟨.one (.c (.own 0 (.int .u8) r)), [(0, ⟨5, 0⟩)], [], 1⟩
def f75_broughamref02_Put : Nat → Int → Int → Option (List Int)
  | 0, _, _ => none
  | n + 1, n_, bytes =>
    if (decide ((bytes : Int) < 1)) = true then
      some []
    else
      if (decide ((bytes : Int) > 8)) = true then
        some []
      else
        (f75_broughamref02_Put n (IntKind.wrap .u64 (Int.tdiv n_ 256)) (IntKind.wrap .i64 (bytes - 1))).bind fun r167_0 =>
        if r167_0.length + [(IntKind.wrap .u8 (Int.tmod n_ 256))].length ≤ maxLen ∧ (r167_0.length + [(IntKind.wrap .u8 (Int.tmod n_ 256))].length) * 1 ≤ 140737488355328 then
        some (r167_0 ++ [(IntKind.wrap .u8 (Int.tmod n_ 256))])
        else none
theorem f75_broughamref02_Put_ok (n : Nat) : ∀ (n_ : Int) (bytes : Int) (r : List Int) (h : f75_broughamref02_Put n n_ bytes = some r), FnOK Go.Proofs.Try.prog 75 (f75_broughamref02_Put_in n_ bytes) (f75_broughamref02_Put_out r) := by
  induction n with
  | zero => intro n_ bytes r h; rw [f75_broughamref02_Put] at h; cases h
  | succ n ih =>
    intro n_ bytes r h
    rw [f75_broughamref02_Put] at h
    refine At.fn (r := 0) Go.Proofs.Try.func75 rfl (by kernel_rfl) rfl rfl (by kernel_rfl) ?_
    show At Go.Proofs.Try.prog Go.Proofs.Try.f75 0 0 ⟨[(0, .one (.c (.d (.sl .unit [])))), (1, .one (.c (.d (.int .u64 n_)))), (2, .one (.c (.d (.int .i64 bytes))))], [], [], 0⟩ _
    refine At.step hm ht ⟨[], [], [], [0, 1, 2], []⟩ 1 ⟨[(0, .one (.c (.d (.sl .unit [])))), (1, .one (.c (.d (.int .u64 n_)))), (2, .one (.c (.d (.int .i64 bytes))))], [], [], 0⟩ [] (by kernel_rfl) trivial ?_
    rcases iteS h with ⟨b164_2, h⟩ | ⟨b164_2, h⟩
    · refine At.step hm ht ⟨[(2, .b true)], [true], [], [0], []⟩ 2 ⟨[(0, .one (.c (.d (.sl .unit []))))], [], [], 0⟩ [(decide ((bytes : Int) < 1)) = true, true = true] (by kernel_rfl) ⟨b164_2, rfl, trivial⟩ ?_
      have h := Option.some.inj h
      subst h
      exact At.fin hm ht ⟨[], [], [.nil false 6 0 (.int .u8) (some 5)], [6], [2]⟩ [] (by kernel_rfl) trivial
    · rcases iteS h with ⟨b164_e0, h⟩ | ⟨b164_e0, h⟩
      · refine At.step hm ht ⟨[(2, .b false)], [true], [], [0], []⟩ 2 ⟨[(0, .one (.c (.d (.sl .unit []))))], [], [], 0⟩ [(decide ((bytes : Int) < 1)) = false, (decide ((bytes : Int) > 8)) = true] (by kernel_rfl) ⟨b164_2, b164_e0, trivial⟩ ?_
        have h := Option.some.inj h
        subst h
        exact At.fin hm ht ⟨[], [], [.nil false 6 0 (.int .u8) (some 5)], [6], [2]⟩ [] (by kernel_rfl) trivial
      · refine At.step hm ht ⟨[(2, .b false)], [false], [], [0, 1, 2], []⟩ 3 ⟨[(0, .one (.c (.d (.sl .unit [])))), (1, .one (.c (.d (.int .u64 n_)))), (2, .one (.c (.d (.int .i64 bytes))))], [], [], 0⟩ [(decide ((bytes : Int) < 1)) = false, (decide ((bytes : Int) > 8)) = false] (by kernel_rfl) ⟨b164_2, b164_e0, trivial⟩ ?_
        obtain ⟨r167_0, cr167_0, h⟩ := bindS h
        refine At.step hm ht ⟨[(5, .call [] [] (f75_broughamref02_Put_out r167_0))], [], [], [0, 1], [5]⟩ 4 ⟨[(0, .one (.c (.own 0 (.int .u8) r167_0))), (1, .one (.c (.d (.int .u64 n_))))], [(0, some ⟨5, 0⟩)], [], 1⟩ [(256 : Int) ≠ 0, FnOK Go.Proofs.Try.prog 75 (f75_broughamref02_Put_in (IntKind.wrap .u64 (Int.tdiv n_ 256)) (IntKind.wrap .i64 (bytes - 1))) (f75_broughamref02_Put_out r167_0)] (by kernel_rfl) ⟨(by decide), (ih (IntKind.wrap .u64 (Int.tdiv n_ 256)) (IntKind.wrap .i64 (bytes - 1)) r167_0 cr167_0), trivial⟩ ?_
        obtain ⟨g168_0, h⟩ := ifS h
        have h := Option.some.inj h
        subst h
        exact At.fin hm ht ⟨[], [], [], [6], [6]⟩ [(256 : Int) ≠ 0, r167_0.length + [(IntKind.wrap .u8 (Int.tmod n_ 256))].length ≤ maxLen ∧ (r167_0.length + [(IntKind.wrap .u8 (Int.tmod n_ 256))].length) * 1 ≤ 140737488355328] (by kernel_rfl) ⟨(by decide), g168_0, trivial⟩
/-! brougham/broughamref02.Put -/
def f75_broughamref02_Put_v2_in (b : List Int) (n_ : Int) (bytes : Int) : Inn := ⟨[.c (.own 0 (.int .u8) b), .c (.d (.int .u64 n_)), .c (.d (.int .i64 bytes))], [(0, ⟨5, 0⟩)], [], 1⟩
def f75_broughamref02_Put_v2_out (r : List Int) : Out := ⟨.one (.c (.own 1 (.int .u8) r)), [(1, ⟨5, 0⟩)], [], 2⟩
def f75_broughamref02_Put_v2 : Nat → (List Int) → Int → Int → Option (List Int)
  | 0, _, _, _ => none
  | n + 1, b, n_, bytes =>
    if (decide ((bytes : Int) < 1)) = true then
      some b
    else
      if (decide ((bytes : Int) > 8)) = true then
        some b
      else
        (f75_broughamref02_Put_v2 n b (IntKind.wrap .u64 (Int.tdiv n_ 256)) (IntKind.wrap .i64 (bytes - 1))).bind fun r180_0 =>
        if r180_0.length + [(IntKind.wrap .u8 (Int.tmod n_ 256))].length ≤ maxLen ∧ (r180_0.length + [(IntKind.wrap .u8 (Int.tmod n_ 256))].length) * 1 ≤ 140737488355328 then
        some (r180_0 ++ [(IntKind.wrap .u8 (Int.tmod n_ 256))])
        else none
theorem f75_broughamref02_Put_v2_ok (n : Nat) : ∀ (b : List Int) (n_ : Int) (bytes : Int) (r : List Int) (h : f75_broughamref02_Put_v2 n b n_ bytes = some r), FnOK Go.Proofs.Try.prog 75 (f75_broughamref02_Put_v2_in b n_ bytes) (f75_broughamref02_Put_v2_out r) := by
  induction n with
  | zero => intro b n_ bytes r h; rw [f75_broughamref02_Put_v2] at h; cases h
  | succ n ih =>
    intro b n_ bytes r h
    rw [f75_broughamref02_Put_v2] at h
    refine At.fn (r := 0) Go.Proofs.Try.func75 rfl (by kernel_rfl) rfl rfl (by kernel_rfl) ?_
    show At Go.Proofs.Try.prog Go.Proofs.Try.f75 1 0 ⟨[(0, .one (.c (.own 0 (.int .u8) b))), (1, .one (.c (.d (.int .u64 n_)))), (2, .one (.c (.d (.int .i64 bytes))))], [(0, some ⟨5, 0⟩)], [], 1⟩ _
    refine At.step hm ht ⟨[], [], [], [0, 1, 2], [0]⟩ 1 ⟨[(0, .one (.c (.own 0 (.int .u8) b))), (1, .one (.c (.d (.int .u64 n_)))), (2, .one (.c (.d (.int .i64 bytes))))], [(0, some ⟨5, 0⟩)], [], 1⟩ [] (by kernel_rfl) trivial ?_
    rcases iteS h with ⟨b177_2, h⟩ | ⟨b177_2, h⟩
    · refine At.step hm ht ⟨[(2, .b true)], [true], [], [0], [0]⟩ 2 ⟨[(0, .one (.c (.own 0 (.int .u8) b)))], [(0, some ⟨5, 0⟩)], [], 1⟩ [(decide ((bytes : Int) < 1)) = true, true = true] (by kernel_rfl) ⟨b177_2, rfl, trivial⟩ ?_
      have h := Option.some.inj h
      subst h
      exact At.fin hm ht ⟨[], [], [.mv 0 6 0], [6], [0, 3]⟩ [] (by kernel_rfl) trivial
    · rcases iteS h with ⟨b177_e0, h⟩ | ⟨b177_e0, h⟩
      · refine At.step hm ht ⟨[(2, .b false)], [true], [], [0], [0]⟩ 2 ⟨[(0, .one (.c (.own 0 (.int .u8) b)))], [(0, some ⟨5, 0⟩)], [], 1⟩ [(decide ((bytes : Int) < 1)) = false, (decide ((bytes : Int) > 8)) = true] (by kernel_rfl) ⟨b177_2, b177_e0, trivial⟩ ?_
        have h := Option.some.inj h
        subst h
        exact At.fin hm ht ⟨[], [], [.mv 0 6 0], [6], [0, 3]⟩ [] (by kernel_rfl) trivial
      · refine At.step hm ht ⟨[(2, .b false)], [false], [], [0, 1, 2], [0]⟩ 3 ⟨[(0, .one (.c (.own 0 (.int .u8) b))), (1, .one (.c (.d (.int .u64 n_)))), (2, .one (.c (.d (.int .i64 bytes))))], [(0, some ⟨5, 0⟩)], [], 1⟩ [(decide ((bytes : Int) < 1)) = false, (decide ((bytes : Int) > 8)) = false] (by kernel_rfl) ⟨b177_2, b177_e0, trivial⟩ ?_
        obtain ⟨r180_0, cr180_0, h⟩ := bindS h
        refine At.step hm ht ⟨[(5, .call [0] [] (f75_broughamref02_Put_v2_out r180_0))], [], [], [0, 1], [0, 7]⟩ 4 ⟨[(0, .one (.c (.own 1 (.int .u8) r180_0))), (1, .one (.c (.d (.int .u64 n_))))], [(1, some ⟨5, 0⟩)], [], 2⟩ [(256 : Int) ≠ 0, FnOK Go.Proofs.Try.prog 75 (f75_broughamref02_Put_v2_in b (IntKind.wrap .u64 (Int.tdiv n_ 256)) (IntKind.wrap .i64 (bytes - 1))) (f75_broughamref02_Put_v2_out r180_0)] (by kernel_rfl) ⟨(by decide), (ih b (IntKind.wrap .u64 (Int.tdiv n_ 256)) (IntKind.wrap .i64 (bytes - 1)) r180_0 cr180_0), trivial⟩ ?_
        obtain ⟨g181_0, h⟩ := ifS h
        have h := Option.some.inj h
        subst h
        exact At.fin hm ht ⟨[], [], [], [6], [0, 7]⟩ [(256 : Int) ≠ 0, r180_0.length + [(IntKind.wrap .u8 (Int.tmod n_ 256))].length ≤ maxLen ∧ (r180_0.length + [(IntKind.wrap .u8 (Int.tmod n_ 256))].length) * 1 ≤ 140737488355328] (by kernel_rfl) ⟨(by decide), g181_0, trivial⟩
/-! brougham/broughamref07.Header -/
def f45_broughamref07_Header_in (s_0 : Int) (s_1 : Int) (s_2 : Int) (s_3 : Int) (s_4 : Int) (s_5 : List (Int × List Int)) (s_6 : List Int) : Inn := ⟨[.agg [.d (.int .u16 s_0), .d (.int .u16 s_1), .d (.int .u32 s_2), .d (.int .u32 s_3), .d (.int .u8 s_4), .d (.sl (.pair (.int .u8) (.slice (.int .u8))) s_5), .d (.sl (.int .u8) s_6)]], [], [], 0⟩
def f45_broughamref07_Header_out (r : List Int) : Out := ⟨.one (.c (.own 0 (.int .u8) r)), [(0, ⟨5, 0⟩)], [], 1⟩
def f45_broughamref07_Header (n : Nat) (s_0 : Int) (s_1 : Int) (s_2 : Int) (s_3 : Int) (s_4 : Int) (s_5 : List (Int × List Int)) (s_6 : List Int) : Option (List Int) :=
  (f75_broughamref02_Put n (IntKind.wrap .u64 s_0) 2).bind fun r150_0 =>
  (f75_broughamref02_Put_v2 n r150_0 (IntKind.wrap .u64 s_1) 2).bind fun r169_0 =>
  (f75_broughamref02_Put_v2 n r169_0 (IntKind.wrap .u64 s_2) 4).bind fun r182_0 =>
  (f75_broughamref02_Put_v2 n r182_0 (IntKind.wrap .u64 s_3) 4).bind fun r183_0 =>
  if r183_0.length + [s_4].length ≤ maxLen ∧ (r183_0.length + [s_4].length) * 1 ≤ 140737488355328 then
  some (r183_0 ++ [s_4])
  else none
theorem f45_broughamref07_Header_ok (n : Nat) (s_0 : Int) (s_1 : Int) (s_2 : Int) (s_3 : Int) (s_4 : Int) (s_5 : List (Int × List Int)) (s_6 : List Int) (r : List Int) (h : f45_broughamref07_Header n s_0 s_1 s_2 s_3 s_4 s_5 s_6 = some r) : FnOK Go.Proofs.Try.prog 45 (f45_broughamref07_Header_in s_0 s_1 s_2 s_3 s_4 s_5 s_6) (f45_broughamref07_Header_out r) := by
  unfold f45_broughamref07_Header at h
  refine At.fn (r := 0) Go.Proofs.Try.func45 rfl (by kernel_rfl) rfl rfl (by kernel_rfl) ?_
  show At Go.Proofs.Try.prog Go.Proofs.Try.f45 0 0 ⟨[(0, .one (.agg [.d (.int .u16 s_0), .d (.int .u16 s_1), .d (.int .u32 s_2), .d (.int .u32 s_3), .d (.int .u8 s_4), .d (.sl (.pair (.int .u8) (.slice (.int .u8))) s_5), .d (.sl (.int .u8) s_6)]))], [], [], 0⟩ _
  refine At.step hm ht ⟨[], [], [], [1], [0]⟩ 1 ⟨[(1, .one (.c (.ptr 0 0)))], [], [(0, [.d (.int .u16 s_0), .d (.int .u16 s_1), .d (.int .u32 s_2), .d (.int .u32 s_3), .d (.int .u8 s_4), .d (.sl (.pair (.int .u8) (.slice (.int .u8))) s_5), .d (.sl (.int .u8) s_6)])], 1⟩ [] (by kernel_rfl) trivial ?_
  obtain ⟨r150_0, cr150_0, h⟩ := bindS h
  refine At.step hm ht ⟨[(3, .call [] [] (f75_broughamref02_Put_out r150_0))], [], [], [1, 3], [0, 4]⟩ 2 ⟨[(1, .one (.c (.ptr 0 0))), (3, .one (.c (.own 1 (.int .u8) r150_0)))], [(1, some ⟨5, 0⟩)], [(0, [.d (.int .u16 s_0), .d (.int .u16 s_1), .d (.int .u32 s_2), .d (.int .u32 s_3), .d (.int .u8 s_4), .d (.sl (.pair (.int .u8) (.slice (.int .u8))) s_5), .d (.sl (.int .u8) s_6)])], 2⟩ [FnOK Go.Proofs.Try.prog 75 (f75_broughamref02_Put_in (IntKind.wrap .u64 s_0) 2) (f75_broughamref02_Put_out r150_0)] (by kernel_rfl) ⟨(f75_broughamref02_Put_ok n (IntKind.wrap .u64 s_0) 2 r150_0 cr150_0), trivial⟩ ?_
  obtain ⟨r169_0, cr169_0, h⟩ := bindS h
  refine At.step hm ht ⟨[(4, .call [1] [] (f75_broughamref02_Put_v2_out r169_0))], [], [], [1, 3], [0, 7]⟩ 3 ⟨[(1, .one (.c (.ptr 0 0))), (3, .one (.c (.own 1 (.int .u8) r169_0)))], [(1, some ⟨5, 0⟩)], [(0, [.d (.int .u16 s_0), .d (.int .u16 s_1), .d (.int .u32 s_2), .d (.int .u32 s_3), .d (.int .u8 s_4), .d (.sl (.pair (.int .u8) (.slice (.int .u8))) s_5), .d (.sl (.int .u8) s_6)])], 2⟩ [FnOK Go.Proofs.Try.prog 75 (f75_broughamref02_Put_v2_in r150_0 (IntKind.wrap .u64 s_1) 2) (f75_broughamref02_Put_v2_out r169_0)] (by kernel_rfl) ⟨(f75_broughamref02_Put_v2_ok n r150_0 (IntKind.wrap .u64 s_1) 2 r169_0 cr169_0), trivial⟩ ?_
  obtain ⟨r182_0, cr182_0, h⟩ := bindS h
  refine At.step hm ht ⟨[(4, .call [1] [] (f75_broughamref02_Put_v2_out r182_0))], [], [], [1, 3], [0, 7]⟩ 4 ⟨[(1, .one (.c (.ptr 0 0))), (3, .one (.c (.own 1 (.int .u8) r182_0)))], [(1, some ⟨5, 0⟩)], [(0, [.d (.int .u16 s_0), .d (.int .u16 s_1), .d (.int .u32 s_2), .d (.int .u32 s_3), .d (.int .u8 s_4), .d (.sl (.pair (.int .u8) (.slice (.int .u8))) s_5), .d (.sl (.int .u8) s_6)])], 2⟩ [FnOK Go.Proofs.Try.prog 75 (f75_broughamref02_Put_v2_in r169_0 (IntKind.wrap .u64 s_2) 4) (f75_broughamref02_Put_v2_out r182_0)] (by kernel_rfl) ⟨(f75_broughamref02_Put_v2_ok n r169_0 (IntKind.wrap .u64 s_2) 4 r182_0 cr182_0), trivial⟩ ?_
  obtain ⟨r183_0, cr183_0, h⟩ := bindS h
  refine At.step hm ht ⟨[(4, .call [1] [] (f75_broughamref02_Put_v2_out r183_0))], [], [], [1, 3], [0, 7]⟩ 5 ⟨[(1, .one (.c (.ptr 0 0))), (3, .one (.c (.own 1 (.int .u8) r183_0)))], [(1, some ⟨5, 0⟩)], [(0, [.d (.int .u16 s_0), .d (.int .u16 s_1), .d (.int .u32 s_2), .d (.int .u32 s_3), .d (.int .u8 s_4), .d (.sl (.pair (.int .u8) (.slice (.int .u8))) s_5), .d (.sl (.int .u8) s_6)])], 2⟩ [FnOK Go.Proofs.Try.prog 75 (f75_broughamref02_Put_v2_in r182_0 (IntKind.wrap .u64 s_3) 4) (f75_broughamref02_Put_v2_out r183_0)] (by kernel_rfl) ⟨(f75_broughamref02_Put_v2_ok n r182_0 (IntKind.wrap .u64 s_3) 4 r183_0 cr183_0), trivial⟩ ?_
  obtain ⟨g184_0, h⟩ := ifS h
  have h := Option.some.inj h
  subst h
  exact At.fin hm ht ⟨[], [], [], [2], [6]⟩ [r183_0.length + [s_4].length ≤ maxLen ∧ (r183_0.length + [s_4].length) * 1 ≤ 140737488355328] (by kernel_rfl) ⟨g184_0, trivial⟩
/-! brougham/broughamref07.Encode -/
def f41_broughamref07_Encode_in (s_0 : Int) (s_1 : Int) (s_2 : Int) (s_3 : Int) (s_4 : Int) (s_5 : List (Int × List Int)) (s_6 : List Int) : Inn := ⟨[.agg [.d (.int .u16 s_0), .d (.int .u16 s_1), .d (.int .u32 s_2), .d (.int .u32 s_3), .d (.int .u8 s_4), .d (.sl (.pair (.int .u8) (.slice (.int .u8))) s_5), .d (.sl (.int .u8) s_6)]], [], [], 0⟩
def f41_broughamref07_Encode_out (r : List Int × Int) : Out := ⟨.tup [.c (.own 0 (.int .u8) r.1), .c (.d (.int .i64 r.2))], [(0, ⟨5, 0⟩)], [], 1⟩
def f41_broughamref07_Encode_L6 : Nat → (List Int) → Int → Int → Int → Int → Int → Int → (List (Int × List Int)) → (List Int) → Option (List Int × Int × Int × Int × Int × Int × (List (Int × List Int)) × List Int)
  | 0, _, _, _, _, _, _, _, _, _ => none
  | n + 1, opts, i, s_0, s_1, s_2, s_3, s_4, s_5, s_6 =>
    if (decide ((i : Int) < ((s_5.length : Nat) : Int))) = true then
      if (0 : Int) ≤ i ∧ i < (((s_5).length : Nat) : Int) then
      if (0 : Int) ≤ i ∧ i < (((s_5).length : Nat) : Int) then
      if opts.length + [(s_5.getD i.toNat (0, [])).1, (IntKind.wrap .u8 ((((s_5.getD i.toNat (0, [])).2).length : Nat) : Int))].length ≤ maxLen ∧ (opts.length + [(s_5.getD i.toNat (0, [])).1, (IntKind.wrap .u8 ((((s_5.getD i.toNat (0, [])).2).length : Nat) : Int))].length) * 1 ≤ 140737488355328 then
      if (0 : Int) ≤ i ∧ i < (((s_5).length : Nat) : Int) then
      if (opts ++ [(s_5.getD i.toNat (0, [])).1, (IntKind.wrap .u8 ((((s_5.getD i.toNat (0, [])).2).length : Nat) : Int))]).length + ((s_5.getD i.toNat (0, [])).2).length ≤ maxLen ∧ ((opts ++ [(s_5.getD i.toNat (0, [])).1, (IntKind.wrap .u8 ((((s_5.getD i.toNat (0, [])).2).length : Nat) : Int))]).length + ((s_5.getD i.toNat (0, [])).2).length) * 1 ≤ 140737488355328 then
      f41_broughamref07_Encode_L6 n ((opts ++ [(s_5.getD i.toNat (0, [])).1, (IntKind.wrap .u8 ((((s_5.getD i.toNat (0, [])).2).length : Nat) : Int))]) ++ (s_5.getD i.toNat (0, [])).2) (IntKind.wrap .i64 (i + 1)) s_0 s_1 s_2 s_3 s_4 s_5 s_6
      else none
      else none
      else none
      else none
      else none
    else
      some ((opts, s_0, s_1, s_2, s_3, s_4, s_5, s_6))
def f41_broughamref07_Encode_L6_k (e : List Int × Int × Int × Int × Int × Int × (List (Int × List Int)) × List Int) (o : Out) : Prop := At Go.Proofs.Try.prog Go.Proofs.Try.f41 0 10 ⟨[(1, .one (.c (.ptr 0 0))), (5, .one (.c (.own 1 (.int .u8) e.1)))], [(1, some ⟨5, 0⟩)], [(0, [.d (.int .u16 e.2.1), .d (.int .u16 e.2.2.1), .d (.int .u32 e.2.2.2.1), .d (.int .u32 e.2.2.2.2.1), .d (.int .u8 e.2.2.2.2.2.1), .d (.sl (.pair (.int .u8) (.slice (.int .u8))) e.2.2.2.2.2.2.1), .d (.sl (.int .u8) e.2.2.2.2.2.2.2)])], 2⟩ o
theorem f41_broughamref07_Encode_L6_ok (n : Nat) : ∀ (opts : List Int) (i : Int) (s_0 : Int) (s_1 : Int) (s_2 : Int) (s_3 : Int) (s_4 : Int) (s_5 : List (Int × List Int)) (s_6 : List Int) (w : List Int × Int × Int × Int × Int × Int × (List (Int × List Int)) × List Int) (h : f41_broughamref07_Encode_L6 n opts i s_0 s_1 s_2 s_3 s_4 s_5 s_6 = some w) (o : Out) (hk : f41_broughamref07_Encode_L6_k w o), At Go.Proofs.Try.prog Go.Proofs.Try.f41 0 6 ⟨[(1, .one (.c (.ptr 0 0))), (5, .one (.c (.own 1 (.int .u8) opts))), (6, .one (.c (.d (.int .i64 i))))], [(1, some ⟨5, 0⟩)], [(0, [.d (.int .u16 s_0), .d (.int .u16 s_1), .d (.int .u32 s_2), .d (.int .u32 s_3), .d (.int .u8 s_4), .d (.sl (.pair (.int .u8) (.slice (.int .u8))) s_5), .d (.sl (.int .u8) s_6)])], 2⟩ o := by
  induction n with
  | zero => intro opts i s_0 s_1 s_2 s_3 s_4 s_5 s_6 w h; rw [f41_broughamref07_Encode_L6] at h; cases h
  | succ n ih =>
    intro opts i s_0 s_1 s_2 s_3 s_4 s_5 s_6 w h o hk
    rw [f41_broughamref07_Encode_L6] at h
    rcases iteS h with ⟨b192_e0, h⟩ | ⟨b192_e0, h⟩
    · refine At.step hm ht ⟨[], [true], [], [1, 5, 6], [0, 1]⟩ 8 ⟨[(1, .one (.c (.ptr 0 0))), (5, .one (.c (.own 1 (.int .u8) opts))), (6, .one (.c (.d (.int .i64 i))))], [(1, some ⟨5, 0⟩)], [(0, [.d (.int .u16 s_0), .d (.int .u16 s_1), .d (.int .u32 s_2), .d (.int .u32 s_3), .d (.int .u8 s_4), .d (.sl (.pair (.int .u8) (.slice (.int .u8))) s_5), .d (.sl (.int .u8) s_6)])], 2⟩ [(decide ((i : Int) < ((s_5.length : Nat) : Int))) = true] (by kernel_rfl) ⟨b192_e0, trivial⟩ ?_
      obtain ⟨g193_0, h⟩ := ifS h
      obtain ⟨g193_1, h⟩ := ifS h
      obtain ⟨g193_2, h⟩ := ifS h
      refine At.step hm ht ⟨[], [], [], [1, 5, 6], [0, 18]⟩ 9 ⟨[(1, .one (.c (.ptr 0 0))), (5, .one (.c (.own 1 (.int .u8) (opts ++ [(s_5.getD i.toNat (0, [])).1, (IntKind.wrap .u8 ((((s_5.getD i.toNat (0, [])).2).length : Nat) : Int))])))), (6, .one (.c (.d (.int .i64 i))))], [(1, some ⟨5, 0⟩)], [(0, [.d (.int .u16 s_0), .d (.int .u16 s_1), .d (.int .u32 s_2), .d (.int .u32 s_3), .d (.int .u8 s_4), .d (.sl (.pair (.int .u8) (.slice (.int .u8))) s_5), .d (.sl (.int .u8) s_6)])], 2⟩ [(0 : Int) ≤ i ∧ i < (((s_5).length : Nat) : Int), (0 : Int) ≤ i ∧ i < (((s_5).length : Nat) : Int), opts.length + [(s_5.getD i.toNat (0, [])).1, (IntKind.wrap .u8 ((((s_5.getD i.toNat (0, [])).2).length : Nat) : Int))].length ≤ maxLen ∧ (opts.length + [(s_5.getD i.toNat (0, [])).1, (IntKind.wrap .u8 ((((s_5.getD i.toNat (0, [])).2).length : Nat) : Int))].length) * 1 ≤ 140737488355328] (by kernel_rfl) ⟨g193_0, g193_1, g193_2, trivial⟩ ?_
      obtain ⟨g194_0, h⟩ := ifS h
      obtain ⟨g194_1, h⟩ := ifS h
      refine At.step hm ht ⟨[], [], [], [1, 5, 6], [0, 9]⟩ 7 ⟨[(1, .one (.c (.ptr 0 0))), (5, .one (.c (.own 1 (.int .u8) ((opts ++ [(s_5.getD i.toNat (0, [])).1, (IntKind.wrap .u8 ((((s_5.getD i.toNat (0, [])).2).length : Nat) : Int))]) ++ (s_5.getD i.toNat (0, [])).2)))), (6, .one (.c (.d (.int .i64 i))))], [(1, some ⟨5, 0⟩)], [(0, [.d (.int .u16 s_0), .d (.int .u16 s_1), .d (.int .u32 s_2), .d (.int .u32 s_3), .d (.int .u8 s_4), .d (.sl (.pair (.int .u8) (.slice (.int .u8))) s_5), .d (.sl (.int .u8) s_6)])], 2⟩ [(0 : Int) ≤ i ∧ i < (((s_5).length : Nat) : Int), (opts ++ [(s_5.getD i.toNat (0, [])).1, (IntKind.wrap .u8 ((((s_5.getD i.toNat (0, [])).2).length : Nat) : Int))]).length + ((s_5.getD i.toNat (0, [])).2).length ≤ maxLen ∧ ((opts ++ [(s_5.getD i.toNat (0, [])).1, (IntKind.wrap .u8 ((((s_5.getD i.toNat (0, [])).2).length : Nat) : Int))]).length + ((s_5.getD i.toNat (0, [])).2).length) * 1 ≤ 140737488355328] (by kernel_rfl) ⟨g194_0, g194_1, trivial⟩ ?_
      refine At.step hm ht ⟨[], [], [], [1, 5, 6], [0, 1]⟩ 6 ⟨[(1, .one (.c (.ptr 0 0))), (5, .one (.c (.own 1 (.int .u8) ((opts ++ [(s_5.getD i.toNat (0, [])).1, (IntKind.wrap .u8 ((((s_5.getD i.toNat (0, [])).2).length : Nat) : Int))]) ++ (s_5.getD i.toNat (0, [])).2)))), (6, .one (.c (.d (.int .i64 (IntKind.wrap .i64 (i + 1))))))], [(1, some ⟨5, 0⟩)], [(0, [.d (.int .u16 s_0), .d (.int .u16 s_1), .d (.int .u32 s_2), .d (.int .u32 s_3), .d (.int .u8 s_4), .d (.sl (.pair (.int .u8) (.slice (.int .u8))) s_5), .d (.sl (.int .u8) s_6)])], 2⟩ [] (by kernel_rfl) trivial ?_
      exact ih ((opts ++ [(s_5.getD i.toNat (0, [])).1, (IntKind.wrap .u8 ((((s_5.getD i.toNat (0, [])).2).length : Nat) : Int))]) ++ (s_5.getD i.toNat (0, [])).2) (IntKind.wrap .i64 (i + 1)) s_0 s_1 s_2 s_3 s_4 s_5 s_6 w h o hk
    · refine At.step hm ht ⟨[], [false], [], [1, 5], [0, 1]⟩ 10 ⟨[(1, .one (.c (.ptr 0 0))), (5, .one (.c (.own 1 (.int .u8) opts)))], [(1, some ⟨5, 0⟩)], [(0, [.d (.int .u16 s_0), .d (.int .u16 s_1), .d (.int .u32 s_2), .d (.int .u32 s_3), .d (.int .u8 s_4), .d (.sl (.pair (.int .u8) (.slice (.int .u8))) s_5), .d (.sl (.int .u8) s_6)])], 2⟩ [(decide ((i : Int) < ((s_5.length : Nat) : Int))) = false] (by kernel_rfl) ⟨b192_e0, trivial⟩ ?_
      have h := Option.some.inj h
      subst h
      exact hk
def f41_broughamref07_Encode (n : Nat) (s_0 : Int) (s_1 : Int) (s_2 : Int) (s_3 : Int) (s_4 : Int) (s_5 : List (Int × List Int)) (s_6 : List Int) : Option (List Int × Int) :=
  (f43_broughamref07_Right n s_0 s_1 s_2 s_3 s_4 s_5 s_6).bind fun r187_0 =>
  if ((r187_0 : Int) != 0) = true then
    some ([], r187_0)
  else
    (f41_broughamref07_Encode_L6 n [] 0 s_0 s_1 s_2 s_3 s_4 s_5 s_6).bind fun w196 =>
    (f45_broughamref07_Header n w196.2.1 w196.2.2.1 w196.2.2.2.1 w196.2.2.2.2.1 w196.2.2.2.2.2.1 w196.2.2.2.2.2.2.1 w196.2.2.2.2.2.2.2).bind fun r198_0 =>
    if r198_0.length + [(IntKind.wrap .u8 ((w196.1.length : Nat) : Int))].length ≤ maxLen ∧ (r198_0.length + [(IntKind.wrap .u8 ((w196.1.length : Nat) : Int))].length) * 1 ≤ 140737488355328 then
    if (r198_0 ++ [(IntKind.wrap .u8 ((w196.1.length : Nat) : Int))]).length + w196.1.length ≤ maxLen ∧ ((r198_0 ++ [(IntKind.wrap .u8 ((w196.1.length : Nat) : Int))]).length + w196.1.length) * 1 ≤ 140737488355328 then
    if ((r198_0 ++ [(IntKind.wrap .u8 ((w196.1.length : Nat) : Int))]) ++ w196.1).length + w196.2.2.2.2.2.2.2.length ≤ maxLen ∧ (((r198_0 ++ [(IntKind.wrap .u8 ((w196.1.length : Nat) : Int))]) ++ w196.1).length + w196.2.2.2.2.2.2.2.length) * 1 ≤ 140737488355328 then
    some ((((r198_0 ++ [(IntKind.wrap .u8 ((w196.1.length : Nat) : Int))]) ++ w196.1) ++ w196.2.2.2.2.2.2.2), 0)
    else none
    else none
    else none
theorem f41_broughamref07_Encode_ok (n : Nat) (s_0 : Int) (s_1 : Int) (s_2 : Int) (s_3 : Int) (s_4 : Int) (s_5 : List (Int × List Int)) (s_6 : List Int) (r : List Int × Int) (h : f41_broughamref07_Encode n s_0 s_1 s_2 s_3 s_4 s_5 s_6 = some r) : FnOK Go.Proofs.Try.prog 41 (f41_broughamref07_Encode_in s_0 s_1 s_2 s_3 s_4 s_5 s_6) (f41_broughamref07_Encode_out r) := by
  unfold f41_broughamref07_Encode at h
  refine At.fn (r := 0) Go.Proofs.Try.func41 rfl (by kernel_rfl) rfl rfl (by kernel_rfl) ?_
  show At Go.Proofs.Try.prog Go.Proofs.Try.f41 0 0 ⟨[(0, .one (.agg [.d (.int .u16 s_0), .d (.int .u16 s_1), .d (.int .u32 s_2), .d (.int .u32 s_3), .d (.int .u8 s_4), .d (.sl (.pair (.int .u8) (.slice (.int .u8))) s_5), .d (.sl (.int .u8) s_6)]))], [], [], 0⟩ _
  refine At.step hm ht ⟨[], [], [], [1], [0]⟩ 1 ⟨[(1, .one (.c (.ptr 0 0)))], [], [(0, [.d (.int .u16 s_0), .d (.int .u16 s_1), .d (.int .u32 s_2), .d (.int .u32 s_3), .d (.int .u8 s_4), .d (.sl (.pair (.int .u8) (.slice (.int .u8))) s_5), .d (.sl (.int .u8) s_6)])], 1⟩ [] (by kernel_rfl) trivial ?_
  obtain ⟨r187_0, cr187_0, h⟩ := bindS h
  refine At.step hm ht ⟨[(1, .call [] [] (f43_broughamref07_Right_out r187_0))], [], [], [1, 4], [0]⟩ 2 ⟨[(1, .one (.c (.ptr 0 0))), (4, .one (.c (.d (.int .i64 r187_0))))], [], [(0, [.d (.int .u16 s_0), .d (.int .u16 s_1), .d (.int .u32 s_2), .d (.int .u32 s_3), .d (.int .u8 s_4), .d (.sl (.pair (.int .u8) (.slice (.int .u8))) s_5), .d (.sl (.int .u8) s_6)])], 1⟩ [FnOK Go.Proofs.Try.prog 43 (f43_broughamref07_Right_in s_0 s_1 s_2 s_3 s_4 s_5 s_6) (f43_broughamref07_Right_out r187_0)] (by kernel_rfl) ⟨(f43_broughamref07_Right_ok n s_0 s_1 s_2 s_3 s_4 s_5 s_6 r187_0 cr187_0), trivial⟩ ?_
  rcases iteS h with ⟨b188_e0, h⟩ | ⟨b188_e0, h⟩
  · refine At.step hm ht ⟨[], [true], [], [4], []⟩ 3 ⟨[(4, .one (.c (.d (.int .i64 r187_0))))], [], [], 0⟩ [((r187_0 : Int) != 0) = true] (by kernel_rfl) ⟨b188_e0, trivial⟩ ?_
    have h := Option.some.inj h
    subst h
    exact At.fin hm ht ⟨[], [], [.nil false 2 0 (.int .u8) (some 5)], [2, 3], [3]⟩ [] (by kernel_rfl) trivial
  · refine At.step hm ht ⟨[], [false], [], [1], [0]⟩ 4 ⟨[(1, .one (.c (.ptr 0 0)))], [], [(0, [.d (.int .u16 s_0), .d (.int .u16 s_1), .d (.int .u32 s_2), .d (.int .u32 s_3), .d (.int .u8 s_4), .d (.sl (.pair (.int .u8) (.slice (.int .u8))) s_5), .d (.sl (.int .u8) s_6)])], 1⟩ [((r187_0 : Int) != 0) = false] (by kernel_rfl) ⟨b188_e0, trivial⟩ ?_
    refine At.step hm ht ⟨[], [], [], [1, 5], [0]⟩ 5 ⟨[(1, .one (.c (.ptr 0 0))), (5, .one (.c (.d (.sl .unit []))))], [], [(0, [.d (.int .u16 s_0), .d (.int .u16 s_1), .d (.int .u32 s_2), .d (.int .u32 s_3), .d (.int .u8 s_4), .d (.sl (.pair (.int .u8) (.slice (.int .u8))) s_5), .d (.sl (.int .u8) s_6)])], 1⟩ [] (by kernel_rfl) trivial ?_
    refine At.step hm ht ⟨[], [], [.nil false 5 0 (.int .u8) (some 5)], [1, 5, 6], [0, 2]⟩ 6 ⟨[(1, .one (.c (.ptr 0 0))), (5, .one (.c (.own 1 (.int .u8) []))), (6, .one (.c (.d (.int .i64 0))))], [(1, some ⟨5, 0⟩)], [(0, [.d (.int .u16 s_0), .d (.int .u16 s_1), .d (.int .u32 s_2), .d (.int .u32 s_3), .d (.int .u8 s_4), .d (.sl (.pair (.int .u8) (.slice (.int .u8))) s_5), .d (.sl (.int .u8) s_6)])], 2⟩ [] (by kernel_rfl) trivial ?_
    obtain ⟨w196, cw196, h⟩ := bindS h
    refine f41_broughamref07_Encode_L6_ok n [] 0 s_0 s_1 s_2 s_3 s_4 s_5 s_6 w196 cw196 _ ?_
    show At Go.Proofs.Try.prog Go.Proofs.Try.f41 0 10 ⟨[(1, .one (.c (.ptr 0 0))), (5, .one (.c (.own 1 (.int .u8) w196.1)))], [(1, some ⟨5, 0⟩)], [(0, [.d (.int .u16 w196.2.1), .d (.int .u16 w196.2.2.1), .d (.int .u32 w196.2.2.2.1), .d (.int .u32 w196.2.2.2.2.1), .d (.int .u8 w196.2.2.2.2.2.1), .d (.sl (.pair (.int .u8) (.slice (.int .u8))) w196.2.2.2.2.2.2.1), .d (.sl (.int .u8) w196.2.2.2.2.2.2.2)])], 2⟩ _
    obtain ⟨r198_0, cr198_0, h⟩ := bindS h
    obtain ⟨g198_1, h⟩ := ifS h
    refine At.step hm ht ⟨[(1, .call [] [] (f45_broughamref07_Header_out r198_0))], [], [], [1, 5, 7], [0, 1, 8]⟩ 11 ⟨[(1, .one (.c (.ptr 0 0))), (5, .one (.c (.own 1 (.int .u8) w196.1))), (7, .one (.c (.own 2 (.int .u8) (r198_0 ++ [(IntKind.wrap .u8 ((w196.1.length : Nat) : Int))]))))], [(1, some ⟨5, 0⟩), (2, some ⟨5, 0⟩)], [(0, [.d (.int .u16 w196.2.1), .d (.int .u16 w196.2.2.1), .d (.int .u32 w196.2.2.2.1), .d (.int .u32 w196.2.2.2.2.1), .d (.int .u8 w196.2.2.2.2.2.1), .d (.sl (.pair (.int .u8) (.slice (.int .u8))) w196.2.2.2.2.2.2.1), .d (.sl (.int .u8) w196.2.2.2.2.2.2.2)])], 3⟩ [FnOK Go.Proofs.Try.prog 45 (f45_broughamref07_Header_in w196.2.1 w196.2.2.1 w196.2.2.2.1 w196.2.2.2.2.1 w196.2.2.2.2.2.1 w196.2.2.2.2.2.2.1 w196.2.2.2.2.2.2.2) (f45_broughamref07_Header_out r198_0), r198_0.length + [(IntKind.wrap .u8 ((w196.1.length : Nat) : Int))].length ≤ maxLen ∧ (r198_0.length + [(IntKind.wrap .u8 ((w196.1.length : Nat) : Int))].length) * 1 ≤ 140737488355328] (by kernel_rfl) ⟨(f45_broughamref07_Header_ok n w196.2.1 w196.2.2.1 w196.2.2.2.1 w196.2.2.2.2.1 w196.2.2.2.2.2.1 w196.2.2.2.2.2.2.1 w196.2.2.2.2.2.2.2 r198_0 cr198_0), g198_1, trivial⟩ ?_
    obtain ⟨g199_0, h⟩ := ifS h
    obtain ⟨g199_1, h⟩ := ifS h
    have h := Option.some.inj h
    subst h
    exact At.fin hm ht ⟨[], [], [], [2, 3], [8]⟩ [(r198_0 ++ [(IntKind.wrap .u8 ((w196.1.length : Nat) : Int))]).length + w196.1.length ≤ maxLen ∧ ((r198_0 ++ [(IntKind.wrap .u8 ((w196.1.length : Nat) : Int))]).length + w196.1.length) * 1 ≤ 140737488355328, ((r198_0 ++ [(IntKind.wrap .u8 ((w196.1.length : Nat) : Int))]) ++ w196.1).length + w196.2.2.2.2.2.2.2.length ≤ maxLen ∧ (((r198_0 ++ [(IntKind.wrap .u8 ((w196.1.length : Nat) : Int))]) ++ w196.1).length + w196.2.2.2.2.2.2.2.length) * 1 ≤ 140737488355328] (by kernel_rfl) ⟨g199_0, g199_1, trivial⟩
/-! brougham/pack.Get -/
def f83_pack_Get_in (b : List Int) (sizes : List Int) : Inn := ⟨[.c (.d (.sl (.int .u8) b)), .c (.d (.sl (.int .i64) sizes))], [], [], 0⟩
def f83_pack_Get_out (r : List Int × List Int × Bool) : Out := ⟨.tup [.c (.own 0 (.int .u64) r.1), .c (.own 1 (.int .u8) r.2.1), .c (.d (.bool r.2.2))], [(0, ⟨36, 0⟩), (1, ⟨5, 0⟩)], [], 2⟩
def f83_pack_Get_L9 : Nat → (List Int) → (List Int) → Int → Int → (List Int) → Int → Int → (List Int) → Int → Int → Option (List Int × List Int × Int × Int × List Int × Int × Int)
  | 0, _, _, _, _, _, _, _, _, _, _ => none
  | n + 1, b, out, n_, x, t13, t14, t15, t33, t34, t35 =>
    if (decide ((t35 : Int) < t34)) = true then
      if (0 : Int) ≤ t35 ∧ t35 < (((t33).length : Nat) : Int) then
      f83_pack_Get_L9 n b out n_ (bits .or .u64 (IntKind.wrap .u64 (x * 2 ^ 8)) (IntKind.wrap .u64 (t33.getD t35.toNat 0))) t13 t14 t15 t33 t34 (IntKind.wrap .i64 (t35 + 1))
      else none
    else
      some ((b, out, n_, x, t13, t14, t15))
def f83_pack_Get_L9_k (e : List Int × List Int × Int × Int × List Int × Int × Int) (o : Out) : Prop := At Go.Proofs.Try.prog Go.Proofs.Try.f83 0 13 ⟨[(0, .one (.c (.d (.sl (.int .u8) e.1)))), (7, .one (.c (.own 0 (.int .u64) e.2.1))), (9, .one (.c (.d (.int .i64 e.2.2.1)))), (10, .one (.c (.d (.int .u64 e.2.2.2.1)))), (13, .one (.c (.d (.sl (.int .i64) e.2.2.2.2.1)))), (14, .one (.c (.d (.int .i64 e.2.2.2.2.2.1)))), (15, .one (.c (.d (.int .i64 e.2.2.2.2.2.2))))], [(0, some ⟨36, 0⟩)], [], 1⟩ o
theorem f83_pack_Get_L9_ok (n : Nat) : ∀ (b : List Int) (out : List Int) (n_ : Int) (x : Int) (t13 : List Int) (t14 : Int) (t15 : Int) (t33 : List Int) (t34 : Int) (t35 : Int) (w : List Int × List Int × Int × Int × List Int × Int × Int) (h : f83_pack_Get_L9 n b out n_ x t13 t14 t15 t33 t34 t35 = some w) (o : Out) (hk : f83_pack_Get_L9_k w o), At Go.Proofs.Try.prog Go.Proofs.Try.f83 0 9 ⟨[(0, .one (.c (.d (.sl (.int .u8) b)))), (7, .one (.c (.own 0 (.int .u64) out))), (9, .one (.c (.d (.int .i64 n_)))), (10, .one (.c (.d (.int .u64 x)))), (13, .one (.c (.d (.sl (.int .i64) t13)))), (14, .one (.c (.d (.int .i64 t14)))), (15, .one (.c (.d (.int .i64 t15)))), (33, .one (.c (.d (.sl (.int .u8) t33)))), (34, .one (.c (.d (.int .i64 t34)))), (35, .one (.c (.d (.int .i64 t35))))], [(0, some ⟨36, 0⟩)], [], 1⟩ o := by
  induction n with
  | zero => intro b out n_ x t13 t14 t15 t33 t34 t35 w h; rw [f83_pack_Get_L9] at h; cases h
  | succ n ih =>
    intro b out n_ x t13 t14 t15 t33 t34 t35 w h o hk
    rw [f83_pack_Get_L9] at h
    rcases iteS h with ⟨b271_e0, h⟩ | ⟨b271_e0, h⟩
    · refine At.step hm ht ⟨[], [true], [], [0, 7, 9, 10, 13, 14, 15, 33, 34, 35], [0]⟩ 10 ⟨[(0, .one (.c (.d (.sl (.int .u8) b)))), (7, .one (.c (.own 0 (.int .u64) out))), (9, .one (.c (.d (.int .i64 n_)))), (10, .one (.c (.d (.int .u64 x)))), (13, .one (.c (.d (.sl (.int .i64) t13)))), (14, .one (.c (.d (.int .i64 t14)))), (15, .one (.c (.d (.int .i64 t15)))), (33, .one (.c (.d (.sl (.int .u8) t33)))), (34, .one (.c (.d (.int .i64 t34)))), (35, .one (.c (.d (.int .i64 t35))))], [(0, some ⟨36, 0⟩)], [], 1⟩ [(decide ((t35 : Int) < t34)) = true] (by kernel_rfl) ⟨b271_e0, trivial⟩ ?_
      obtain ⟨g272_0, h⟩ := ifS h
      refine At.step hm ht ⟨[], [], [], [0, 7, 9, 10, 12, 13, 14, 15, 33, 34, 35], [0]⟩ 11 ⟨[(0, .one (.c (.d (.sl (.int .u8) b)))), (7, .one (.c (.own 0 (.int .u64) out))), (9, .one (.c (.d (.int .i64 n_)))), (10, .one (.c (.d (.int .u64 x)))), (12, .one (.c (.d (.int .u8 (t33.getD t35.toNat 0))))), (13, .one (.c (.d (.sl (.int .i64) t13)))), (14, .one (.c (.d (.int .i64 t14)))), (15, .one (.c (.d (.int .i64 t15)))), (33, .one (.c (.d (.sl (.int .u8) t33)))), (34, .one (.c (.d (.int .i64 t34)))), (35, .one (.c (.d (.int .i64 t35))))], [(0, some ⟨36, 0⟩)], [], 1⟩ [(0 : Int) ≤ t35 ∧ t35 < (((t33).length : Nat) : Int)] (by kernel_rfl) ⟨g272_0, trivial⟩ ?_
      refine At.step hm ht ⟨[], [], [], [0, 7, 9, 10, 13, 14, 15, 33, 34, 35], [0]⟩ 12 ⟨[(0, .one (.c (.d (.sl (.int .u8) b)))), (7, .one (.c (.own 0 (.int .u64) out))), (9, .one (.c (.d (.int .i64 n_)))), (10, .one (.c (.d (.int .u64 (bits .or .u64 (IntKind.wrap .u64 (x * 2 ^ 8)) (IntKind.wrap .u64 (t33.getD t35.toNat 0))))))), (13, .one (.c (.d (.sl (.int .i64) t13)))), (14, .one (.c (.d (.int .i64 t14)))), (15, .one (.c (.d (.int .i64 t15)))), (33, .one (.c (.d (.sl (.int .u8) t33)))), (34, .one (.c (.d (.int .i64 t34)))), (35, .one (.c (.d (.int .i64 t35))))], [(0, some ⟨36, 0⟩)], [], 1⟩ [(0 : Int) ≤ 8] (by kernel_rfl) ⟨(by decide), trivial⟩ ?_
      refine At.step hm ht ⟨[], [], [], [0, 7, 9, 10, 13, 14, 15, 33, 34, 35], [0]⟩ 9 ⟨[(0, .one (.c (.d (.sl (.int .u8) b)))), (7, .one (.c (.own 0 (.int .u64) out))), (9, .one (.c (.d (.int .i64 n_)))), (10, .one (.c (.d (.int .u64 (bits .or .u64 (IntKind.wrap .u64 (x * 2 ^ 8)) (IntKind.wrap .u64 (t33.getD t35.toNat 0))))))), (13, .one (.c (.d (.sl (.int .i64) t13)))), (14, .one (.c (.d (.int .i64 t14)))), (15, .one (.c (.d (.int .i64 t15)))), (33, .one (.c (.d (.sl (.int .u8) t33)))), (34, .one (.c (.d (.int .i64 t34)))), (35, .one (.c (.d (.int .i64 (IntKind.wrap .i64 (t35 + 1))))))], [(0, some ⟨36, 0⟩)], [], 1⟩ [] (by kernel_rfl) trivial ?_
      exact ih b out n_ (bits .or .u64 (IntKind.wrap .u64 (x * 2 ^ 8)) (IntKind.wrap .u64 (t33.getD t35.toNat 0))) t13 t14 t15 t33 t34 (IntKind.wrap .i64 (t35 + 1)) w h o hk
    · refine At.step hm ht ⟨[], [false], [], [0, 7, 9, 10, 13, 14, 15], [0]⟩ 13 ⟨[(0, .one (.c (.d (.sl (.int .u8) b)))), (7, .one (.c (.own 0 (.int .u64) out))), (9, .one (.c (.d (.int .i64 n_)))), (10, .one (.c (.d (.int .u64 x)))), (13, .one (.c (.d (.sl (.int .i64) t13)))), (14, .one (.c (.d (.int .i64 t14)))), (15, .one (.c (.d (.int .i64 t15))))], [(0, some ⟨36, 0⟩)], [], 1⟩ [(decide ((t35 : Int) < t34)) = false] (by kernel_rfl) ⟨b271_e0, trivial⟩ ?_
      have h := Option.some.inj h
      subst h
      exact hk
def f83_pack_Get_L3 : Nat → (List Int) → (List Int) → (List Int) → Int → Int → Option ((List Int × List Int × Bool) ⊕ (List Int × List Int))
  | 0, _, _, _, _, _ => none
  | n + 1, b, out, t13, t14, t15 =>
    if (decide ((t15 : Int) < t14)) = true then
      if (0 : Int) ≤ t15 ∧ t15 < (((t13).length : Nat) : Int) then
      if (decide (((t13.getD t15.toNat 0) : Int) < 1)) = true then
        some (.inl ([], [], false))
      else
        if (decide (((t13.getD t15.toNat 0) : Int) > 8)) = true then
          some (.inl ([], [], false))
        else
          if (decide (((t13.getD t15.toNat 0) : Int) > ((b.length : Nat) : Int))) = true then
            some (.inl ([], [], false))
          else
            if cutOk b.length none (some (t13.getD t15.toNat 0)) none then
            (f83_pack_Get_L9 n b out (t13.getD t15.toNat 0) 0 t13 t14 t15 (b.take (t13.getD t15.toNat 0).toNat) (((b.take (t13.getD t15.toNat 0).toNat).length : Nat) : Int) 0).bind fun w275 =>
            if w275.2.1.length + [w275.2.2.2.1].length ≤ maxLen ∧ (w275.2.1.length + [w275.2.2.2.1].length) * 8 ≤ 140737488355328 then
            if cutOk w275.1.length (some w275.2.2.1) none none then
            f83_pack_Get_L3 n ((w275.1.take w275.1.length).drop w275.2.2.1.toNat) (w275.2.1 ++ [w275.2.2.2.1]) w275.2.2.2.2.1 w275.2.2.2.2.2.1 (IntKind.wrap .i64 (w275.2.2.2.2.2.2 + 1))
            else none
            else none
            else none
      else none
    else
      some (.inr ((b, out)))
def f83_pack_Get_L3_k (w : (List Int × List Int × Bool) ⊕ (List Int × List Int)) (o : Out) : Prop := match w with
  | .inl e => o = f83_pack_Get_out e
  | .inr e => At Go.Proofs.Try.prog Go.Proofs.Try.f83 0 16 ⟨[(0, .one (.c (.d (.sl (.int .u8) e.1)))), (7, .one (.c (.own 0 (.int .u64) e.2)))], [(0, some ⟨36, 0⟩)], [], 1⟩ o
theorem f83_pack_Get_L3_ok (n : Nat) : ∀ (b : List Int) (out : List Int) (t13 : List Int) (t14 : Int) (t15 : Int) (w : (List Int × List Int × Bool) ⊕ (List Int × List Int)) (h : f83_pack_Get_L3 n b out t13 t14 t15 = some w) (o : Out) (hk : f83_pack_Get_L3_k w o), At Go.Proofs.Try.prog Go.Proofs.Try.f83 0 3 ⟨[(0, .one (.c (.d (.sl (.int .u8) b)))), (7, .one (.c (.own 0 (.int .u64) out))), (13, .one (.c (.d (.sl (.int .i64) t13)))), (14, .one (.c (.d (.int .i64 t14)))), (15, .one (.c (.d (.int .i64 t15))))], [(0, some ⟨36, 0⟩)], [], 1⟩ o := by
  induction n with
  | zero => intro b out t13 t14 t15 w h; rw [f83_pack_Get_L3] at h; cases h
  | succ n ih =>
    intro b out t13 t14 t15 w h o hk
    rw [f83_pack_Get_L3] at h
    rcases iteS h with ⟨b263_e0, h⟩ | ⟨b263_e0, h⟩
    · refine At.step hm ht ⟨[], [true], [], [0, 7, 13, 14, 15], [0]⟩ 4 ⟨[(0, .one (.c (.d (.sl (.int .u8) b)))), (7, .one (.c (.own 0 (.int .u64) out))), (13, .one (.c (.d (.sl (.int .i64) t13)))), (14, .one (.c (.d (.int .i64 t14)))), (15, .one (.c (.d (.int .i64 t15))))], [(0, some ⟨36, 0⟩)], [], 1⟩ [(decide ((t15 : Int) < t14)) = true] (by kernel_rfl) ⟨b263_e0, trivial⟩ ?_
      obtain ⟨g264_0, h⟩ := ifS h
      refine At.step hm ht ⟨[], [], [], [0, 7, 9, 13, 14, 15], [0]⟩ 5 ⟨[(0, .one (.c (.d (.sl (.int .u8) b)))), (7, .one (.c (.own 0 (.int .u64) out))), (9, .one (.c (.d (.int .i64 (t13.getD t15.toNat 0))))), (13, .one (.c (.d (.sl (.int .i64) t13)))), (14, .one (.c (.d (.int .i64 t14)))), (15, .one (.c (.d (.int .i64 t15))))], [(0, some ⟨36, 0⟩)], [], 1⟩ [(0 : Int) ≤ t15 ∧ t15 < (((t13).length : Nat) : Int)] (by kernel_rfl) ⟨g264_0, trivial⟩ ?_
      rcases iteS h with ⟨b265_2, h⟩ | ⟨b265_2, h⟩
      · refine At.step hm ht ⟨[(2, .b true)], [true], [], [], []⟩ 6 ⟨[], [], [], 0⟩ [(decide (((t13.getD t15.toNat 0) : Int) < 1)) = true, true = true] (by kernel_rfl) ⟨b265_2, rfl, trivial⟩ ?_
        have h := Option.some.inj h
        subst h
        have hk : o = f83_pack_Get_out ([], [], false) := hk
        subst hk
        exact At.fin hm ht ⟨[], [], [.nil false 4 0 (.int .u64) (some 36), .nil false 5 0 (.int .u8) (some 5)], [4, 5, 6], [3, 4]⟩ [] (by kernel_rfl) trivial
      · rcases iteS h with ⟨b265_6, h⟩ | ⟨b265_6, h⟩
        · refine At.step hm ht ⟨[(2, .b false), (6, .b true)], [true], [], [], []⟩ 6 ⟨[], [], [], 0⟩ [(decide (((t13.getD t15.toNat 0) : Int) < 1)) = false, (decide (((t13.getD t15.toNat 0) : Int) > 8)) = true, true = true] (by kernel_rfl) ⟨b265_2, b265_6, rfl, trivial⟩ ?_
          have h := Option.some.inj h
          subst h
          have hk : o = f83_pack_Get_out ([], [], false) := hk
          subst hk
          exact At.fin hm ht ⟨[], [], [.nil false 4 0 (.int .u64) (some 36), .nil false 5 0 (.int .u8) (some 5)], [4, 5, 6], [3, 4]⟩ [] (by kernel_rfl) trivial
        · rcases iteS h with ⟨b265_e0, h⟩ | ⟨b265_e0, h⟩
          · refine At.step hm ht ⟨[(2, .b false), (6, .b false)], [true], [], [], []⟩ 6 ⟨[], [], [], 0⟩ [(decide (((t13.getD t15.toNat 0) : Int) < 1)) = false, (decide (((t13.getD t15.toNat 0) : Int) > 8)) = false, (decide (((t13.getD t15.toNat 0) : Int) > ((b.length : Nat) : Int))) = true] (by kernel_rfl) ⟨b265_2, b265_6, b265_e0, trivial⟩ ?_
            have h := Option.some.inj h
            subst h
            have hk : o = f83_pack_Get_out ([], [], false) := hk
            subst hk
            exact At.fin hm ht ⟨[], [], [.nil false 4 0 (.int .u64) (some 36), .nil false 5 0 (.int .u8) (some 5)], [4, 5, 6], [3, 4]⟩ [] (by kernel_rfl) trivial
          · refine At.step hm ht ⟨[(2, .b false), (6, .b false)], [false], [], [0, 7, 9, 13, 14, 15], [0]⟩ 7 ⟨[(0, .one (.c (.d (.sl (.int .u8) b)))), (7, .one (.c (.own 0 (.int .u64) out))), (9, .one (.c (.d (.int .i64 (t13.getD t15.toNat 0))))), (13, .one (.c (.d (.sl (.int .i64) t13)))), (14, .one (.c (.d (.int .i64 t14)))), (15, .one (.c (.d (.int .i64 t15))))], [(0, some ⟨36, 0⟩)], [], 1⟩ [(decide (((t13.getD t15.toNat 0) : Int) < 1)) = false, (decide (((t13.getD t15.toNat 0) : Int) > 8)) = false, (decide (((t13.getD t15.toNat 0) : Int) > ((b.length : Nat) : Int))) = false] (by kernel_rfl) ⟨b265_2, b265_6, b265_e0, trivial⟩ ?_
            refine At.step hm ht ⟨[], [], [], [0, 7, 9, 10, 13, 14, 15], [0]⟩ 8 ⟨[(0, .one (.c (.d (.sl (.int .u8) b)))), (7, .one (.c (.own 0 (.int .u64) out))), (9, .one (.c (.d (.int .i64 (t13.getD t15.toNat 0))))), (10, .one (.c (.d (.int .u64 0)))), (13, .one (.c (.d (.sl (.int .i64) t13)))), (14, .one (.c (.d (.int .i64 t14)))), (15, .one (.c (.d (.int .i64 t15))))], [(0, some ⟨36, 0⟩)], [], 1⟩ [] (by kernel_rfl) trivial ?_
            obtain ⟨g270_0, h⟩ := ifS h
            refine At.step hm ht ⟨[], [], [], [0, 7, 9, 10, 13, 14, 15, 33, 34, 35], [0]⟩ 9 ⟨[(0, .one (.c (.d (.sl (.int .u8) b)))), (7, .one (.c (.own 0 (.int .u64) out))), (9, .one (.c (.d (.int .i64 (t13.getD t15.toNat 0))))), (10, .one (.c (.d (.int .u64 0)))), (13, .one (.c (.d (.sl (.int .i64) t13)))), (14, .one (.c (.d (.int .i64 t14)))), (15, .one (.c (.d (.int .i64 t15)))), (33, .one (.c (.d (.sl (.int .u8) (b.take (t13.getD t15.toNat 0).toNat))))), (34, .one (.c (.d (.int .i64 (((b.take (t13.getD t15.toNat 0).toNat).length : Nat) : Int))))), (35, .one (.c (.d (.int .i64 0))))], [(0, some ⟨36, 0⟩)], [], 1⟩ [cutOk b.length none (some (t13.getD t15.toNat 0)) none] (by kernel_rfl) ⟨g270_0, trivial⟩ ?_
            obtain ⟨w275, cw275, h⟩ := bindS h
            refine f83_pack_Get_L9_ok n b out (t13.getD t15.toNat 0) 0 t13 t14 t15 (b.take (t13.getD t15.toNat 0).toNat) (((b.take (t13.getD t15.toNat 0).toNat).length : Nat) : Int) 0 w275 cw275 _ ?_
            show At Go.Proofs.Try.prog Go.Proofs.Try.f83 0 13 ⟨[(0, .one (.c (.d (.sl (.int .u8) w275.1)))), (7, .one (.c (.own 0 (.int .u64) w275.2.1))), (9, .one (.c (.d (.int .i64 w275.2.2.1)))), (10, .one (.c (.d (.int .u64 w275.2.2.2.1)))), (13, .one (.c (.d (.sl (.int .i64) w275.2.2.2.2.1)))), (14, .one (.c (.d (.int .i64 w275.2.2.2.2.2.1)))), (15, .one (.c (.d (.int .i64 w275.2.2.2.2.2.2))))], [(0, some ⟨36, 0⟩)], [], 1⟩ _
            obtain ⟨g277_0, h⟩ := ifS h
            refine At.step hm ht ⟨[], [], [], [0, 7, 9, 13, 14, 15], [4]⟩ 14 ⟨[(0, .one (.c (.d (.sl (.int .u8) w275.1)))), (7, .one (.c (.own 0 (.int .u64) (w275.2.1 ++ [w275.2.2.2.1])))), (9, .one (.c (.d (.int .i64 w275.2.2.1)))), (13, .one (.c (.d (.sl (.int .i64) w275.2.2.2.2.1)))), (14, .one (.c (.d (.int .i64 w275.2.2.2.2.2.1)))), (15, .one (.c (.d (.int .i64 w275.2.2.2.2.2.2))))], [(0, some ⟨36, 0⟩)], [], 1⟩ [w275.2.1.length + [w275.2.2.2.1].length ≤ maxLen ∧ (w275.2.1.length + [w275.2.2.2.1].length) * 8 ≤ 140737488355328] (by kernel_rfl) ⟨g277_0, trivial⟩ ?_
            obtain ⟨g278_0, h⟩ := ifS h
            refine At.step hm ht ⟨[], [], [], [0, 7, 13, 14, 15], [0]⟩ 15 ⟨[(0, .one (.c (.d (.sl (.int .u8) ((w275.1.take w275.1.length).drop w275.2.2.1.toNat))))), (7, .one (.c (.own 0 (.int .u64) (w275.2.1 ++ [w275.2.2.2.1])))), (13, .one (.c (.d (.sl (.int .i64) w275.2.2.2.2.1)))), (14, .one (.c (.d (.int .i64 w275.2.2.2.2.2.1)))), (15, .one (.c (.d (.int .i64 w275.2.2.2.2.2.2))))], [(0, some ⟨36, 0⟩)], [], 1⟩ [cutOk w275.1.length (some w275.2.2.1) none none] (by kernel_rfl) ⟨g278_0, trivial⟩ ?_
            refine At.step hm ht ⟨[], [], [], [0, 7, 13, 14, 15], [0]⟩ 3 ⟨[(0, .one (.c (.d (.sl (.int .u8) ((w275.1.take w275.1.length).drop w275.2.2.1.toNat))))), (7, .one (.c (.own 0 (.int .u64) (w275.2.1 ++ [w275.2.2.2.1])))), (13, .one (.c (.d (.sl (.int .i64) w275.2.2.2.2.1)))), (14, .one (.c (.d (.int .i64 w275.2.2.2.2.2.1)))), (15, .one (.c (.d (.int .i64 (IntKind.wrap .i64 (w275.2.2.2.2.2.2 + 1))))))], [(0, some ⟨36, 0⟩)], [], 1⟩ [] (by kernel_rfl) trivial ?_
            exact ih ((w275.1.take w275.1.length).drop w275.2.2.1.toNat) (w275.2.1 ++ [w275.2.2.2.1]) w275.2.2.2.2.1 w275.2.2.2.2.2.1 (IntKind.wrap .i64 (w275.2.2.2.2.2.2 + 1)) w h o hk
    · refine At.step hm ht ⟨[], [false], [], [0, 7], [0]⟩ 16 ⟨[(0, .one (.c (.d (.sl (.int .u8) b)))), (7, .one (.c (.own 0 (.int .u64) out)))], [(0, some ⟨36, 0⟩)], [], 1⟩ [(decide ((t15 : Int) < t14)) = false] (by kernel_rfl) ⟨b263_e0, trivial⟩ ?_
      have h := Option.some.inj h
      subst h
      exact hk
def f83_pack_Get (n : Nat) (b : List Int) (sizes : List Int) : Option (List Int × List Int × Bool) :=
  (f83_pack_Get_L3 n b [] sizes ((sizes.length : Nat) : Int) 0).bind fun w280 =>
  match w280 with
  | .inl e281 =>
    some (e281.1, e281.2.1, e281.2.2)
  | .inr e282 =>
    if e282.1.length ≤ maxLen ∧ e282.1.length * 1 ≤ 140737488355328 then
    some (e282.2, e282.1, true)
    else none
theorem f83_pack_Get_ok (n : Nat) (b : List Int) (sizes : List Int) (r : List Int × List Int × Bool) (h : f83_pack_Get n b sizes = some r) : FnOK Go.Proofs.Try.prog 83 (f83_pack_Get_in b sizes) (f83_pack_Get_out r) := by
  unfold f83_pack_Get at h
  refine At.fn (r := 0) Go.Proofs.Try.func83 rfl (by kernel_rfl) rfl rfl (by kernel_rfl) ?_
  show At Go.Proofs.Try.prog Go.Proofs.Try.f83 0 0 ⟨[(0, .one (.c (.d (.sl (.int .u8) b)))), (1, .one (.c (.d (.sl (.int .i64) sizes))))], [], [], 0⟩ _
  refine At.step hm ht ⟨[], [], [], [0, 1], []⟩ 1 ⟨[(0, .one (.c (.d (.sl (.int .u8) b)))), (1, .one (.c (.d (.sl (.int .i64) sizes))))], [], [], 0⟩ [] (by kernel_rfl) trivial ?_
  refine At.step hm ht ⟨[], [], [], [0, 1, 7], []⟩ 2 ⟨[(0, .one (.c (.d (.sl (.int .u8) b)))), (1, .one (.c (.d (.sl (.int .i64) sizes)))), (7, .one (.c (.d (.sl .unit []))))], [], [], 0⟩ [] (by kernel_rfl) trivial ?_
  refine At.step hm ht ⟨[], [], [.nil false 7 0 (.int .u64) (some 36)], [0, 7, 13, 14, 15], [3]⟩ 3 ⟨[(0, .one (.c (.d (.sl (.int .u8) b)))), (7, .one (.c (.own 0 (.int .u64) []))), (13, .one (.c (.d (.sl (.int .i64) sizes)))), (14, .one (.c (.d (.int .i64 ((sizes.length : Nat) : Int))))), (15, .one (.c (.d (.int .i64 0))))], [(0, some ⟨36, 0⟩)], [], 1⟩ [] (by kernel_rfl) trivial ?_
  obtain ⟨w280, cw280, h⟩ := bindS h
  refine f83_pack_Get_L3_ok n b [] sizes ((sizes.length : Nat) : Int) 0 w280 cw280 _ ?_
  rcases w280 with e281 | e282
  · have h := Option.some.inj h
    subst h
    rfl
  · show At Go.Proofs.Try.prog Go.Proofs.Try.f83 0 16 ⟨[(0, .one (.c (.d (.sl (.int .u8) e282.1)))), (7, .one (.c (.own 0 (.int .u64) e282.2)))], [(0, some ⟨36, 0⟩)], [], 1⟩ _
    obtain ⟨g283_0, h⟩ := ifS h
    have h := Option.some.inj h
    subst h
    exact At.fin hm ht ⟨[], [], [], [4, 5, 6], [0, 3]⟩ [e282.1.length ≤ maxLen ∧ e282.1.length * 1 ≤ 140737488355328] (by kernel_rfl) ⟨g283_0, trivial⟩
/-! brougham/seg.options -/
def f86_seg_options_in (b : List Int) : Inn := ⟨[.c (.d (.sl (.int .u8) b))], [], [], 0⟩
def f86_seg_options_out (r : (List (Int × List Int)) × Bool) : Out := ⟨.tup [.c (.own 0 (.pair (.int .u8) (.slice (.int .u8))) r.1), .c (.d (.bool r.2))], [(0, ⟨30, 0⟩)], [], 1⟩
def f86_seg_options_L2 : Nat → (List Int) → (List (Int × List Int)) → Option (((List (Int × List Int)) × Bool) ⊕ (List (Int × List Int)))
  | 0, _, _ => none
  | n + 1, b, out =>
    if (decide ((((b.length : Nat) : Int) : Int) > 0)) = true then
      if (decide ((((b.length : Nat) : Int) : Int) < 2)) = true then
        some (.inl ([], false))
      else
        if (0 : Int) ≤ 0 ∧ 0 < (((b).length : Nat) : Int) then
        if (((b.getD 0 0) : Int) == 0) = true then
          some (.inl ([], false))
        else
          if (0 : Int) ≤ 1 ∧ 1 < (((b).length : Nat) : Int) then
          if (decide (((IntKind.wrap .i64 (b.getD 1 0)) : Int) > (IntKind.wrap .i64 (((b.length : Nat) : Int) - 2)))) = true then
            some (.inl ([], false))
          else
            if (0 : Int) ≤ 1 ∧ 1 < (((b).length : Nat) : Int) then
            if (0 : Int) ≤ 0 ∧ 0 < (((b).length : Nat) : Int) then
            if cutOk b.length (some 2) (some (IntKind.wrap .i64 (2 + (IntKind.wrap .i64 (b.getD 1 0))))) none then
            if ((b.take (IntKind.wrap .i64 (2 + (IntKind.wrap .i64 (b.getD 1 0)))).toNat).drop 2).length ≤ maxLen ∧ ((b.take (IntKind.wrap .i64 (2 + (IntKind.wrap .i64 (b.getD 1 0)))).toNat).drop 2).length * 1 ≤ 140737488355328 then
            if out.length + [((b.getD 0 0), ((b.take (IntKind.wrap .i64 (2 + (IntKind.wrap .i64 (b.getD 1 0)))).toNat).drop 2))].length ≤ maxLen ∧ (out.length + [((b.getD 0 0), ((b.take (IntKind.wrap .i64 (2 + (IntKind.wrap .i64 (b.getD 1 0)))).toNat).drop 2))].length) * 32 ≤ 140737488355328 then
            if cutOk b.length (some (IntKind.wrap .i64 (2 + (IntKind.wrap .i64 (b.getD 1 0))))) none none then
            f86_seg_options_L2 n ((b.take b.length).drop (IntKind.wrap .i64 (2 + (IntKind.wrap .i64 (b.getD 1 0)))).toNat) (out ++ [((b.getD 0 0), ((b.take (IntKind.wrap .i64 (2 + (IntKind.wrap .i64 (b.getD 1 0)))).toNat).drop 2))])
            else none
            else none
            else none
            else none
            else none
            else none
          else none
        else none
    else
      some (.inr out)
def f86_seg_options_L2_k (w : ((List (Int × List Int)) × Bool) ⊕ (List (Int × List Int))) (o : Out) : Prop := match w with
  | .inl e => o = f86_seg_options_out e
  | .inr e => At Go.Proofs.Try.prog Go.Proofs.Try.f86 0 8 ⟨[(4, .one (.c (.own 0 (.pair (.int .u8) (.slice (.int .u8))) e)))], [(0, some ⟨30, 0⟩)], [], 1⟩ o
theorem f86_seg_options_L2_ok (n : Nat) : ∀ (b : List Int) (out : List (Int × List Int)) (w : ((List (Int × List Int)) × Bool) ⊕ (List (Int × List Int))) (h : f86_seg_options_L2 n b out = some w) (o : Out) (hk : f86_seg_options_L2_k w o), At Go.Proofs.Try.prog Go.Proofs.Try.f86 0 2 ⟨[(0, .one (.c (.d (.sl (.int .u8) b)))), (4, .one (.c (.own 0 (.pair (.int .u8) (.slice (.int .u8))) out)))], [(0, some ⟨30, 0⟩)], [], 1⟩ o := by
  induction n with
  | zero => intro b out w h; rw [f86_seg_options_L2] at h; cases h
  | succ n ih =>
    intro b out w h o hk
    rw [f86_seg_options_L2] at h
    rcases iteS h with ⟨b319_e0, h⟩ | ⟨b319_e0, h⟩
    · refine At.step hm ht ⟨[], [true], [], [0, 4], [0]⟩ 3 ⟨[(0, .one (.c (.d (.sl (.int .u8) b)))), (4, .one (.c (.own 0 (.pair (.int .u8) (.slice (.int .u8))) out)))], [(0, some ⟨30, 0⟩)], [], 1⟩ [(decide ((((b.length : Nat) : Int) : Int) > 0)) = true] (by kernel_rfl) ⟨b319_e0, trivial⟩ ?_
      rcases iteS h with ⟨b320_3, h⟩ | ⟨b320_3, h⟩
      · refine At.step hm ht ⟨[(3, .b true)], [true], [], [], []⟩ 4 ⟨[], [], [], 0⟩ [(decide ((((b.length : Nat) : Int) : Int) < 2)) = true, true = true] (by kernel_rfl) ⟨b320_3, rfl, trivial⟩ ?_
        have h := Option.some.inj h
        subst h
        have hk : o = f86_seg_options_out ([], false) := hk
        subst hk
        exact At.fin hm ht ⟨[], [], [.nil false 2 0 (.pair (.int .u8) (.slice (.int .u8))) (some 30)], [2, 3], [2]⟩ [] (by kernel_rfl) trivial
      · obtain ⟨g320_0, h⟩ := ifS h
        rcases iteS h with ⟨b320_9, h⟩ | ⟨b320_9, h⟩
        · refine At.step hm ht ⟨[(3, .b false), (9, .b true)], [true], [], [], []⟩ 4 ⟨[], [], [], 0⟩ [(decide ((((b.length : Nat) : Int) : Int) < 2)) = false, (0 : Int) ≤ 0 ∧ 0 < (((b).length : Nat) : Int), (((b.getD 0 0) : Int) == 0) = true, true = true] (by kernel_rfl) ⟨b320_3, g320_0, b320_9, rfl, trivial⟩ ?_
          have h := Option.some.inj h
          subst h
          have hk : o = f86_seg_options_out ([], false) := hk
          subst hk
          exact At.fin hm ht ⟨[], [], [.nil false 2 0 (.pair (.int .u8) (.slice (.int .u8))) (some 30)], [2, 3], [2]⟩ [] (by kernel_rfl) trivial
        · obtain ⟨g320_1, h⟩ := ifS h
          rcases iteS h with ⟨b320_e0, h⟩ | ⟨b320_e0, h⟩
          · refine At.step hm ht ⟨[(3, .b false), (9, .b false)], [true], [], [], []⟩ 4 ⟨[], [], [], 0⟩ [(decide ((((b.length : Nat) : Int) : Int) < 2)) = false, (0 : Int) ≤ 0 ∧ 0 < (((b).length : Nat) : Int), (((b.getD 0 0) : Int) == 0) = false, (0 : Int) ≤ 1 ∧ 1 < (((b).length : Nat) : Int), (decide (((IntKind.wrap .i64 (b.getD 1 0)) : Int) > (IntKind.wrap .i64 (((b.length : Nat) : Int) - 2)))) = true] (by kernel_rfl) ⟨b320_3, g320_0, b320_9, g320_1, b320_e0, trivial⟩ ?_
            have h := Option.some.inj h
            subst h
            have hk : o = f86_seg_options_out ([], false) := hk
            subst hk
            exact At.fin hm ht ⟨[], [], [.nil false 2 0 (.pair (.int .u8) (.slice (.int .u8))) (some 30)], [2, 3], [2]⟩ [] (by kernel_rfl) trivial
          · refine At.step hm ht ⟨[(3, .b false), (9, .b false)], [false], [], [0, 4], [0]⟩ 5 ⟨[(0, .one (.c (.d (.sl (.int .u8) b)))), (4, .one (.c (.own 0 (.pair (.int .u8) (.slice (.int .u8))) out)))], [(0, some ⟨30, 0⟩)], [], 1⟩ [(decide ((((b.length : Nat) : Int) : Int) < 2)) = false, (0 : Int) ≤ 0 ∧ 0 < (((b).length : Nat) : Int), (((b.getD 0 0) : Int) == 0) = false, (0 : Int) ≤ 1 ∧ 1 < (((b).length : Nat) : Int), (decide (((IntKind.wrap .i64 (b.getD 1 0)) : Int) > (IntKind.wrap .i64 (((b.length : Nat) : Int) - 2)))) = false] (by kernel_rfl) ⟨b320_3, g320_0, b320_9, g320_1, b320_e0, trivial⟩ ?_
            obtain ⟨g324_0, h⟩ := ifS h
            refine At.step hm ht ⟨[], [], [], [0, 4, 5], [0]⟩ 6 ⟨[(0, .one (.c (.d (.sl (.int .u8) b)))), (4, .one (.c (.own 0 (.pair (.int .u8) (.slice (.int .u8))) out))), (5, .one (.c (.d (.int .i64 (IntKind.wrap .i64 (2 + (IntKind.wrap .i64 (b.getD 1 0))))))))], [(0, some ⟨30, 0⟩)], [], 1⟩ [(0 : Int) ≤ 1 ∧ 1 < (((b).length : Nat) : Int)] (by kernel_rfl) ⟨g324_0, trivial⟩ ?_
            obtain ⟨g325_0, h⟩ := ifS h
            obtain ⟨g325_1, h⟩ := ifS h
            obtain ⟨g325_2, h⟩ := ifS h
            obtain ⟨g325_3, h⟩ := ifS h
            refine At.step hm ht ⟨[], [], [], [0, 4, 5], [11]⟩ 7 ⟨[(0, .one (.c (.d (.sl (.int .u8) b)))), (4, .one (.c (.own 0 (.pair (.int .u8) (.slice (.int .u8))) (out ++ [((b.getD 0 0), ((b.take (IntKind.wrap .i64 (2 + (IntKind.wrap .i64 (b.getD 1 0)))).toNat).drop 2))])))), (5, .one (.c (.d (.int .i64 (IntKind.wrap .i64 (2 + (IntKind.wrap .i64 (b.getD 1 0))))))))], [(0, some ⟨30, 0⟩)], [], 1⟩ [(0 : Int) ≤ 0 ∧ 0 < (((b).length : Nat) : Int), cutOk b.length (some 2) (some (IntKind.wrap .i64 (2 + (IntKind.wrap .i64 (b.getD 1 0))))) none, ((b.take (IntKind.wrap .i64 (2 + (IntKind.wrap .i64 (b.getD 1 0)))).toNat).drop 2).length ≤ maxLen ∧ ((b.take (IntKind.wrap .i64 (2 + (IntKind.wrap .i64 (b.getD 1 0)))).toNat).drop 2).length * 1 ≤ 140737488355328, out.length + [((b.getD 0 0), ((b.take (IntKind.wrap .i64 (2 + (IntKind.wrap .i64 (b.getD 1 0)))).toNat).drop 2))].length ≤ maxLen ∧ (out.length + [((b.getD 0 0), ((b.take (IntKind.wrap .i64 (2 + (IntKind.wrap .i64 (b.getD 1 0)))).toNat).drop 2))].length) * 32 ≤ 140737488355328] (by kernel_rfl) ⟨g325_0, g325_1, g325_2, g325_3, trivial⟩ ?_
            obtain ⟨g326_0, h⟩ := ifS h
            refine At.step hm ht ⟨[], [], [], [0, 4], [0]⟩ 2 ⟨[(0, .one (.c (.d (.sl (.int .u8) ((b.take b.length).drop (IntKind.wrap .i64 (2 + (IntKind.wrap .i64 (b.getD 1 0)))).toNat))))), (4, .one (.c (.own 0 (.pair (.int .u8) (.slice (.int .u8))) (out ++ [((b.getD 0 0), ((b.take (IntKind.wrap .i64 (2 + (IntKind.wrap .i64 (b.getD 1 0)))).toNat).drop 2))]))))], [(0, some ⟨30, 0⟩)], [], 1⟩ [cutOk b.length (some (IntKind.wrap .i64 (2 + (IntKind.wrap .i64 (b.getD 1 0))))) none none] (by kernel_rfl) ⟨g326_0, trivial⟩ ?_
            exact ih ((b.take b.length).drop (IntKind.wrap .i64 (2 + (IntKind.wrap .i64 (b.getD 1 0)))).toNat) (out ++ [((b.getD 0 0), ((b.take (IntKind.wrap .i64 (2 + (IntKind.wrap .i64 (b.getD 1 0)))).toNat).drop 2))]) w h o hk
    · refine At.step hm ht ⟨[], [false], [], [4], [0]⟩ 8 ⟨[(4, .one (.c (.own 0 (.pair (.int .u8) (.slice (.int .u8))) out)))], [(0, some ⟨30, 0⟩)], [], 1⟩ [(decide ((((b.length : Nat) : Int) : Int) > 0)) = false] (by kernel_rfl) ⟨b319_e0, trivial⟩ ?_
      have h := Option.some.inj h
      subst h
      exact hk
def f86_seg_options (n : Nat) (b : List Int) : Option ((List (Int × List Int)) × Bool) :=
  (f86_seg_options_L2 n b []).bind fun w327 =>
  match w327 with
  | .inl e328 =>
    some (e328.1, e328.2)
  | .inr e329 =>
    some (e329, true)
theorem f86_seg_options_ok (n : Nat) (b : List Int) (r : (List (Int × List Int)) × Bool) (h : f86_seg_options n b = some r) : FnOK Go.Proofs.Try.prog 86 (f86_seg_options_in b) (f86_seg_options_out r) := by
  unfold f86_seg_options at h
  refine At.fn (r := 0) Go.Proofs.Try.func86 rfl (by kernel_rfl) rfl rfl (by kernel_rfl) ?_
  show At Go.Proofs.Try.prog Go.Proofs.Try.f86 0 0 ⟨[(0, .one (.c (.d (.sl (.int .u8) b))))], [], [], 0⟩ _
  refine At.step hm ht ⟨[], [], [], [0], []⟩ 1 ⟨[(0, .one (.c (.d (.sl (.int .u8) b))))], [], [], 0⟩ [] (by kernel_rfl) trivial ?_
  refine At.step hm ht ⟨[], [], [.nil false 4 0 (.pair (.int .u8) (.slice (.int .u8))) (some 30)], [0, 4], [1]⟩ 2 ⟨[(0, .one (.c (.d (.sl (.int .u8) b)))), (4, .one (.c (.own 0 (.pair (.int .u8) (.slice (.int .u8))) [])))], [(0, some ⟨30, 0⟩)], [], 1⟩ [] (by kernel_rfl) trivial ?_
  obtain ⟨w327, cw327, h⟩ := bindS h
  refine f86_seg_options_L2_ok n b [] w327 cw327 _ ?_
  rcases w327 with e328 | e329
  · have h := Option.some.inj h
    subst h
    rfl
  · show At Go.Proofs.Try.prog Go.Proofs.Try.f86 0 8 ⟨[(4, .one (.c (.own 0 (.pair (.int .u8) (.slice (.int .u8))) e329)))], [(0, some ⟨30, 0⟩)], [], 1⟩ _
    have h := Option.some.inj h
    subst h
    exact At.fin hm ht ⟨[], [], [], [2, 3], [0]⟩ [] (by kernel_rfl) trivial
/-! brougham/seg.Parse -/
def f47_seg_Parse_in (b : List Int) : Inn := ⟨[.c (.d (.sl (.int .u8) b))], [], [], 0⟩
def f47_seg_Parse_out (r : Int × Int × Int × Int × Int × Int × (List (Int × List Int)) × List Int) : Out := ⟨.tup [.agg [.d (.int .u16 r.2.1), .d (.int .u16 r.2.2.1), .d (.int .u32 r.2.2.2.1), .d (.int .u32 r.2.2.2.2.1), .d (.int .u8 r.2.2.2.2.2.1), .own 1 (.pair (.int .u8) (.slice (.int .u8))) r.2.2.2.2.2.2.1, .own 2 (.int .u8) r.2.2.2.2.2.2.2], .c (.d (.int .i64 r.1))], [(1, ⟨30, 0⟩), (2, ⟨5, 0⟩)], [(0, [.d (.int .u16 r.2.1), .d (.int .u16 r.2.2.1), .d (.int .u32 r.2.2.2.1), .d (.int .u32 r.2.2.2.2.1), .d (.int .u8 r.2.2.2.2.2.1), .own 1 (.pair (.int .u8) (.slice (.int .u8))) r.2.2.2.2.2.2.1, .own 2 (.int .u8) r.2.2.2.2.2.2.2])], 3⟩
def f47_seg_Parse (n : Nat) (b : List Int) : Option (Int × Int × Int × Int × Int × Int × (List (Int × List Int)) × List Int) :=
  (f83_pack_Get n b [2, 2, 4, 4, 1, 1]).bind fun r338_0 =>
  if (!r338_0.2.2) = true then
    some (70, 0, 0, 0, 0, 0, [], [])
  else
    if (0 : Int) ≤ 4 ∧ 4 < (((r338_0.1).length : Nat) : Int) then
    if (decide (((r338_0.1.getD 4 0) : Int) > 7)) = true then
      some (70, 0, 0, 0, 0, 0, [], [])
    else
      if (0 : Int) ≤ 0 ∧ 0 < (((r338_0.1).length : Nat) : Int) then
      if (0 : Int) ≤ 1 ∧ 1 < (((r338_0.1).length : Nat) : Int) then
      if (0 : Int) ≤ 2 ∧ 2 < (((r338_0.1).length : Nat) : Int) then
      if (0 : Int) ≤ 3 ∧ 3 < (((r338_0.1).length : Nat) : Int) then
      if (0 : Int) ≤ 4 ∧ 4 < (((r338_0.1).length : Nat) : Int) then
      if (0 : Int) ≤ 5 ∧ 5 < (((r338_0.1).length : Nat) : Int) then
      if (decide (((IntKind.wrap .i64 (r338_0.1.getD 5 0)) : Int) > 200)) = true then
        some (71, 0, 0, 0, 0, 0, [], [])
      else
        if (decide (((IntKind.wrap .i64 (r338_0.1.getD 5 0)) : Int) > ((r338_0.2.1.length : Nat) : Int))) = true then
          some (71, 0, 0, 0, 0, 0, [], [])
        else
          if cutOk r338_0.2.1.length none (some (IntKind.wrap .i64 (r338_0.1.getD 5 0))) (some (IntKind.wrap .i64 (r338_0.1.getD 5 0))) then
          (f86_seg_options n (r338_0.2.1.take (IntKind.wrap .i64 (r338_0.1.getD 5 0)).toNat)).bind fun r347_1 =>
          if (!r347_1.2) = true then
            some (71, 0, 0, 0, 0, 0, [], [])
          else
            if (decide (((IntKind.wrap .i64 (((r338_0.2.1.length : Nat) : Int) - (IntKind.wrap .i64 (r338_0.1.getD 5 0)))) : Int) > 1024)) = true then
              some (72, 0, 0, 0, 0, 0, [], [])
            else
              if cutOk r338_0.2.1.length (some (IntKind.wrap .i64 (r338_0.1.getD 5 0))) none none then
              if ((r338_0.2.1.take r338_0.2.1.length).drop (IntKind.wrap .i64 (r338_0.1.getD 5 0)).toNat).length ≤ maxLen ∧ ((r338_0.2.1.take r338_0.2.1.length).drop (IntKind.wrap .i64 (r338_0.1.getD 5 0)).toNat).length * 1 ≤ 140737488355328 then
              some (0, (IntKind.wrap .u16 (r338_0.1.getD 0 0)), (IntKind.wrap .u16 (r338_0.1.getD 1 0)), (IntKind.wrap .u32 (r338_0.1.getD 2 0)), (IntKind.wrap .u32 (r338_0.1.getD 3 0)), (IntKind.wrap .u8 (r338_0.1.getD 4 0)), r347_1.1, ((r338_0.2.1.take r338_0.2.1.length).drop (IntKind.wrap .i64 (r338_0.1.getD 5 0)).toNat))
              else none
              else none
          else none
      else none
      else none
      else none
      else none
      else none
      else none
    else none
theorem f47_seg_Parse_ok (n : Nat) (b : List Int) (r : Int × Int × Int × Int × Int × Int × (List (Int × List Int)) × List Int) (h : f47_seg_Parse n b = some r) : FnOK Go.Proofs.Try.prog 47 (f47_seg_Parse_in b) (f47_seg_Parse_out r) := by
  unfold f47_seg_Parse at h
  refine At.fn (r := 0) Go.Proofs.Try.func47 rfl (by kernel_rfl) rfl rfl (by kernel_rfl) ?_
  show At Go.Proofs.Try.prog Go.Proofs.Try.f47 0 0 ⟨[(0, .one (.c (.d (.sl (.int .u8) b))))], [], [], 0⟩ _
  refine At.step hm ht ⟨[], [], [], [0, 2], [0]⟩ 1 ⟨[(0, .one (.c (.d (.sl (.int .u8) b)))), (2, .one (.c (.ptr 0 0)))], [], [(0, [.d (.int .u16 0), .d (.int .u16 0), .d (.int .u32 0), .d (.int .u32 0), .d (.int .u8 0), .d (.sl .unit []), .d (.sl .unit [])])], 1⟩ [] (by kernel_rfl) trivial ?_
  obtain ⟨r338_0, cr338_0, h⟩ := bindS h
  refine At.step hm ht ⟨[(2, .call [] [] (f83_pack_Get_out r338_0))], [], [], [2, 4, 5, 6], [0, 3, 4]⟩ 2 ⟨[(2, .one (.c (.ptr 0 0))), (4, .one (.c (.own 1 (.int .u64) r338_0.1))), (5, .one (.c (.own 2 (.int .u8) r338_0.2.1))), (6, .one (.c (.d (.bool r338_0.2.2))))], [(1, some ⟨36, 0⟩), (2, some ⟨5, 0⟩)], [(0, [.d (.int .u16 0), .d (.int .u16 0), .d (.int .u32 0), .d (.int .u32 0), .d (.int .u8 0), .d (.sl .unit []), .d (.sl .unit [])])], 3⟩ [FnOK Go.Proofs.Try.prog 83 (f83_pack_Get_in b [2, 2, 4, 4, 1, 1]) (f83_pack_Get_out r338_0)] (by kernel_rfl) ⟨(f83_pack_Get_ok n b [2, 2, 4, 4, 1, 1] r338_0 cr338_0), trivial⟩ ?_
  rcases iteS h with ⟨b339_2, h⟩ | ⟨b339_2, h⟩
  · refine At.step hm ht ⟨[(2, .b true)], [true], [], [2], [0]⟩ 3 ⟨[(2, .one (.c (.ptr 0 0)))], [], [(0, [.d (.int .u16 0), .d (.int .u16 0), .d (.int .u32 0), .d (.int .u32 0), .d (.int .u8 0), .d (.sl .unit []), .d (.sl .unit [])])], 1⟩ [(!r338_0.2.2) = true, true = true] (by kernel_rfl) ⟨b339_2, rfl, trivial⟩ ?_
    have h := Option.some.inj h
    subst h
    exact At.fin hm ht ⟨[], [], [.nil true 0 5 (.pair (.int .u8) (.slice (.int .u8))) (some 30), .nil true 0 6 (.int .u8) (some 5)], [2, 3], [0, 4, 5]⟩ [0 + 7 ≤ 7] (by kernel_rfl) ⟨(by decide), trivial⟩
  · obtain ⟨g339_0, h⟩ := ifS h
    rcases iteS h with ⟨b339_e0, h⟩ | ⟨b339_e0, h⟩
    · refine At.step hm ht ⟨[(2, .b false)], [true], [], [2], [0]⟩ 3 ⟨[(2, .one (.c (.ptr 0 0)))], [], [(0, [.d (.int .u16 0), .d (.int .u16 0), .d (.int .u32 0), .d (.int .u32 0), .d (.int .u8 0), .d (.sl .unit []), .d (.sl .unit [])])], 1⟩ [(!r338_0.2.2) = false, (0 : Int) ≤ 4 ∧ 4 < (((r338_0.1).length : Nat) : Int), (decide (((r338_0.1.getD 4 0) : Int) > 7)) = true] (by kernel_rfl) ⟨b339_2, g339_0, b339_e0, trivial⟩ ?_
      have h := Option.some.inj h
      subst h
      exact At.fin hm ht ⟨[], [], [.nil true 0 5 (.pair (.int .u8) (.slice (.int .u8))) (some 30), .nil true 0 6 (.int .u8) (some 5)], [2, 3], [0, 4, 5]⟩ [0 + 7 ≤ 7] (by kernel_rfl) ⟨(by decide), trivial⟩
    · refine At.step hm ht ⟨[(2, .b false)], [false], [], [2, 4, 5], [0, 1, 2]⟩ 4 ⟨[(2, .one (.c (.ptr 0 0))), (4, .one (.c (.own 1 (.int .u64) r338_0.1))), (5, .one (.c (.own 2 (.int .u8) r338_0.2.1)))], [(1, some ⟨36, 0⟩), (2, some ⟨5, 0⟩)], [(0, [.d (.int .u16 0), .d (.int .u16 0), .d (.int .u32 0), .d (.int .u32 0), .d (.int .u8 0), .d (.sl .unit []), .d (.sl .unit [])])], 3⟩ [(!r338_0.2.2) = false, (0 : Int) ≤ 4 ∧ 4 < (((r338_0.1).length : Nat) : Int), (decide (((r338_0.1.getD 4 0) : Int) > 7)) = false] (by kernel_rfl) ⟨b339_2, g339_0, b339_e0, trivial⟩ ?_
      obtain ⟨g342_0, h⟩ := ifS h
      obtain ⟨g342_1, h⟩ := ifS h
      obtain ⟨g342_2, h⟩ := ifS h
      obtain ⟨g342_3, h⟩ := ifS h
      obtain ⟨g342_4, h⟩ := ifS h
      refine At.step hm ht ⟨[], [], [], [2, 4, 5, 7], [0, 1, 2, 24]⟩ 5 ⟨[(2, .one (.c (.ptr 0 0))), (4, .one (.c (.own 1 (.int .u64) r338_0.1))), (5, .one (.c (.own 2 (.int .u8) r338_0.2.1))), (7, .one (.c (.ptr 3 0)))], [(1, some ⟨36, 0⟩), (2, some ⟨5, 0⟩)], [(0, [.d (.int .u16 0), .d (.int .u16 0), .d (.int .u32 0), .d (.int .u32 0), .d (.int .u8 0), .d (.sl .unit []), .d (.sl .unit [])]), (3, [.d (.int .u16 (IntKind.wrap .u16 (r338_0.1.getD 0 0))), .d (.int .u16 (IntKind.wrap .u16 (r338_0.1.getD 1 0))), .d (.int .u32 (IntKind.wrap .u32 (r338_0.1.getD 2 0))), .d (.int .u32 (IntKind.wrap .u32 (r338_0.1.getD 3 0))), .d (.int .u8 (IntKind.wrap .u8 (r338_0.1.getD 4 0))), .d (.sl .unit []), .d (.sl .unit [])])], 4⟩ [(0 : Int) ≤ 0 ∧ 0 < (((r338_0.1).length : Nat) : Int), (0 : Int) ≤ 1 ∧ 1 < (((r338_0.1).length : Nat) : Int), (0 : Int) ≤ 2 ∧ 2 < (((r338_0.1).length : Nat) : Int), (0 : Int) ≤ 3 ∧ 3 < (((r338_0.1).length : Nat) : Int), (0 : Int) ≤ 4 ∧ 4 < (((r338_0.1).length : Nat) : Int), 0 + 7 ≤ 7] (by kernel_rfl) ⟨g342_0, g342_1, g342_2, g342_3, g342_4, (by decide), trivial⟩ ?_
      obtain ⟨g343_0, h⟩ := ifS h
      refine At.step hm ht ⟨[], [], [], [2, 5, 7, 8], [0, 2, 3]⟩ 6 ⟨[(2, .one (.c (.ptr 0 0))), (5, .one (.c (.own 1 (.int .u8) r338_0.2.1))), (7, .one (.c (.ptr 2 0))), (8, .one (.c (.d (.int .i64 (IntKind.wrap .i64 (r338_0.1.getD 5 0))))))], [(1, some ⟨5, 0⟩)], [(0, [.d (.int .u16 0), .d (.int .u16 0), .d (.int .u32 0), .d (.int .u32 0), .d (.int .u8 0), .d (.sl .unit []), .d (.sl .unit [])]), (2, [.d (.int .u16 (IntKind.wrap .u16 (r338_0.1.getD 0 0))), .d (.int .u16 (IntKind.wrap .u16 (r338_0.1.getD 1 0))), .d (.int .u32 (IntKind.wrap .u32 (r338_0.1.getD 2 0))), .d (.int .u32 (IntKind.wrap .u32 (r338_0.1.getD 3 0))), .d (.int .u8 (IntKind.wrap .u8 (r338_0.1.getD 4 0))), .d (.sl .unit []), .d (.sl .unit [])])], 3⟩ [(0 : Int) ≤ 5 ∧ 5 < (((r338_0.1).length : Nat) : Int)] (by kernel_rfl) ⟨g343_0, trivial⟩ ?_
      rcases iteS h with ⟨b344_2, h⟩ | ⟨b344_2, h⟩
      · refine At.step hm ht ⟨[(2, .b true)], [true], [], [2], [0]⟩ 7 ⟨[(2, .one (.c (.ptr 0 0)))], [], [(0, [.d (.int .u16 0), .d (.int .u16 0), .d (.int .u32 0), .d (.int .u32 0), .d (.int .u8 0), .d (.sl .unit []), .d (.sl .unit [])])], 1⟩ [(decide (((IntKind.wrap .i64 (r338_0.1.getD 5 0)) : Int) > 200)) = true, true = true] (by kernel_rfl) ⟨b344_2, rfl, trivial⟩ ?_
        have h := Option.some.inj h
        subst h
        exact At.fin hm ht ⟨[], [], [.nil true 0 5 (.pair (.int .u8) (.slice (.int .u8))) (some 30), .nil true 0 6 (.int .u8) (some 5)], [2, 3], [0, 4, 5]⟩ [0 + 7 ≤ 7] (by kernel_rfl) ⟨(by decide), trivial⟩
      · rcases iteS h with ⟨b344_e0, h⟩ | ⟨b344_e0, h⟩
        · refine At.step hm ht ⟨[(2, .b false)], [true], [], [2], [0]⟩ 7 ⟨[(2, .one (.c (.ptr 0 0)))], [], [(0, [.d (.int .u16 0), .d (.int .u16 0), .d (.int .u32 0), .d (.int .u32 0), .d (.int .u8 0), .d (.sl .unit []), .d (.sl .unit [])])], 1⟩ [(decide (((IntKind.wrap .i64 (r338_0.1.getD 5 0)) : Int) > 200)) = false, (decide (((IntKind.wrap .i64 (r338_0.1.getD 5 0)) : Int) > ((r338_0.2.1.length : Nat) : Int))) = true] (by kernel_rfl) ⟨b344_2, b344_e0, trivial⟩ ?_
          have h := Option.some.inj h
          subst h
          exact At.fin hm ht ⟨[], [], [.nil true 0 5 (.pair (.int .u8) (.slice (.int .u8))) (some 30), .nil true 0 6 (.int .u8) (some 5)], [2, 3], [0, 4, 5]⟩ [0 + 7 ≤ 7] (by kernel_rfl) ⟨(by decide), trivial⟩
        · refine At.step hm ht ⟨[(2, .b false)], [false], [], [2, 5, 7, 8], [0, 1, 2]⟩ 8 ⟨[(2, .one (.c (.ptr 0 0))), (5, .one (.c (.own 1 (.int .u8) r338_0.2.1))), (7, .one (.c (.ptr 2 0))), (8, .one (.c (.d (.int .i64 (IntKind.wrap .i64 (r338_0.1.getD 5 0))))))], [(1, some ⟨5, 0⟩)], [(0, [.d (.int .u16 0), .d (.int .u16 0), .d (.int .u32 0), .d (.int .u32 0), .d (.int .u8 0), .d (.sl .unit []), .d (.sl .unit [])]), (2, [.d (.int .u16 (IntKind.wrap .u16 (r338_0.1.getD 0 0))), .d (.int .u16 (IntKind.wrap .u16 (r338_0.1.getD 1 0))), .d (.int .u32 (IntKind.wrap .u32 (r338_0.1.getD 2 0))), .d (.int .u32 (IntKind.wrap .u32 (r338_0.1.getD 3 0))), .d (.int .u8 (IntKind.wrap .u8 (r338_0.1.getD 4 0))), .d (.sl .unit []), .d (.sl .unit [])])], 3⟩ [(decide (((IntKind.wrap .i64 (r338_0.1.getD 5 0)) : Int) > 200)) = false, (decide (((IntKind.wrap .i64 (r338_0.1.getD 5 0)) : Int) > ((r338_0.2.1.length : Nat) : Int))) = false] (by kernel_rfl) ⟨b344_2, b344_e0, trivial⟩ ?_
          obtain ⟨g347_0, h⟩ := ifS h
          obtain ⟨r347_1, cr347_1, h⟩ := bindS h
          refine At.step hm ht ⟨[(4, .call [] [] (f86_seg_options_out r347_1))], [], [], [2, 5, 6, 7, 8, 9], [0, 1, 2, 7]⟩ 9 ⟨[(2, .one (.c (.ptr 0 0))), (5, .one (.c (.own 1 (.int .u8) r338_0.2.1))), (6, .one (.c (.d (.bool r347_1.2)))), (7, .one (.c (.ptr 2 0))), (8, .one (.c (.d (.int .i64 (IntKind.wrap .i64 (r338_0.1.getD 5 0)))))), (9, .one (.c (.own 3 (.pair (.int .u8) (.slice (.int .u8))) r347_1.1)))], [(1, some ⟨5, 0⟩), (3, some ⟨30, 0⟩)], [(0, [.d (.int .u16 0), .d (.int .u16 0), .d (.int .u32 0), .d (.int .u32 0), .d (.int .u8 0), .d (.sl .unit []), .d (.sl .unit [])]), (2, [.d (.int .u16 (IntKind.wrap .u16 (r338_0.1.getD 0 0))), .d (.int .u16 (IntKind.wrap .u16 (r338_0.1.getD 1 0))), .d (.int .u32 (IntKind.wrap .u32 (r338_0.1.getD 2 0))), .d (.int .u32 (IntKind.wrap .u32 (r338_0.1.getD 3 0))), .d (.int .u8 (IntKind.wrap .u8 (r338_0.1.getD 4 0))), .d (.sl .unit []), .d (.sl .unit [])])], 4⟩ [cutOk r338_0.2.1.length none (some (IntKind.wrap .i64 (r338_0.1.getD 5 0))) (some (IntKind.wrap .i64 (r338_0.1.getD 5 0))), FnOK Go.Proofs.Try.prog 86 (f86_seg_options_in (r338_0.2.1.take (IntKind.wrap .i64 (r338_0.1.getD 5 0)).toNat)) (f86_seg_options_out r347_1)] (by kernel_rfl) ⟨g347_0, (f86_seg_options_ok n (r338_0.2.1.take (IntKind.wrap .i64 (r338_0.1.getD 5 0)).toNat) r347_1 cr347_1), trivial⟩ ?_
          rcases iteS h with ⟨b348_e0, h⟩ | ⟨b348_e0, h⟩
          · refine At.step hm ht ⟨[], [true], [], [2], [0]⟩ 10 ⟨[(2, .one (.c (.ptr 0 0)))], [], [(0, [.d (.int .u16 0), .d (.int .u16 0), .d (.int .u32 0), .d (.int .u32 0), .d (.int .u8 0), .d (.sl .unit []), .d (.sl .unit [])])], 1⟩ [(!r347_1.2) = true] (by kernel_rfl) ⟨b348_e0, trivial⟩ ?_
            have h := Option.some.inj h
            subst h
            exact At.fin hm ht ⟨[], [], [.nil true 0 5 (.pair (.int .u8) (.slice (.int .u8))) (some 30), .nil true 0 6 (.int .u8) (some 5)], [2, 3], [0, 4, 5]⟩ [0 + 7 ≤ 7] (by kernel_rfl) ⟨(by decide), trivial⟩
          · refine At.step hm ht ⟨[], [false], [], [2, 5, 7, 8, 9], [0, 1, 2, 3]⟩ 11 ⟨[(2, .one (.c (.ptr 0 0))), (5, .one (.c (.own 1 (.int .u8) r338_0.2.1))), (7, .one (.c (.ptr 2 0))), (8, .one (.c (.d (.int .i64 (IntKind.wrap .i64 (r338_0.1.getD 5 0)))))), (9, .one (.c (.own 3 (.pair (.int .u8) (.slice (.int .u8))) r347_1.1)))], [(1, some ⟨5, 0⟩), (3, some ⟨30, 0⟩)], [(0, [.d (.int .u16 0), .d (.int .u16 0), .d (.int .u32 0), .d (.int .u32 0), .d (.int .u8 0), .d (.sl .unit []), .d (.sl .unit [])]), (2, [.d (.int .u16 (IntKind.wrap .u16 (r338_0.1.getD 0 0))), .d (.int .u16 (IntKind.wrap .u16 (r338_0.1.getD 1 0))), .d (.int .u32 (IntKind.wrap .u32 (r338_0.1.getD 2 0))), .d (.int .u32 (IntKind.wrap .u32 (r338_0.1.getD 3 0))), .d (.int .u8 (IntKind.wrap .u8 (r338_0.1.getD 4 0))), .d (.sl .unit []), .d (.sl .unit [])])], 4⟩ [(!r347_1.2) = false] (by kernel_rfl) ⟨b348_e0, trivial⟩ ?_
            rcases iteS h with ⟨b350_e0, h⟩ | ⟨b350_e0, h⟩
            · refine At.step hm ht ⟨[], [true], [], [2], [0]⟩ 12 ⟨[(2, .one (.c (.ptr 0 0)))], [], [(0, [.d (.int .u16 0), .d (.int .u16 0), .d (.int .u32 0), .d (.int .u32 0), .d (.int .u8 0), .d (.sl .unit []), .d (.sl .unit [])])], 1⟩ [(decide (((IntKind.wrap .i64 (((r338_0.2.1.length : Nat) : Int) - (IntKind.wrap .i64 (r338_0.1.getD 5 0)))) : Int) > 1024)) = true] (by kernel_rfl) ⟨b350_e0, trivial⟩ ?_
              have h := Option.some.inj h
              subst h
              exact At.fin hm ht ⟨[], [], [.nil true 0 5 (.pair (.int .u8) (.slice (.int .u8))) (some 30), .nil true 0 6 (.int .u8) (some 5)], [2, 3], [0, 4, 5]⟩ [0 + 7 ≤ 7] (by kernel_rfl) ⟨(by decide), trivial⟩
            · refine At.step hm ht ⟨[], [false], [], [2, 5, 7, 8, 9], [0, 1, 2, 3]⟩ 13 ⟨[(2, .one (.c (.ptr 0 0))), (5, .one (.c (.own 1 (.int .u8) r338_0.2.1))), (7, .one (.c (.ptr 2 0))), (8, .one (.c (.d (.int .i64 (IntKind.wrap .i64 (r338_0.1.getD 5 0)))))), (9, .one (.c (.own 3 (.pair (.int .u8) (.slice (.int .u8))) r347_1.1)))], [(1, some ⟨5, 0⟩), (3, some ⟨30, 0⟩)], [(0, [.d (.int .u16 0), .d (.int .u16 0), .d (.int .u32 0), .d (.int .u32 0), .d (.int .u8 0), .d (.sl .unit []), .d (.sl .unit [])]), (2, [.d (.int .u16 (IntKind.wrap .u16 (r338_0.1.getD 0 0))), .d (.int .u16 (IntKind.wrap .u16 (r338_0.1.getD 1 0))), .d (.int .u32 (IntKind.wrap .u32 (r338_0.1.getD 2 0))), .d (.int .u32 (IntKind.wrap .u32 (r338_0.1.getD 3 0))), .d (.int .u8 (IntKind.wrap .u8 (r338_0.1.getD 4 0))), .d (.sl .unit []), .d (.sl .unit [])])], 4⟩ [(decide (((IntKind.wrap .i64 (((r338_0.2.1.length : Nat) : Int) - (IntKind.wrap .i64 (r338_0.1.getD 5 0)))) : Int) > 1024)) = false] (by kernel_rfl) ⟨b350_e0, trivial⟩ ?_
              obtain ⟨g352_0, h⟩ := ifS h
              obtain ⟨g352_1, h⟩ := ifS h
              refine At.step hm ht ⟨[], [], [], [2, 7], [0, 2, 3, 8]⟩ 14 ⟨[(2, .one (.c (.ptr 0 0))), (7, .one (.c (.ptr 1 0)))], [(2, some ⟨30, 0⟩), (3, some ⟨5, 0⟩)], [(0, [.d (.int .u16 0), .d (.int .u16 0), .d (.int .u32 0), .d (.int .u32 0), .d (.int .u8 0), .d (.sl .unit []), .d (.sl .unit [])]), (1, [.d (.int .u16 (IntKind.wrap .u16 (r338_0.1.getD 0 0))), .d (.int .u16 (IntKind.wrap .u16 (r338_0.1.getD 1 0))), .d (.int .u32 (IntKind.wrap .u32 (r338_0.1.getD 2 0))), .d (.int .u32 (IntKind.wrap .u32 (r338_0.1.getD 3 0))), .d (.int .u8 (IntKind.wrap .u8 (r338_0.1.getD 4 0))), .own 2 (.pair (.int .u8) (.slice (.int .u8))) r347_1.1, .own 3 (.int .u8) ((r338_0.2.1.take r338_0.2.1.length).drop (IntKind.wrap .i64 (r338_0.1.getD 5 0)).toNat)])], 4⟩ [cutOk r338_0.2.1.length (some (IntKind.wrap .i64 (r338_0.1.getD 5 0))) none none, ((r338_0.2.1.take r338_0.2.1.length).drop (IntKind.wrap .i64 (r338_0.1.getD 5 0)).toNat).length ≤ maxLen ∧ ((r338_0.2.1.take r338_0.2.1.length).drop (IntKind.wrap .i64 (r338_0.1.getD 5 0)).toNat).length * 1 ≤ 140737488355328, 5 + 1 ≤ 7, 6 + 1 ≤ 7] (by kernel_rfl) ⟨g352_0, g352_1, (by decide), (by decide), trivial⟩ ?_
              have h := Option.some.inj h
              subst h
              exact At.fin hm ht ⟨[], [], [], [2, 3], [0, 2, 3]⟩ [0 + 7 ≤ 7] (by kernel_rfl) ⟨(by decide), trivial⟩
/-! brougham/seg.Take -/
def f53_seg_Take_in (s_0 : Int) (s_1 : Int) (s_2 : Int) (s_3 : Int) (s_4 : Int) (s_5 : List (Int × List Int)) (s_6 : List Int) : Inn := ⟨[.agg [.d (.int .u16 s_0), .d (.int .u16 s_1), .d (.int .u32 s_2), .d (.int .u32 s_3), .d (.int .u8 s_4), .d (.sl (.pair (.int .u8) (.slice (.int .u8))) s_5), .d (.sl (.int .u8) s_6)]], [], [], 0⟩
def f53_seg_Take_out (r : Int) : Out := ⟨.one (.c (.d (.int .u32 r))), [], [], 0⟩
def f53_seg_Take (s_0 : Int) (s_1 : Int) (s_2 : Int) (s_3 : Int) (s_4 : Int) (s_5 : List (Int × List Int)) (s_6 : List Int) : Option (Int) :=
  if (((bits .and .u8 s_4 1) : Int) != 0) = true then
    some (IntKind.wrap .u32 ((IntKind.wrap .u32 ((s_6.length : Nat) : Int)) + 1))
  else
    some (IntKind.wrap .u32 ((s_6.length : Nat) : Int))
theorem f53_seg_Take_ok (s_0 : Int) (s_1 : Int) (s_2 : Int) (s_3 : Int) (s_4 : Int) (s_5 : List (Int × List Int)) (s_6 : List Int) (r : Int) (h : f53_seg_Take s_0 s_1 s_2 s_3 s_4 s_5 s_6 = some r) : FnOK Go.Proofs.Try.prog 53 (f53_seg_Take_in s_0 s_1 s_2 s_3 s_4 s_5 s_6) (f53_seg_Take_out r) := by
  unfold f53_seg_Take at h
  refine At.fn (r := 0) Go.Proofs.Try.func53 rfl (by kernel_rfl) rfl rfl (by kernel_rfl) ?_
  show At Go.Proofs.Try.prog Go.Proofs.Try.f53 0 0 ⟨[(0, .one (.agg [.d (.int .u16 s_0), .d (.int .u16 s_1), .d (.int .u32 s_2), .d (.int .u32 s_3), .d (.int .u8 s_4), .d (.sl (.pair (.int .u8) (.slice (.int .u8))) s_5), .d (.sl (.int .u8) s_6)]))], [], [], 0⟩ _
  refine At.step hm ht ⟨[], [], [], [1], [0]⟩ 1 ⟨[(1, .one (.c (.ptr 0 0)))], [], [(0, [.d (.int .u16 s_0), .d (.int .u16 s_1), .d (.int .u32 s_2), .d (.int .u32 s_3), .d (.int .u8 s_4), .d (.sl (.pair (.int .u8) (.slice (.int .u8))) s_5), .d (.sl (.int .u8) s_6)])], 1⟩ [] (by kernel_rfl) trivial ?_
  refine At.step hm ht ⟨[], [], [], [1, 3], [0]⟩ 2 ⟨[(1, .one (.c (.ptr 0 0))), (3, .one (.c (.d (.int .u32 (IntKind.wrap .u32 ((s_6.length : Nat) : Int))))))], [], [(0, [.d (.int .u16 s_0), .d (.int .u16 s_1), .d (.int .u32 s_2), .d (.int .u32 s_3), .d (.int .u8 s_4), .d (.sl (.pair (.int .u8) (.slice (.int .u8))) s_5), .d (.sl (.int .u8) s_6)])], 1⟩ [] (by kernel_rfl) trivial ?_
  rcases iteS h with ⟨b358_e0, h⟩ | ⟨b358_e0, h⟩
  · refine At.step hm ht ⟨[], [true], [], [3], []⟩ 3 ⟨[(3, .one (.c (.d (.int .u32 (IntKind.wrap .u32 ((s_6.length : Nat) : Int))))))], [], [], 0⟩ [(((bits .and .u8 s_4 1) : Int) != 0) = true] (by kernel_rfl) ⟨b358_e0, trivial⟩ ?_
    refine At.step hm ht ⟨[], [], [], [3], []⟩ 4 ⟨[(3, .one (.c (.d (.int .u32 (IntKind.wrap .u32 ((IntKind.wrap .u32 ((s_6.length : Nat) : Int)) + 1))))))], [], [], 0⟩ [] (by kernel_rfl) trivial ?_
    have h := Option.some.inj h
    subst h
    exact At.fin hm ht ⟨[], [], [], [2], []⟩ [] (by kernel_rfl) trivial
  · refine At.step hm ht ⟨[], [false], [], [3], []⟩ 4 ⟨[(3, .one (.c (.d (.int .u32 (IntKind.wrap .u32 ((s_6.length : Nat) : Int))))))], [], [], 0⟩ [(((bits .and .u8 s_4 1) : Int) != 0) = false] (by kernel_rfl) ⟨b358_e0, trivial⟩ ?_
    have h := Option.some.inj h
    subst h
    exact At.fin hm ht ⟨[], [], [], [2], []⟩ [] (by kernel_rfl) trivial
/-! brougham/broughamlaw07.alive -/
def f46_broughamlaw07_alive_in : Inn := ⟨[], [], [], 0⟩
def f46_broughamlaw07_alive_out (r : Bool) : Out := ⟨.one (.c (.d (.bool r))), [], [], 0⟩
def f46_broughamlaw07_alive (n : Nat) : Option (Bool) :=
  (f47_seg_Parse n [0, 0, 0, 0, 0, 0, 0, 0, 0, 0, 0, 0, 0, 0]).bind fun r202_0 =>
  (f40_seg_Encode n 1 0 0 0 1 [(3, [97, 98])] [120]).bind fun r354_0 =>
  if ((r202_0.1 : Int) == 0) = true then
    if ((r202_0.2.1 : Int) == 0) = true then
      if ((r354_0.2 : Int) == 0) = true then
        if ((((r354_0.1.length : Nat) : Int) : Int) == 19) = true then
          (f53_seg_Take 0 0 0 0 1 [] [120]).bind fun r355_0 =>
          some ((r355_0 : Int) == 2)
        else
          some false
      else
        some false
    else
      some false
  else
    some false
theorem f46_broughamlaw07_alive_ok (n : Nat) (r : Bool) (h : f46_broughamlaw07_alive n = some r) : FnOK Go.Proofs.Try.prog 46 (f46_broughamlaw07_alive_in) (f46_broughamlaw07_alive_out r) := by
  unfold f46_broughamlaw07_alive at h
  refine At.fn (r := 0) Go.Proofs.Try.func46 rfl (by kernel_rfl) rfl rfl (by kernel_rfl) ?_
  show At Go.Proofs.Try.prog Go.Proofs.Try.f46 0 0 ⟨[], [], [], 0⟩ _
  refine At.step hm ht ⟨[], [], [], [], []⟩ 1 ⟨[], [], [], 0⟩ [] (by kernel_rfl) trivial ?_
  obtain ⟨r202_0, cr202_0, h⟩ := bindS h
  refine At.step hm ht ⟨[(1, .call [] [] (f47_seg_Parse_out r202_0))], [], [], [1, 2], [7, 2, 3]⟩ 2 ⟨[(1, .one (.c (.ptr 0 0))), (2, .one (.c (.d (.int .i64 r202_0.1))))], [(1, some ⟨30, 0⟩), (2, some ⟨5, 0⟩)], [(0, [.d (.int .u16 r202_0.2.1), .d (.int .u16 r202_0.2.2.1), .d (.int .u32 r202_0.2.2.2.1), .d (.int .u32 r202_0.2.2.2.2.1), .d (.int .u8 r202_0.2.2.2.2.2.1), .own 1 (.pair (.int .u8) (.slice (.int .u8))) r202_0.2.2.2.2.2.2.1, .own 2 (.int .u8) r202_0.2.2.2.2.2.2.2])], 3⟩ [FnOK Go.Proofs.Try.prog 47 (f47_seg_Parse_in [0, 0, 0, 0, 0, 0, 0, 0, 0, 0, 0, 0, 0, 0]) (f47_seg_Parse_out r202_0), 0 + 7 ≤ 7] (by kernel_rfl) ⟨(f47_seg_Parse_ok n [0, 0, 0, 0, 0, 0, 0, 0, 0, 0, 0, 0, 0, 0] r202_0 cr202_0), (by decide), trivial⟩ ?_
  obtain ⟨r354_0, cr354_0, h⟩ := bindS h
  refine At.step hm ht ⟨[(7, .call [] [] (f40_seg_Encode_out r354_0))], [], [], [1, 2, 3, 4], [0, 10, 1, 2]⟩ 3 ⟨[(1, .one (.c (.ptr 0 0))), (2, .one (.c (.d (.int .i64 r202_0.1)))), (3, .one (.c (.own 1 (.int .u8) r354_0.1))), (4, .one (.c (.d (.int .i64 r354_0.2))))], [(1, some ⟨5, 0⟩), (2, some ⟨30, 0⟩), (3, some ⟨5, 0⟩)], [(0, [.d (.int .u16 r202_0.2.1), .d (.int .u16 r202_0.2.2.1), .d (.int .u32 r202_0.2.2.2.1), .d (.int .u32 r202_0.2.2.2.2.1), .d (.int .u8 r202_0.2.2.2.2.2.1), .own 2 (.pair (.int .u8) (.slice (.int .u8))) r202_0.2.2.2.2.2.2.1, .own 3 (.int .u8) r202_0.2.2.2.2.2.2.2])], 4⟩ [FnOK Go.Proofs.Try.prog 40 (f40_seg_Encode_in 1 0 0 0 1 [(3, [97, 98])] [120]) (f40_seg_Encode_out r354_0)] (by kernel_rfl) ⟨(f40_seg_Encode_ok n 1 0 0 0 1 [(3, [97, 98])] [120] r354_0 cr354_0), trivial⟩ ?_
  rcases iteS h with ⟨b355_2, h⟩ | ⟨b355_2, h⟩
  · rcases iteS h with ⟨b355_7, h⟩ | ⟨b355_7, h⟩
    · rcases iteS h with ⟨b355_11, h⟩ | ⟨b355_11, h⟩
      · rcases iteS h with ⟨b355_16, h⟩ | ⟨b355_16, h⟩
        · obtain ⟨r355_0, cr355_0, h⟩ := bindS h
          have h := Option.some.inj h
          subst h
          exact At.fin hm ht ⟨[(2, .b true), (7, .b true), (11, .b true), (16, .b true), (20, .call [] [(0, 5, (.pair (.int .u8) (.slice (.int .u8))))] (f53_seg_Take_out r355_0))], [], [], [0], []⟩ [((r202_0.1 : Int) == 0) = true, ((r202_0.2.1 : Int) == 0) = true, ((r354_0.2 : Int) == 0) = true, ((((r354_0.1.length : Nat) : Int) : Int) == 19) = true, FnOK Go.Proofs.Try.prog 53 (f53_seg_Take_in 0 0 0 0 1 [] [120]) (f53_seg_Take_out r355_0)] (by kernel_rfl) ⟨b355_2, b355_7, b355_11, b355_16, (f53_seg_Take_ok 0 0 0 0 1 [] [120] r355_0 cr355_0), trivial⟩
        · have h := Option.some.inj h
          subst h
          exact At.fin hm ht ⟨[(2, .b true), (7, .b true), (11, .b true), (16, .b false)], [], [], [0], []⟩ [((r202_0.1 : Int) == 0) = true, ((r202_0.2.1 : Int) == 0) = true, ((r354_0.2 : Int) == 0) = true, ((((r354_0.1.length : Nat) : Int) : Int) == 19) = false] (by kernel_rfl) ⟨b355_2, b355_7, b355_11, b355_16, trivial⟩
      · have h := Option.some.inj h
        subst h
        exact At.fin hm ht ⟨[(2, .b true), (7, .b true), (11, .b false)], [], [], [0], []⟩ [((r202_0.1 : Int) == 0) = true, ((r202_0.2.1 : Int) == 0) = true, ((r354_0.2 : Int) == 0) = false] (by kernel_rfl) ⟨b355_2, b355_7, b355_11, trivial⟩
    · have h := Option.some.inj h
      subst h
      exact At.fin hm ht ⟨[(2, .b true), (7, .b false)], [], [], [0], []⟩ [((r202_0.1 : Int) == 0) = true, ((r202_0.2.1 : Int) == 0) = false] (by kernel_rfl) ⟨b355_2, b355_7, trivial⟩
  · have h := Option.some.inj h
    subst h
    exact At.fin hm ht ⟨[(2, .b false)], [], [], [0], []⟩ [((r202_0.1 : Int) == 0) = false] (by kernel_rfl) ⟨b355_2, trivial⟩
/-! brougham/broughamlaw07.SegWrites -/
def f6_broughamlaw07_SegWrites_in (s_0 : Int) (s_1 : Int) (s_2 : Int) (s_3 : Int) (s_4 : Int) (s_5 : List (Int × List Int)) (s_6 : List Int) : Inn := ⟨[.agg [.d (.int .u16 s_0), .d (.int .u16 s_1), .d (.int .u32 s_2), .d (.int .u32 s_3), .d (.int .u8 s_4), .d (.sl (.pair (.int .u8) (.slice (.int .u8))) s_5), .d (.sl (.int .u8) s_6)]], [], [], 0⟩
def f6_broughamlaw07_SegWrites_out (r : Bool) : Out := ⟨.one (.c (.d (.bool r))), [], [], 0⟩
def f6_broughamlaw07_SegWrites (n : Nat) (s_0 : Int) (s_1 : Int) (s_2 : Int) (s_3 : Int) (s_4 : Int) (s_5 : List (Int × List Int)) (s_6 : List Int) : Option (Bool) :=
  (f15_broughamlaw07_Great n s_0 s_1 s_2 s_3 s_4 s_5 s_6).bind fun r2_0 =>
  if r2_0 = true then
    some true
  else
    (f40_seg_Encode n s_0 s_1 s_2 s_3 s_4 s_5 s_6).bind fun r17_0 =>
    (f41_broughamref07_Encode n s_0 s_1 s_2 s_3 s_4 s_5 s_6).bind fun r105_0 =>
    if ((strOfNums r17_0.1).toList == (strOfNums r105_0.1).toList) = true then
      if ((r17_0.2 : Int) == r105_0.2) = true then
        (f42_seg_Right n s_0 s_1 s_2 s_3 s_4 s_5 s_6).bind fun r200_0 =>
        (f43_broughamref07_Right n s_0 s_1 s_2 s_3 s_4 s_5 s_6).bind fun r200_1 =>
        if ((r200_0 : Int) == r200_1) = true then
          (f44_seg_Header n s_0 s_1 s_2 s_3 s_4 s_5 s_6).bind fun r200_2 =>
          (f45_broughamref07_Header n s_0 s_1 s_2 s_3 s_4 s_5 s_6).bind fun r200_3 =>
          if ((strOfNums r200_2).toList == (strOfNums r200_3).toList) = true then
            (f46_broughamlaw07_alive n).bind fun r200_4 =>
            some r200_4
          else
            some false
        else
          some false
      else
        some false
    else
      some false
theorem f6_broughamlaw07_SegWrites_ok (n : Nat) (s_0 : Int) (s_1 : Int) (s_2 : Int) (s_3 : Int) (s_4 : Int) (s_5 : List (Int × List Int)) (s_6 : List Int) (r : Bool) (h : f6_broughamlaw07_SegWrites n s_0 s_1 s_2 s_3 s_4 s_5 s_6 = some r) : FnOK Go.Proofs.Try.prog 6 (f6_broughamlaw07_SegWrites_in s_0 s_1 s_2 s_3 s_4 s_5 s_6) (f6_broughamlaw07_SegWrites_out r) := by
  unfold f6_broughamlaw07_SegWrites at h
  refine At.fn (r := 0) Go.Proofs.Try.func6 rfl (by kernel_rfl) rfl rfl (by kernel_rfl) ?_
  show At Go.Proofs.Try.prog Go.Proofs.Try.f6 0 0 ⟨[(0, .one (.agg [.d (.int .u16 s_0), .d (.int .u16 s_1), .d (.int .u32 s_2), .d (.int .u32 s_3), .d (.int .u8 s_4), .d (.sl (.pair (.int .u8) (.slice (.int .u8))) s_5), .d (.sl (.int .u8) s_6)]))], [], [], 0⟩ _
  refine At.step hm ht ⟨[], [], [], [1], [0]⟩ 1 ⟨[(1, .one (.c (.ptr 0 0)))], [], [(0, [.d (.int .u16 s_0), .d (.int .u16 s_1), .d (.int .u32 s_2), .d (.int .u32 s_3), .d (.int .u8 s_4), .d (.sl (.pair (.int .u8) (.slice (.int .u8))) s_5), .d (.sl (.int .u8) s_6)])], 1⟩ [] (by kernel_rfl) trivial ?_
  obtain ⟨r2_0, cr2_0, h⟩ := bindS h
  rcases iteS h with ⟨b2_e0, h⟩ | ⟨b2_e0, h⟩
  · refine At.step hm ht ⟨[(1, .call [] [] (f15_broughamlaw07_Great_out r2_0))], [true], [], [], []⟩ 2 ⟨[], [], [], 0⟩ [FnOK Go.Proofs.Try.prog 15 (f15_broughamlaw07_Great_in s_0 s_1 s_2 s_3 s_4 s_5 s_6) (f15_broughamlaw07_Great_out r2_0), r2_0 = true] (by kernel_rfl) ⟨(f15_broughamlaw07_Great_ok n s_0 s_1 s_2 s_3 s_4 s_5 s_6 r2_0 cr2_0), b2_e0, trivial⟩ ?_
    have h := Option.some.inj h
    subst h
    exact At.fin hm ht ⟨[], [], [], [2], []⟩ [] (by kernel_rfl) trivial
  · refine At.step hm ht ⟨[(1, .call [] [] (f15_broughamlaw07_Great_out r2_0))], [false], [], [1], [0]⟩ 3 ⟨[(1, .one (.c (.ptr 0 0)))], [], [(0, [.d (.int .u16 s_0), .d (.int .u16 s_1), .d (.int .u32 s_2), .d (.int .u32 s_3), .d (.int .u8 s_4), .d (.sl (.pair (.int .u8) (.slice (.int .u8))) s_5), .d (.sl (.int .u8) s_6)])], 1⟩ [FnOK Go.Proofs.Try.prog 15 (f15_broughamlaw07_Great_in s_0 s_1 s_2 s_3 s_4 s_5 s_6) (f15_broughamlaw07_Great_out r2_0), r2_0 = false] (by kernel_rfl) ⟨(f15_broughamlaw07_Great_ok n s_0 s_1 s_2 s_3 s_4 s_5 s_6 r2_0 cr2_0), b2_e0, trivial⟩ ?_
    obtain ⟨r17_0, cr17_0, h⟩ := bindS h
    refine At.step hm ht ⟨[(1, .call [] [] (f40_seg_Encode_out r17_0))], [], [], [1, 3, 4], [0, 2]⟩ 4 ⟨[(1, .one (.c (.ptr 0 0))), (3, .one (.c (.own 1 (.int .u8) r17_0.1))), (4, .one (.c (.d (.int .i64 r17_0.2))))], [(1, some ⟨5, 0⟩)], [(0, [.d (.int .u16 s_0), .d (.int .u16 s_1), .d (.int .u32 s_2), .d (.int .u32 s_3), .d (.int .u8 s_4), .d (.sl (.pair (.int .u8) (.slice (.int .u8))) s_5), .d (.sl (.int .u8) s_6)])], 2⟩ [FnOK Go.Proofs.Try.prog 40 (f40_seg_Encode_in s_0 s_1 s_2 s_3 s_4 s_5 s_6) (f40_seg_Encode_out r17_0)] (by kernel_rfl) ⟨(f40_seg_Encode_ok n s_0 s_1 s_2 s_3 s_4 s_5 s_6 r17_0 cr17_0), trivial⟩ ?_
    obtain ⟨r105_0, cr105_0, h⟩ := bindS h
    refine At.step hm ht ⟨[(1, .call [] [] (f41_broughamref07_Encode_out r105_0))], [], [], [1, 3, 4, 5, 6], [0, 1, 3]⟩ 5 ⟨[(1, .one (.c (.ptr 0 0))), (3, .one (.c (.own 1 (.int .u8) r17_0.1))), (4, .one (.c (.d (.int .i64 r17_0.2)))), (5, .one (.c (.own 2 (.int .u8) r105_0.1))), (6, .one (.c (.d (.int .i64 r105_0.2))))], [(1, some ⟨5, 0⟩), (2, some ⟨5, 0⟩)], [(0, [.d (.int .u16 s_0), .d (.int .u16 s_1), .d (.int .u32 s_2), .d (.int .u32 s_3), .d (.int .u8 s_4), .d (.sl (.pair (.int .u8) (.slice (.int .u8))) s_5), .d (.sl (.int .u8) s_6)])], 3⟩ [FnOK Go.Proofs.Try.prog 41 (f41_broughamref07_Encode_in s_0 s_1 s_2 s_3 s_4 s_5 s_6) (f41_broughamref07_Encode_out r105_0)] (by kernel_rfl) ⟨(f41_broughamref07_Encode_ok n s_0 s_1 s_2 s_3 s_4 s_5 s_6 r105_0 cr105_0), trivial⟩ ?_
    rcases iteS h with ⟨b200_5, h⟩ | ⟨b200_5, h⟩
    · rcases iteS h with ⟨b200_10, h⟩ | ⟨b200_10, h⟩
      · obtain ⟨r200_0, cr200_0, h⟩ := bindS h
        obtain ⟨r200_1, cr200_1, h⟩ := bindS h
        rcases iteS h with ⟨b200_17, h⟩ | ⟨b200_17, h⟩
        · obtain ⟨r200_2, cr200_2, h⟩ := bindS h
          obtain ⟨r200_3, cr200_3, h⟩ := bindS h
          rcases iteS h with ⟨b200_26, h⟩ | ⟨b200_26, h⟩
          · obtain ⟨r200_4, cr200_4, h⟩ := bindS h
            have h := Option.some.inj h
            subst h
            exact At.fin hm ht ⟨[(5, .b true), (10, .b true), (12, .call [] [] (f42_seg_Right_out r200_0)), (14, .call [] [] (f43_broughamref07_Right_out r200_1)), (17, .b true), (19, .call [] [] (f44_seg_Header_out r200_2)), (22, .call [] [] (f45_broughamref07_Header_out r200_3)), (26, .b true), (27, .call [] [] (f46_broughamlaw07_alive_out r200_4))], [], [], [2], []⟩ [((strOfNums r17_0.1).toList == (strOfNums r105_0.1).toList) = true, ((r17_0.2 : Int) == r105_0.2) = true, FnOK Go.Proofs.Try.prog 42 (f42_seg_Right_in s_0 s_1 s_2 s_3 s_4 s_5 s_6) (f42_seg_Right_out r200_0), FnOK Go.Proofs.Try.prog 43 (f43_broughamref07_Right_in s_0 s_1 s_2 s_3 s_4 s_5 s_6) (f43_broughamref07_Right_out r200_1), ((r200_0 : Int) == r200_1) = true, FnOK Go.Proofs.Try.prog 44 (f44_seg_Header_in s_0 s_1 s_2 s_3 s_4 s_5 s_6) (f44_seg_Header_out r200_2), FnOK Go.Proofs.Try.prog 45 (f45_broughamref07_Header_in s_0 s_1 s_2 s_3 s_4 s_5 s_6) (f45_broughamref07_Header_out r200_3), ((strOfNums r200_2).toList == (strOfNums r200_3).toList) = true, FnOK Go.Proofs.Try.prog 46 (f46_broughamlaw07_alive_in) (f46_broughamlaw07_alive_out r200_4)] (by kernel_rfl) ⟨b200_5, b200_10, (f42_seg_Right_ok n s_0 s_1 s_2 s_3 s_4 s_5 s_6 r200_0 cr200_0), (f43_broughamref07_Right_ok n s_0 s_1 s_2 s_3 s_4 s_5 s_6 r200_1 cr200_1), b200_17, (f44_seg_Header_ok n s_0 s_1 s_2 s_3 s_4 s_5 s_6 r200_2 cr200_2), (f45_broughamref07_Header_ok n s_0 s_1 s_2 s_3 s_4 s_5 s_6 r200_3 cr200_3), b200_26, (f46_broughamlaw07_alive_ok n r200_4 cr200_4), trivial⟩
          · have h := Option.some.inj h
            subst h
            exact At.fin hm ht ⟨[(5, .b true), (10, .b true), (12, .call [] [] (f42_seg_Right_out r200_0)), (14, .call [] [] (f43_broughamref07_Right_out r200_1)), (17, .b true), (19, .call [] [] (f44_seg_Header_out r200_2)), (22, .call [] [] (f45_broughamref07_Header_out r200_3)), (26, .b false)], [], [], [2], []⟩ [((strOfNums r17_0.1).toList == (strOfNums r105_0.1).toList) = true, ((r17_0.2 : Int) == r105_0.2) = true, FnOK Go.Proofs.Try.prog 42 (f42_seg_Right_in s_0 s_1 s_2 s_3 s_4 s_5 s_6) (f42_seg_Right_out r200_0), FnOK Go.Proofs.Try.prog 43 (f43_broughamref07_Right_in s_0 s_1 s_2 s_3 s_4 s_5 s_6) (f43_broughamref07_Right_out r200_1), ((r200_0 : Int) == r200_1) = true, FnOK Go.Proofs.Try.prog 44 (f44_seg_Header_in s_0 s_1 s_2 s_3 s_4 s_5 s_6) (f44_seg_Header_out r200_2), FnOK Go.Proofs.Try.prog 45 (f45_broughamref07_Header_in s_0 s_1 s_2 s_3 s_4 s_5 s_6) (f45_broughamref07_Header_out r200_3), ((strOfNums r200_2).toList == (strOfNums r200_3).toList) = false] (by kernel_rfl) ⟨b200_5, b200_10, (f42_seg_Right_ok n s_0 s_1 s_2 s_3 s_4 s_5 s_6 r200_0 cr200_0), (f43_broughamref07_Right_ok n s_0 s_1 s_2 s_3 s_4 s_5 s_6 r200_1 cr200_1), b200_17, (f44_seg_Header_ok n s_0 s_1 s_2 s_3 s_4 s_5 s_6 r200_2 cr200_2), (f45_broughamref07_Header_ok n s_0 s_1 s_2 s_3 s_4 s_5 s_6 r200_3 cr200_3), b200_26, trivial⟩
        · have h := Option.some.inj h
          subst h
          exact At.fin hm ht ⟨[(5, .b true), (10, .b true), (12, .call [] [] (f42_seg_Right_out r200_0)), (14, .call [] [] (f43_broughamref07_Right_out r200_1)), (17, .b false)], [], [], [2], []⟩ [((strOfNums r17_0.1).toList == (strOfNums r105_0.1).toList) = true, ((r17_0.2 : Int) == r105_0.2) = true, FnOK Go.Proofs.Try.prog 42 (f42_seg_Right_in s_0 s_1 s_2 s_3 s_4 s_5 s_6) (f42_seg_Right_out r200_0), FnOK Go.Proofs.Try.prog 43 (f43_broughamref07_Right_in s_0 s_1 s_2 s_3 s_4 s_5 s_6) (f43_broughamref07_Right_out r200_1), ((r200_0 : Int) == r200_1) = false] (by kernel_rfl) ⟨b200_5, b200_10, (f42_seg_Right_ok n s_0 s_1 s_2 s_3 s_4 s_5 s_6 r200_0 cr200_0), (f43_broughamref07_Right_ok n s_0 s_1 s_2 s_3 s_4 s_5 s_6 r200_1 cr200_1), b200_17, trivial⟩
      · have h := Option.some.inj h
        subst h
        exact At.fin hm ht ⟨[(5, .b true), (10, .b false)], [], [], [2], []⟩ [((strOfNums r17_0.1).toList == (strOfNums r105_0.1).toList) = true, ((r17_0.2 : Int) == r105_0.2) = false] (by kernel_rfl) ⟨b200_5, b200_10, trivial⟩
    · have h := Option.some.inj h
      subst h
      exact At.fin hm ht ⟨[(5, .b false)], [], [], [2], []⟩ [((strOfNums r17_0.1).toList == (strOfNums r105_0.1).toList) = false] (by kernel_rfl) ⟨b200_5, trivial⟩
/-! brougham/broughamref02.Get -/
def f82_broughamref02_Get_in (b : List Int) (bytes : Int) : Inn := ⟨[.c (.d (.sl (.int .u8) b)), .c (.d (.int .i64 bytes))], [], [], 0⟩
def f82_broughamref02_Get_out (r : Int × List Int × Bool) : Out := ⟨.tup [.c (.d (.int .u64 r.1)), .c (.d (.sl (.int .u8) r.2.1)), .c (.d (.bool r.2.2))], [], [], 0⟩
def f82_broughamref02_Get_L5 : Nat → (List Int) → Int → Int → Int → Option (List Int × Int × Int)
  | 0, _, _, _, _ => none
  | n + 1, b, bytes, n_, i =>
    if (decide ((i : Int) < bytes)) = true then
      if (0 : Int) ≤ i ∧ i < (((b).length : Nat) : Int) then
      f82_broughamref02_Get_L5 n b bytes (IntKind.wrap .u64 ((IntKind.wrap .u64 (n_ * 256)) + (IntKind.wrap .u64 (b.getD i.toNat 0)))) (IntKind.wrap .i64 (i + 1))
      else none
    else
      some ((b, bytes, n_))
def f82_broughamref02_Get_L5_k (e : List Int × Int × Int) (o : Out) : Prop := At Go.Proofs.Try.prog Go.Proofs.Try.f82 0 8 ⟨[(0, .one (.c (.d (.sl (.int .u8) e.1)))), (1, .one (.c (.d (.int .i64 e.2.1)))), (7, .one (.c (.d (.int .u64 e.2.2))))], [], [], 0⟩ o
theorem f82_broughamref02_Get_L5_ok (n : Nat) : ∀ (b : List Int) (bytes : Int) (n_ : Int) (i : Int) (w : List Int × Int × Int) (h : f82_broughamref02_Get_L5 n b bytes n_ i = some w) (o : Out) (hk : f82_broughamref02_Get_L5_k w o), At Go.Proofs.Try.prog Go.Proofs.Try.f82 0 5 ⟨[(0, .one (.c (.d (.sl (.int .u8) b)))), (1, .one (.c (.d (.int .i64 bytes)))), (7, .one (.c (.d (.int .u64 n_)))), (8, .one (.c (.d (.int .i64 i))))], [], [], 0⟩ o := by
  induction n with
  | zero => intro b bytes n_ i w h; rw [f82_broughamref02_Get_L5] at h; cases h
  | succ n ih =>
    intro b bytes n_ i w h o hk
    rw [f82_broughamref02_Get_L5] at h
    rcases iteS h with ⟨b401_e0, h⟩ | ⟨b401_e0, h⟩
    · refine At.step hm ht ⟨[], [true], [], [0, 1, 7, 8], []⟩ 7 ⟨[(0, .one (.c (.d (.sl (.int .u8) b)))), (1, .one (.c (.d (.int .i64 bytes)))), (7, .one (.c (.d (.int .u64 n_)))), (8, .one (.c (.d (.int .i64 i))))], [], [], 0⟩ [(decide ((i : Int) < bytes)) = true] (by kernel_rfl) ⟨b401_e0, trivial⟩ ?_
      obtain ⟨g402_0, h⟩ := ifS h
      refine At.step hm ht ⟨[], [], [], [0, 1, 7, 8], []⟩ 6 ⟨[(0, .one (.c (.d (.sl (.int .u8) b)))), (1, .one (.c (.d (.int .i64 bytes)))), (7, .one (.c (.d (.int .u64 (IntKind.wrap .u64 ((IntKind.wrap .u64 (n_ * 256)) + (IntKind.wrap .u64 (b.getD i.toNat 0)))))))), (8, .one (.c (.d (.int .i64 i))))], [], [], 0⟩ [(0 : Int) ≤ i ∧ i < (((b).length : Nat) : Int)] (by kernel_rfl) ⟨g402_0, trivial⟩ ?_
      refine At.step hm ht ⟨[], [], [], [0, 1, 7, 8], []⟩ 5 ⟨[(0, .one (.c (.d (.sl (.int .u8) b)))), (1, .one (.c (.d (.int .i64 bytes)))), (7, .one (.c (.d (.int .u64 (IntKind.wrap .u64 ((IntKind.wrap .u64 (n_ * 256)) + (IntKind.wrap .u64 (b.getD i.toNat 0)))))))), (8, .one (.c (.d (.int .i64 (IntKind.wrap .i64 (i + 1))))))], [], [], 0⟩ [] (by kernel_rfl) trivial ?_
      exact ih b bytes (IntKind.wrap .u64 ((IntKind.wrap .u64 (n_ * 256)) + (IntKind.wrap .u64 (b.getD i.toNat 0)))) (IntKind.wrap .i64 (i + 1)) w h o hk
    · refine At.step hm ht ⟨[], [false], [], [0, 1, 7], []⟩ 8 ⟨[(0, .one (.c (.d (.sl (.int .u8) b)))), (1, .one (.c (.d (.int .i64 bytes)))), (7, .one (.c (.d (.int .u64 n_))))], [], [], 0⟩ [(decide ((i : Int) < bytes)) = false] (by kernel_rfl) ⟨b401_e0, trivial⟩ ?_
      have h := Option.some.inj h
      subst h
      exact hk
def f82_broughamref02_Get (n : Nat) (b : List Int) (bytes : Int) : Option (Int × List Int × Bool) :=
  if (decide ((bytes : Int) < 1)) = true then
    some (0, [], false)
  else
    if (decide ((bytes : Int) > 8)) = true then
      some (0, [], false)
    else
      if (decide ((((b.length : Nat) : Int) : Int) < bytes)) = true then
        some (0, [], false)
      else
        (f82_broughamref02_Get_L5 n b bytes 0 0).bind fun w404 =>
        if cutOk w404.1.length (some w404.2.1) none none then
        some (w404.2.2, ((w404.1.take w404.1.length).drop w404.2.1.toNat), true)
        else none
theorem f82_broughamref02_Get_ok (n : Nat) (b : List Int) (bytes : Int) (r : Int × List Int × Bool) (h : f82_broughamref02_Get n b bytes = some r) : FnOK Go.Proofs.Try.prog 82 (f82_broughamref02_Get_in b bytes) (f82_broughamref02_Get_out r) := by
  unfold f82_broughamref02_Get at h
  refine At.fn (r := 0) Go.Proofs.Try.func82 rfl (by kernel_rfl) rfl rfl (by kernel_rfl) ?_
  show At Go.Proofs.Try.prog Go.Proofs.Try.f82 0 0 ⟨[(0, .one (.c (.d (.sl (.int .u8) b)))), (1, .one (.c (.d (.int .i64 bytes))))], [], [], 0⟩ _
  refine At.step hm ht ⟨[], [], [], [0, 1], []⟩ 1 ⟨[(0, .one (.c (.d (.sl (.int .u8) b)))), (1, .one (.c (.d (.int .i64 bytes))))], [], [], 0⟩ [] (by kernel_rfl) trivial ?_
  rcases iteS h with ⟨b395_2, h⟩ | ⟨b395_2, h⟩
  · refine At.step hm ht ⟨[(2, .b true)], [true], [], [], []⟩ 2 ⟨[], [], [], 0⟩ [(decide ((bytes : Int) < 1)) = true, true = true] (by kernel_rfl) ⟨b395_2, rfl, trivial⟩ ?_
    have h := Option.some.inj h
    subst h
    exact At.fin hm ht ⟨[], [], [.nil false 5 0 (.int .u8) none], [4, 5, 6], []⟩ [] (by kernel_rfl) trivial
  · rcases iteS h with ⟨b395_6, h⟩ | ⟨b395_6, h⟩
    · refine At.step hm ht ⟨[(2, .b false), (6, .b true)], [true], [], [], []⟩ 2 ⟨[], [], [], 0⟩ [(decide ((bytes : Int) < 1)) = false, (decide ((bytes : Int) > 8)) = true, true = true] (by kernel_rfl) ⟨b395_2, b395_6, rfl, trivial⟩ ?_
      have h := Option.some.inj h
      subst h
      exact At.fin hm ht ⟨[], [], [.nil false 5 0 (.int .u8) none], [4, 5, 6], []⟩ [] (by kernel_rfl) trivial
    · rcases iteS h with ⟨b395_e0, h⟩ | ⟨b395_e0, h⟩
      · refine At.step hm ht ⟨[(2, .b false), (6, .b false)], [true], [], [], []⟩ 2 ⟨[], [], [], 0⟩ [(decide ((bytes : Int) < 1)) = false, (decide ((bytes : Int) > 8)) = false, (decide ((((b.length : Nat) : Int) : Int) < bytes)) = true] (by kernel_rfl) ⟨b395_2, b395_6, b395_e0, trivial⟩ ?_
        have h := Option.some.inj h
        subst h
        exact At.fin hm ht ⟨[], [], [.nil false 5 0 (.int .u8) none], [4, 5, 6], []⟩ [] (by kernel_rfl) trivial
      · refine At.step hm ht ⟨[(2, .b false), (6, .b false)], [false], [], [0, 1], []⟩ 3 ⟨[(0, .one (.c (.d (.sl (.int .u8) b)))), (1, .one (.c (.d (.int .i64 bytes))))], [], [], 0⟩ [(decide ((bytes : Int) < 1)) = false, (decide ((bytes : Int) > 8)) = false, (decide ((((b.length : Nat) : Int) : Int) < bytes)) = false] (by kernel_rfl) ⟨b395_2, b395_6, b395_e0, trivial⟩ ?_
        refine At.step hm ht ⟨[], [], [], [0, 1, 7], []⟩ 4 ⟨[(0, .one (.c (.d (.sl (.int .u8) b)))), (1, .one (.c (.d (.int .i64 bytes)))), (7, .one (.c (.d (.int .u64 0))))], [], [], 0⟩ [] (by kernel_rfl) trivial ?_
        refine At.step hm ht ⟨[], [], [], [0, 1, 7, 8], []⟩ 5 ⟨[(0, .one (.c (.d (.sl (.int .u8) b)))), (1, .one (.c (.d (.int .i64 bytes)))), (7, .one (.c (.d (.int .u64 0)))), (8, .one (.c (.d (.int .i64 0))))], [], [], 0⟩ [] (by kernel_rfl) trivial ?_
        obtain ⟨w404, cw404, h⟩ := bindS h
        refine f82_broughamref02_Get_L5_ok n b bytes 0 0 w404 cw404 _ ?_
        show At Go.Proofs.Try.prog Go.Proofs.Try.f82 0 8 ⟨[(0, .one (.c (.d (.sl (.int .u8) w404.1)))), (1, .one (.c (.d (.int .i64 w404.2.1)))), (7, .one (.c (.d (.int .u64 w404.2.2))))], [], [], 0⟩ _
        obtain ⟨g406_0, h⟩ := ifS h
        have h := Option.some.inj h
        subst h
        exact At.fin hm ht ⟨[], [], [], [4, 5, 6], []⟩ [cutOk w404.1.length (some w404.2.1) none none] (by kernel_rfl) ⟨g406_0, trivial⟩
/-! brougham/broughamref02.All -/
def f84_broughamref02_All_in (b : List Int) (sizes : List Int) : Inn := ⟨[.c (.d (.sl (.int .u8) b)), .c (.d (.sl (.int .i64) sizes))], [], [], 0⟩
def f84_broughamref02_All_out (r : List Int × List Int × Bool) : Out := ⟨.tup [.c (.own 0 (.int .u64) r.1), .c (.d (.sl (.int .u8) r.2.1)), .c (.d (.bool r.2.2))], [(0, ⟨36, 0⟩)], [], 1⟩
def f84_broughamref02_All_L3 : Nat → (List Int) → (List Int) → (List Int) → Int → Option ((List Int × List Int × Bool) ⊕ (List Int × List Int))
  | 0, _, _, _, _ => none
  | n + 1, b, sizes, out, i =>
    if (decide ((i : Int) < ((sizes.length : Nat) : Int))) = true then
      if (0 : Int) ≤ i ∧ i < (((sizes).length : Nat) : Int) then
      (f82_broughamref02_Get n b (sizes.getD i.toNat 0)).bind fun r430_1 =>
      if (!r430_1.2.2) = true then
        some (.inl ([], [], false))
      else
        if out.length + [r430_1.1].length ≤ maxLen ∧ (out.length + [r430_1.1].length) * 8 ≤ 140737488355328 then
        f84_broughamref02_All_L3 n r430_1.2.1 sizes (out ++ [r430_1.1]) (IntKind.wrap .i64 (i + 1))
        else none
      else none
    else
      some (.inr ((b, out)))
def f84_broughamref02_All_L3_k (w : (List Int × List Int × Bool) ⊕ (List Int × List Int)) (o : Out) : Prop := match w with
  | .inl e => o = f84_broughamref02_All_out e
  | .inr e => At Go.Proofs.Try.prog Go.Proofs.Try.f84 0 10 ⟨[(0, .one (.c (.d (.sl (.int .u8) e.1)))), (7, .one (.c (.own 0 (.int .u64) e.2)))], [(0, some ⟨36, 0⟩)], [], 1⟩ o
theorem f84_broughamref02_All_L3_ok (n : Nat) : ∀ (b : List Int) (sizes : List Int) (out : List Int) (i : Int) (w : (List Int × List Int × Bool) ⊕ (List Int × List Int)) (h : f84_broughamref02_All_L3 n b sizes out i = some w) (o : Out) (hk : f84_broughamref02_All_L3_k w o), At Go.Proofs.Try.prog Go.Proofs.Try.f84 0 3 ⟨[(0, .one (.c (.d (.sl (.int .u8) b)))), (1, .one (.c (.d (.sl (.int .i64) sizes)))), (7, .one (.c (.own 0 (.int .u64) out))), (8, .one (.c (.d (.int .i64 i))))], [(0, some ⟨36, 0⟩)], [], 1⟩ o := by
  induction n with
  | zero => intro b sizes out i w h; rw [f84_broughamref02_All_L3] at h; cases h
  | succ n ih =>
    intro b sizes out i w h o hk
    rw [f84_broughamref02_All_L3] at h
    rcases iteS h with ⟨b429_e0, h⟩ | ⟨b429_e0, h⟩
    · refine At.step hm ht ⟨[], [true], [], [0, 1, 7, 8], [0]⟩ 5 ⟨[(0, .one (.c (.d (.sl (.int .u8) b)))), (1, .one (.c (.d (.sl (.int .i64) sizes)))), (7, .one (.c (.own 0 (.int .u64) out))), (8, .one (.c (.d (.int .i64 i))))], [(0, some ⟨36, 0⟩)], [], 1⟩ [(decide ((i : Int) < ((sizes.length : Nat) : Int))) = true] (by kernel_rfl) ⟨b429_e0, trivial⟩ ?_
      obtain ⟨g430_0, h⟩ := ifS h
      obtain ⟨r430_1, cr430_1, h⟩ := bindS h
      refine At.step hm ht ⟨[(5, .call [] [] (f82_broughamref02_Get_out r430_1))], [], [], [1, 7, 8, 9, 10, 11], [0]⟩ 6 ⟨[(1, .one (.c (.d (.sl (.int .i64) sizes)))), (7, .one (.c (.own 0 (.int .u64) out))), (8, .one (.c (.d (.int .i64 i)))), (9, .one (.c (.d (.int .u64 r430_1.1)))), (10, .one (.c (.d (.sl (.int .u8) r430_1.2.1)))), (11, .one (.c (.d (.bool r430_1.2.2))))], [(0, some ⟨36, 0⟩)], [], 1⟩ [(0 : Int) ≤ i ∧ i < (((sizes).length : Nat) : Int), FnOK Go.Proofs.Try.prog 82 (f82_broughamref02_Get_in b (sizes.getD i.toNat 0)) (f82_broughamref02_Get_out r430_1)] (by kernel_rfl) ⟨g430_0, (f82_broughamref02_Get_ok n b (sizes.getD i.toNat 0) r430_1 cr430_1), trivial⟩ ?_
      rcases iteS h with ⟨b431_e0, h⟩ | ⟨b431_e0, h⟩
      · refine At.step hm ht ⟨[], [true], [], [], []⟩ 7 ⟨[], [], [], 0⟩ [(!r430_1.2.2) = true] (by kernel_rfl) ⟨b431_e0, trivial⟩ ?_
        have h := Option.some.inj h
        subst h
        have hk : o = f84_broughamref02_All_out ([], [], false) := hk
        subst hk
        exact At.fin hm ht ⟨[], [], [.nil false 4 0 (.int .u64) (some 36), .nil false 5 0 (.int .u8) none], [4, 5, 6], [3]⟩ [] (by kernel_rfl) trivial
      · refine At.step hm ht ⟨[], [false], [], [1, 7, 8, 9, 10], [0]⟩ 8 ⟨[(1, .one (.c (.d (.sl (.int .i64) sizes)))), (7, .one (.c (.own 0 (.int .u64) out))), (8, .one (.c (.d (.int .i64 i)))), (9, .one (.c (.d (.int .u64 r430_1.1)))), (10, .one (.c (.d (.sl (.int .u8) r430_1.2.1))))], [(0, some ⟨36, 0⟩)], [], 1⟩ [(!r430_1.2.2) = false] (by kernel_rfl) ⟨b431_e0, trivial⟩ ?_
        obtain ⟨g433_0, h⟩ := ifS h
        refine At.step hm ht ⟨[], [], [], [1, 7, 8, 10], [4]⟩ 9 ⟨[(1, .one (.c (.d (.sl (.int .i64) sizes)))), (7, .one (.c (.own 0 (.int .u64) (out ++ [r430_1.1])))), (8, .one (.c (.d (.int .i64 i)))), (10, .one (.c (.d (.sl (.int .u8) r430_1.2.1))))], [(0, some ⟨36, 0⟩)], [], 1⟩ [out.length + [r430_1.1].length ≤ maxLen ∧ (out.length + [r430_1.1].length) * 8 ≤ 140737488355328] (by kernel_rfl) ⟨g433_0, trivial⟩ ?_
        refine At.step hm ht ⟨[], [], [], [0, 1, 7, 8], [0]⟩ 4 ⟨[(0, .one (.c (.d (.sl (.int .u8) r430_1.2.1)))), (1, .one (.c (.d (.sl (.int .i64) sizes)))), (7, .one (.c (.own 0 (.int .u64) (out ++ [r430_1.1])))), (8, .one (.c (.d (.int .i64 i))))], [(0, some ⟨36, 0⟩)], [], 1⟩ [] (by kernel_rfl) trivial ?_
        refine At.step hm ht ⟨[], [], [], [0, 1, 7, 8], [0]⟩ 3 ⟨[(0, .one (.c (.d (.sl (.int .u8) r430_1.2.1)))), (1, .one (.c (.d (.sl (.int .i64) sizes)))), (7, .one (.c (.own 0 (.int .u64) (out ++ [r430_1.1])))), (8, .one (.c (.d (.int .i64 (IntKind.wrap .i64 (i + 1))))))], [(0, some ⟨36, 0⟩)], [], 1⟩ [] (by kernel_rfl) trivial ?_
        exact ih r430_1.2.1 sizes (out ++ [r430_1.1]) (IntKind.wrap .i64 (i + 1)) w h o hk
    · refine At.step hm ht ⟨[], [false], [], [0, 7], [0]⟩ 10 ⟨[(0, .one (.c (.d (.sl (.int .u8) b)))), (7, .one (.c (.own 0 (.int .u64) out)))], [(0, some ⟨36, 0⟩)], [], 1⟩ [(decide ((i : Int) < ((sizes.length : Nat) : Int))) = false] (by kernel_rfl) ⟨b429_e0, trivial⟩ ?_
      have h := Option.some.inj h
      subst h
      exact hk
def f84_broughamref02_All (n : Nat) (b : List Int) (sizes : List Int) : Option (List Int × List Int × Bool) :=
  (f84_broughamref02_All_L3 n b sizes [] 0).bind fun w436 =>
  match w436 with
  | .inl e437 =>
    some (e437.1, e437.2.1, e437.2.2)
  | .inr e438 =>
    some (e438.2, e438.1, true)
theorem f84_broughamref02_All_ok (n : Nat) (b : List Int) (sizes : List Int) (r : List Int × List Int × Bool) (h : f84_broughamref02_All n b sizes = some r) : FnOK Go.Proofs.Try.prog 84 (f84_broughamref02_All_in b sizes) (f84_broughamref02_All_out r) := by
  unfold f84_broughamref02_All at h
  refine At.fn (r := 0) Go.Proofs.Try.func84 rfl (by kernel_rfl) rfl rfl (by kernel_rfl) ?_
  show At Go.Proofs.Try.prog Go.Proofs.Try.f84 0 0 ⟨[(0, .one (.c (.d (.sl (.int .u8) b)))), (1, .one (.c (.d (.sl (.int .i64) sizes))))], [], [], 0⟩ _
  refine At.step hm ht ⟨[], [], [], [0, 1], []⟩ 1 ⟨[(0, .one (.c (.d (.sl (.int .u8) b)))), (1, .one (.c (.d (.sl (.int .i64) sizes))))], [], [], 0⟩ [] (by kernel_rfl) trivial ?_
  refine At.step hm ht ⟨[], [], [], [0, 1, 7], []⟩ 2 ⟨[(0, .one (.c (.d (.sl (.int .u8) b)))), (1, .one (.c (.d (.sl (.int .i64) sizes)))), (7, .one (.c (.d (.sl .unit []))))], [], [], 0⟩ [] (by kernel_rfl) trivial ?_
  refine At.step hm ht ⟨[], [], [.nil false 7 0 (.int .u64) (some 36)], [0, 1, 7, 8], [1]⟩ 3 ⟨[(0, .one (.c (.d (.sl (.int .u8) b)))), (1, .one (.c (.d (.sl (.int .i64) sizes)))), (7, .one (.c (.own 0 (.int .u64) []))), (8, .one (.c (.d (.int .i64 0))))], [(0, some ⟨36, 0⟩)], [], 1⟩ [] (by kernel_rfl) trivial ?_
  obtain ⟨w436, cw436, h⟩ := bindS h
  refine f84_broughamref02_All_L3_ok n b sizes [] 0 w436 cw436 _ ?_
  rcases w436 with e437 | e438
  · have h := Option.some.inj h
    subst h
    rfl
  · show At Go.Proofs.Try.prog Go.Proofs.Try.f84 0 10 ⟨[(0, .one (.c (.d (.sl (.int .u8) e438.1)))), (7, .one (.c (.own 0 (.int .u64) e438.2)))], [(0, some ⟨36, 0⟩)], [], 1⟩ _
    have h := Option.some.inj h
    subst h
    exact At.fin hm ht ⟨[], [], [], [4, 5, 6], [0]⟩ [] (by kernel_rfl) trivial
/-! brougham/broughamref07.Parse -/
def f48_broughamref07_Parse_in (b : List Int) : Inn := ⟨[.c (.d (.sl (.int .u8) b))], [], [], 0⟩
def f48_broughamref07_Parse_out (r : Int × Int × Int × Int × Int × Int × (List (Int × List Int)) × List Int) : Out := ⟨.tup [.agg [.d (.int .u16 r.2.1), .d (.int .u16 r.2.2.1), .d (.int .u32 r.2.2.2.1), .d (.int .u32 r.2.2.2.2.1), .d (.int .u8 r.2.2.2.2.2.1), .own 1 (.pair (.int .u8) (.slice (.int .u8))) r.2.2.2.2.2.2.1, .own 2 (.int .u8) r.2.2.2.2.2.2.2], .c (.d (.int .i64 r.1))], [(1, ⟨30, 0⟩), (2, ⟨5, 0⟩)], [(0, [.d (.int .u16 r.2.1), .d (.int .u16 r.2.2.1), .d (.int .u32 r.2.2.2.1), .d (.int .u32 r.2.2.2.2.1), .d (.int .u8 r.2.2.2.2.2.1), .own 1 (.pair (.int .u8) (.slice (.int .u8))) r.2.2.2.2.2.2.1, .own 2 (.int .u8) r.2.2.2.2.2.2.2])], 3⟩
def f48_broughamref07_Parse_L9 : Nat → (List Int) → Int → Int → Int → Int → Int → Int → Int → Int → Int → Int → Int → Int → (List (Int × List Int)) → Option ((Int × Int × Int × Int × Int × Int × (List (Int × List Int)) × List Int) ⊕ (List Int × Int × Int × Int × Int × Int × Int × Int × Int × Int × Int × Int × List (Int × List Int)))
  | 0, _, _, _, _, _, _, _, _, _, _, _, _, _, _ => none
  | n + 1, b, n_, at_, t2_0, t2_1, t2_2, t2_3, t2_4, s_0, s_1, s_2, s_3, s_4, s_5 =>
    if (decide ((at_ : Int) < (IntKind.wrap .i64 (14 + n_)))) = true then
      if (decide (((IntKind.wrap .i64 (at_ + 2)) : Int) > (IntKind.wrap .i64 (14 + n_)))) = true then
        some (.inl (71, 0, 0, 0, 0, 0, [], []))
      else
        if (0 : Int) ≤ at_ ∧ at_ < (((b).length : Nat) : Int) then
        if (((b.getD at_.toNat 0) : Int) == 0) = true then
          some (.inl (71, 0, 0, 0, 0, 0, [], []))
        else
          if (0 : Int) ≤ (IntKind.wrap .i64 (at_ + 1)) ∧ (IntKind.wrap .i64 (at_ + 1)) < (((b).length : Nat) : Int) then
          if (decide (((IntKind.wrap .i64 ((IntKind.wrap .i64 (at_ + 2)) + (IntKind.wrap .i64 (b.getD (IntKind.wrap .i64 (at_ + 1)).toNat 0)))) : Int) > (IntKind.wrap .i64 (14 + n_)))) = true then
            some (.inl (71, 0, 0, 0, 0, 0, [], []))
          else
            if (0 : Int) ≤ (IntKind.wrap .i64 (at_ + 1)) ∧ (IntKind.wrap .i64 (at_ + 1)) < (((b).length : Nat) : Int) then
            if (0 : Int) ≤ at_ ∧ at_ < (((b).length : Nat) : Int) then
            if cutOk b.length (some (IntKind.wrap .i64 (at_ + 2))) (some (IntKind.wrap .i64 ((IntKind.wrap .i64 (at_ + 2)) + (IntKind.wrap .i64 (b.getD (IntKind.wrap .i64 (at_ + 1)).toNat 0))))) none then
            if ([] : List Int).length + ((b.take (IntKind.wrap .i64 ((IntKind.wrap .i64 (at_ + 2)) + (IntKind.wrap .i64 (b.getD (IntKind.wrap .i64 (at_ + 1)).toNat 0)))).toNat).drop (IntKind.wrap .i64 (at_ + 2)).toNat).length ≤ maxLen ∧ (([] : List Int).length + ((b.take (IntKind.wrap .i64 ((IntKind.wrap .i64 (at_ + 2)) + (IntKind.wrap .i64 (b.getD (IntKind.wrap .i64 (at_ + 1)).toNat 0)))).toNat).drop (IntKind.wrap .i64 (at_ + 2)).toNat).length) * 1 ≤ 140737488355328 then
            if s_5.length + [((b.getD at_.toNat 0), ([] ++ ((b.take (IntKind.wrap .i64 ((IntKind.wrap .i64 (at_ + 2)) + (IntKind.wrap .i64 (b.getD (IntKind.wrap .i64 (at_ + 1)).toNat 0)))).toNat).drop (IntKind.wrap .i64 (at_ + 2)).toNat)))].length ≤ maxLen ∧ (s_5.length + [((b.getD at_.toNat 0), ([] ++ ((b.take (IntKind.wrap .i64 ((IntKind.wrap .i64 (at_ + 2)) + (IntKind.wrap .i64 (b.getD (IntKind.wrap .i64 (at_ + 1)).toNat 0)))).toNat).drop (IntKind.wrap .i64 (at_ + 2)).toNat)))].length) * 32 ≤ 140737488355328 then
            f48_broughamref07_Parse_L9 n b n_ (IntKind.wrap .i64 (at_ + (IntKind.wrap .i64 (2 + (IntKind.wrap .i64 (b.getD (IntKind.wrap .i64 (at_ + 1)).toNat 0)))))) t2_0 t2_1 t2_2 t2_3 t2_4 s_0 s_1 s_2 s_3 s_4 (s_5 ++ [((b.getD at_.toNat 0), ([] ++ ((b.take (IntKind.wrap .i64 ((IntKind.wrap .i64 (at_ + 2)) + (IntKind.wrap .i64 (b.getD (IntKind.wrap .i64 (at_ + 1)).toNat 0)))).toNat).drop (IntKind.wrap .i64 (at_ + 2)).toNat)))])
            else none
            else none
            else none
            else none
            else none
          else none
        else none
    else
      some (.inr ((b, at_, t2_0, t2_1, t2_2, t2_3, t2_4, s_0, s_1, s_2, s_3, s_4, s_5)))
def f48_broughamref07_Parse_L9_k (w : (Int × Int × Int × Int × Int × Int × (List (Int × List Int)) × List Int) ⊕ (List Int × Int × Int × Int × Int × Int × Int × Int × Int × Int × Int × Int × List (Int × List Int))) (o : Out) : Prop := match w with
  | .inl e => o = f48_broughamref07_Parse_out e
  | .inr e => At Go.Proofs.Try.prog Go.Proofs.Try.f48 0 15 ⟨[(0, .one (.c (.d (.sl (.int .u8) e.1)))), (2, .one (.c (.ptr 0 0))), (8, .one (.c (.ptr 1 0))), (9, .one (.c (.d (.int .i64 e.2.1))))], [(2, some ⟨30, 0⟩)], [(0, [.d (.int .u16 e.2.2.1), .d (.int .u16 e.2.2.2.1), .d (.int .u32 e.2.2.2.2.1), .d (.int .u32 e.2.2.2.2.2.1), .d (.int .u8 e.2.2.2.2.2.2.1), .d (.sl .unit []), .d (.sl .unit [])]), (1, [.d (.int .u16 e.2.2.2.2.2.2.2.1), .d (.int .u16 e.2.2.2.2.2.2.2.2.1), .d (.int .u32 e.2.2.2.2.2.2.2.2.2.1), .d (.int .u32 e.2.2.2.2.2.2.2.2.2.2.1), .d (.int .u8 e.2.2.2.2.2.2.2.2.2.2.2.1), .own 2 (.pair (.int .u8) (.slice (.int .u8))) e.2.2.2.2.2.2.2.2.2.2.2.2, .d (.sl .unit [])])], 3⟩ o
theorem f48_broughamref07_Parse_L9_ok (n : Nat) : ∀ (b : List Int) (n_ : Int) (at_ : Int) (t2_0 : Int) (t2_1 : Int) (t2_2 : Int) (t2_3 : Int) (t2_4 : Int) (s_0 : Int) (s_1 : Int) (s_2 : Int) (s_3 : Int) (s_4 : Int) (s_5 : List (Int × List Int)) (w : (Int × Int × Int × Int × Int × Int × (List (Int × List Int)) × List Int) ⊕ (List Int × Int × Int × Int × Int × Int × Int × Int × Int × Int × Int × Int × List (Int × List Int))) (h : f48_broughamref07_Parse_L9 n b n_ at_ t2_0 t2_1 t2_2 t2_3 t2_4 s_0 s_1 s_2 s_3 s_4 s_5 = some w) (o : Out) (hk : f48_broughamref07_Parse_L9_k w o), At Go.Proofs.Try.prog Go.Proofs.Try.f48 0 9 ⟨[(0, .one (.c (.d (.sl (.int .u8) b)))), (2, .one (.c (.ptr 0 0))), (4, .one (.c (.d (.int .i64 n_)))), (8, .one (.c (.ptr 1 0))), (9, .one (.c (.d (.int .i64 at_))))], [(2, some ⟨30, 0⟩)], [(0, [.d (.int .u16 t2_0), .d (.int .u16 t2_1), .d (.int .u32 t2_2), .d (.int .u32 t2_3), .d (.int .u8 t2_4), .d (.sl .unit []), .d (.sl .unit [])]), (1, [.d (.int .u16 s_0), .d (.int .u16 s_1), .d (.int .u32 s_2), .d (.int .u32 s_3), .d (.int .u8 s_4), .own 2 (.pair (.int .u8) (.slice (.int .u8))) s_5, .d (.sl .unit [])])], 3⟩ o := by
  induction n with
  | zero => intro b n_ at_ t2_0 t2_1 t2_2 t2_3 t2_4 s_0 s_1 s_2 s_3 s_4 s_5 w h; rw [f48_broughamref07_Parse_L9] at h; cases h
  | succ n ih =>
    intro b n_ at_ t2_0 t2_1 t2_2 t2_3 t2_4 s_0 s_1 s_2 s_3 s_4 s_5 w h o hk
    rw [f48_broughamref07_Parse_L9] at h
    rcases iteS h with ⟨b487_e0, h⟩ | ⟨b487_e0, h⟩
    · refine At.step hm ht ⟨[], [true], [], [0, 2, 4, 8, 9], [0, 1, 2]⟩ 10 ⟨[(0, .one (.c (.d (.sl (.int .u8) b)))), (2, .one (.c (.ptr 0 0))), (4, .one (.c (.d (.int .i64 n_)))), (8, .one (.c (.ptr 1 0))), (9, .one (.c (.d (.int .i64 at_))))], [(2, some ⟨30, 0⟩)], [(0, [.d (.int .u16 t2_0), .d (.int .u16 t2_1), .d (.int .u32 t2_2), .d (.int .u32 t2_3), .d (.int .u8 t2_4), .d (.sl .unit []), .d (.sl .unit [])]), (1, [.d (.int .u16 s_0), .d (.int .u16 s_1), .d (.int .u32 s_2), .d (.int .u32 s_3), .d (.int .u8 s_4), .own 2 (.pair (.int .u8) (.slice (.int .u8))) s_5, .d (.sl .unit [])])], 3⟩ [(decide ((at_ : Int) < (IntKind.wrap .i64 (14 + n_)))) = true] (by kernel_rfl) ⟨b487_e0, trivial⟩ ?_
      rcases iteS h with ⟨b488_5, h⟩ | ⟨b488_5, h⟩
      · refine At.step hm ht ⟨[(5, .b true)], [true], [], [2], [0]⟩ 11 ⟨[(2, .one (.c (.ptr 0 0)))], [], [(0, [.d (.int .u16 t2_0), .d (.int .u16 t2_1), .d (.int .u32 t2_2), .d (.int .u32 t2_3), .d (.int .u8 t2_4), .d (.sl .unit []), .d (.sl .unit [])])], 1⟩ [(decide (((IntKind.wrap .i64 (at_ + 2)) : Int) > (IntKind.wrap .i64 (14 + n_)))) = true, true = true] (by kernel_rfl) ⟨b488_5, rfl, trivial⟩ ?_
        have h := Option.some.inj h
        subst h
        have hk : o = f48_broughamref07_Parse_out (71, 0, 0, 0, 0, 0, [], []) := hk
        subst hk
        exact At.fin hm ht ⟨[], [], [.nil true 0 5 (.pair (.int .u8) (.slice (.int .u8))) (some 30), .nil true 0 6 (.int .u8) (some 5)], [2, 3], [0, 4, 5]⟩ [0 + 7 ≤ 7] (by kernel_rfl) ⟨(by decide), trivial⟩
      · obtain ⟨g488_0, h⟩ := ifS h
        rcases iteS h with ⟨b488_12, h⟩ | ⟨b488_12, h⟩
        · refine At.step hm ht ⟨[(5, .b false), (12, .b true)], [true], [], [2], [0]⟩ 11 ⟨[(2, .one (.c (.ptr 0 0)))], [], [(0, [.d (.int .u16 t2_0), .d (.int .u16 t2_1), .d (.int .u32 t2_2), .d (.int .u32 t2_3), .d (.int .u8 t2_4), .d (.sl .unit []), .d (.sl .unit [])])], 1⟩ [(decide (((IntKind.wrap .i64 (at_ + 2)) : Int) > (IntKind.wrap .i64 (14 + n_)))) = false, (0 : Int) ≤ at_ ∧ at_ < (((b).length : Nat) : Int), (((b.getD at_.toNat 0) : Int) == 0) = true, true = true] (by kernel_rfl) ⟨b488_5, g488_0, b488_12, rfl, trivial⟩ ?_
          have h := Option.some.inj h
          subst h
          have hk : o = f48_broughamref07_Parse_out (71, 0, 0, 0, 0, 0, [], []) := hk
          subst hk
          exact At.fin hm ht ⟨[], [], [.nil true 0 5 (.pair (.int .u8) (.slice (.int .u8))) (some 30), .nil true 0 6 (.int .u8) (some 5)], [2, 3], [0, 4, 5]⟩ [0 + 7 ≤ 7] (by kernel_rfl) ⟨(by decide), trivial⟩
        · obtain ⟨g488_1, h⟩ := ifS h
          rcases iteS h with ⟨b488_e0, h⟩ | ⟨b488_e0, h⟩
          · refine At.step hm ht ⟨[(5, .b false), (12, .b false)], [true], [], [2], [0]⟩ 11 ⟨[(2, .one (.c (.ptr 0 0)))], [], [(0, [.d (.int .u16 t2_0), .d (.int .u16 t2_1), .d (.int .u32 t2_2), .d (.int .u32 t2_3), .d (.int .u8 t2_4), .d (.sl .unit []), .d (.sl .unit [])])], 1⟩ [(decide (((IntKind.wrap .i64 (at_ + 2)) : Int) > (IntKind.wrap .i64 (14 + n_)))) = false, (0 : Int) ≤ at_ ∧ at_ < (((b).length : Nat) : Int), (((b.getD at_.toNat 0) : Int) == 0) = false, (0 : Int) ≤ (IntKind.wrap .i64 (at_ + 1)) ∧ (IntKind.wrap .i64 (at_ + 1)) < (((b).length : Nat) : Int), (decide (((IntKind.wrap .i64 ((IntKind.wrap .i64 (at_ + 2)) + (IntKind.wrap .i64 (b.getD (IntKind.wrap .i64 (at_ + 1)).toNat 0)))) : Int) > (IntKind.wrap .i64 (14 + n_)))) = true] (by kernel_rfl) ⟨b488_5, g488_0, b488_12, g488_1, b488_e0, trivial⟩ ?_
            have h := Option.some.inj h
            subst h
            have hk : o = f48_broughamref07_Parse_out (71, 0, 0, 0, 0, 0, [], []) := hk
            subst hk
            exact At.fin hm ht ⟨[], [], [.nil true 0 5 (.pair (.int .u8) (.slice (.int .u8))) (some 30), .nil true 0 6 (.int .u8) (some 5)], [2, 3], [0, 4, 5]⟩ [0 + 7 ≤ 7] (by kernel_rfl) ⟨(by decide), trivial⟩
          · refine At.step hm ht ⟨[(5, .b false), (12, .b false)], [false], [], [0, 2, 4, 8, 9], [0, 1, 2]⟩ 12 ⟨[(0, .one (.c (.d (.sl (.int .u8) b)))), (2, .one (.c (.ptr 0 0))), (4, .one (.c (.d (.int .i64 n_)))), (8, .one (.c (.ptr 1 0))), (9, .one (.c (.d (.int .i64 at_))))], [(2, some ⟨30, 0⟩)], [(0, [.d (.int .u16 t2_0), .d (.int .u16 t2_1), .d (.int .u32 t2_2), .d (.int .u32 t2_3), .d (.int .u8 t2_4), .d (.sl .unit []), .d (.sl .unit [])]), (1, [.d (.int .u16 s_0), .d (.int .u16 s_1), .d (.int .u32 s_2), .d (.int .u32 s_3), .d (.int .u8 s_4), .own 2 (.pair (.int .u8) (.slice (.int .u8))) s_5, .d (.sl .unit [])])], 3⟩ [(decide (((IntKind.wrap .i64 (at_ + 2)) : Int) > (IntKind.wrap .i64 (14 + n_)))) = false, (0 : Int) ≤ at_ ∧ at_ < (((b).length : Nat) : Int), (((b.getD at_.toNat 0) : Int) == 0) = false, (0 : Int) ≤ (IntKind.wrap .i64 (at_ + 1)) ∧ (IntKind.wrap .i64 (at_ + 1)) < (((b).length : Nat) : Int), (decide (((IntKind.wrap .i64 ((IntKind.wrap .i64 (at_ + 2)) + (IntKind.wrap .i64 (b.getD (IntKind.wrap .i64 (at_ + 1)).toNat 0)))) : Int) > (IntKind.wrap .i64 (14 + n_)))) = false] (by kernel_rfl) ⟨b488_5, g488_0, b488_12, g488_1, b488_e0, trivial⟩ ?_
            obtain ⟨g492_0, h⟩ := ifS h
            refine At.step hm ht ⟨[], [], [], [0, 2, 4, 8, 9, 10], [0, 1, 2]⟩ 13 ⟨[(0, .one (.c (.d (.sl (.int .u8) b)))), (2, .one (.c (.ptr 0 0))), (4, .one (.c (.d (.int .i64 n_)))), (8, .one (.c (.ptr 1 0))), (9, .one (.c (.d (.int .i64 at_)))), (10, .one (.c (.d (.int .i64 (IntKind.wrap .i64 (b.getD (IntKind.wrap .i64 (at_ + 1)).toNat 0))))))], [(2, some ⟨30, 0⟩)], [(0, [.d (.int .u16 t2_0), .d (.int .u16 t2_1), .d (.int .u32 t2_2), .d (.int .u32 t2_3), .d (.int .u8 t2_4), .d (.sl .unit []), .d (.sl .unit [])]), (1, [.d (.int .u16 s_0), .d (.int .u16 s_1), .d (.int .u32 s_2), .d (.int .u32 s_3), .d (.int .u8 s_4), .own 2 (.pair (.int .u8) (.slice (.int .u8))) s_5, .d (.sl .unit [])])], 3⟩ [(0 : Int) ≤ (IntKind.wrap .i64 (at_ + 1)) ∧ (IntKind.wrap .i64 (at_ + 1)) < (((b).length : Nat) : Int)] (by kernel_rfl) ⟨g492_0, trivial⟩ ?_
            obtain ⟨g493_0, h⟩ := ifS h
            obtain ⟨g493_1, h⟩ := ifS h
            obtain ⟨g493_2, h⟩ := ifS h
            obtain ⟨g493_3, h⟩ := ifS h
            refine At.step hm ht ⟨[], [], [], [0, 2, 4, 8, 9, 10], [0, 1, 21]⟩ 14 ⟨[(0, .one (.c (.d (.sl (.int .u8) b)))), (2, .one (.c (.ptr 0 0))), (4, .one (.c (.d (.int .i64 n_)))), (8, .one (.c (.ptr 1 0))), (9, .one (.c (.d (.int .i64 at_)))), (10, .one (.c (.d (.int .i64 (IntKind.wrap .i64 (b.getD (IntKind.wrap .i64 (at_ + 1)).toNat 0))))))], [(2, some ⟨30, 0⟩)], [(0, [.d (.int .u16 t2_0), .d (.int .u16 t2_1), .d (.int .u32 t2_2), .d (.int .u32 t2_3), .d (.int .u8 t2_4), .d (.sl .unit []), .d (.sl .unit [])]), (1, [.d (.int .u16 s_0), .d (.int .u16 s_1), .d (.int .u32 s_2), .d (.int .u32 s_3), .d (.int .u8 s_4), .own 2 (.pair (.int .u8) (.slice (.int .u8))) (s_5 ++ [((b.getD at_.toNat 0), ([] ++ ((b.take (IntKind.wrap .i64 ((IntKind.wrap .i64 (at_ + 2)) + (IntKind.wrap .i64 (b.getD (IntKind.wrap .i64 (at_ + 1)).toNat 0)))).toNat).drop (IntKind.wrap .i64 (at_ + 2)).toNat)))]), .d (.sl .unit [])])], 3⟩ [(0 : Int) ≤ at_ ∧ at_ < (((b).length : Nat) : Int), cutOk b.length (some (IntKind.wrap .i64 (at_ + 2))) (some (IntKind.wrap .i64 ((IntKind.wrap .i64 (at_ + 2)) + (IntKind.wrap .i64 (b.getD (IntKind.wrap .i64 (at_ + 1)).toNat 0))))) none, ([] : List Int).length + ((b.take (IntKind.wrap .i64 ((IntKind.wrap .i64 (at_ + 2)) + (IntKind.wrap .i64 (b.getD (IntKind.wrap .i64 (at_ + 1)).toNat 0)))).toNat).drop (IntKind.wrap .i64 (at_ + 2)).toNat).length ≤ maxLen ∧ (([] : List Int).length + ((b.take (IntKind.wrap .i64 ((IntKind.wrap .i64 (at_ + 2)) + (IntKind.wrap .i64 (b.getD (IntKind.wrap .i64 (at_ + 1)).toNat 0)))).toNat).drop (IntKind.wrap .i64 (at_ + 2)).toNat).length) * 1 ≤ 140737488355328, s_5.length + [((b.getD at_.toNat 0), ([] ++ ((b.take (IntKind.wrap .i64 ((IntKind.wrap .i64 (at_ + 2)) + (IntKind.wrap .i64 (b.getD (IntKind.wrap .i64 (at_ + 1)).toNat 0)))).toNat).drop (IntKind.wrap .i64 (at_ + 2)).toNat)))].length ≤ maxLen ∧ (s_5.length + [((b.getD at_.toNat 0), ([] ++ ((b.take (IntKind.wrap .i64 ((IntKind.wrap .i64 (at_ + 2)) + (IntKind.wrap .i64 (b.getD (IntKind.wrap .i64 (at_ + 1)).toNat 0)))).toNat).drop (IntKind.wrap .i64 (at_ + 2)).toNat)))].length) * 32 ≤ 140737488355328, 5 + 1 ≤ 7] (by kernel_rfl) ⟨g493_0, g493_1, g493_2, g493_3, (by decide), trivial⟩ ?_
            refine At.step hm ht ⟨[], [], [], [0, 2, 4, 8, 9], [0, 1, 2]⟩ 9 ⟨[(0, .one (.c (.d (.sl (.int .u8) b)))), (2, .one (.c (.ptr 0 0))), (4, .one (.c (.d (.int .i64 n_)))), (8, .one (.c (.ptr 1 0))), (9, .one (.c (.d (.int .i64 (IntKind.wrap .i64 (at_ + (IntKind.wrap .i64 (2 + (IntKind.wrap .i64 (b.getD (IntKind.wrap .i64 (at_ + 1)).toNat 0))))))))))], [(2, some ⟨30, 0⟩)], [(0, [.d (.int .u16 t2_0), .d (.int .u16 t2_1), .d (.int .u32 t2_2), .d (.int .u32 t2_3), .d (.int .u8 t2_4), .d (.sl .unit []), .d (.sl .unit [])]), (1, [.d (.int .u16 s_0), .d (.int .u16 s_1), .d (.int .u32 s_2), .d (.int .u32 s_3), .d (.int .u8 s_4), .own 2 (.pair (.int .u8) (.slice (.int .u8))) (s_5 ++ [((b.getD at_.toNat 0), ([] ++ ((b.take (IntKind.wrap .i64 ((IntKind.wrap .i64 (at_ + 2)) + (IntKind.wrap .i64 (b.getD (IntKind.wrap .i64 (at_ + 1)).toNat 0)))).toNat).drop (IntKind.wrap .i64 (at_ + 2)).toNat)))]), .d (.sl .unit [])])], 3⟩ [] (by kernel_rfl) trivial ?_
            exact ih b n_ (IntKind.wrap .i64 (at_ + (IntKind.wrap .i64 (2 + (IntKind.wrap .i64 (b.getD (IntKind.wrap .i64 (at_ + 1)).toNat 0)))))) t2_0 t2_1 t2_2 t2_3 t2_4 s_0 s_1 s_2 s_3 s_4 (s_5 ++ [((b.getD at_.toNat 0), ([] ++ ((b.take (IntKind.wrap .i64 ((IntKind.wrap .i64 (at_ + 2)) + (IntKind.wrap .i64 (b.getD (IntKind.wrap .i64 (at_ + 1)).toNat 0)))).toNat).drop (IntKind.wrap .i64 (at_ + 2)).toNat)))]) w h o hk
    · refine At.step hm ht ⟨[], [false], [], [0, 2, 8, 9], [0, 1, 2]⟩ 15 ⟨[(0, .one (.c (.d (.sl (.int .u8) b)))), (2, .one (.c (.ptr 0 0))), (8, .one (.c (.ptr 1 0))), (9, .one (.c (.d (.int .i64 at_))))], [(2, some ⟨30, 0⟩)], [(0, [.d (.int .u16 t2_0), .d (.int .u16 t2_1), .d (.int .u32 t2_2), .d (.int .u32 t2_3), .d (.int .u8 t2_4), .d (.sl .unit []), .d (.sl .unit [])]), (1, [.d (.int .u16 s_0), .d (.int .u16 s_1), .d (.int .u32 s_2), .d (.int .u32 s_3), .d (.int .u8 s_4), .own 2 (.pair (.int .u8) (.slice (.int .u8))) s_5, .d (.sl .unit [])])], 3⟩ [(decide ((at_ : Int) < (IntKind.wrap .i64 (14 + n_)))) = false] (by kernel_rfl) ⟨b487_e0, trivial⟩ ?_
      have h := Option.some.inj h
      subst h
      exact hk
def f48_broughamref07_Parse (n : Nat) (b : List Int) : Option (Int × Int × Int × Int × Int × Int × (List (Int × List Int)) × List Int) :=
  if (decide ((((b.length : Nat) : Int) : Int) < 14)) = true then
    some (70, 0, 0, 0, 0, 0, [], [])
  else
    if (0 : Int) ≤ 12 ∧ 12 < (((b).length : Nat) : Int) then
    if (decide (((b.getD 12 0) : Int) > 7)) = true then
      some (70, 0, 0, 0, 0, 0, [], [])
    else
      if (0 : Int) ≤ 13 ∧ 13 < (((b).length : Nat) : Int) then
      if (decide (((IntKind.wrap .i64 (b.getD 13 0)) : Int) > 200)) = true then
        some (71, 0, 0, 0, 0, 0, [], [])
      else
        if (decide (((IntKind.wrap .i64 (b.getD 13 0)) : Int) > (IntKind.wrap .i64 (((b.length : Nat) : Int) - 14)))) = true then
          some (71, 0, 0, 0, 0, 0, [], [])
        else
          (f84_broughamref02_All n b [2, 2, 4, 4]).bind fun r484_0 =>
          if (0 : Int) ≤ 0 ∧ 0 < (((r484_0.1).length : Nat) : Int) then
          if (0 : Int) ≤ 1 ∧ 1 < (((r484_0.1).length : Nat) : Int) then
          if (0 : Int) ≤ 2 ∧ 2 < (((r484_0.1).length : Nat) : Int) then
          if (0 : Int) ≤ 3 ∧ 3 < (((r484_0.1).length : Nat) : Int) then
          if (0 : Int) ≤ 12 ∧ 12 < (((b).length : Nat) : Int) then
          (f48_broughamref07_Parse_L9 n b (IntKind.wrap .i64 (b.getD 13 0)) 14 0 0 0 0 0 (IntKind.wrap .u16 (r484_0.1.getD 0 0)) (IntKind.wrap .u16 (r484_0.1.getD 1 0)) (IntKind.wrap .u32 (r484_0.1.getD 2 0)) (IntKind.wrap .u32 (r484_0.1.getD 3 0)) (b.getD 12 0) []).bind fun w495 =>
          match w495 with
          | .inl e496 =>
            some (e496.1, e496.2.1, e496.2.2.1, e496.2.2.2.1, e496.2.2.2.2.1, e496.2.2.2.2.2.1, e496.2.2.2.2.2.2.1, e496.2.2.2.2.2.2.2)
          | .inr e497 =>
            if (decide (((IntKind.wrap .i64 (((e497.1.length : Nat) : Int) - e497.2.1)) : Int) > 1024)) = true then
              some (72, 0, 0, 0, 0, 0, [], [])
            else
              if cutOk e497.1.length (some e497.2.1) none none then
              if ([] : List Int).length + ((e497.1.take e497.1.length).drop e497.2.1.toNat).length ≤ maxLen ∧ (([] : List Int).length + ((e497.1.take e497.1.length).drop e497.2.1.toNat).length) * 1 ≤ 140737488355328 then
              some (0, e497.2.2.2.2.2.2.2.1, e497.2.2.2.2.2.2.2.2.1, e497.2.2.2.2.2.2.2.2.2.1, e497.2.2.2.2.2.2.2.2.2.2.1, e497.2.2.2.2.2.2.2.2.2.2.2.1, e497.2.2.2.2.2.2.2.2.2.2.2.2, ([] ++ ((e497.1.take e497.1.length).drop e497.2.1.toNat)))
              else none
              else none
          else none
          else none
          else none
          else none
          else none
      else none
    else none
theorem f48_broughamref07_Parse_ok (n : Nat) (b : List Int) (r : Int × Int × Int × Int × Int × Int × (List (Int × List Int)) × List Int) (h : f48_broughamref07_Parse n b = some r) : FnOK Go.Proofs.Try.prog 48 (f48_broughamref07_Parse_in b) (f48_broughamref07_Parse_out r) := by
  unfold f48_broughamref07_Parse at h
  refine At.fn (r := 0) Go.Proofs.Try.func48 rfl (by kernel_rfl) rfl rfl (by kernel_rfl) ?_
  show At Go.Proofs.Try.prog Go.Proofs.Try.f48 0 0 ⟨[(0, .one (.c (.d (.sl (.int .u8) b))))], [], [], 0⟩ _
  refine At.step hm ht ⟨[], [], [], [0, 2], [0]⟩ 1 ⟨[(0, .one (.c (.d (.sl (.int .u8) b)))), (2, .one (.c (.ptr 0 0)))], [], [(0, [.d (.int .u16 0), .d (.int .u16 0), .d (.int .u32 0), .d (.int .u32 0), .d (.int .u8 0), .d (.sl .unit []), .d (.sl .unit [])])], 1⟩ [] (by kernel_rfl) trivial ?_
  rcases iteS h with ⟨b477_3, h⟩ | ⟨b477_3, h⟩
  · refine At.step hm ht ⟨[(3, .b true)], [true], [], [2], [0]⟩ 2 ⟨[(2, .one (.c (.ptr 0 0)))], [], [(0, [.d (.int .u16 0), .d (.int .u16 0), .d (.int .u32 0), .d (.int .u32 0), .d (.int .u8 0), .d (.sl .unit []), .d (.sl .unit [])])], 1⟩ [(decide ((((b.length : Nat) : Int) : Int) < 14)) = true, true = true] (by kernel_rfl) ⟨b477_3, rfl, trivial⟩ ?_
    have h := Option.some.inj h
    subst h
    exact At.fin hm ht ⟨[], [], [.nil true 0 5 (.pair (.int .u8) (.slice (.int .u8))) (some 30), .nil true 0 6 (.int .u8) (some 5)], [2, 3], [0, 4, 5]⟩ [0 + 7 ≤ 7] (by kernel_rfl) ⟨(by decide), trivial⟩
  · obtain ⟨g477_0, h⟩ := ifS h
    rcases iteS h with ⟨b477_e0, h⟩ | ⟨b477_e0, h⟩
    · refine At.step hm ht ⟨[(3, .b false)], [true], [], [2], [0]⟩ 2 ⟨[(2, .one (.c (.ptr 0 0)))], [], [(0, [.d (.int .u16 0), .d (.int .u16 0), .d (.int .u32 0), .d (.int .u32 0), .d (.int .u8 0), .d (.sl .unit []), .d (.sl .unit [])])], 1⟩ [(decide ((((b.length : Nat) : Int) : Int) < 14)) = false, (0 : Int) ≤ 12 ∧ 12 < (((b).length : Nat) : Int), (decide (((b.getD 12 0) : Int) > 7)) = true] (by kernel_rfl) ⟨b477_3, g477_0, b477_e0, trivial⟩ ?_
      have h := Option.some.inj h
      subst h
      exact At.fin hm ht ⟨[], [], [.nil true 0 5 (.pair (.int .u8) (.slice (.int .u8))) (some 30), .nil true 0 6 (.int .u8) (some 5)], [2, 3], [0, 4, 5]⟩ [0 + 7 ≤ 7] (by kernel_rfl) ⟨(by decide), trivial⟩
    · refine At.step hm ht ⟨[(3, .b false)], [false], [], [0, 2], [0]⟩ 3 ⟨[(0, .one (.c (.d (.sl (.int .u8) b)))), (2, .one (.c (.ptr 0 0)))], [], [(0, [.d (.int .u16 0), .d (.int .u16 0), .d (.int .u32 0), .d (.int .u32 0), .d (.int .u8 0), .d (.sl .unit []), .d (.sl .unit [])])], 1⟩ [(decide ((((b.length : Nat) : Int) : Int) < 14)) = false, (0 : Int) ≤ 12 ∧ 12 < (((b).length : Nat) : Int), (decide (((b.getD 12 0) : Int) > 7)) = false] (by kernel_rfl) ⟨b477_3, g477_0, b477_e0, trivial⟩ ?_
      obtain ⟨g480_0, h⟩ := ifS h
      refine At.step hm ht ⟨[], [], [], [0, 2, 4], [0]⟩ 4 ⟨[(0, .one (.c (.d (.sl (.int .u8) b)))), (2, .one (.c (.ptr 0 0))), (4, .one (.c (.d (.int .i64 (IntKind.wrap .i64 (b.getD 13 0))))))], [], [(0, [.d (.int .u16 0), .d (.int .u16 0), .d (.int .u32 0), .d (.int .u32 0), .d (.int .u8 0), .d (.sl .unit []), .d (.sl .unit [])])], 1⟩ [(0 : Int) ≤ 13 ∧ 13 < (((b).length : Nat) : Int)] (by kernel_rfl) ⟨g480_0, trivial⟩ ?_
      rcases iteS h with ⟨b481_2, h⟩ | ⟨b481_2, h⟩
      · refine At.step hm ht ⟨[(2, .b true)], [true], [], [2], [0]⟩ 5 ⟨[(2, .one (.c (.ptr 0 0)))], [], [(0, [.d (.int .u16 0), .d (.int .u16 0), .d (.int .u32 0), .d (.int .u32 0), .d (.int .u8 0), .d (.sl .unit []), .d (.sl .unit [])])], 1⟩ [(decide (((IntKind.wrap .i64 (b.getD 13 0)) : Int) > 200)) = true, true = true] (by kernel_rfl) ⟨b481_2, rfl, trivial⟩ ?_
        have h := Option.some.inj h
        subst h
        exact At.fin hm ht ⟨[], [], [.nil true 0 5 (.pair (.int .u8) (.slice (.int .u8))) (some 30), .nil true 0 6 (.int .u8) (some 5)], [2, 3], [0, 4, 5]⟩ [0 + 7 ≤ 7] (by kernel_rfl) ⟨(by decide), trivial⟩
      · rcases iteS h with ⟨b481_e0, h⟩ | ⟨b481_e0, h⟩
        · refine At.step hm ht ⟨[(2, .b false)], [true], [], [2], [0]⟩ 5 ⟨[(2, .one (.c (.ptr 0 0)))], [], [(0, [.d (.int .u16 0), .d (.int .u16 0), .d (.int .u32 0), .d (.int .u32 0), .d (.int .u8 0), .d (.sl .unit []), .d (.sl .unit [])])], 1⟩ [(decide (((IntKind.wrap .i64 (b.getD 13 0)) : Int) > 200)) = false, (decide (((IntKind.wrap .i64 (b.getD 13 0)) : Int) > (IntKind.wrap .i64 (((b.length : Nat) : Int) - 14)))) = true] (by kernel_rfl) ⟨b481_2, b481_e0, trivial⟩ ?_
          have h := Option.some.inj h
          subst h
          exact At.fin hm ht ⟨[], [], [.nil true 0 5 (.pair (.int .u8) (.slice (.int .u8))) (some 30), .nil true 0 6 (.int .u8) (some 5)], [2, 3], [0, 4, 5]⟩ [0 + 7 ≤ 7] (by kernel_rfl) ⟨(by decide), trivial⟩
        · refine At.step hm ht ⟨[(2, .b false)], [false], [], [0, 2, 4], [0]⟩ 6 ⟨[(0, .one (.c (.d (.sl (.int .u8) b)))), (2, .one (.c (.ptr 0 0))), (4, .one (.c (.d (.int .i64 (IntKind.wrap .i64 (b.getD 13 0))))))], [], [(0, [.d (.int .u16 0), .d (.int .u16 0), .d (.int .u32 0), .d (.int .u32 0), .d (.int .u8 0), .d (.sl .unit []), .d (.sl .unit [])])], 1⟩ [(decide (((IntKind.wrap .i64 (b.getD 13 0)) : Int) > 200)) = false, (decide (((IntKind.wrap .i64 (b.getD 13 0)) : Int) > (IntKind.wrap .i64 (((b.length : Nat) : Int) - 14)))) = false] (by kernel_rfl) ⟨b481_2, b481_e0, trivial⟩ ?_
          obtain ⟨r484_0, cr484_0, h⟩ := bindS h
          refine At.step hm ht ⟨[(2, .call [] [] (f84_broughamref02_All_out r484_0))], [], [], [0, 2, 4, 5], [0, 3]⟩ 7 ⟨[(0, .one (.c (.d (.sl (.int .u8) b)))), (2, .one (.c (.ptr 0 0))), (4, .one (.c (.d (.int .i64 (IntKind.wrap .i64 (b.getD 13 0)))))), (5, .one (.c (.own 1 (.int .u64) r484_0.1)))], [(1, some ⟨36, 0⟩)], [(0, [.d (.int .u16 0), .d (.int .u16 0), .d (.int .u32 0), .d (.int .u32 0), .d (.int .u8 0), .d (.sl .unit []), .d (.sl .unit [])])], 2⟩ [FnOK Go.Proofs.Try.prog 84 (f84_broughamref02_All_in b [2, 2, 4, 4]) (f84_broughamref02_All_out r484_0)] (by kernel_rfl) ⟨(f84_broughamref02_All_ok n b [2, 2, 4, 4] r484_0 cr484_0), trivial⟩ ?_
          obtain ⟨g485_0, h⟩ := ifS h
          obtain ⟨g485_1, h⟩ := ifS h
          obtain ⟨g485_2, h⟩ := ifS h
          obtain ⟨g485_3, h⟩ := ifS h
          obtain ⟨g485_4, h⟩ := ifS h
          refine At.step hm ht ⟨[], [], [], [0, 2, 4, 8], [0, 22]⟩ 8 ⟨[(0, .one (.c (.d (.sl (.int .u8) b)))), (2, .one (.c (.ptr 0 0))), (4, .one (.c (.d (.int .i64 (IntKind.wrap .i64 (b.getD 13 0)))))), (8, .one (.c (.ptr 1 0)))], [], [(0, [.d (.int .u16 0), .d (.int .u16 0), .d (.int .u32 0), .d (.int .u32 0), .d (.int .u8 0), .d (.sl .unit []), .d (.sl .unit [])]), (1, [.d (.int .u16 (IntKind.wrap .u16 (r484_0.1.getD 0 0))), .d (.int .u16 (IntKind.wrap .u16 (r484_0.1.getD 1 0))), .d (.int .u32 (IntKind.wrap .u32 (r484_0.1.getD 2 0))), .d (.int .u32 (IntKind.wrap .u32 (r484_0.1.getD 3 0))), .d (.int .u8 (b.getD 12 0)), .d (.sl .unit []), .d (.sl .unit [])])], 2⟩ [(0 : Int) ≤ 0 ∧ 0 < (((r484_0.1).length : Nat) : Int), (0 : Int) ≤ 1 ∧ 1 < (((r484_0.1).length : Nat) : Int), (0 : Int) ≤ 2 ∧ 2 < (((r484_0.1).length : Nat) : Int), (0 : Int) ≤ 3 ∧ 3 < (((r484_0.1).length : Nat) : Int), (0 : Int) ≤ 12 ∧ 12 < (((b).length : Nat) : Int), 0 + 7 ≤ 7] (by kernel_rfl) ⟨g485_0, g485_1, g485_2, g485_3, g485_4, (by decide), trivial⟩ ?_
          refine At.step hm ht ⟨[], [], [.nil true 1 5 (.pair (.int .u8) (.slice (.int .u8))) (some 30)], [0, 2, 4, 8, 9], [0, 1, 3]⟩ 9 ⟨[(0, .one (.c (.d (.sl (.int .u8) b)))), (2, .one (.c (.ptr 0 0))), (4, .one (.c (.d (.int .i64 (IntKind.wrap .i64 (b.getD 13 0)))))), (8, .one (.c (.ptr 1 0))), (9, .one (.c (.d (.int .i64 14))))], [(2, some ⟨30, 0⟩)], [(0, [.d (.int .u16 0), .d (.int .u16 0), .d (.int .u32 0), .d (.int .u32 0), .d (.int .u8 0), .d (.sl .unit []), .d (.sl .unit [])]), (1, [.d (.int .u16 (IntKind.wrap .u16 (r484_0.1.getD 0 0))), .d (.int .u16 (IntKind.wrap .u16 (r484_0.1.getD 1 0))), .d (.int .u32 (IntKind.wrap .u32 (r484_0.1.getD 2 0))), .d (.int .u32 (IntKind.wrap .u32 (r484_0.1.getD 3 0))), .d (.int .u8 (b.getD 12 0)), .own 2 (.pair (.int .u8) (.slice (.int .u8))) [], .d (.sl .unit [])])], 3⟩ [] (by kernel_rfl) trivial ?_
          obtain ⟨w495, cw495, h⟩ := bindS h
          refine f48_broughamref07_Parse_L9_ok n b (IntKind.wrap .i64 (b.getD 13 0)) 14 0 0 0 0 0 (IntKind.wrap .u16 (r484_0.1.getD 0 0)) (IntKind.wrap .u16 (r484_0.1.getD 1 0)) (IntKind.wrap .u32 (r484_0.1.getD 2 0)) (IntKind.wrap .u32 (r484_0.1.getD 3 0)) (b.getD 12 0) [] w495 cw495 _ ?_
          rcases w495 with e496 | e497
          · have h := Option.some.inj h
            subst h
            rfl
          · show At Go.Proofs.Try.prog Go.Proofs.Try.f48 0 15 ⟨[(0, .one (.c (.d (.sl (.int .u8) e497.1)))), (2, .one (.c (.ptr 0 0))), (8, .one (.c (.ptr 1 0))), (9, .one (.c (.d (.int .i64 e497.2.1))))], [(2, some ⟨30, 0⟩)], [(0, [.d (.int .u16 e497.2.2.1), .d (.int .u16 e497.2.2.2.1), .d (.int .u32 e497.2.2.2.2.1), .d (.int .u32 e497.2.2.2.2.2.1), .d (.int .u8 e497.2.2.2.2.2.2.1), .d (.sl .unit []), .d (.sl .unit [])]), (1, [.d (.int .u16 e497.2.2.2.2.2.2.2.1), .d (.int .u16 e497.2.2.2.2.2.2.2.2.1), .d (.int .u32 e497.2.2.2.2.2.2.2.2.2.1), .d (.int .u32 e497.2.2.2.2.2.2.2.2.2.2.1), .d (.int .u8 e497.2.2.2.2.2.2.2.2.2.2.2.1), .own 2 (.pair (.int .u8) (.slice (.int .u8))) e497.2.2.2.2.2.2.2.2.2.2.2.2, .d (.sl .unit [])])], 3⟩ _
            rcases iteS h with ⟨b498_e0, h⟩ | ⟨b498_e0, h⟩
            · refine At.step hm ht ⟨[], [true], [], [2], [0]⟩ 16 ⟨[(2, .one (.c (.ptr 0 0)))], [], [(0, [.d (.int .u16 e497.2.2.1), .d (.int .u16 e497.2.2.2.1), .d (.int .u32 e497.2.2.2.2.1), .d (.int .u32 e497.2.2.2.2.2.1), .d (.int .u8 e497.2.2.2.2.2.2.1), .d (.sl .unit []), .d (.sl .unit [])])], 1⟩ [(decide (((IntKind.wrap .i64 (((e497.1.length : Nat) : Int) - e497.2.1)) : Int) > 1024)) = true] (by kernel_rfl) ⟨b498_e0, trivial⟩ ?_
              have h := Option.some.inj h
              subst h
              exact At.fin hm ht ⟨[], [], [.nil true 0 5 (.pair (.int .u8) (.slice (.int .u8))) (some 30), .nil true 0 6 (.int .u8) (some 5)], [2, 3], [0, 4, 5]⟩ [0 + 7 ≤ 7] (by kernel_rfl) ⟨(by decide), trivial⟩
            · refine At.step hm ht ⟨[], [false], [], [0, 2, 8, 9], [0, 1, 2]⟩ 17 ⟨[(0, .one (.c (.d (.sl (.int .u8) e497.1)))), (2, .one (.c (.ptr 0 0))), (8, .one (.c (.ptr 1 0))), (9, .one (.c (.d (.int .i64 e497.2.1))))], [(2, some ⟨30, 0⟩)], [(0, [.d (.int .u16 e497.2.2.1), .d (.int .u16 e497.2.2.2.1), .d (.int .u32 e497.2.2.2.2.1), .d (.int .u32 e497.2.2.2.2.2.1), .d (.int .u8 e497.2.2.2.2.2.2.1), .d (.sl .unit []), .d (.sl .unit [])]), (1, [.d (.int .u16 e497.2.2.2.2.2.2.2.1), .d (.int .u16 e497.2.2.2.2.2.2.2.2.1), .d (.int .u32 e497.2.2.2.2.2.2.2.2.2.1), .d (.int .u32 e497.2.2.2.2.2.2.2.2.2.2.1), .d (.int .u8 e497.2.2.2.2.2.2.2.2.2.2.2.1), .own 2 (.pair (.int .u8) (.slice (.int .u8))) e497.2.2.2.2.2.2.2.2.2.2.2.2, .d (.sl .unit [])])], 3⟩ [(decide (((IntKind.wrap .i64 (((e497.1.length : Nat) : Int) - e497.2.1)) : Int) > 1024)) = false] (by kernel_rfl) ⟨b498_e0, trivial⟩ ?_
              obtain ⟨g500_0, h⟩ := ifS h
              obtain ⟨g500_1, h⟩ := ifS h
              refine At.step hm ht ⟨[], [], [], [2, 8], [0, 1, 2, 7]⟩ 18 ⟨[(2, .one (.c (.ptr 0 0))), (8, .one (.c (.ptr 1 0)))], [(2, some ⟨30, 0⟩), (3, some ⟨5, 0⟩)], [(0, [.d (.int .u16 e497.2.2.1), .d (.int .u16 e497.2.2.2.1), .d (.int .u32 e497.2.2.2.2.1), .d (.int .u32 e497.2.2.2.2.2.1), .d (.int .u8 e497.2.2.2.2.2.2.1), .d (.sl .unit []), .d (.sl .unit [])]), (1, [.d (.int .u16 e497.2.2.2.2.2.2.2.1), .d (.int .u16 e497.2.2.2.2.2.2.2.2.1), .d (.int .u32 e497.2.2.2.2.2.2.2.2.2.1), .d (.int .u32 e497.2.2.2.2.2.2.2.2.2.2.1), .d (.int .u8 e497.2.2.2.2.2.2.2.2.2.2.2.1), .own 2 (.pair (.int .u8) (.slice (.int .u8))) e497.2.2.2.2.2.2.2.2.2.2.2.2, .own 3 (.int .u8) ([] ++ ((e497.1.take e497.1.length).drop e497.2.1.toNat))])], 4⟩ [cutOk e497.1.length (some e497.2.1) none none, ([] : List Int).length + ((e497.1.take e497.1.length).drop e497.2.1.toNat).length ≤ maxLen ∧ (([] : List Int).length + ((e497.1.take e497.1.length).drop e497.2.1.toNat).length) * 1 ≤ 140737488355328, 6 + 1 ≤ 7] (by kernel_rfl) ⟨g500_0, g500_1, (by decide), trivial⟩ ?_
              have h := Option.some.inj h
              subst h
              exact At.fin hm ht ⟨[], [], [], [2, 3], [0, 2, 3]⟩ [0 + 7 ≤ 7] (by kernel_rfl) ⟨(by decide), trivial⟩
/-! brougham/broughamref07.SameOption -/
def f18_broughamref07_SameOption_in (a_0 : Int) (a_1 : List Int) (b_0 : Int) (b_1 : List Int) : Inn := ⟨[.agg [.d (.int .u8 a_0), .d (.sl (.int .u8) a_1)], .agg [.d (.int .u8 b_0), .d (.sl (.int .u8) b_1)]], [], [], 0⟩
def f18_broughamref07_SameOption_out (r : Bool) : Out := ⟨.one (.c (.d (.bool r))), [], [], 0⟩
def f18_broughamref07_SameOption (a_0 : Int) (a_1 : List Int) (b_0 : Int) (b_1 : List Int) : Option (Bool) :=
  if ((a_0 : Int) == b_0) = true then
    some ((strOfNums a_1).toList == (strOfNums b_1).toList)
  else
    some false
theorem f18_broughamref07_SameOption_ok (a_0 : Int) (a_1 : List Int) (b_0 : Int) (b_1 : List Int) (r : Bool) (h : f18_broughamref07_SameOption a_0 a_1 b_0 b_1 = some r) : FnOK Go.Proofs.Try.prog 18 (f18_broughamref07_SameOption_in a_0 a_1 b_0 b_1) (f18_broughamref07_SameOption_out r) := by
  unfold f18_broughamref07_SameOption at h
  refine At.fn (r := 0) Go.Proofs.Try.func18 rfl (by kernel_rfl) rfl rfl (by kernel_rfl) ?_
  show At Go.Proofs.Try.prog Go.Proofs.Try.f18 0 0 ⟨[(0, .one (.agg [.d (.int .u8 a_0), .d (.sl (.int .u8) a_1)])), (1, .one (.agg [.d (.int .u8 b_0), .d (.sl (.int .u8) b_1)]))], [], [], 0⟩ _
  refine At.step hm ht ⟨[], [], [], [2, 3], [0, 1]⟩ 1 ⟨[(2, .one (.c (.ptr 0 0))), (3, .one (.c (.ptr 1 0)))], [], [(0, [.d (.int .u8 a_0), .d (.sl (.int .u8) a_1)]), (1, [.d (.int .u8 b_0), .d (.sl (.int .u8) b_1)])], 2⟩ [] (by kernel_rfl) trivial ?_
  rcases iteS h with ⟨b516_5, h⟩ | ⟨b516_5, h⟩
  · have h := Option.some.inj h
    subst h
    exact At.fin hm ht ⟨[(5, .b true)], [], [], [4], []⟩ [((a_0 : Int) == b_0) = true] (by kernel_rfl) ⟨b516_5, trivial⟩
  · have h := Option.some.inj h
    subst h
    exact At.fin hm ht ⟨[(5, .b false)], [], [], [4], []⟩ [((a_0 : Int) == b_0) = false] (by kernel_rfl) ⟨b516_5, trivial⟩
/-! brougham/broughamref07.Same -/
def f49_broughamref07_Same_in (a_0 : Int) (a_1 : Int) (a_2 : Int) (a_3 : Int) (a_4 : Int) (a_5 : List (Int × List Int)) (a_6 : List Int) (b_0 : Int) (b_1 : Int) (b_2 : Int) (b_3 : Int) (b_4 : Int) (b_5 : List (Int × List Int)) (b_6 : List Int) : Inn := ⟨[.agg [.d (.int .u16 a_0), .d (.int .u16 a_1), .d (.int .u32 a_2), .d (.int .u32 a_3), .d (.int .u8 a_4), .d (.sl (.pair (.int .u8) (.slice (.int .u8))) a_5), .d (.sl (.int .u8) a_6)], .agg [.d (.int .u16 b_0), .d (.int .u16 b_1), .d (.int .u32 b_2), .d (.int .u32 b_3), .d (.int .u8 b_4), .d (.sl (.pair (.int .u8) (.slice (.int .u8))) b_5), .d (.sl (.int .u8) b_6)]], [], [], 0⟩
def f49_broughamref07_Same_out (r : Bool) : Out := ⟨.one (.c (.d (.bool r))), [], [], 0⟩
def f49_broughamref07_Same_L4 : Nat → Int → Int → Int → Int → Int → Int → (List (Int × List Int)) → (List Int) → Int → Int → Int → Int → Int → (List (Int × List Int)) → (List Int) → Option ((Bool) ⊕ (Unit))
  | 0, _, _, _, _, _, _, _, _, _, _, _, _, _, _, _ => none
  | n + 1, i, a_0, a_1, a_2, a_3, a_4, a_5, a_6, b_0, b_1, b_2, b_3, b_4, b_5, b_6 =>
    if (decide ((i : Int) < ((a_5.length : Nat) : Int))) = true then
      if (0 : Int) ≤ i ∧ i < (((a_5).length : Nat) : Int) then
      if (0 : Int) ≤ i ∧ i < (((b_5).length : Nat) : Int) then
      (f18_broughamref07_SameOption ((a_5.getD i.toNat (0, [])).1) ((a_5.getD i.toNat (0, [])).2) ((b_5.getD i.toNat (0, [])).1) ((b_5.getD i.toNat (0, [])).2)).bind fun r514_2 =>
      if (!r514_2) = true then
        some (.inl false)
      else
        f49_broughamref07_Same_L4 n (IntKind.wrap .i64 (i + 1)) a_0 a_1 a_2 a_3 a_4 a_5 a_6 b_0 b_1 b_2 b_3 b_4 b_5 b_6
      else none
      else none
    else
      some (.inr ())
def f49_broughamref07_Same_L4_k (w : (Bool) ⊕ (Unit)) (o : Out) : Prop := match w with
  | .inl e => o = f49_broughamref07_Same_out e
  | .inr e => At Go.Proofs.Try.prog Go.Proofs.Try.f49 0 8 ⟨[], [], [], 0⟩ o
theorem f49_broughamref07_Same_L4_ok (n : Nat) : ∀ (i : Int) (a_0 : Int) (a_1 : Int) (a_2 : Int) (a_3 : Int) (a_4 : Int) (a_5 : List (Int × List Int)) (a_6 : List Int) (b_0 : Int) (b_1 : Int) (b_2 : Int) (b_3 : Int) (b_4 : Int) (b_5 : List (Int × List Int)) (b_6 : List Int) (w : (Bool) ⊕ (Unit)) (h : f49_broughamref07_Same_L4 n i a_0 a_1 a_2 a_3 a_4 a_5 a_6 b_0 b_1 b_2 b_3 b_4 b_5 b_6 = some w) (o : Out) (hk : f49_broughamref07_Same_L4_k w o), At Go.Proofs.Try.prog Go.Proofs.Try.f49 0 4 ⟨[(2, .one (.c (.ptr 0 0))), (3, .one (.c (.ptr 1 0))), (5, .one (.c (.d (.int .i64 i))))], [], [(0, [.d (.int .u16 a_0), .d (.int .u16 a_1), .d (.int .u32 a_2), .d (.int .u32 a_3), .d (.int .u8 a_4), .d (.sl (.pair (.int .u8) (.slice (.int .u8))) a_5), .d (.sl (.int .u8) a_6)]), (1, [.d (.int .u16 b_0), .d (.int .u16 b_1), .d (.int .u32 b_2), .d (.int .u32 b_3), .d (.int .u8 b_4), .d (.sl (.pair (.int .u8) (.slice (.int .u8))) b_5), .d (.sl (.int .u8) b_6)])], 2⟩ o := by
  induction n with
  | zero => intro i a_0 a_1 a_2 a_3 a_4 a_5 a_6 b_0 b_1 b_2 b_3 b_4 b_5 b_6 w h; rw [f49_broughamref07_Same_L4] at h; cases h
  | succ n ih =>
    intro i a_0 a_1 a_2 a_3 a_4 a_5 a_6 b_0 b_1 b_2 b_3 b_4 b_5 b_6 w h o hk
    rw [f49_broughamref07_Same_L4] at h
    rcases iteS h with ⟨b513_e0, h⟩ | ⟨b513_e0, h⟩
    · refine At.step hm ht ⟨[], [true], [], [2, 3, 5], [0, 1]⟩ 6 ⟨[(2, .one (.c (.ptr 0 0))), (3, .one (.c (.ptr 1 0))), (5, .one (.c (.d (.int .i64 i))))], [], [(0, [.d (.int .u16 a_0), .d (.int .u16 a_1), .d (.int .u32 a_2), .d (.int .u32 a_3), .d (.int .u8 a_4), .d (.sl (.pair (.int .u8) (.slice (.int .u8))) a_5), .d (.sl (.int .u8) a_6)]), (1, [.d (.int .u16 b_0), .d (.int .u16 b_1), .d (.int .u32 b_2), .d (.int .u32 b_3), .d (.int .u8 b_4), .d (.sl (.pair (.int .u8) (.slice (.int .u8))) b_5), .d (.sl (.int .u8) b_6)])], 2⟩ [(decide ((i : Int) < ((a_5.length : Nat) : Int))) = true] (by kernel_rfl) ⟨b513_e0, trivial⟩ ?_
      obtain ⟨g514_0, h⟩ := ifS h
      obtain ⟨g514_1, h⟩ := ifS h
      obtain ⟨r514_2, cr514_2, h⟩ := bindS h
      rcases iteS h with ⟨b514_e0, h⟩ | ⟨b514_e0, h⟩
      · refine At.step hm ht ⟨[(10, .call [] [] (f18_broughamref07_SameOption_out r514_2))], [true], [], [], []⟩ 7 ⟨[], [], [], 0⟩ [(0 : Int) ≤ i ∧ i < (((a_5).length : Nat) : Int), (0 : Int) ≤ i ∧ i < (((b_5).length : Nat) : Int), FnOK Go.Proofs.Try.prog 18 (f18_broughamref07_SameOption_in ((a_5.getD i.toNat (0, [])).1) ((a_5.getD i.toNat (0, [])).2) ((b_5.getD i.toNat (0, [])).1) ((b_5.getD i.toNat (0, [])).2)) (f18_broughamref07_SameOption_out r514_2), (!r514_2) = true] (by kernel_rfl) ⟨g514_0, g514_1, (f18_broughamref07_SameOption_ok ((a_5.getD i.toNat (0, [])).1) ((a_5.getD i.toNat (0, [])).2) ((b_5.getD i.toNat (0, [])).1) ((b_5.getD i.toNat (0, [])).2) r514_2 cr514_2), b514_e0, trivial⟩ ?_
        have h := Option.some.inj h
        subst h
        have hk : o = f49_broughamref07_Same_out false := hk
        subst hk
        exact At.fin hm ht ⟨[], [], [], [4], []⟩ [] (by kernel_rfl) trivial
      · refine At.step hm ht ⟨[(10, .call [] [] (f18_broughamref07_SameOption_out r514_2))], [false], [], [2, 3, 5], [0, 1]⟩ 5 ⟨[(2, .one (.c (.ptr 0 0))), (3, .one (.c (.ptr 1 0))), (5, .one (.c (.d (.int .i64 i))))], [], [(0, [.d (.int .u16 a_0), .d (.int .u16 a_1), .d (.int .u32 a_2), .d (.int .u32 a_3), .d (.int .u8 a_4), .d (.sl (.pair (.int .u8) (.slice (.int .u8))) a_5), .d (.sl (.int .u8) a_6)]), (1, [.d (.int .u16 b_0), .d (.int .u16 b_1), .d (.int .u32 b_2), .d (.int .u32 b_3), .d (.int .u8 b_4), .d (.sl (.pair (.int .u8) (.slice (.int .u8))) b_5), .d (.sl (.int .u8) b_6)])], 2⟩ [(0 : Int) ≤ i ∧ i < (((a_5).length : Nat) : Int), (0 : Int) ≤ i ∧ i < (((b_5).length : Nat) : Int), FnOK Go.Proofs.Try.prog 18 (f18_broughamref07_SameOption_in ((a_5.getD i.toNat (0, [])).1) ((a_5.getD i.toNat (0, [])).2) ((b_5.getD i.toNat (0, [])).1) ((b_5.getD i.toNat (0, [])).2)) (f18_broughamref07_SameOption_out r514_2), (!r514_2) = false] (by kernel_rfl) ⟨g514_0, g514_1, (f18_broughamref07_SameOption_ok ((a_5.getD i.toNat (0, [])).1) ((a_5.getD i.toNat (0, [])).2) ((b_5.getD i.toNat (0, [])).1) ((b_5.getD i.toNat (0, [])).2) r514_2 cr514_2), b514_e0, trivial⟩ ?_
        refine At.step hm ht ⟨[], [], [], [2, 3, 5], [0, 1]⟩ 4 ⟨[(2, .one (.c (.ptr 0 0))), (3, .one (.c (.ptr 1 0))), (5, .one (.c (.d (.int .i64 (IntKind.wrap .i64 (i + 1))))))], [], [(0, [.d (.int .u16 a_0), .d (.int .u16 a_1), .d (.int .u32 a_2), .d (.int .u32 a_3), .d (.int .u8 a_4), .d (.sl (.pair (.int .u8) (.slice (.int .u8))) a_5), .d (.sl (.int .u8) a_6)]), (1, [.d (.int .u16 b_0), .d (.int .u16 b_1), .d (.int .u32 b_2), .d (.int .u32 b_3), .d (.int .u8 b_4), .d (.sl (.pair (.int .u8) (.slice (.int .u8))) b_5), .d (.sl (.int .u8) b_6)])], 2⟩ [] (by kernel_rfl) trivial ?_
        exact ih (IntKind.wrap .i64 (i + 1)) a_0 a_1 a_2 a_3 a_4 a_5 a_6 b_0 b_1 b_2 b_3 b_4 b_5 b_6 w h o hk
    · refine At.step hm ht ⟨[], [false], [], [], []⟩ 8 ⟨[], [], [], 0⟩ [(decide ((i : Int) < ((a_5.length : Nat) : Int))) = false] (by kernel_rfl) ⟨b513_e0, trivial⟩ ?_
      have h := Option.some.inj h
      subst h
      exact hk
def f49_broughamref07_Same (n : Nat) (a_0 : Int) (a_1 : Int) (a_2 : Int) (a_3 : Int) (a_4 : Int) (a_5 : List (Int × List Int)) (a_6 : List Int) (b_0 : Int) (b_1 : Int) (b_2 : Int) (b_3 : Int) (b_4 : Int) (b_5 : List (Int × List Int)) (b_6 : List Int) : Option (Bool) :=
  if ((a_0 : Int) != b_0) = true then
    some false
  else
    if ((a_1 : Int) != b_1) = true then
      some false
    else
      if ((a_2 : Int) != b_2) = true then
        some false
      else
        if ((a_3 : Int) != b_3) = true then
          some false
        else
          if ((a_4 : Int) != b_4) = true then
            some false
          else
            if (!((strOfNums a_6).toList == (strOfNums b_6).toList)) = true then
              some false
            else
              if ((((a_5.length : Nat) : Int) : Int) != ((b_5.length : Nat) : Int)) = true then
                some false
              else
                (f49_broughamref07_Same_L4 n 0 a_0 a_1 a_2 a_3 a_4 a_5 a_6 b_0 b_1 b_2 b_3 b_4 b_5 b_6).bind fun w519 =>
                match w519 with
                | .inl e520 =>
                  some e520
                | .inr e521 =>
                  some true
theorem f49_broughamref07_Same_ok (n : Nat) (a_0 : Int) (a_1 : Int) (a_2 : Int) (a_3 : Int) (a_4 : Int) (a_5 : List (Int × List Int)) (a_6 : List Int) (b_0 : Int) (b_1 : Int) (b_2 : Int) (b_3 : Int) (b_4 : Int) (b_5 : List (Int × List Int)) (b_6 : List Int) (r : Bool) (h : f49_broughamref07_Same n a_0 a_1 a_2 a_3 a_4 a_5 a_6 b_0 b_1 b_2 b_3 b_4 b_5 b_6 = some r) : FnOK Go.Proofs.Try.prog 49 (f49_broughamref07_Same_in a_0 a_1 a_2 a_3 a_4 a_5 a_6 b_0 b_1 b_2 b_3 b_4 b_5 b_6) (f49_broughamref07_Same_out r) := by
  unfold f49_broughamref07_Same at h
  refine At.fn (r := 0) Go.Proofs.Try.func49 rfl (by kernel_rfl) rfl rfl (by kernel_rfl) ?_
  show At Go.Proofs.Try.prog Go.Proofs.Try.f49 0 0 ⟨[(0, .one (.agg [.d (.int .u16 a_0), .d (.int .u16 a_1), .d (.int .u32 a_2), .d (.int .u32 a_3), .d (.int .u8 a_4), .d (.sl (.pair (.int .u8) (.slice (.int .u8))) a_5), .d (.sl (.int .u8) a_6)])), (1, .one (.agg [.d (.int .u16 b_0), .d (.int .u16 b_1), .d (.int .u32 b_2), .d (.int .u32 b_3), .d (.int .u8 b_4), .d (.sl (.pair (.int .u8) (.slice (.int .u8))) b_5), .d (.sl (.int .u8) b_6)]))], [], [], 0⟩ _
  refine At.step hm ht ⟨[], [], [], [2, 3], [0, 1]⟩ 1 ⟨[(2, .one (.c (.ptr 0 0))), (3, .one (.c (.ptr 1 0)))], [], [(0, [.d (.int .u16 a_0), .d (.int .u16 a_1), .d (.int .u32 a_2), .d (.int .u32 a_3), .d (.int .u8 a_4), .d (.sl (.pair (.int .u8) (.slice (.int .u8))) a_5), .d (.sl (.int .u8) a_6)]), (1, [.d (.int .u16 b_0), .d (.int .u16 b_1), .d (.int .u32 b_2), .d (.int .u32 b_3), .d (.int .u8 b_4), .d (.sl (.pair (.int .u8) (.slice (.int .u8))) b_5), .d (.sl (.int .u8) b_6)])], 2⟩ [] (by kernel_rfl) trivial ?_
  rcases iteS h with ⟨b504_5, h⟩ | ⟨b504_5, h⟩
  · refine At.step hm ht ⟨[(5, .b true)], [true], [], [], []⟩ 2 ⟨[], [], [], 0⟩ [((a_0 : Int) != b_0) = true, true = true] (by kernel_rfl) ⟨b504_5, rfl, trivial⟩ ?_
    have h := Option.some.inj h
    subst h
    exact At.fin hm ht ⟨[], [], [], [4], []⟩ [] (by kernel_rfl) trivial
  · rcases iteS h with ⟨b504_12, h⟩ | ⟨b504_12, h⟩
    · refine At.step hm ht ⟨[(5, .b false), (12, .b true)], [true], [], [], []⟩ 2 ⟨[], [], [], 0⟩ [((a_0 : Int) != b_0) = false, ((a_1 : Int) != b_1) = true, true = true] (by kernel_rfl) ⟨b504_5, b504_12, rfl, trivial⟩ ?_
      have h := Option.some.inj h
      subst h
      exact At.fin hm ht ⟨[], [], [], [4], []⟩ [] (by kernel_rfl) trivial
    · rcases iteS h with ⟨b504_19, h⟩ | ⟨b504_19, h⟩
      · refine At.step hm ht ⟨[(5, .b false), (12, .b false), (19, .b true)], [true], [], [], []⟩ 2 ⟨[], [], [], 0⟩ [((a_0 : Int) != b_0) = false, ((a_1 : Int) != b_1) = false, ((a_2 : Int) != b_2) = true, true = true] (by kernel_rfl) ⟨b504_5, b504_12, b504_19, rfl, trivial⟩ ?_
        have h := Option.some.inj h
        subst h
        exact At.fin hm ht ⟨[], [], [], [4], []⟩ [] (by kernel_rfl) trivial
      · rcases iteS h with ⟨b504_26, h⟩ | ⟨b504_26, h⟩
        · refine At.step hm ht ⟨[(5, .b false), (12, .b false), (19, .b false), (26, .b true)], [true], [], [], []⟩ 2 ⟨[], [], [], 0⟩ [((a_0 : Int) != b_0) = false, ((a_1 : Int) != b_1) = false, ((a_2 : Int) != b_2) = false, ((a_3 : Int) != b_3) = true, true = true] (by kernel_rfl) ⟨b504_5, b504_12, b504_19, b504_26, rfl, trivial⟩ ?_
          have h := Option.some.inj h
          subst h
          exact At.fin hm ht ⟨[], [], [], [4], []⟩ [] (by kernel_rfl) trivial
        · rcases iteS h with ⟨b504_33, h⟩ | ⟨b504_33, h⟩
          · refine At.step hm ht ⟨[(5, .b false), (12, .b false), (19, .b false), (26, .b false), (33, .b true)], [true], [], [], []⟩ 2 ⟨[], [], [], 0⟩ [((a_0 : Int) != b_0) = false, ((a_1 : Int) != b_1) = false, ((a_2 : Int) != b_2) = false, ((a_3 : Int) != b_3) = false, ((a_4 : Int) != b_4) = true, true = true] (by kernel_rfl) ⟨b504_5, b504_12, b504_19, b504_26, b504_33, rfl, trivial⟩ ?_
            have h := Option.some.inj h
            subst h
            exact At.fin hm ht ⟨[], [], [], [4], []⟩ [] (by kernel_rfl) trivial
          · rcases iteS h with ⟨b504_42, h⟩ | ⟨b504_42, h⟩
            · refine At.step hm ht ⟨[(5, .b false), (12, .b false), (19, .b false), (26, .b false), (33, .b false), (42, .b true)], [true], [], [], []⟩ 2 ⟨[], [], [], 0⟩ [((a_0 : Int) != b_0) = false, ((a_1 : Int) != b_1) = false, ((a_2 : Int) != b_2) = false, ((a_3 : Int) != b_3) = false, ((a_4 : Int) != b_4) = false, (!((strOfNums a_6).toList == (strOfNums b_6).toList)) = true, true = true] (by kernel_rfl) ⟨b504_5, b504_12, b504_19, b504_26, b504_33, b504_42, rfl, trivial⟩ ?_
              have h := Option.some.inj h
              subst h
              exact At.fin hm ht ⟨[], [], [], [4], []⟩ [] (by kernel_rfl) trivial
            · rcases iteS h with ⟨b504_e0, h⟩ | ⟨b504_e0, h⟩
              · refine At.step hm ht ⟨[(5, .b false), (12, .b false), (19, .b false), (26, .b false), (33, .b false), (42, .b false)], [true], [], [], []⟩ 2 ⟨[], [], [], 0⟩ [((a_0 : Int) != b_0) = false, ((a_1 : Int) != b_1) = false, ((a_2 : Int) != b_2) = false, ((a_3 : Int) != b_3) = false, ((a_4 : Int) != b_4) = false, (!((strOfNums a_6).toList == (strOfNums b_6).toList)) = false, ((((a_5.length : Nat) : Int) : Int) != ((b_5.length : Nat) : Int)) = true] (by kernel_rfl) ⟨b504_5, b504_12, b504_19, b504_26, b504_33, b504_42, b504_e0, trivial⟩ ?_
                have h := Option.some.inj h
                subst h
                exact At.fin hm ht ⟨[], [], [], [4], []⟩ [] (by kernel_rfl) trivial
              · refine At.step hm ht ⟨[(5, .b false), (12, .b false), (19, .b false), (26, .b false), (33, .b false), (42, .b false)], [false], [], [2, 3], [0, 1]⟩ 3 ⟨[(2, .one (.c (.ptr 0 0))), (3, .one (.c (.ptr 1 0)))], [], [(0, [.d (.int .u16 a_0), .d (.int .u16 a_1), .d (.int .u32 a_2), .d (.int .u32 a_3), .d (.int .u8 a_4), .d (.sl (.pair (.int .u8) (.slice (.int .u8))) a_5), .d (.sl (.int .u8) a_6)]), (1, [.d (.int .u16 b_0), .d (.int .u16 b_1), .d (.int .u32 b_2), .d (.int .u32 b_3), .d (.int .u8 b_4), .d (.sl (.pair (.int .u8) (.slice (.int .u8))) b_5), .d (.sl (.int .u8) b_6)])], 2⟩ [((a_0 : Int) != b_0) = false, ((a_1 : Int) != b_1) = false, ((a_2 : Int) != b_2) = false, ((a_3 : Int) != b_3) = false, ((a_4 : Int) != b_4) = false, (!((strOfNums a_6).toList == (strOfNums b_6).toList)) = false, ((((a_5.length : Nat) : Int) : Int) != ((b_5.length : Nat) : Int)) = false] (by kernel_rfl) ⟨b504_5, b504_12, b504_19, b504_26, b504_33, b504_42, b504_e0, trivial⟩ ?_
                refine At.step hm ht ⟨[], [], [], [2, 3, 5], [0, 1]⟩ 4 ⟨[(2, .one (.c (.ptr 0 0))), (3, .one (.c (.ptr 1 0))), (5, .one (.c (.d (.int .i64 0))))], [], [(0, [.d (.int .u16 a_0), .d (.int .u16 a_1), .d (.int .u32 a_2), .d (.int .u32 a_3), .d (.int .u8 a_4), .d (.sl (.pair (.int .u8) (.slice (.int .u8))) a_5), .d (.sl (.int .u8) a_6)]), (1, [.d (.int .u16 b_0), .d (.int .u16 b_1), .d (.int .u32 b_2), .d (.int .u32 b_3), .d (.int .u8 b_4), .d (.sl (.pair (.int .u8) (.slice (.int .u8))) b_5), .d (.sl (.int .u8) b_6)])], 2⟩ [] (by kernel_rfl) trivial ?_
                obtain ⟨w519, cw519, h⟩ := bindS h
                refine f49_broughamref07_Same_L4_ok n 0 a_0 a_1 a_2 a_3 a_4 a_5 a_6 b_0 b_1 b_2 b_3 b_4 b_5 b_6 w519 cw519 _ ?_
                rcases w519 with e520 | e521
                · have h := Option.some.inj h
                  subst h
                  rfl
                · show At Go.Proofs.Try.prog Go.Proofs.Try.f49 0 8 ⟨[], [], [], 0⟩ _
                  have h := Option.some.inj h
                  subst h
                  exact At.fin hm ht ⟨[], [], [], [4], []⟩ [] (by kernel_rfl) trivial
/-! brougham/broughamlaw07.SegReads -/
def f7_broughamlaw07_SegReads_in (b : List Int) : Inn := ⟨[.c (.d (.sl (.int .u8) b))], [], [], 0⟩
def f7_broughamlaw07_SegReads_out (r : Bool) : Out := ⟨.one (.c (.d (.bool r))), [], [], 0⟩
def f7_broughamlaw07_SegReads (n : Nat) (b : List Int) : Option (Bool) :=
  if (decide ((((b.length : Nat) : Int) : Int) > 3000)) = true then
    some true
  else
    (f47_seg_Parse n b).bind fun r365_0 =>
    (f48_broughamref07_Parse n b).bind fun r366_0 =>
    if ((r365_0.1 : Int) == r366_0.1) = true then
      (f49_broughamref07_Same n r365_0.2.1 r365_0.2.2.1 r365_0.2.2.2.1 r365_0.2.2.2.2.1 r365_0.2.2.2.2.2.1 r365_0.2.2.2.2.2.2.1 r365_0.2.2.2.2.2.2.2 r366_0.2.1 r366_0.2.2.1 r366_0.2.2.2.1 r366_0.2.2.2.2.1 r366_0.2.2.2.2.2.1 r366_0.2.2.2.2.2.2.1 r366_0.2.2.2.2.2.2.2).bind fun r502_0 =>
      if r502_0 = true then
        (f46_broughamlaw07_alive n).bind fun r502_1 =>
        some r502_1
      else
        some false
    else
      some false
theorem f7_broughamlaw07_SegReads_ok (n : Nat) (b : List Int) (r : Bool) (h : f7_broughamlaw07_SegReads n b = some r) : FnOK Go.Proofs.Try.prog 7 (f7_broughamlaw07_SegReads_in b) (f7_broughamlaw07_SegReads_out r) := by
  unfold f7_broughamlaw07_SegReads at h
  refine At.fn (r := 0) Go.Proofs.Try.func7 rfl (by kernel_rfl) rfl rfl (by kernel_rfl) ?_
  show At Go.Proofs.Try.prog Go.Proofs.Try.f7 0 0 ⟨[(0, .one (.c (.d (.sl (.int .u8) b))))], [], [], 0⟩ _
  refine At.step hm ht ⟨[], [], [], [0], []⟩ 1 ⟨[(0, .one (.c (.d (.sl (.int .u8) b))))], [], [], 0⟩ [] (by kernel_rfl) trivial ?_
  rcases iteS h with ⟨b363_e0, h⟩ | ⟨b363_e0, h⟩
  · refine At.step hm ht ⟨[], [true], [], [], []⟩ 2 ⟨[], [], [], 0⟩ [(decide ((((b.length : Nat) : Int) : Int) > 3000)) = true] (by kernel_rfl) ⟨b363_e0, trivial⟩ ?_
    have h := Option.some.inj h
    subst h
    exact At.fin hm ht ⟨[], [], [], [2], []⟩ [] (by kernel_rfl) trivial
  · refine At.step hm ht ⟨[], [false], [], [0], []⟩ 3 ⟨[(0, .one (.c (.d (.sl (.int .u8) b))))], [], [], 0⟩ [(decide ((((b.length : Nat) : Int) : Int) > 3000)) = false] (by kernel_rfl) ⟨b363_e0, trivial⟩ ?_
    obtain ⟨r365_0, cr365_0, h⟩ := bindS h
    refine At.step hm ht ⟨[(1, .call [] [] (f47_seg_Parse_out r365_0))], [], [], [0, 3, 4], [7, 2, 3]⟩ 4 ⟨[(0, .one (.c (.d (.sl (.int .u8) b)))), (3, .one (.c (.ptr 0 0))), (4, .one (.c (.d (.int .i64 r365_0.1))))], [(1, some ⟨30, 0⟩), (2, some ⟨5, 0⟩)], [(0, [.d (.int .u16 r365_0.2.1), .d (.int .u16 r365_0.2.2.1), .d (.int .u32 r365_0.2.2.2.1), .d (.int .u32 r365_0.2.2.2.2.1), .d (.int .u8 r365_0.2.2.2.2.2.1), .own 1 (.pair (.int .u8) (.slice (.int .u8))) r365_0.2.2.2.2.2.2.1, .own 2 (.int .u8) r365_0.2.2.2.2.2.2.2])], 3⟩ [FnOK Go.Proofs.Try.prog 47 (f47_seg_Parse_in b) (f47_seg_Parse_out r365_0), 0 + 7 ≤ 7] (by kernel_rfl) ⟨(f47_seg_Parse_ok n b r365_0 cr365_0), (by decide), trivial⟩ ?_
    obtain ⟨r366_0, cr366_0, h⟩ := bindS h
    refine At.step hm ht ⟨[(1, .call [] [] (f48_broughamref07_Parse_out r366_0))], [], [], [3, 4, 5, 6], [0, 10, 1, 2, 5, 6]⟩ 5 ⟨[(3, .one (.c (.ptr 0 0))), (4, .one (.c (.d (.int .i64 r365_0.1)))), (5, .one (.c (.ptr 1 0))), (6, .one (.c (.d (.int .i64 r366_0.1))))], [(2, some ⟨30, 0⟩), (3, some ⟨5, 0⟩), (4, some ⟨30, 0⟩), (5, some ⟨5, 0⟩)], [(0, [.d (.int .u16 r365_0.2.1), .d (.int .u16 r365_0.2.2.1), .d (.int .u32 r365_0.2.2.2.1), .d (.int .u32 r365_0.2.2.2.2.1), .d (.int .u8 r365_0.2.2.2.2.2.1), .own 2 (.pair (.int .u8) (.slice (.int .u8))) r365_0.2.2.2.2.2.2.1, .own 3 (.int .u8) r365_0.2.2.2.2.2.2.2]), (1, [.d (.int .u16 r366_0.2.1), .d (.int .u16 r366_0.2.2.1), .d (.int .u32 r366_0.2.2.2.1), .d (.int .u32 r366_0.2.2.2.2.1), .d (.int .u8 r366_0.2.2.2.2.2.1), .own 4 (.pair (.int .u8) (.slice (.int .u8))) r366_0.2.2.2.2.2.2.1, .own 5 (.int .u8) r366_0.2.2.2.2.2.2.2])], 6⟩ [FnOK Go.Proofs.Try.prog 48 (f48_broughamref07_Parse_in b) (f48_broughamref07_Parse_out r366_0), 0 + 7 ≤ 7] (by kernel_rfl) ⟨(f48_broughamref07_Parse_ok n b r366_0 cr366_0), (by decide), trivial⟩ ?_
    rcases iteS h with ⟨b502_3, h⟩ | ⟨b502_3, h⟩
    · obtain ⟨r502_0, cr502_0, h⟩ := bindS h
      rcases iteS h with ⟨b502_8, h⟩ | ⟨b502_8, h⟩
      · obtain ⟨r502_1, cr502_1, h⟩ := bindS h
        have h := Option.some.inj h
        subst h
        exact At.fin hm ht ⟨[(3, .b true), (6, .call [] [] (f49_broughamref07_Same_out r502_0)), (8, .b true), (9, .call [] [] (f46_broughamlaw07_alive_out r502_1))], [], [], [2], []⟩ [((r365_0.1 : Int) == r366_0.1) = true, FnOK Go.Proofs.Try.prog 49 (f49_broughamref07_Same_in r365_0.2.1 r365_0.2.2.1 r365_0.2.2.2.1 r365_0.2.2.2.2.1 r365_0.2.2.2.2.2.1 r365_0.2.2.2.2.2.2.1 r365_0.2.2.2.2.2.2.2 r366_0.2.1 r366_0.2.2.1 r366_0.2.2.2.1 r366_0.2.2.2.2.1 r366_0.2.2.2.2.2.1 r366_0.2.2.2.2.2.2.1 r366_0.2.2.2.2.2.2.2) (f49_broughamref07_Same_out r502_0), r502_0 = true, FnOK Go.Proofs.Try.prog 46 (f46_broughamlaw07_alive_in) (f46_broughamlaw07_alive_out r502_1)] (by kernel_rfl) ⟨b502_3, (f49_broughamref07_Same_ok n r365_0.2.1 r365_0.2.2.1 r365_0.2.2.2.1 r365_0.2.2.2.2.1 r365_0.2.2.2.2.2.1 r365_0.2.2.2.2.2.2.1 r365_0.2.2.2.2.2.2.2 r366_0.2.1 r366_0.2.2.1 r366_0.2.2.2.1 r366_0.2.2.2.2.1 r366_0.2.2.2.2.2.1 r366_0.2.2.2.2.2.2.1 r366_0.2.2.2.2.2.2.2 r502_0 cr502_0), b502_8, (f46_broughamlaw07_alive_ok n r502_1 cr502_1), trivial⟩
      · have h := Option.some.inj h
        subst h
        exact At.fin hm ht ⟨[(3, .b true), (6, .call [] [] (f49_broughamref07_Same_out r502_0)), (8, .b false)], [], [], [2], []⟩ [((r365_0.1 : Int) == r366_0.1) = true, FnOK Go.Proofs.Try.prog 49 (f49_broughamref07_Same_in r365_0.2.1 r365_0.2.2.1 r365_0.2.2.2.1 r365_0.2.2.2.2.1 r365_0.2.2.2.2.2.1 r365_0.2.2.2.2.2.2.1 r365_0.2.2.2.2.2.2.2 r366_0.2.1 r366_0.2.2.1 r366_0.2.2.2.1 r366_0.2.2.2.2.1 r366_0.2.2.2.2.2.1 r366_0.2.2.2.2.2.2.1 r366_0.2.2.2.2.2.2.2) (f49_broughamref07_Same_out r502_0), r502_0 = false] (by kernel_rfl) ⟨b502_3, (f49_broughamref07_Same_ok n r365_0.2.1 r365_0.2.2.1 r365_0.2.2.2.1 r365_0.2.2.2.2.1 r365_0.2.2.2.2.2.1 r365_0.2.2.2.2.2.2.1 r365_0.2.2.2.2.2.2.2 r366_0.2.1 r366_0.2.2.1 r366_0.2.2.2.1 r366_0.2.2.2.2.1 r366_0.2.2.2.2.2.1 r366_0.2.2.2.2.2.2.1 r366_0.2.2.2.2.2.2.2 r502_0 cr502_0), b502_8, trivial⟩
    · have h := Option.some.inj h
      subst h
      exact At.fin hm ht ⟨[(3, .b false)], [], [], [2], []⟩ [((r365_0.1 : Int) == r366_0.1) = false] (by kernel_rfl) ⟨b502_3, trivial⟩
/-! brougham/broughamlaw07.SegBack -/
def f8_broughamlaw07_SegBack_in (s_0 : Int) (s_1 : Int) (s_2 : Int) (s_3 : Int) (s_4 : Int) (s_5 : List (Int × List Int)) (s_6 : List Int) (b : List Int) : Inn := ⟨[.agg [.d (.int .u16 s_0), .d (.int .u16 s_1), .d (.int .u32 s_2), .d (.int .u32 s_3), .d (.int .u8 s_4), .d (.sl (.pair (.int .u8) (.slice (.int .u8))) s_5), .d (.sl (.int .u8) s_6)], .c (.d (.sl (.int .u8) b))], [], [], 0⟩
def f8_broughamlaw07_SegBack_out (r : Bool) : Out := ⟨.one (.c (.d (.bool r))), [], [], 0⟩
def f8_broughamlaw07_SegBack (n : Nat) (s_0 : Int) (s_1 : Int) (s_2 : Int) (s_3 : Int) (s_4 : Int) (s_5 : List (Int × List Int)) (s_6 : List Int) (b : List Int) : Option (Bool) :=
  (f15_broughamlaw07_Great n s_0 s_1 s_2 s_3 s_4 s_5 s_6).bind fun r524_0 =>
  if r524_0 = true then
    some true
  else
    if (decide ((((b.length : Nat) : Int) : Int) > 3000)) = true then
      some true
    else
      (f40_seg_Encode n s_0 s_1 s_2 s_3 s_4 s_5 s_6).bind fun r527_0 =>
      (f47_seg_Parse n r527_0.1).bind fun r528_0 =>
      if ((r527_0.2 : Int) == 0) = true then
        if ((r528_0.1 : Int) != 0) = true then
          some false
        else
          (f49_broughamref07_Same n s_0 s_1 s_2 s_3 s_4 s_5 s_6 r528_0.2.1 r528_0.2.2.1 r528_0.2.2.2.1 r528_0.2.2.2.2.1 r528_0.2.2.2.2.2.1 r528_0.2.2.2.2.2.2.1 r528_0.2.2.2.2.2.2.2).bind fun r529_0 =>
          if (!r529_0) = true then
            some false
          else
            (f47_seg_Parse n b).bind fun r532_0 =>
            (f40_seg_Encode n r532_0.2.1 r532_0.2.2.1 r532_0.2.2.2.1 r532_0.2.2.2.2.1 r532_0.2.2.2.2.2.1 r532_0.2.2.2.2.2.2.1 r532_0.2.2.2.2.2.2.2).bind fun r533_0 =>
            if ((r532_0.1 : Int) != 0) = true then
              (f46_broughamlaw07_alive n).bind fun r534_0 =>
              some r534_0
            else
              if ((r533_0.2 : Int) == 0) = true then
                if ((strOfNums r533_0.1).toList == (strOfNums b).toList) = true then
                  (f46_broughamlaw07_alive n).bind fun r534_0 =>
                  some r534_0
                else
                  some false
              else
                some false
      else
        (f47_seg_Parse n b).bind fun r535_0 =>
        (f40_seg_Encode n r535_0.2.1 r535_0.2.2.1 r535_0.2.2.2.1 r535_0.2.2.2.2.1 r535_0.2.2.2.2.2.1 r535_0.2.2.2.2.2.2.1 r535_0.2.2.2.2.2.2.2).bind fun r536_0 =>
        if ((r535_0.1 : Int) != 0) = true then
          (f46_broughamlaw07_alive n).bind fun r537_0 =>
          some r537_0
        else
          if ((r536_0.2 : Int) == 0) = true then
            if ((strOfNums r536_0.1).toList == (strOfNums b).toList) = true then
              (f46_broughamlaw07_alive n).bind fun r537_0 =>
              some r537_0
            else
              some false
          else
            some false
theorem f8_broughamlaw07_SegBack_ok (n : Nat) (s_0 : Int) (s_1 : Int) (s_2 : Int) (s_3 : Int) (s_4 : Int) (s_5 : List (Int × List Int)) (s_6 : List Int) (b : List Int) (r : Bool) (h : f8_broughamlaw07_SegBack n s_0 s_1 s_2 s_3 s_4 s_5 s_6 b = some r) : FnOK Go.Proofs.Try.prog 8 (f8_broughamlaw07_SegBack_in s_0 s_1 s_2 s_3 s_4 s_5 s_6 b) (f8_broughamlaw07_SegBack_out r) := by
  unfold f8_broughamlaw07_SegBack at h
  refine At.fn (r := 0) Go.Proofs.Try.func8 rfl (by kernel_rfl) rfl rfl (by kernel_rfl) ?_
  show At Go.Proofs.Try.prog Go.Proofs.Try.f8 0 0 ⟨[(0, .one (.agg [.d (.int .u16 s_0), .d (.int .u16 s_1), .d (.int .u32 s_2), .d (.int .u32 s_3), .d (.int .u8 s_4), .d (.sl (.pair (.int .u8) (.slice (.int .u8))) s_5), .d (.sl (.int .u8) s_6)])), (1, .one (.c (.d (.sl (.int .u8) b))))], [], [], 0⟩ _
  refine At.step hm ht ⟨[], [], [], [1, 2], [0]⟩ 1 ⟨[(1, .one (.c (.d (.sl (.int .u8) b)))), (2, .one (.c (.ptr 0 0)))], [], [(0, [.d (.int .u16 s_0), .d (.int .u16 s_1), .d (.int .u32 s_2), .d (.int .u32 s_3), .d (.int .u8 s_4), .d (.sl (.pair (.int .u8) (.slice (.int .u8))) s_5), .d (.sl (.int .u8) s_6)])], 1⟩ [] (by kernel_rfl) trivial ?_
  obtain ⟨r524_0, cr524_0, h⟩ := bindS h
  rcases iteS h with ⟨b524_2, h⟩ | ⟨b524_2, h⟩
  · refine At.step hm ht ⟨[(1, .call [] [] (f15_broughamlaw07_Great_out r524_0)), (2, .b true)], [true], [], [], []⟩ 2 ⟨[], [], [], 0⟩ [FnOK Go.Proofs.Try.prog 15 (f15_broughamlaw07_Great_in s_0 s_1 s_2 s_3 s_4 s_5 s_6) (f15_broughamlaw07_Great_out r524_0), r524_0 = true, true = true] (by kernel_rfl) ⟨(f15_broughamlaw07_Great_ok n s_0 s_1 s_2 s_3 s_4 s_5 s_6 r524_0 cr524_0), b524_2, rfl, trivial⟩ ?_
    have h := Option.some.inj h
    subst h
    exact At.fin hm ht ⟨[], [], [], [4], []⟩ [] (by kernel_rfl) trivial
  · rcases iteS h with ⟨b524_e0, h⟩ | ⟨b524_e0, h⟩
    · refine At.step hm ht ⟨[(1, .call [] [] (f15_broughamlaw07_Great_out r524_0)), (2, .b false)], [true], [], [], []⟩ 2 ⟨[], [], [], 0⟩ [FnOK Go.Proofs.Try.prog 15 (f15_broughamlaw07_Great_in s_0 s_1 s_2 s_3 s_4 s_5 s_6) (f15_broughamlaw07_Great_out r524_0), r524_0 = false, (decide ((((b.length : Nat) : Int) : Int) > 3000)) = true] (by kernel_rfl) ⟨(f15_broughamlaw07_Great_ok n s_0 s_1 s_2 s_3 s_4 s_5 s_6 r524_0 cr524_0), b524_2, b524_e0, trivial⟩ ?_
      have h := Option.some.inj h
      subst h
      exact At.fin hm ht ⟨[], [], [], [4], []⟩ [] (by kernel_rfl) trivial
    · refine At.step hm ht ⟨[(1, .call [] [] (f15_broughamlaw07_Great_out r524_0)), (2, .b false)], [false], [], [1, 2], [0]⟩ 3 ⟨[(1, .one (.c (.d (.sl (.int .u8) b)))), (2, .one (.c (.ptr 0 0)))], [], [(0, [.d (.int .u16 s_0), .d (.int .u16 s_1), .d (.int .u32 s_2), .d (.int .u32 s_3), .d (.int .u8 s_4), .d (.sl (.pair (.int .u8) (.slice (.int .u8))) s_5), .d (.sl (.int .u8) s_6)])], 1⟩ [FnOK Go.Proofs.Try.prog 15 (f15_broughamlaw07_Great_in s_0 s_1 s_2 s_3 s_4 s_5 s_6) (f15_broughamlaw07_Great_out r524_0), r524_0 = false, (decide ((((b.length : Nat) : Int) : Int) > 3000)) = false] (by kernel_rfl) ⟨(f15_broughamlaw07_Great_ok n s_0 s_1 s_2 s_3 s_4 s_5 s_6 r524_0 cr524_0), b524_2, b524_e0, trivial⟩ ?_
      obtain ⟨r527_0, cr527_0, h⟩ := bindS h
      refine At.step hm ht ⟨[(1, .call [] [] (f40_seg_Encode_out r527_0))], [], [], [1, 2, 5, 6], [0, 2]⟩ 4 ⟨[(1, .one (.c (.d (.sl (.int .u8) b)))), (2, .one (.c (.ptr 0 0))), (5, .one (.c (.own 1 (.int .u8) r527_0.1))), (6, .one (.c (.d (.int .i64 r527_0.2))))], [(1, some ⟨5, 0⟩)], [(0, [.d (.int .u16 s_0), .d (.int .u16 s_1), .d (.int .u32 s_2), .d (.int .u32 s_3), .d (.int .u8 s_4), .d (.sl (.pair (.int .u8) (.slice (.int .u8))) s_5), .d (.sl (.int .u8) s_6)])], 2⟩ [FnOK Go.Proofs.Try.prog 40 (f40_seg_Encode_in s_0 s_1 s_2 s_3 s_4 s_5 s_6) (f40_seg_Encode_out r527_0)] (by kernel_rfl) ⟨(f40_seg_Encode_ok n s_0 s_1 s_2 s_3 s_4 s_5 s_6 r527_0 cr527_0), trivial⟩ ?_
      obtain ⟨r528_0, cr528_0, h⟩ := bindS h
      refine At.step hm ht ⟨[(1, .call [] [] (f47_seg_Parse_out r528_0))], [], [], [1, 2, 6, 7, 8], [0, 9, 4, 5]⟩ 5 ⟨[(1, .one (.c (.d (.sl (.int .u8) b)))), (2, .one (.c (.ptr 0 0))), (6, .one (.c (.d (.int .i64 r527_0.2)))), (7, .one (.c (.ptr 1 0))), (8, .one (.c (.d (.int .i64 r528_0.1))))], [(2, some ⟨30, 0⟩), (3, some ⟨5, 0⟩)], [(0, [.d (.int .u16 s_0), .d (.int .u16 s_1), .d (.int .u32 s_2), .d (.int .u32 s_3), .d (.int .u8 s_4), .d (.sl (.pair (.int .u8) (.slice (.int .u8))) s_5), .d (.sl (.int .u8) s_6)]), (1, [.d (.int .u16 r528_0.2.1), .d (.int .u16 r528_0.2.2.1), .d (.int .u32 r528_0.2.2.2.1), .d (.int .u32 r528_0.2.2.2.2.1), .d (.int .u8 r528_0.2.2.2.2.2.1), .own 2 (.pair (.int .u8) (.slice (.int .u8))) r528_0.2.2.2.2.2.2.1, .own 3 (.int .u8) r528_0.2.2.2.2.2.2.2])], 4⟩ [FnOK Go.Proofs.Try.prog 47 (f47_seg_Parse_in r527_0.1) (f47_seg_Parse_out r528_0), 0 + 7 ≤ 7] (by kernel_rfl) ⟨(f47_seg_Parse_ok n r527_0.1 r528_0 cr528_0), (by decide), trivial⟩ ?_
      rcases iteS h with ⟨b529_2, h⟩ | ⟨b529_2, h⟩
      · rcases iteS h with ⟨b529_5, h⟩ | ⟨b529_5, h⟩
        · refine At.step hm ht ⟨[(2, .b true), (5, .b true)], [true], [], [], []⟩ 6 ⟨[], [], [], 0⟩ [((r527_0.2 : Int) == 0) = true, ((r528_0.1 : Int) != 0) = true, true = true] (by kernel_rfl) ⟨b529_2, b529_5, rfl, trivial⟩ ?_
          have h := Option.some.inj h
          subst h
          exact At.fin hm ht ⟨[], [], [], [4], []⟩ [] (by kernel_rfl) trivial
        · obtain ⟨r529_0, cr529_0, h⟩ := bindS h
          rcases iteS h with ⟨b529_e0, h⟩ | ⟨b529_e0, h⟩
          · refine At.step hm ht ⟨[(2, .b true), (5, .b false), (8, .call [] [] (f49_broughamref07_Same_out r529_0))], [true], [], [], []⟩ 6 ⟨[], [], [], 0⟩ [((r527_0.2 : Int) == 0) = true, ((r528_0.1 : Int) != 0) = false, FnOK Go.Proofs.Try.prog 49 (f49_broughamref07_Same_in s_0 s_1 s_2 s_3 s_4 s_5 s_6 r528_0.2.1 r528_0.2.2.1 r528_0.2.2.2.1 r528_0.2.2.2.2.1 r528_0.2.2.2.2.2.1 r528_0.2.2.2.2.2.2.1 r528_0.2.2.2.2.2.2.2) (f49_broughamref07_Same_out r529_0), (!r529_0) = true] (by kernel_rfl) ⟨b529_2, b529_5, (f49_broughamref07_Same_ok n s_0 s_1 s_2 s_3 s_4 s_5 s_6 r528_0.2.1 r528_0.2.2.1 r528_0.2.2.2.1 r528_0.2.2.2.2.1 r528_0.2.2.2.2.2.1 r528_0.2.2.2.2.2.2.1 r528_0.2.2.2.2.2.2.2 r529_0 cr529_0), b529_e0, trivial⟩ ?_
            have h := Option.some.inj h
            subst h
            exact At.fin hm ht ⟨[], [], [], [4], []⟩ [] (by kernel_rfl) trivial
          · refine At.step hm ht ⟨[(2, .b true), (5, .b false), (8, .call [] [] (f49_broughamref07_Same_out r529_0))], [false], [], [1], []⟩ 7 ⟨[(1, .one (.c (.d (.sl (.int .u8) b))))], [], [], 0⟩ [((r527_0.2 : Int) == 0) = true, ((r528_0.1 : Int) != 0) = false, FnOK Go.Proofs.Try.prog 49 (f49_broughamref07_Same_in s_0 s_1 s_2 s_3 s_4 s_5 s_6 r528_0.2.1 r528_0.2.2.1 r528_0.2.2.2.1 r528_0.2.2.2.2.1 r528_0.2.2.2.2.2.1 r528_0.2.2.2.2.2.2.1 r528_0.2.2.2.2.2.2.2) (f49_broughamref07_Same_out r529_0), (!r529_0) = false] (by kernel_rfl) ⟨b529_2, b529_5, (f49_broughamref07_Same_ok n s_0 s_1 s_2 s_3 s_4 s_5 s_6 r528_0.2.1 r528_0.2.2.1 r528_0.2.2.2.1 r528_0.2.2.2.2.1 r528_0.2.2.2.2.2.1 r528_0.2.2.2.2.2.2.1 r528_0.2.2.2.2.2.2.2 r529_0 cr529_0), b529_e0, trivial⟩ ?_
            obtain ⟨r532_0, cr532_0, h⟩ := bindS h
            refine At.step hm ht ⟨[(1, .call [] [] (f47_seg_Parse_out r532_0))], [], [], [1, 9, 10], [7, 2, 3]⟩ 8 ⟨[(1, .one (.c (.d (.sl (.int .u8) b)))), (9, .one (.c (.ptr 0 0))), (10, .one (.c (.d (.int .i64 r532_0.1))))], [(1, some ⟨30, 0⟩), (2, some ⟨5, 0⟩)], [(0, [.d (.int .u16 r532_0.2.1), .d (.int .u16 r532_0.2.2.1), .d (.int .u32 r532_0.2.2.2.1), .d (.int .u32 r532_0.2.2.2.2.1), .d (.int .u8 r532_0.2.2.2.2.2.1), .own 1 (.pair (.int .u8) (.slice (.int .u8))) r532_0.2.2.2.2.2.2.1, .own 2 (.int .u8) r532_0.2.2.2.2.2.2.2])], 3⟩ [FnOK Go.Proofs.Try.prog 47 (f47_seg_Parse_in b) (f47_seg_Parse_out r532_0), 0 + 7 ≤ 7] (by kernel_rfl) ⟨(f47_seg_Parse_ok n b r532_0 cr532_0), (by decide), trivial⟩ ?_
            obtain ⟨r533_0, cr533_0, h⟩ := bindS h
            refine At.step hm ht ⟨[(1, .call [] [] (f40_seg_Encode_out r533_0))], [], [], [1, 10, 11, 12], [4]⟩ 9 ⟨[(1, .one (.c (.d (.sl (.int .u8) b)))), (10, .one (.c (.d (.int .i64 r532_0.1)))), (11, .one (.c (.own 0 (.int .u8) r533_0.1))), (12, .one (.c (.d (.int .i64 r533_0.2))))], [(0, some ⟨5, 0⟩)], [], 1⟩ [FnOK Go.Proofs.Try.prog 40 (f40_seg_Encode_in r532_0.2.1 r532_0.2.2.1 r532_0.2.2.2.1 r532_0.2.2.2.2.1 r532_0.2.2.2.2.2.1 r532_0.2.2.2.2.2.2.1 r532_0.2.2.2.2.2.2.2) (f40_seg_Encode_out r533_0)] (by kernel_rfl) ⟨(f40_seg_Encode_ok n r532_0.2.1 r532_0.2.2.1 r532_0.2.2.2.1 r532_0.2.2.2.2.1 r532_0.2.2.2.2.2.1 r532_0.2.2.2.2.2.2.1 r532_0.2.2.2.2.2.2.2 r533_0 cr533_0), trivial⟩ ?_
            rcases iteS h with ⟨b534_2, h⟩ | ⟨b534_2, h⟩
            · obtain ⟨r534_0, cr534_0, h⟩ := bindS h
              have h := Option.some.inj h
              subst h
              exact At.fin hm ht ⟨[(2, .b true), (14, .call [] [] (f46_broughamlaw07_alive_out r534_0))], [], [], [4], []⟩ [((r532_0.1 : Int) != 0) = true, FnOK Go.Proofs.Try.prog 46 (f46_broughamlaw07_alive_in) (f46_broughamlaw07_alive_out r534_0)] (by kernel_rfl) ⟨b534_2, (f46_broughamlaw07_alive_ok n r534_0 cr534_0), trivial⟩
            · rcases iteS h with ⟨b534_5, h⟩ | ⟨b534_5, h⟩
              · rcases iteS h with ⟨b534_13, h⟩ | ⟨b534_13, h⟩
                · obtain ⟨r534_0, cr534_0, h⟩ := bindS h
                  have h := Option.some.inj h
                  subst h
                  exact At.fin hm ht ⟨[(2, .b false), (5, .b true), (13, .b true), (14, .call [] [] (f46_broughamlaw07_alive_out r534_0))], [], [], [4], []⟩ [((r532_0.1 : Int) != 0) = false, ((r533_0.2 : Int) == 0) = true, ((strOfNums r533_0.1).toList == (strOfNums b).toList) = true, FnOK Go.Proofs.Try.prog 46 (f46_broughamlaw07_alive_in) (f46_broughamlaw07_alive_out r534_0)] (by kernel_rfl) ⟨b534_2, b534_5, b534_13, (f46_broughamlaw07_alive_ok n r534_0 cr534_0), trivial⟩
                · have h := Option.some.inj h
                  subst h
                  exact At.fin hm ht ⟨[(2, .b false), (5, .b true), (13, .b false)], [], [], [4], []⟩ [((r532_0.1 : Int) != 0) = false, ((r533_0.2 : Int) == 0) = true, ((strOfNums r533_0.1).toList == (strOfNums b).toList) = false] (by kernel_rfl) ⟨b534_2, b534_5, b534_13, trivial⟩
              · have h := Option.some.inj h
                subst h
                exact At.fin hm ht ⟨[(2, .b false), (5, .b false)], [], [], [4], []⟩ [((r532_0.1 : Int) != 0) = false, ((r533_0.2 : Int) == 0) = false] (by kernel_rfl) ⟨b534_2, b534_5, trivial⟩
      · refine At.step hm ht ⟨[(2, .b false)], [false], [], [1], []⟩ 7 ⟨[(1, .one (.c (.d (.sl (.int .u8) b))))], [], [], 0⟩ [((r527_0.2 : Int) == 0) = false, false = false] (by kernel_rfl) ⟨b529_2, rfl, trivial⟩ ?_
        obtain ⟨r535_0, cr535_0, h⟩ := bindS h
        refine At.step hm ht ⟨[(1, .call [] [] (f47_seg_Parse_out r535_0))], [], [], [1, 9, 10], [7, 2, 3]⟩ 8 ⟨[(1, .one (.c (.d (.sl (.int .u8) b)))), (9, .one (.c (.ptr 0 0))), (10, .one (.c (.d (.int .i64 r535_0.1))))], [(1, some ⟨30, 0⟩), (2, some ⟨5, 0⟩)], [(0, [.d (.int .u16 r535_0.2.1), .d (.int .u16 r535_0.2.2.1), .d (.int .u32 r535_0.2.2.2.1), .d (.int .u32 r535_0.2.2.2.2.1), .d (.int .u8 r535_0.2.2.2.2.2.1), .own 1 (.pair (.int .u8) (.slice (.int .u8))) r535_0.2.2.2.2.2.2.1, .own 2 (.int .u8) r535_0.2.2.2.2.2.2.2])], 3⟩ [FnOK Go.Proofs.Try.prog 47 (f47_seg_Parse_in b) (f47_seg_Parse_out r535_0), 0 + 7 ≤ 7] (by kernel_rfl) ⟨(f47_seg_Parse_ok n b r535_0 cr535_0), (by decide), trivial⟩ ?_
        obtain ⟨r536_0, cr536_0, h⟩ := bindS h
        refine At.step hm ht ⟨[(1, .call [] [] (f40_seg_Encode_out r536_0))], [], [], [1, 10, 11, 12], [4]⟩ 9 ⟨[(1, .one (.c (.d (.sl (.int .u8) b)))), (10, .one (.c (.d (.int .i64 r535_0.1)))), (11, .one (.c (.own 0 (.int .u8) r536_0.1))), (12, .one (.c (.d (.int .i64 r536_0.2))))], [(0, some ⟨5, 0⟩)], [], 1⟩ [FnOK Go.Proofs.Try.prog 40 (f40_seg_Encode_in r535_0.2.1 r535_0.2.2.1 r535_0.2.2.2.1 r535_0.2.2.2.2.1 r535_0.2.2.2.2.2.1 r535_0.2.2.2.2.2.2.1 r535_0.2.2.2.2.2.2.2) (f40_seg_Encode_out r536_0)] (by kernel_rfl) ⟨(f40_seg_Encode_ok n r535_0.2.1 r535_0.2.2.1 r535_0.2.2.2.1 r535_0.2.2.2.2.1 r535_0.2.2.2.2.2.1 r535_0.2.2.2.2.2.2.1 r535_0.2.2.2.2.2.2.2 r536_0 cr536_0), trivial⟩ ?_
        rcases iteS h with ⟨b537_2, h⟩ | ⟨b537_2, h⟩
        · obtain ⟨r537_0, cr537_0, h⟩ := bindS h
          have h := Option.some.inj h
          subst h
          exact At.fin hm ht ⟨[(2, .b true), (14, .call [] [] (f46_broughamlaw07_alive_out r537_0))], [], [], [4], []⟩ [((r535_0.1 : Int) != 0) = true, FnOK Go.Proofs.Try.prog 46 (f46_broughamlaw07_alive_in) (f46_broughamlaw07_alive_out r537_0)] (by kernel_rfl) ⟨b537_2, (f46_broughamlaw07_alive_ok n r537_0 cr537_0), trivial⟩
        · rcases iteS h with ⟨b537_5, h⟩ | ⟨b537_5, h⟩
          · rcases iteS h with ⟨b537_13, h⟩ | ⟨b537_13, h⟩
            · obtain ⟨r537_0, cr537_0, h⟩ := bindS h
              have h := Option.some.inj h
              subst h
              exact At.fin hm ht ⟨[(2, .b false), (5, .b true), (13, .b true), (14, .call [] [] (f46_broughamlaw07_alive_out r537_0))], [], [], [4], []⟩ [((r535_0.1 : Int) != 0) = false, ((r536_0.2 : Int) == 0) = true, ((strOfNums r536_0.1).toList == (strOfNums b).toList) = true, FnOK Go.Proofs.Try.prog 46 (f46_broughamlaw07_alive_in) (f46_broughamlaw07_alive_out r537_0)] (by kernel_rfl) ⟨b537_2, b537_5, b537_13, (f46_broughamlaw07_alive_ok n r537_0 cr537_0), trivial⟩
            · have h := Option.some.inj h
              subst h
              exact At.fin hm ht ⟨[(2, .b false), (5, .b true), (13, .b false)], [], [], [4], []⟩ [((r535_0.1 : Int) != 0) = false, ((r536_0.2 : Int) == 0) = true, ((strOfNums r536_0.1).toList == (strOfNums b).toList) = false] (by kernel_rfl) ⟨b537_2, b537_5, b537_13, trivial⟩
          · have h := Option.some.inj h
            subst h
            exact At.fin hm ht ⟨[(2, .b false), (5, .b false)], [], [], [4], []⟩ [((r535_0.1 : Int) != 0) = false, ((r536_0.2 : Int) == 0) = false] (by kernel_rfl) ⟨b537_2, b537_5, trivial⟩
end Go.Proofs.YtddglebabaaghaaF07
