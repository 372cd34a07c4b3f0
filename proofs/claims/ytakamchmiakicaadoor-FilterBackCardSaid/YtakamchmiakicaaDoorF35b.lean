/- What the functions compute, and that they do: printed by a program of this session (zgen.py), proved by Zed. -/
import Derived.Test.YtakamchmiakicaaDoorProg
import Derived.Test.YtakamchmiakicaaDoorZedYa
import Derived.Test.YtakamchmiakicaaDoorLeaf
import Derived.Test.YtakamchmiakicaaDoorDfr
namespace Go.Proofs.YtakamchmiakicaaDoorF35b
open Go Zed Go.Proofs.YtakamchmiakicaaDoorLeaf Go.Proofs.YtakamchmiakicaaDoorDfr
set_option maxRecDepth 100000
set_option linter.unusedVariables false
def tab : Tab := [(3, ⟨.int .i64, 1, 8, [.int .i64 0], some (.int .i64), none⟩), (4, ⟨.bool, 1, 1, [.bool false], some .bool, none⟩), (5, ⟨.int .u8, 1, 1, [.int .u8 0], some (.int .u8), none⟩), (9, ⟨.str, 1, 16, [.str (⟨#[]⟩ : ByteArray)], some .str, none⟩), (23, ⟨.int .i64, 1, 8, [.int .i64 0], some (.int .i64), none⟩), (31, ⟨.slice 9, 1, 24, [.sl .unit []], some (.slice .str), none⟩), (37, ⟨.ptr 68, 1, 8, [.nilP], some .tree, none⟩), (40, ⟨.slice 42, 1, 24, [.sl .unit []], some .wood, none⟩), (42, ⟨.struct [(0, 3), (1, 3), (2, 40)], 3, 40, [.int .i64 0, .int .i64 0, .sl .unit []], some (.pair (.int .i64) (.pair (.int .i64) .wood)), some [(0, 3), (1, 3), (2, 40)]⟩), (51, ⟨.int .u16, 1, 2, [.int .u16 0], some (.int .u16), none⟩), (52, ⟨.int .u32, 1, 4, [.int .u32 0], some (.int .u32), none⟩), (53, ⟨.slice 97, 1, 24, [.sl .unit []], some (.slice (.pair (.int .u8) (.slice (.int .u8)))), none⟩), (54, ⟨.slice 5, 1, 24, [.sl .unit []], some (.slice (.int .u8)), none⟩), (56, ⟨.struct [(0, 51), (1, 51), (2, 52), (3, 52), (4, 5), (5, 53), (6, 54)], 7, 64, [.int .u16 0, .int .u16 0, .int .u32 0, .int .u32 0, .int .u8 0, .sl .unit [], .sl .unit []], some (.pair (.int .u16) (.pair (.int .u16) (.pair (.int .u32) (.pair (.int .u32) (.pair (.int .u8) (.pair (.slice (.pair (.int .u8) (.slice (.int .u8)))) (.slice (.int .u8)))))))), some [(0, 51), (1, 51), (2, 52), (3, 52), (4, 5), (5, 53), (6, 54)]⟩), (66, ⟨.int .i64, 1, 8, [.int .i64 0], some (.int .i64), none⟩), (68, ⟨.struct [(0, 66), (1, 3), (2, 37), (3, 37)], 4, 32, [.int .i64 0, .int .i64 0, .nilP, .nilP], some (.pair (.int .i64) (.pair (.int .i64) (.pair .tree .tree))), some [(0, 66), (1, 3), (2, 37), (3, 37)]⟩), (91, ⟨.ptr 93, 1, 8, [.nilP], none, none⟩), (93, ⟨.struct [(0, 31), (1, 3), (2, 4)], 3, 40, [.sl .unit [], .int .i64 0, .bool false], some (.pair (.slice .str) (.pair (.int .i64) .bool)), some [(0, 31), (1, 3), (2, 4)]⟩), (97, ⟨.struct [(0, 5), (1, 54)], 2, 32, [.int .u8 0, .sl .unit []], some (.pair (.int .u8) (.slice (.int .u8))), some [(0, 5), (1, 54)]⟩)]
theorem ht : TabOk Go.Proofs.Tryd.prog tab := tabOk_of (ts := [3, 4, 5, 9, 23, 31, 37, 40, 42, 51, 52, 53, 54, 56, 66, 68, 91, 93, 97]) (by kernel_rfl)
theorem hm : Go.Proofs.Tryd.prog.follows .mixedOrders = true := by kernel_rfl
abbrev zi (n : Int) : Z1 := .d (.int .i64 n)
abbrev oc (z : Z1) : Z := .one (.c z)
/-! brougham/broughamlaw35.parts -/
def f37_broughamlaw35_parts_in (f_0 : Int) (f_1 : Int) (f_2 : List (Int × Int × List FT)) (most : Int) : Inn := ⟨[.agg [zi f_0, zi f_1, .d (.sl (.pair (.int .i64) (.pair (.int .i64) .wood)) f_2)], .c (zi most)], [], [], 0⟩
def f37_broughamlaw35_parts_out (r : Int) : Out := ⟨oc (zi r), [], [], 0⟩
def f37_broughamlaw35_parts_L5 (rc_f37_broughamlaw35_parts : Int → Int → (List (Int × Int × List FT)) → Int → Option (Int)) : Nat → Int → Int → Int → Int → Int → (List (Int × Int × List FT)) → Option (Int)
  | 0, _, _, _, _, _, _ => none
  | n + 1, most, n_, i, f_0, f_1, f_2 =>
    if (decide ((i : Int) < ((f_2.length : Nat) : Int))) = true then
      if (decide ((n_ : Int) ≤ most)) = true then
        if (0 : Int) ≤ i ∧ i < (((f_2).length : Nat) : Int) then
        (rc_f37_broughamlaw35_parts ((f_2.getD i.toNat (0, (0, []))).1) (((f_2.getD i.toNat (0, (0, []))).2).1) ((((f_2.getD i.toNat (0, (0, []))).2).2).map FT.un) most).bind fun r11_1 =>
        f37_broughamlaw35_parts_L5 rc_f37_broughamlaw35_parts n most (IntKind.wrap .i64 (n_ + r11_1)) (IntKind.wrap .i64 (i + 1)) f_0 f_1 f_2
        else none
      else
        some (n_)
    else
      some (n_)
def f37_broughamlaw35_parts_L5_k (e : Int) (o : Out) : Prop := At Tryd.prog Tryd.f37 0 8 ⟨[(5, oc (zi e))], [], [], 0⟩ o
theorem f37_broughamlaw35_parts_L5_ok (rc_f37_broughamlaw35_parts : Int → Int → (List (Int × Int × List FT)) → Int → Option (Int)) (hrc_f37_broughamlaw35_parts : ∀ (f_0 : Int) (f_1 : Int) (f_2 : List (Int × Int × List FT)) (most : Int) (r : Int) (h : rc_f37_broughamlaw35_parts f_0 f_1 f_2 most = some r), FnOK Tryd.prog 37 (f37_broughamlaw35_parts_in f_0 f_1 f_2 most) (f37_broughamlaw35_parts_out r)) (n : Nat) : ∀ (most : Int) (n_ : Int) (i : Int) (f_0 : Int) (f_1 : Int) (f_2 : List (Int × Int × List FT)) (w : Int) (h : f37_broughamlaw35_parts_L5 rc_f37_broughamlaw35_parts n most n_ i f_0 f_1 f_2 = some w) (o : Out) (hk : f37_broughamlaw35_parts_L5_k w o), At Tryd.prog Tryd.f37 0 5 ⟨[(1, oc (zi most)), (2, oc (.ptr 0 0)), (5, oc (zi n_)), (6, oc (zi i))], [], [(0, [zi f_0, zi f_1, .d (.sl (.pair (.int .i64) (.pair (.int .i64) .wood)) f_2)])], 1⟩ o := by
  induction n with
  | zero => intro most n_ i f_0 f_1 f_2 w h; rw [f37_broughamlaw35_parts_L5] at h; cases h
  | succ n ih =>
    intro most n_ i f_0 f_1 f_2 w h o hk
    rw [f37_broughamlaw35_parts_L5] at h
    rcases iteS h with ⟨b10_5, h⟩ | ⟨b10_5, h⟩
    · rcases iteS h with ⟨b10_e0, h⟩ | ⟨b10_e0, h⟩
      · refine At.step hm ht ⟨[(5, .b true)], [true], [], [1, 2, 5, 6], [0]⟩ 7 ⟨[(1, oc (zi most)), (2, oc (.ptr 0 0)), (5, oc (zi n_)), (6, oc (zi i))], [], [(0, [zi f_0, zi f_1, .d (.sl (.pair (.int .i64) (.pair (.int .i64) .wood)) f_2)])], 1⟩ [(decide ((i : Int) < ((f_2.length : Nat) : Int))) = true, (decide ((n_ : Int) ≤ most)) = true] (by kernel_rfl) ⟨b10_5, b10_e0, trivial⟩ ?_
        obtain ⟨g11_0, h⟩ := ifS h
        obtain ⟨r11_1, cr11_1, h⟩ := bindS h
        refine At.step hm ht ⟨[(7, .call [] [] (f37_broughamlaw35_parts_out r11_1))], [], [], [1, 2, 5, 6], [0]⟩ 6 ⟨[(1, oc (zi most)), (2, oc (.ptr 0 0)), (5, oc (zi (IntKind.wrap .i64 (n_ + r11_1)))), (6, oc (zi i))], [], [(0, [zi f_0, zi f_1, .d (.sl (.pair (.int .i64) (.pair (.int .i64) .wood)) f_2)])], 1⟩ [(0 : Int) ≤ i ∧ i < (((f_2).length : Nat) : Int), FnOK Tryd.prog 37 (f37_broughamlaw35_parts_in ((f_2.getD i.toNat (0, (0, []))).1) (((f_2.getD i.toNat (0, (0, []))).2).1) ((((f_2.getD i.toNat (0, (0, []))).2).2).map FT.un) most) (f37_broughamlaw35_parts_out r11_1)] (by kernel_rfl) ⟨g11_0, (hrc_f37_broughamlaw35_parts ((f_2.getD i.toNat (0, (0, []))).1) (((f_2.getD i.toNat (0, (0, []))).2).1) ((((f_2.getD i.toNat (0, (0, []))).2).2).map FT.un) most r11_1 cr11_1), trivial⟩ ?_
        refine At.step hm ht ⟨[], [], [], [1, 2, 5, 6], [0]⟩ 5 ⟨[(1, oc (zi most)), (2, oc (.ptr 0 0)), (5, oc (zi (IntKind.wrap .i64 (n_ + r11_1)))), (6, oc (zi (IntKind.wrap .i64 (i + 1))))], [], [(0, [zi f_0, zi f_1, .d (.sl (.pair (.int .i64) (.pair (.int .i64) .wood)) f_2)])], 1⟩ [] (by kernel_rfl) trivial ?_
        exact ih most (IntKind.wrap .i64 (n_ + r11_1)) (IntKind.wrap .i64 (i + 1)) f_0 f_1 f_2 w h o hk
      · refine At.step hm ht ⟨[(5, .b true)], [false], [], [5], []⟩ 8 ⟨[(5, oc (zi n_))], [], [], 0⟩ [(decide ((i : Int) < ((f_2.length : Nat) : Int))) = true, (decide ((n_ : Int) ≤ most)) = false] (by kernel_rfl) ⟨b10_5, b10_e0, trivial⟩ ?_
        have h := Option.some.inj h
        subst h
        exact hk
    · refine At.step hm ht ⟨[(5, .b false)], [false], [], [5], []⟩ 8 ⟨[(5, oc (zi n_))], [], [], 0⟩ [(decide ((i : Int) < ((f_2.length : Nat) : Int))) = false, false = false] (by kernel_rfl) ⟨b10_5, rfl, trivial⟩ ?_
      have h := Option.some.inj h
      subst h
      exact hk
def f37_broughamlaw35_parts : Nat → Int → Int → (List (Int × Int × List FT)) → Int → Option (Int)
  | 0, _, _, _, _ => none
  | n + 1, f_0, f_1, f_2, most =>
    if (decide ((((f_2.length : Nat) : Int) : Int) > 2)) = true then
      some (IntKind.wrap .i64 (most + 1))
    else
      (f37_broughamlaw35_parts_L5 (f37_broughamlaw35_parts n) n most 1 0 f_0 f_1 f_2).bind fun w13 =>
      some w13
theorem f37_broughamlaw35_parts_ok (n : Nat) : ∀ (f_0 : Int) (f_1 : Int) (f_2 : List (Int × Int × List FT)) (most : Int) (r : Int) (h : f37_broughamlaw35_parts n f_0 f_1 f_2 most = some r), FnOK Tryd.prog 37 (f37_broughamlaw35_parts_in f_0 f_1 f_2 most) (f37_broughamlaw35_parts_out r) := by
  induction n with
  | zero => intro f_0 f_1 f_2 most r h; rw [f37_broughamlaw35_parts] at h; cases h
  | succ n ih =>
    intro f_0 f_1 f_2 most r h
    rw [f37_broughamlaw35_parts] at h
    refine At.fn (r := 0) Tryd.func37 rfl (by kernel_rfl) rfl rfl (by kernel_rfl) ?_
    show At Tryd.prog Tryd.f37 0 0 ⟨[(0, .one (.agg [zi f_0, zi f_1, .d (.sl (.pair (.int .i64) (.pair (.int .i64) .wood)) f_2)])), (1, oc (zi most))], [], [], 0⟩ _
    refine At.step hm ht ⟨[], [], [], [1, 2], [0]⟩ 1 ⟨[(1, oc (zi most)), (2, oc (.ptr 0 0))], [], [(0, [zi f_0, zi f_1, .d (.sl (.pair (.int .i64) (.pair (.int .i64) .wood)) f_2)])], 1⟩ [] (by kernel_rfl) trivial ?_
    refine At.step hm ht ⟨[], [], [], [1, 2, 5], [0]⟩ 2 ⟨[(1, oc (zi most)), (2, oc (.ptr 0 0)), (5, oc (zi 1))], [], [(0, [zi f_0, zi f_1, .d (.sl (.pair (.int .i64) (.pair (.int .i64) .wood)) f_2)])], 1⟩ [] (by kernel_rfl) trivial ?_
    rcases iteS h with ⟨b7_e0, h⟩ | ⟨b7_e0, h⟩
    · refine At.step hm ht ⟨[], [true], [], [1], []⟩ 3 ⟨[(1, oc (zi most))], [], [], 0⟩ [(decide ((((f_2.length : Nat) : Int) : Int) > 2)) = true] (by kernel_rfl) ⟨b7_e0, trivial⟩ ?_
      have h := Option.some.inj h
      subst h
      exact At.fin hm ht ⟨[], [], [], [4], []⟩ [] (by kernel_rfl) trivial
    · refine At.step hm ht ⟨[], [false], [], [1, 2, 5], [0]⟩ 4 ⟨[(1, oc (zi most)), (2, oc (.ptr 0 0)), (5, oc (zi 1))], [], [(0, [zi f_0, zi f_1, .d (.sl (.pair (.int .i64) (.pair (.int .i64) .wood)) f_2)])], 1⟩ [(decide ((((f_2.length : Nat) : Int) : Int) > 2)) = false] (by kernel_rfl) ⟨b7_e0, trivial⟩ ?_
      refine At.step hm ht ⟨[], [], [], [1, 2, 5, 6], [0]⟩ 5 ⟨[(1, oc (zi most)), (2, oc (.ptr 0 0)), (5, oc (zi 1)), (6, oc (zi 0))], [], [(0, [zi f_0, zi f_1, .d (.sl (.pair (.int .i64) (.pair (.int .i64) .wood)) f_2)])], 1⟩ [] (by kernel_rfl) trivial ?_
      obtain ⟨w13, cw13, h⟩ := bindS h
      refine f37_broughamlaw35_parts_L5_ok (f37_broughamlaw35_parts n) ih n most 1 0 f_0 f_1 f_2 w13 cw13 _ ?_
      show At Tryd.prog Tryd.f37 0 8 ⟨[(5, oc (zi w13))], [], [], 0⟩ _
      have h := Option.some.inj h
      subst h
      exact At.fin hm ht ⟨[], [], [], [4], []⟩ [] (by kernel_rfl) trivial
/-! brougham/broughamlaw35.great -/
def f26_broughamlaw35_great_in (f_0 : Int) (f_1 : Int) (f_2 : List (Int × Int × List FT)) : Inn := ⟨[.agg [zi f_0, zi f_1, .d (.sl (.pair (.int .i64) (.pair (.int .i64) .wood)) f_2)]], [], [], 0⟩
def f26_broughamlaw35_great_out (r : Bool) : Out := ⟨oc (.d (.bool r)), [], [], 0⟩
def f26_broughamlaw35_great (n : Nat) (f_0 : Int) (f_1 : Int) (f_2 : List (Int × Int × List FT)) : Option (Bool) :=
  (f37_broughamlaw35_parts n f_0 f_1 f_2 200).bind fun r4_0 =>
  some (decide ((r4_0 : Int) > 200))
theorem f26_broughamlaw35_great_ok (n : Nat) (f_0 : Int) (f_1 : Int) (f_2 : List (Int × Int × List FT)) (r : Bool) (h : f26_broughamlaw35_great n f_0 f_1 f_2 = some r) : FnOK Tryd.prog 26 (f26_broughamlaw35_great_in f_0 f_1 f_2) (f26_broughamlaw35_great_out r) := by
  unfold f26_broughamlaw35_great at h
  refine At.fn (r := 0) Tryd.func26 rfl (by kernel_rfl) rfl rfl (by kernel_rfl) ?_
  show At Tryd.prog Tryd.f26 0 0 ⟨[(0, .one (.agg [zi f_0, zi f_1, .d (.sl (.pair (.int .i64) (.pair (.int .i64) .wood)) f_2)]))], [], [], 0⟩ _
  refine At.step hm ht ⟨[], [], [], [1], [0]⟩ 1 ⟨[(1, oc (.ptr 0 0))], [], [(0, [zi f_0, zi f_1, .d (.sl (.pair (.int .i64) (.pair (.int .i64) .wood)) f_2)])], 1⟩ [] (by kernel_rfl) trivial ?_
  obtain ⟨r4_0, cr4_0, h⟩ := bindS h
  have h := Option.some.inj h
  subst h
  exact At.fin hm ht ⟨[(1, .call [] [] (f37_broughamlaw35_parts_out r4_0))], [], [], [2], []⟩ [FnOK Tryd.prog 37 (f37_broughamlaw35_parts_in f_0 f_1 f_2 200) (f37_broughamlaw35_parts_out r4_0)] (by kernel_rfl) ⟨(f37_broughamlaw35_parts_ok n f_0 f_1 f_2 200 r4_0 cr4_0), trivial⟩
/-! brougham/broughamlaw35.Made -/
def f28_broughamlaw35_Made_in (f_0 : Int) (f_1 : Int) (f_2 : List (Int × Int × List FT)) : Inn := ⟨[.agg [zi f_0, zi f_1, .d (.sl (.pair (.int .i64) (.pair (.int .i64) .wood)) f_2)]], [], [], 0⟩
def f28_broughamlaw35_Made_out (r : PT) : Out := ⟨oc (.d (.pt r)), [], [], 0⟩
def f28_broughamlaw35_Made : Nat → Int → Int → (List (Int × Int × List FT)) → Option (PT)
  | 0, _, _, _ => none
  | n + 1, f_0, f_1, f_2 =>
    if (decide ((((f_2.length : Nat) : Int) : Int) > 0)) = true then
      if (0 : Int) ≤ 0 ∧ 0 < (((f_2).length : Nat) : Int) then
      ((f28_broughamlaw35_Made n) ((f_2.getD 0 (0, (0, []))).1) (((f_2.getD 0 (0, (0, []))).2).1) ((((f_2.getD 0 (0, (0, []))).2).2).map FT.un)).bind fun r29_1 =>
      if (decide ((((f_2.length : Nat) : Int) : Int) > 1)) = true then
        if (0 : Int) ≤ 1 ∧ 1 < (((f_2).length : Nat) : Int) then
        ((f28_broughamlaw35_Made n) ((f_2.getD 1 (0, (0, []))).1) (((f_2.getD 1 (0, (0, []))).2).1) ((((f_2.getD 1 (0, (0, []))).2).2).map FT.un)).bind fun r31_1 =>
        some (PT.node f_0 f_1 r29_1 r31_1)
        else none
      else
        some (PT.node f_0 f_1 r29_1 PT.nil)
      else none
    else
      if (decide ((((f_2.length : Nat) : Int) : Int) > 1)) = true then
        if (0 : Int) ≤ 1 ∧ 1 < (((f_2).length : Nat) : Int) then
        ((f28_broughamlaw35_Made n) ((f_2.getD 1 (0, (0, []))).1) (((f_2.getD 1 (0, (0, []))).2).1) ((((f_2.getD 1 (0, (0, []))).2).2).map FT.un)).bind fun r35_1 =>
        some (PT.node f_0 f_1 PT.nil r35_1)
        else none
      else
        some (PT.node f_0 f_1 PT.nil PT.nil)
theorem f28_broughamlaw35_Made_ok (n : Nat) : ∀ (f_0 : Int) (f_1 : Int) (f_2 : List (Int × Int × List FT)) (r : PT) (h : f28_broughamlaw35_Made n f_0 f_1 f_2 = some r), FnOK Tryd.prog 28 (f28_broughamlaw35_Made_in f_0 f_1 f_2) (f28_broughamlaw35_Made_out r) := by
  induction n with
  | zero => intro f_0 f_1 f_2 r h; rw [f28_broughamlaw35_Made] at h; cases h
  | succ n ih =>
    intro f_0 f_1 f_2 r h
    rw [f28_broughamlaw35_Made] at h
    refine At.fn (r := 0) Tryd.func28 rfl (by kernel_rfl) rfl rfl (by kernel_rfl) ?_
    show At Tryd.prog Tryd.f28 0 0 ⟨[(0, .one (.agg [zi f_0, zi f_1, .d (.sl (.pair (.int .i64) (.pair (.int .i64) .wood)) f_2)]))], [], [], 0⟩ _
    refine At.step hm ht ⟨[], [], [.nilpt 2], [1], [0]⟩ 1 ⟨[(1, oc (.ptr 0 0))], [], [(0, [zi f_0, zi f_1, .d (.sl (.pair (.int .i64) (.pair (.int .i64) .wood)) f_2)])], 1⟩ [] (by kernel_rfl) trivial ?_
    refine At.step hm ht ⟨[], [], [], [1, 3], [0, 6]⟩ 2 ⟨[(1, oc (.ptr 0 0)), (3, oc (.ptr 1 0))], [], [(0, [zi f_0, zi f_1, .d (.sl (.pair (.int .i64) (.pair (.int .i64) .wood)) f_2)]), (1, [zi f_0, zi f_1, .d (.nilP), .d (.nilP)])], 2⟩ [] (by kernel_rfl) trivial ?_
    rcases iteS h with ⟨b28_e0, h⟩ | ⟨b28_e0, h⟩
    · refine At.step hm ht ⟨[], [true], [], [1, 3], [0, 1]⟩ 3 ⟨[(1, oc (.ptr 0 0)), (3, oc (.ptr 1 0))], [], [(0, [zi f_0, zi f_1, .d (.sl (.pair (.int .i64) (.pair (.int .i64) .wood)) f_2)]), (1, [zi f_0, zi f_1, .d (.nilP), .d (.nilP)])], 2⟩ [(decide ((((f_2.length : Nat) : Int) : Int) > 0)) = true] (by kernel_rfl) ⟨b28_e0, trivial⟩ ?_
      obtain ⟨g29_0, h⟩ := ifS h
      obtain ⟨r29_1, cr29_1, h⟩ := bindS h
      refine At.step hm ht ⟨[(5, .call [] [] (f28_broughamlaw35_Made_out r29_1))], [], [], [1, 3], [0, 1]⟩ 4 ⟨[(1, oc (.ptr 0 0)), (3, oc (.ptr 1 0))], [], [(0, [zi f_0, zi f_1, .d (.sl (.pair (.int .i64) (.pair (.int .i64) .wood)) f_2)]), (1, [zi f_0, zi f_1, .d (.pt r29_1), .d (.nilP)])], 2⟩ [(0 : Int) ≤ 0 ∧ 0 < (((f_2).length : Nat) : Int), FnOK Tryd.prog 28 (f28_broughamlaw35_Made_in ((f_2.getD 0 (0, (0, []))).1) (((f_2.getD 0 (0, (0, []))).2).1) ((((f_2.getD 0 (0, (0, []))).2).2).map FT.un)) (f28_broughamlaw35_Made_out r29_1), 2 + 1 ≤ 4] (by kernel_rfl) ⟨g29_0, (ih ((f_2.getD 0 (0, (0, []))).1) (((f_2.getD 0 (0, (0, []))).2).1) ((((f_2.getD 0 (0, (0, []))).2).2).map FT.un) r29_1 cr29_1), (by decide), trivial⟩ ?_
      rcases iteS h with ⟨b30_e0, h⟩ | ⟨b30_e0, h⟩
      · refine At.step hm ht ⟨[], [true], [], [1, 3], [0, 1]⟩ 5 ⟨[(1, oc (.ptr 0 0)), (3, oc (.ptr 1 0))], [], [(0, [zi f_0, zi f_1, .d (.sl (.pair (.int .i64) (.pair (.int .i64) .wood)) f_2)]), (1, [zi f_0, zi f_1, .d (.pt r29_1), .d (.nilP)])], 2⟩ [(decide ((((f_2.length : Nat) : Int) : Int) > 1)) = true] (by kernel_rfl) ⟨b30_e0, trivial⟩ ?_
        obtain ⟨g31_0, h⟩ := ifS h
        obtain ⟨r31_1, cr31_1, h⟩ := bindS h
        refine At.step hm ht ⟨[(5, .call [] [] (f28_broughamlaw35_Made_out r31_1))], [], [], [3], [1]⟩ 6 ⟨[(3, oc (.ptr 0 0))], [], [(0, [zi f_0, zi f_1, .d (.pt r29_1), .d (.pt r31_1)])], 1⟩ [(0 : Int) ≤ 1 ∧ 1 < (((f_2).length : Nat) : Int), FnOK Tryd.prog 28 (f28_broughamlaw35_Made_in ((f_2.getD 1 (0, (0, []))).1) (((f_2.getD 1 (0, (0, []))).2).1) ((((f_2.getD 1 (0, (0, []))).2).2).map FT.un)) (f28_broughamlaw35_Made_out r31_1), 3 + 1 ≤ 4] (by kernel_rfl) ⟨g31_0, (ih ((f_2.getD 1 (0, (0, []))).1) (((f_2.getD 1 (0, (0, []))).2).1) ((((f_2.getD 1 (0, (0, []))).2).2).map FT.un) r31_1 cr31_1), (by decide), trivial⟩ ?_
        have h := Option.some.inj h
        subst h
        exact At.fin hm ht ⟨[], [], [.tree 0], [2], []⟩ [] (by kernel_rfl) trivial
      · refine At.step hm ht ⟨[], [false], [], [3], [1]⟩ 6 ⟨[(3, oc (.ptr 0 0))], [], [(0, [zi f_0, zi f_1, .d (.pt r29_1), .d (.nilP)])], 1⟩ [(decide ((((f_2.length : Nat) : Int) : Int) > 1)) = false] (by kernel_rfl) ⟨b30_e0, trivial⟩ ?_
        have h := Option.some.inj h
        subst h
        exact At.fin hm ht ⟨[], [], [.tree 0], [2], []⟩ [] (by kernel_rfl) trivial
    · refine At.step hm ht ⟨[], [false], [], [1, 3], [0, 1]⟩ 4 ⟨[(1, oc (.ptr 0 0)), (3, oc (.ptr 1 0))], [], [(0, [zi f_0, zi f_1, .d (.sl (.pair (.int .i64) (.pair (.int .i64) .wood)) f_2)]), (1, [zi f_0, zi f_1, .d (.nilP), .d (.nilP)])], 2⟩ [(decide ((((f_2.length : Nat) : Int) : Int) > 0)) = false] (by kernel_rfl) ⟨b28_e0, trivial⟩ ?_
      rcases iteS h with ⟨b34_e0, h⟩ | ⟨b34_e0, h⟩
      · refine At.step hm ht ⟨[], [true], [], [1, 3], [0, 1]⟩ 5 ⟨[(1, oc (.ptr 0 0)), (3, oc (.ptr 1 0))], [], [(0, [zi f_0, zi f_1, .d (.sl (.pair (.int .i64) (.pair (.int .i64) .wood)) f_2)]), (1, [zi f_0, zi f_1, .d (.nilP), .d (.nilP)])], 2⟩ [(decide ((((f_2.length : Nat) : Int) : Int) > 1)) = true] (by kernel_rfl) ⟨b34_e0, trivial⟩ ?_
        obtain ⟨g35_0, h⟩ := ifS h
        obtain ⟨r35_1, cr35_1, h⟩ := bindS h
        refine At.step hm ht ⟨[(5, .call [] [] (f28_broughamlaw35_Made_out r35_1))], [], [], [3], [1]⟩ 6 ⟨[(3, oc (.ptr 0 0))], [], [(0, [zi f_0, zi f_1, .d (.nilP), .d (.pt r35_1)])], 1⟩ [(0 : Int) ≤ 1 ∧ 1 < (((f_2).length : Nat) : Int), FnOK Tryd.prog 28 (f28_broughamlaw35_Made_in ((f_2.getD 1 (0, (0, []))).1) (((f_2.getD 1 (0, (0, []))).2).1) ((((f_2.getD 1 (0, (0, []))).2).2).map FT.un)) (f28_broughamlaw35_Made_out r35_1), 3 + 1 ≤ 4] (by kernel_rfl) ⟨g35_0, (ih ((f_2.getD 1 (0, (0, []))).1) (((f_2.getD 1 (0, (0, []))).2).1) ((((f_2.getD 1 (0, (0, []))).2).2).map FT.un) r35_1 cr35_1), (by decide), trivial⟩ ?_
        have h := Option.some.inj h
        subst h
        exact At.fin hm ht ⟨[], [], [.tree 0], [2], []⟩ [] (by kernel_rfl) trivial
      · refine At.step hm ht ⟨[], [false], [], [3], [1]⟩ 6 ⟨[(3, oc (.ptr 0 0))], [], [(0, [zi f_0, zi f_1, .d (.nilP), .d (.nilP)])], 1⟩ [(decide ((((f_2.length : Nat) : Int) : Int) > 1)) = false] (by kernel_rfl) ⟨b34_e0, trivial⟩ ?_
        have h := Option.some.inj h
        subst h
        exact At.fin hm ht ⟨[], [], [.tree 0], [2], []⟩ [] (by kernel_rfl) trivial
/-! brougham/filter.right -/
def f59_filter_right_in (f : PT) (left : Int) : Inn := ⟨[.c (.d (.pt f)), .c (zi left)], [], [], 0⟩
def f59_filter_right_out (r : Bool) : Out := ⟨oc (.d (.bool r)), [], [], 0⟩
def f59_filter_right_L13 (rc_f59_filter_right : PT → Int → Option (Bool)) : Nat → PT → Int → Int → Option (Bool)
  | 0, _, _, _ => none
  | n + 1, f, left, t14 =>
    if ((t14 : Int) == 6) = true then
      if PT.isNil f = false then
      if (decide (((PT.num f) : Int) ≥ 1)) = true then
        if PT.isNil f = false then
        if (decide (((PT.num f) : Int) ≤ 255)) = true then
          if PT.isNil f = false then
          if (PT.isNil (PT.fst f)) = true then
            if PT.isNil f = false then
            some ((PT.isNil (PT.snd f)))
            else none
          else
            some (false)
          else none
        else
          some (false)
        else none
      else
        some (false)
      else none
    else
      if ((t14 : Int) == 7) = true then
        if PT.isNil f = false then
        if (decide (((PT.num f) : Int) ≥ 0)) = true then
          if PT.isNil f = false then
          if (decide (((PT.num f) : Int) < 2147483648)) = true then
            if PT.isNil f = false then
            if (PT.isNil (PT.fst f)) = true then
              if PT.isNil f = false then
              some ((PT.isNil (PT.snd f)))
              else none
            else
              some (false)
            else none
          else
            some (false)
          else none
        else
          some (false)
        else none
      else
        if ((t14 : Int) == 8) = true then
          if PT.isNil f = false then
          if (((PT.num f) : Int) == 0) = true then
            if PT.isNil f = false then
            (rc_f59_filter_right (PT.fst f) (IntKind.wrap .i64 (left - 1))).bind fun r58_2 =>
            if r58_2 = true then
              if PT.isNil f = false then
              some ((PT.isNil (PT.snd f)))
              else none
            else
              some (false)
            else none
          else
            some (false)
          else none
        else
          if ((t14 : Int) == 9) = true then
            if ((t14 : Int) == 9) = true then
              if PT.isNil f = false then
              if (((PT.num f) : Int) == 0) = true then
                if PT.isNil f = false then
                (rc_f59_filter_right (PT.fst f) (IntKind.wrap .i64 (left - 1))).bind fun r60_2 =>
                if r60_2 = true then
                  if PT.isNil f = false then
                  (rc_f59_filter_right (PT.snd f) (IntKind.wrap .i64 (left - 1))).bind fun r60_4 =>
                  some (r60_4)
                  else none
                else
                  some (false)
                else none
              else
                some (false)
              else none
            else
              some (false)
          else
            if ((t14 : Int) == 10) = true then
              if PT.isNil f = false then
              if (((PT.num f) : Int) == 0) = true then
                if PT.isNil f = false then
                (rc_f59_filter_right (PT.fst f) (IntKind.wrap .i64 (left - 1))).bind fun r63_2 =>
                if r63_2 = true then
                  if PT.isNil f = false then
                  (rc_f59_filter_right (PT.snd f) (IntKind.wrap .i64 (left - 1))).bind fun r63_4 =>
                  some (r63_4)
                  else none
                else
                  some (false)
                else none
              else
                some (false)
              else none
            else
              some (false)
def f59_filter_right_L13_k (e : Bool) (o : Out) : Prop := o = f59_filter_right_out e
theorem f59_filter_right_L13_ok (rc_f59_filter_right : PT → Int → Option (Bool)) (hrc_f59_filter_right : ∀ (f : PT) (left : Int) (r : Bool) (h : rc_f59_filter_right f left = some r), FnOK Tryd.prog 59 (f59_filter_right_in f left) (f59_filter_right_out r)) (n : Nat) : ∀ (f : PT) (left : Int) (t14 : Int) (w : Bool) (h : f59_filter_right_L13 rc_f59_filter_right n f left t14 = some w) (o : Out) (hk : f59_filter_right_L13_k w o), At Tryd.prog Tryd.f59 0 13 ⟨[(0, oc (.d (.pt f))), (1, oc (zi left)), (14, oc (zi t14))], [], [], 0⟩ o := by
  induction n with
  | zero => intro f left t14 w h; rw [f59_filter_right_L13] at h; cases h
  | succ n ih =>
    intro f left t14 w h o hk
    rw [f59_filter_right_L13] at h
    rcases iteS h with ⟨b53_e0, h⟩ | ⟨b53_e0, h⟩
    · refine At.step hm ht ⟨[], [true], [], [0], []⟩ 14 ⟨[(0, oc (.d (.pt f)))], [], [], 0⟩ [((t14 : Int) == 6) = true] (by kernel_rfl) ⟨b53_e0, trivial⟩ ?_
      obtain ⟨g54_0, h⟩ := ifS h
      rcases iteS h with ⟨b54_5, h⟩ | ⟨b54_5, h⟩
      · obtain ⟨g54_1, h⟩ := ifS h
        rcases iteS h with ⟨b54_12, h⟩ | ⟨b54_12, h⟩
        · obtain ⟨g54_2, h⟩ := ifS h
          rcases iteS h with ⟨b54_19, h⟩ | ⟨b54_19, h⟩
          · obtain ⟨g54_3, h⟩ := ifS h
            have h := Option.some.inj h
            subst h
            have hk : o = f59_filter_right_out (PT.isNil (PT.snd f)) := hk
            subst hk
            exact At.fin hm ht ⟨[(5, .b true), (12, .b true), (19, .b true)], [], [], [4], []⟩ [PT.isNil f = false, (decide (((PT.num f) : Int) ≥ 1)) = true, PT.isNil f = false, (decide (((PT.num f) : Int) ≤ 255)) = true, PT.isNil f = false, (PT.isNil (PT.fst f)) = true, PT.isNil f = false] (by kernel_rfl) ⟨g54_0, b54_5, g54_1, b54_12, g54_2, b54_19, g54_3, trivial⟩
          · have h := Option.some.inj h
            subst h
            have hk : o = f59_filter_right_out false := hk
            subst hk
            exact At.fin hm ht ⟨[(5, .b true), (12, .b true), (19, .b false)], [], [], [4], []⟩ [PT.isNil f = false, (decide (((PT.num f) : Int) ≥ 1)) = true, PT.isNil f = false, (decide (((PT.num f) : Int) ≤ 255)) = true, PT.isNil f = false, (PT.isNil (PT.fst f)) = false] (by kernel_rfl) ⟨g54_0, b54_5, g54_1, b54_12, g54_2, b54_19, trivial⟩
        · have h := Option.some.inj h
          subst h
          have hk : o = f59_filter_right_out false := hk
          subst hk
          exact At.fin hm ht ⟨[(5, .b true), (12, .b false)], [], [], [4], []⟩ [PT.isNil f = false, (decide (((PT.num f) : Int) ≥ 1)) = true, PT.isNil f = false, (decide (((PT.num f) : Int) ≤ 255)) = false] (by kernel_rfl) ⟨g54_0, b54_5, g54_1, b54_12, trivial⟩
      · have h := Option.some.inj h
        subst h
        have hk : o = f59_filter_right_out false := hk
        subst hk
        exact At.fin hm ht ⟨[(5, .b false)], [], [], [4], []⟩ [PT.isNil f = false, (decide (((PT.num f) : Int) ≥ 1)) = false] (by kernel_rfl) ⟨g54_0, b54_5, trivial⟩
    · refine At.step hm ht ⟨[], [false], [], [0, 1, 14], []⟩ 15 ⟨[(0, oc (.d (.pt f))), (1, oc (zi left)), (14, oc (zi t14))], [], [], 0⟩ [((t14 : Int) == 6) = false] (by kernel_rfl) ⟨b53_e0, trivial⟩ ?_
      rcases iteS h with ⟨b55_e0, h⟩ | ⟨b55_e0, h⟩
      · refine At.step hm ht ⟨[], [true], [], [0], []⟩ 16 ⟨[(0, oc (.d (.pt f)))], [], [], 0⟩ [((t14 : Int) == 7) = true] (by kernel_rfl) ⟨b55_e0, trivial⟩ ?_
        obtain ⟨g56_0, h⟩ := ifS h
        rcases iteS h with ⟨b56_5, h⟩ | ⟨b56_5, h⟩
        · obtain ⟨g56_1, h⟩ := ifS h
          rcases iteS h with ⟨b56_12, h⟩ | ⟨b56_12, h⟩
          · obtain ⟨g56_2, h⟩ := ifS h
            rcases iteS h with ⟨b56_19, h⟩ | ⟨b56_19, h⟩
            · obtain ⟨g56_3, h⟩ := ifS h
              have h := Option.some.inj h
              subst h
              have hk : o = f59_filter_right_out (PT.isNil (PT.snd f)) := hk
              subst hk
              exact At.fin hm ht ⟨[(5, .b true), (12, .b true), (19, .b true)], [], [], [4], []⟩ [PT.isNil f = false, (decide (((PT.num f) : Int) ≥ 0)) = true, PT.isNil f = false, (decide (((PT.num f) : Int) < 2147483648)) = true, PT.isNil f = false, (PT.isNil (PT.fst f)) = true, PT.isNil f = false] (by kernel_rfl) ⟨g56_0, b56_5, g56_1, b56_12, g56_2, b56_19, g56_3, trivial⟩
            · have h := Option.some.inj h
              subst h
              have hk : o = f59_filter_right_out false := hk
              subst hk
              exact At.fin hm ht ⟨[(5, .b true), (12, .b true), (19, .b false)], [], [], [4], []⟩ [PT.isNil f = false, (decide (((PT.num f) : Int) ≥ 0)) = true, PT.isNil f = false, (decide (((PT.num f) : Int) < 2147483648)) = true, PT.isNil f = false, (PT.isNil (PT.fst f)) = false] (by kernel_rfl) ⟨g56_0, b56_5, g56_1, b56_12, g56_2, b56_19, trivial⟩
          · have h := Option.some.inj h
            subst h
            have hk : o = f59_filter_right_out false := hk
            subst hk
            exact At.fin hm ht ⟨[(5, .b true), (12, .b false)], [], [], [4], []⟩ [PT.isNil f = false, (decide (((PT.num f) : Int) ≥ 0)) = true, PT.isNil f = false, (decide (((PT.num f) : Int) < 2147483648)) = false] (by kernel_rfl) ⟨g56_0, b56_5, g56_1, b56_12, trivial⟩
        · have h := Option.some.inj h
          subst h
          have hk : o = f59_filter_right_out false := hk
          subst hk
          exact At.fin hm ht ⟨[(5, .b false)], [], [], [4], []⟩ [PT.isNil f = false, (decide (((PT.num f) : Int) ≥ 0)) = false] (by kernel_rfl) ⟨g56_0, b56_5, trivial⟩
      · refine At.step hm ht ⟨[], [false], [], [0, 1, 14], []⟩ 17 ⟨[(0, oc (.d (.pt f))), (1, oc (zi left)), (14, oc (zi t14))], [], [], 0⟩ [((t14 : Int) == 7) = false] (by kernel_rfl) ⟨b55_e0, trivial⟩ ?_
        rcases iteS h with ⟨b57_e0, h⟩ | ⟨b57_e0, h⟩
        · refine At.step hm ht ⟨[], [true], [], [0, 1], []⟩ 18 ⟨[(0, oc (.d (.pt f))), (1, oc (zi left))], [], [], 0⟩ [((t14 : Int) == 8) = true] (by kernel_rfl) ⟨b57_e0, trivial⟩ ?_
          obtain ⟨g58_0, h⟩ := ifS h
          rcases iteS h with ⟨b58_5, h⟩ | ⟨b58_5, h⟩
          · obtain ⟨g58_1, h⟩ := ifS h
            obtain ⟨r58_2, cr58_2, h⟩ := bindS h
            rcases iteS h with ⟨b58_14, h⟩ | ⟨b58_14, h⟩
            · obtain ⟨g58_3, h⟩ := ifS h
              have h := Option.some.inj h
              subst h
              have hk : o = f59_filter_right_out (PT.isNil (PT.snd f)) := hk
              subst hk
              exact At.fin hm ht ⟨[(5, .b true), (12, .call [] [] (f59_filter_right_out r58_2)), (14, .b true)], [], [], [4], []⟩ [PT.isNil f = false, (((PT.num f) : Int) == 0) = true, PT.isNil f = false, FnOK Tryd.prog 59 (f59_filter_right_in (PT.fst f) (IntKind.wrap .i64 (left - 1))) (f59_filter_right_out r58_2), r58_2 = true, PT.isNil f = false] (by kernel_rfl) ⟨g58_0, b58_5, g58_1, (hrc_f59_filter_right (PT.fst f) (IntKind.wrap .i64 (left - 1)) r58_2 cr58_2), b58_14, g58_3, trivial⟩
            · have h := Option.some.inj h
              subst h
              have hk : o = f59_filter_right_out false := hk
              subst hk
              exact At.fin hm ht ⟨[(5, .b true), (12, .call [] [] (f59_filter_right_out r58_2)), (14, .b false)], [], [], [4], []⟩ [PT.isNil f = false, (((PT.num f) : Int) == 0) = true, PT.isNil f = false, FnOK Tryd.prog 59 (f59_filter_right_in (PT.fst f) (IntKind.wrap .i64 (left - 1))) (f59_filter_right_out r58_2), r58_2 = false] (by kernel_rfl) ⟨g58_0, b58_5, g58_1, (hrc_f59_filter_right (PT.fst f) (IntKind.wrap .i64 (left - 1)) r58_2 cr58_2), b58_14, trivial⟩
          · have h := Option.some.inj h
            subst h
            have hk : o = f59_filter_right_out false := hk
            subst hk
            exact At.fin hm ht ⟨[(5, .b false)], [], [], [4], []⟩ [PT.isNil f = false, (((PT.num f) : Int) == 0) = false] (by kernel_rfl) ⟨g58_0, b58_5, trivial⟩
        · refine At.step hm ht ⟨[], [false], [], [0, 1, 14], []⟩ 19 ⟨[(0, oc (.d (.pt f))), (1, oc (zi left)), (14, oc (zi t14))], [], [], 0⟩ [((t14 : Int) == 8) = false] (by kernel_rfl) ⟨b57_e0, trivial⟩ ?_
          rcases iteS h with ⟨b59_e0, h⟩ | ⟨b59_e0, h⟩
          · rcases iteS h with ⟨b59_e1, h⟩ | ⟨b59_e1, h⟩
            · refine At.step hm ht ⟨[], [true, true], [], [0, 1], []⟩ 21 ⟨[(0, oc (.d (.pt f))), (1, oc (zi left))], [], [], 0⟩ [((t14 : Int) == 9) = true, ((t14 : Int) == 9) = true] (by kernel_rfl) ⟨b59_e0, b59_e1, trivial⟩ ?_
              obtain ⟨g60_0, h⟩ := ifS h
              rcases iteS h with ⟨b60_5, h⟩ | ⟨b60_5, h⟩
              · obtain ⟨g60_1, h⟩ := ifS h
                obtain ⟨r60_2, cr60_2, h⟩ := bindS h
                rcases iteS h with ⟨b60_14, h⟩ | ⟨b60_14, h⟩
                · obtain ⟨g60_3, h⟩ := ifS h
                  obtain ⟨r60_4, cr60_4, h⟩ := bindS h
                  have h := Option.some.inj h
                  subst h
                  have hk : o = f59_filter_right_out r60_4 := hk
                  subst hk
                  exact At.fin hm ht ⟨[(5, .b true), (12, .call [] [] (f59_filter_right_out r60_2)), (14, .b true), (21, .call [] [] (f59_filter_right_out r60_4))], [], [], [4], []⟩ [PT.isNil f = false, (((PT.num f) : Int) == 0) = true, PT.isNil f = false, FnOK Tryd.prog 59 (f59_filter_right_in (PT.fst f) (IntKind.wrap .i64 (left - 1))) (f59_filter_right_out r60_2), r60_2 = true, PT.isNil f = false, FnOK Tryd.prog 59 (f59_filter_right_in (PT.snd f) (IntKind.wrap .i64 (left - 1))) (f59_filter_right_out r60_4)] (by kernel_rfl) ⟨g60_0, b60_5, g60_1, (hrc_f59_filter_right (PT.fst f) (IntKind.wrap .i64 (left - 1)) r60_2 cr60_2), b60_14, g60_3, (hrc_f59_filter_right (PT.snd f) (IntKind.wrap .i64 (left - 1)) r60_4 cr60_4), trivial⟩
                · have h := Option.some.inj h
                  subst h
                  have hk : o = f59_filter_right_out false := hk
                  subst hk
                  exact At.fin hm ht ⟨[(5, .b true), (12, .call [] [] (f59_filter_right_out r60_2)), (14, .b false)], [], [], [4], []⟩ [PT.isNil f = false, (((PT.num f) : Int) == 0) = true, PT.isNil f = false, FnOK Tryd.prog 59 (f59_filter_right_in (PT.fst f) (IntKind.wrap .i64 (left - 1))) (f59_filter_right_out r60_2), r60_2 = false] (by kernel_rfl) ⟨g60_0, b60_5, g60_1, (hrc_f59_filter_right (PT.fst f) (IntKind.wrap .i64 (left - 1)) r60_2 cr60_2), b60_14, trivial⟩
              · have h := Option.some.inj h
                subst h
                have hk : o = f59_filter_right_out false := hk
                subst hk
                exact At.fin hm ht ⟨[(5, .b false)], [], [], [4], []⟩ [PT.isNil f = false, (((PT.num f) : Int) == 0) = false] (by kernel_rfl) ⟨g60_0, b60_5, trivial⟩
            · refine At.step hm ht ⟨[], [true, false], [], [], []⟩ 22 ⟨[], [], [], 0⟩ [((t14 : Int) == 9) = true, ((t14 : Int) == 9) = false] (by kernel_rfl) ⟨b59_e0, b59_e1, trivial⟩ ?_
              have h := Option.some.inj h
              subst h
              have hk : o = f59_filter_right_out false := hk
              subst hk
              exact At.fin hm ht ⟨[], [], [], [4], []⟩ [] (by kernel_rfl) trivial
          · refine At.step hm ht ⟨[], [false], [], [0, 1, 14], []⟩ 20 ⟨[(0, oc (.d (.pt f))), (1, oc (zi left)), (14, oc (zi t14))], [], [], 0⟩ [((t14 : Int) == 9) = false] (by kernel_rfl) ⟨b59_e0, trivial⟩ ?_
            rcases iteS h with ⟨b62_e0, h⟩ | ⟨b62_e0, h⟩
            · refine At.step hm ht ⟨[], [true], [], [0, 1], []⟩ 21 ⟨[(0, oc (.d (.pt f))), (1, oc (zi left))], [], [], 0⟩ [((t14 : Int) == 10) = true] (by kernel_rfl) ⟨b62_e0, trivial⟩ ?_
              obtain ⟨g63_0, h⟩ := ifS h
              rcases iteS h with ⟨b63_5, h⟩ | ⟨b63_5, h⟩
              · obtain ⟨g63_1, h⟩ := ifS h
                obtain ⟨r63_2, cr63_2, h⟩ := bindS h
                rcases iteS h with ⟨b63_14, h⟩ | ⟨b63_14, h⟩
                · obtain ⟨g63_3, h⟩ := ifS h
                  obtain ⟨r63_4, cr63_4, h⟩ := bindS h
                  have h := Option.some.inj h
                  subst h
                  have hk : o = f59_filter_right_out r63_4 := hk
                  subst hk
                  exact At.fin hm ht ⟨[(5, .b true), (12, .call [] [] (f59_filter_right_out r63_2)), (14, .b true), (21, .call [] [] (f59_filter_right_out r63_4))], [], [], [4], []⟩ [PT.isNil f = false, (((PT.num f) : Int) == 0) = true, PT.isNil f = false, FnOK Tryd.prog 59 (f59_filter_right_in (PT.fst f) (IntKind.wrap .i64 (left - 1))) (f59_filter_right_out r63_2), r63_2 = true, PT.isNil f = false, FnOK Tryd.prog 59 (f59_filter_right_in (PT.snd f) (IntKind.wrap .i64 (left - 1))) (f59_filter_right_out r63_4)] (by kernel_rfl) ⟨g63_0, b63_5, g63_1, (hrc_f59_filter_right (PT.fst f) (IntKind.wrap .i64 (left - 1)) r63_2 cr63_2), b63_14, g63_3, (hrc_f59_filter_right (PT.snd f) (IntKind.wrap .i64 (left - 1)) r63_4 cr63_4), trivial⟩
                · have h := Option.some.inj h
                  subst h
                  have hk : o = f59_filter_right_out false := hk
                  subst hk
                  exact At.fin hm ht ⟨[(5, .b true), (12, .call [] [] (f59_filter_right_out r63_2)), (14, .b false)], [], [], [4], []⟩ [PT.isNil f = false, (((PT.num f) : Int) == 0) = true, PT.isNil f = false, FnOK Tryd.prog 59 (f59_filter_right_in (PT.fst f) (IntKind.wrap .i64 (left - 1))) (f59_filter_right_out r63_2), r63_2 = false] (by kernel_rfl) ⟨g63_0, b63_5, g63_1, (hrc_f59_filter_right (PT.fst f) (IntKind.wrap .i64 (left - 1)) r63_2 cr63_2), b63_14, trivial⟩
              · have h := Option.some.inj h
                subst h
                have hk : o = f59_filter_right_out false := hk
                subst hk
                exact At.fin hm ht ⟨[(5, .b false)], [], [], [4], []⟩ [PT.isNil f = false, (((PT.num f) : Int) == 0) = false] (by kernel_rfl) ⟨g63_0, b63_5, trivial⟩
            · refine At.step hm ht ⟨[], [false], [], [], []⟩ 22 ⟨[], [], [], 0⟩ [((t14 : Int) == 10) = false] (by kernel_rfl) ⟨b62_e0, trivial⟩ ?_
              have h := Option.some.inj h
              subst h
              have hk : o = f59_filter_right_out false := hk
              subst hk
              exact At.fin hm ht ⟨[], [], [], [4], []⟩ [] (by kernel_rfl) trivial
def f59_filter_right_L7 (rc_f59_filter_right : PT → Int → Option (Bool)) : Nat → PT → Int → Int → Option (Bool)
  | 0, _, _, _ => none
  | n + 1, f, left, t14 =>
    if ((t14 : Int) == 2) = true then
      if PT.isNil f = false then
      if (((PT.num f) : Int) == 1) = true then
        if PT.isNil f = false then
        if (PT.isNil (PT.fst f)) = true then
          if PT.isNil f = false then
          some ((PT.isNil (PT.snd f)))
          else none
        else
          some (false)
        else none
      else
        if PT.isNil f = false then
        if (((PT.num f) : Int) == 2) = true then
          if PT.isNil f = false then
          if (PT.isNil (PT.fst f)) = true then
            if PT.isNil f = false then
            some ((PT.isNil (PT.snd f)))
            else none
          else
            some (false)
          else none
        else
          if PT.isNil f = false then
          if (((PT.num f) : Int) == 4) = true then
            if PT.isNil f = false then
            if (PT.isNil (PT.fst f)) = true then
              if PT.isNil f = false then
              some ((PT.isNil (PT.snd f)))
              else none
            else
              some (false)
            else none
          else
            some (false)
          else none
        else none
      else none
    else
      if ((t14 : Int) == 3) = true then
        if ((t14 : Int) == 3) = true then
          if PT.isNil f = false then
          if (decide (((PT.num f) : Int) ≥ 0)) = true then
            if PT.isNil f = false then
            if (decide (((PT.num f) : Int) ≤ 65535)) = true then
              if PT.isNil f = false then
              if (PT.isNil (PT.fst f)) = true then
                if PT.isNil f = false then
                some ((PT.isNil (PT.snd f)))
                else none
              else
                some (false)
              else none
            else
              some (false)
            else none
          else
            some (false)
          else none
        else
          (f59_filter_right_L13 rc_f59_filter_right n f left t14).bind fun w65 =>
          some (w65)
      else
        if ((t14 : Int) == 4) = true then
          if ((t14 : Int) == 4) = true then
            if PT.isNil f = false then
            if (decide (((PT.num f) : Int) ≥ 0)) = true then
              if PT.isNil f = false then
              if (decide (((PT.num f) : Int) ≤ 65535)) = true then
                if PT.isNil f = false then
                if (PT.isNil (PT.fst f)) = true then
                  if PT.isNil f = false then
                  some ((PT.isNil (PT.snd f)))
                  else none
                else
                  some (false)
                else none
              else
                some (false)
              else none
            else
              some (false)
            else none
          else
            (f59_filter_right_L13 rc_f59_filter_right n f left t14).bind fun w69 =>
            some (w69)
        else
          if ((t14 : Int) == 5) = true then
            if PT.isNil f = false then
            if (decide (((PT.num f) : Int) ≥ 0)) = true then
              if PT.isNil f = false then
              if (decide (((PT.num f) : Int) ≤ 65535)) = true then
                if PT.isNil f = false then
                if (PT.isNil (PT.fst f)) = true then
                  if PT.isNil f = false then
                  some ((PT.isNil (PT.snd f)))
                  else none
                else
                  some (false)
                else none
              else
                some (false)
              else none
            else
              some (false)
            else none
          else
            (f59_filter_right_L13 rc_f59_filter_right n f left t14).bind fun w73 =>
            some (w73)
def f59_filter_right_L7_k (e : Bool) (o : Out) : Prop := o = f59_filter_right_out e
theorem f59_filter_right_L7_ok (rc_f59_filter_right : PT → Int → Option (Bool)) (hrc_f59_filter_right : ∀ (f : PT) (left : Int) (r : Bool) (h : rc_f59_filter_right f left = some r), FnOK Tryd.prog 59 (f59_filter_right_in f left) (f59_filter_right_out r)) (n : Nat) : ∀ (f : PT) (left : Int) (t14 : Int) (w : Bool) (h : f59_filter_right_L7 rc_f59_filter_right n f left t14 = some w) (o : Out) (hk : f59_filter_right_L7_k w o), At Tryd.prog Tryd.f59 0 7 ⟨[(0, oc (.d (.pt f))), (1, oc (zi left)), (14, oc (zi t14))], [], [], 0⟩ o := by
  induction n with
  | zero => intro f left t14 w h; rw [f59_filter_right_L7] at h; cases h
  | succ n ih =>
    intro f left t14 w h o hk
    rw [f59_filter_right_L7] at h
    rcases iteS h with ⟨b49_e0, h⟩ | ⟨b49_e0, h⟩
    · refine At.step hm ht ⟨[], [true], [], [0], []⟩ 8 ⟨[(0, oc (.d (.pt f)))], [], [], 0⟩ [((t14 : Int) == 2) = true] (by kernel_rfl) ⟨b49_e0, trivial⟩ ?_
      obtain ⟨g50_0, h⟩ := ifS h
      rcases iteS h with ⟨b50_5, h⟩ | ⟨b50_5, h⟩
      · obtain ⟨g50_1, h⟩ := ifS h
        rcases iteS h with ⟨b50_26, h⟩ | ⟨b50_26, h⟩
        · obtain ⟨g50_2, h⟩ := ifS h
          have h := Option.some.inj h
          subst h
          have hk : o = f59_filter_right_out (PT.isNil (PT.snd f)) := hk
          subst hk
          exact At.fin hm ht ⟨[(5, .b true), (26, .b true)], [], [], [4], []⟩ [PT.isNil f = false, (((PT.num f) : Int) == 1) = true, PT.isNil f = false, (PT.isNil (PT.fst f)) = true, PT.isNil f = false] (by kernel_rfl) ⟨g50_0, b50_5, g50_1, b50_26, g50_2, trivial⟩
        · have h := Option.some.inj h
          subst h
          have hk : o = f59_filter_right_out false := hk
          subst hk
          exact At.fin hm ht ⟨[(5, .b true), (26, .b false)], [], [], [4], []⟩ [PT.isNil f = false, (((PT.num f) : Int) == 1) = true, PT.isNil f = false, (PT.isNil (PT.fst f)) = false] (by kernel_rfl) ⟨g50_0, b50_5, g50_1, b50_26, trivial⟩
      · obtain ⟨g50_1, h⟩ := ifS h
        rcases iteS h with ⟨b50_12, h⟩ | ⟨b50_12, h⟩
        · obtain ⟨g50_2, h⟩ := ifS h
          rcases iteS h with ⟨b50_26, h⟩ | ⟨b50_26, h⟩
          · obtain ⟨g50_3, h⟩ := ifS h
            have h := Option.some.inj h
            subst h
            have hk : o = f59_filter_right_out (PT.isNil (PT.snd f)) := hk
            subst hk
            exact At.fin hm ht ⟨[(5, .b false), (12, .b true), (26, .b true)], [], [], [4], []⟩ [PT.isNil f = false, (((PT.num f) : Int) == 1) = false, PT.isNil f = false, (((PT.num f) : Int) == 2) = true, PT.isNil f = false, (PT.isNil (PT.fst f)) = true, PT.isNil f = false] (by kernel_rfl) ⟨g50_0, b50_5, g50_1, b50_12, g50_2, b50_26, g50_3, trivial⟩
          · have h := Option.some.inj h
            subst h
            have hk : o = f59_filter_right_out false := hk
            subst hk
            exact At.fin hm ht ⟨[(5, .b false), (12, .b true), (26, .b false)], [], [], [4], []⟩ [PT.isNil f = false, (((PT.num f) : Int) == 1) = false, PT.isNil f = false, (((PT.num f) : Int) == 2) = true, PT.isNil f = false, (PT.isNil (PT.fst f)) = false] (by kernel_rfl) ⟨g50_0, b50_5, g50_1, b50_12, g50_2, b50_26, trivial⟩
        · obtain ⟨g50_2, h⟩ := ifS h
          rcases iteS h with ⟨b50_19, h⟩ | ⟨b50_19, h⟩
          · obtain ⟨g50_3, h⟩ := ifS h
            rcases iteS h with ⟨b50_26, h⟩ | ⟨b50_26, h⟩
            · obtain ⟨g50_4, h⟩ := ifS h
              have h := Option.some.inj h
              subst h
              have hk : o = f59_filter_right_out (PT.isNil (PT.snd f)) := hk
              subst hk
              exact At.fin hm ht ⟨[(5, .b false), (12, .b false), (19, .b true), (26, .b true)], [], [], [4], []⟩ [PT.isNil f = false, (((PT.num f) : Int) == 1) = false, PT.isNil f = false, (((PT.num f) : Int) == 2) = false, PT.isNil f = false, (((PT.num f) : Int) == 4) = true, PT.isNil f = false, (PT.isNil (PT.fst f)) = true, PT.isNil f = false] (by kernel_rfl) ⟨g50_0, b50_5, g50_1, b50_12, g50_2, b50_19, g50_3, b50_26, g50_4, trivial⟩
            · have h := Option.some.inj h
              subst h
              have hk : o = f59_filter_right_out false := hk
              subst hk
              exact At.fin hm ht ⟨[(5, .b false), (12, .b false), (19, .b true), (26, .b false)], [], [], [4], []⟩ [PT.isNil f = false, (((PT.num f) : Int) == 1) = false, PT.isNil f = false, (((PT.num f) : Int) == 2) = false, PT.isNil f = false, (((PT.num f) : Int) == 4) = true, PT.isNil f = false, (PT.isNil (PT.fst f)) = false] (by kernel_rfl) ⟨g50_0, b50_5, g50_1, b50_12, g50_2, b50_19, g50_3, b50_26, trivial⟩
          · have h := Option.some.inj h
            subst h
            have hk : o = f59_filter_right_out false := hk
            subst hk
            exact At.fin hm ht ⟨[(5, .b false), (12, .b false), (19, .b false)], [], [], [4], []⟩ [PT.isNil f = false, (((PT.num f) : Int) == 1) = false, PT.isNil f = false, (((PT.num f) : Int) == 2) = false, PT.isNil f = false, (((PT.num f) : Int) == 4) = false] (by kernel_rfl) ⟨g50_0, b50_5, g50_1, b50_12, g50_2, b50_19, trivial⟩
    · refine At.step hm ht ⟨[], [false], [], [0, 1, 14], []⟩ 9 ⟨[(0, oc (.d (.pt f))), (1, oc (zi left)), (14, oc (zi t14))], [], [], 0⟩ [((t14 : Int) == 2) = false] (by kernel_rfl) ⟨b49_e0, trivial⟩ ?_
      rcases iteS h with ⟨b51_e0, h⟩ | ⟨b51_e0, h⟩
      · rcases iteS h with ⟨b51_e1, h⟩ | ⟨b51_e1, h⟩
        · refine At.step hm ht ⟨[], [true, true], [], [0], []⟩ 12 ⟨[(0, oc (.d (.pt f)))], [], [], 0⟩ [((t14 : Int) == 3) = true, ((t14 : Int) == 3) = true] (by kernel_rfl) ⟨b51_e0, b51_e1, trivial⟩ ?_
          obtain ⟨g52_0, h⟩ := ifS h
          rcases iteS h with ⟨b52_5, h⟩ | ⟨b52_5, h⟩
          · obtain ⟨g52_1, h⟩ := ifS h
            rcases iteS h with ⟨b52_12, h⟩ | ⟨b52_12, h⟩
            · obtain ⟨g52_2, h⟩ := ifS h
              rcases iteS h with ⟨b52_19, h⟩ | ⟨b52_19, h⟩
              · obtain ⟨g52_3, h⟩ := ifS h
                have h := Option.some.inj h
                subst h
                have hk : o = f59_filter_right_out (PT.isNil (PT.snd f)) := hk
                subst hk
                exact At.fin hm ht ⟨[(5, .b true), (12, .b true), (19, .b true)], [], [], [4], []⟩ [PT.isNil f = false, (decide (((PT.num f) : Int) ≥ 0)) = true, PT.isNil f = false, (decide (((PT.num f) : Int) ≤ 65535)) = true, PT.isNil f = false, (PT.isNil (PT.fst f)) = true, PT.isNil f = false] (by kernel_rfl) ⟨g52_0, b52_5, g52_1, b52_12, g52_2, b52_19, g52_3, trivial⟩
              · have h := Option.some.inj h
                subst h
                have hk : o = f59_filter_right_out false := hk
                subst hk
                exact At.fin hm ht ⟨[(5, .b true), (12, .b true), (19, .b false)], [], [], [4], []⟩ [PT.isNil f = false, (decide (((PT.num f) : Int) ≥ 0)) = true, PT.isNil f = false, (decide (((PT.num f) : Int) ≤ 65535)) = true, PT.isNil f = false, (PT.isNil (PT.fst f)) = false] (by kernel_rfl) ⟨g52_0, b52_5, g52_1, b52_12, g52_2, b52_19, trivial⟩
            · have h := Option.some.inj h
              subst h
              have hk : o = f59_filter_right_out false := hk
              subst hk
              exact At.fin hm ht ⟨[(5, .b true), (12, .b false)], [], [], [4], []⟩ [PT.isNil f = false, (decide (((PT.num f) : Int) ≥ 0)) = true, PT.isNil f = false, (decide (((PT.num f) : Int) ≤ 65535)) = false] (by kernel_rfl) ⟨g52_0, b52_5, g52_1, b52_12, trivial⟩
          · have h := Option.some.inj h
            subst h
            have hk : o = f59_filter_right_out false := hk
            subst hk
            exact At.fin hm ht ⟨[(5, .b false)], [], [], [4], []⟩ [PT.isNil f = false, (decide (((PT.num f) : Int) ≥ 0)) = false] (by kernel_rfl) ⟨g52_0, b52_5, trivial⟩
        · refine At.step hm ht ⟨[], [true, false], [], [0, 1, 14], []⟩ 13 ⟨[(0, oc (.d (.pt f))), (1, oc (zi left)), (14, oc (zi t14))], [], [], 0⟩ [((t14 : Int) == 3) = true, ((t14 : Int) == 3) = false] (by kernel_rfl) ⟨b51_e0, b51_e1, trivial⟩ ?_
          obtain ⟨w65, cw65, h⟩ := bindS h
          refine f59_filter_right_L13_ok rc_f59_filter_right hrc_f59_filter_right n f left t14 w65 cw65 _ ?_
          have h := Option.some.inj h
          subst h
          exact hk
      · refine At.step hm ht ⟨[], [false], [], [0, 1, 14], []⟩ 10 ⟨[(0, oc (.d (.pt f))), (1, oc (zi left)), (14, oc (zi t14))], [], [], 0⟩ [((t14 : Int) == 3) = false] (by kernel_rfl) ⟨b51_e0, trivial⟩ ?_
        rcases iteS h with ⟨b67_e0, h⟩ | ⟨b67_e0, h⟩
        · rcases iteS h with ⟨b67_e1, h⟩ | ⟨b67_e1, h⟩
          · refine At.step hm ht ⟨[], [true, true], [], [0], []⟩ 12 ⟨[(0, oc (.d (.pt f)))], [], [], 0⟩ [((t14 : Int) == 4) = true, ((t14 : Int) == 4) = true] (by kernel_rfl) ⟨b67_e0, b67_e1, trivial⟩ ?_
            obtain ⟨g68_0, h⟩ := ifS h
            rcases iteS h with ⟨b68_5, h⟩ | ⟨b68_5, h⟩
            · obtain ⟨g68_1, h⟩ := ifS h
              rcases iteS h with ⟨b68_12, h⟩ | ⟨b68_12, h⟩
              · obtain ⟨g68_2, h⟩ := ifS h
                rcases iteS h with ⟨b68_19, h⟩ | ⟨b68_19, h⟩
                · obtain ⟨g68_3, h⟩ := ifS h
                  have h := Option.some.inj h
                  subst h
                  have hk : o = f59_filter_right_out (PT.isNil (PT.snd f)) := hk
                  subst hk
                  exact At.fin hm ht ⟨[(5, .b true), (12, .b true), (19, .b true)], [], [], [4], []⟩ [PT.isNil f = false, (decide (((PT.num f) : Int) ≥ 0)) = true, PT.isNil f = false, (decide (((PT.num f) : Int) ≤ 65535)) = true, PT.isNil f = false, (PT.isNil (PT.fst f)) = true, PT.isNil f = false] (by kernel_rfl) ⟨g68_0, b68_5, g68_1, b68_12, g68_2, b68_19, g68_3, trivial⟩
                · have h := Option.some.inj h
                  subst h
                  have hk : o = f59_filter_right_out false := hk
                  subst hk
                  exact At.fin hm ht ⟨[(5, .b true), (12, .b true), (19, .b false)], [], [], [4], []⟩ [PT.isNil f = false, (decide (((PT.num f) : Int) ≥ 0)) = true, PT.isNil f = false, (decide (((PT.num f) : Int) ≤ 65535)) = true, PT.isNil f = false, (PT.isNil (PT.fst f)) = false] (by kernel_rfl) ⟨g68_0, b68_5, g68_1, b68_12, g68_2, b68_19, trivial⟩
              · have h := Option.some.inj h
                subst h
                have hk : o = f59_filter_right_out false := hk
                subst hk
                exact At.fin hm ht ⟨[(5, .b true), (12, .b false)], [], [], [4], []⟩ [PT.isNil f = false, (decide (((PT.num f) : Int) ≥ 0)) = true, PT.isNil f = false, (decide (((PT.num f) : Int) ≤ 65535)) = false] (by kernel_rfl) ⟨g68_0, b68_5, g68_1, b68_12, trivial⟩
            · have h := Option.some.inj h
              subst h
              have hk : o = f59_filter_right_out false := hk
              subst hk
              exact At.fin hm ht ⟨[(5, .b false)], [], [], [4], []⟩ [PT.isNil f = false, (decide (((PT.num f) : Int) ≥ 0)) = false] (by kernel_rfl) ⟨g68_0, b68_5, trivial⟩
          · refine At.step hm ht ⟨[], [true, false], [], [0, 1, 14], []⟩ 13 ⟨[(0, oc (.d (.pt f))), (1, oc (zi left)), (14, oc (zi t14))], [], [], 0⟩ [((t14 : Int) == 4) = true, ((t14 : Int) == 4) = false] (by kernel_rfl) ⟨b67_e0, b67_e1, trivial⟩ ?_
            obtain ⟨w69, cw69, h⟩ := bindS h
            refine f59_filter_right_L13_ok rc_f59_filter_right hrc_f59_filter_right n f left t14 w69 cw69 _ ?_
            have h := Option.some.inj h
            subst h
            exact hk
        · refine At.step hm ht ⟨[], [false], [], [0, 1, 14], []⟩ 11 ⟨[(0, oc (.d (.pt f))), (1, oc (zi left)), (14, oc (zi t14))], [], [], 0⟩ [((t14 : Int) == 4) = false] (by kernel_rfl) ⟨b67_e0, trivial⟩ ?_
          rcases iteS h with ⟨b71_e0, h⟩ | ⟨b71_e0, h⟩
          · refine At.step hm ht ⟨[], [true], [], [0], []⟩ 12 ⟨[(0, oc (.d (.pt f)))], [], [], 0⟩ [((t14 : Int) == 5) = true] (by kernel_rfl) ⟨b71_e0, trivial⟩ ?_
            obtain ⟨g72_0, h⟩ := ifS h
            rcases iteS h with ⟨b72_5, h⟩ | ⟨b72_5, h⟩
            · obtain ⟨g72_1, h⟩ := ifS h
              rcases iteS h with ⟨b72_12, h⟩ | ⟨b72_12, h⟩
              · obtain ⟨g72_2, h⟩ := ifS h
                rcases iteS h with ⟨b72_19, h⟩ | ⟨b72_19, h⟩
                · obtain ⟨g72_3, h⟩ := ifS h
                  have h := Option.some.inj h
                  subst h
                  have hk : o = f59_filter_right_out (PT.isNil (PT.snd f)) := hk
                  subst hk
                  exact At.fin hm ht ⟨[(5, .b true), (12, .b true), (19, .b true)], [], [], [4], []⟩ [PT.isNil f = false, (decide (((PT.num f) : Int) ≥ 0)) = true, PT.isNil f = false, (decide (((PT.num f) : Int) ≤ 65535)) = true, PT.isNil f = false, (PT.isNil (PT.fst f)) = true, PT.isNil f = false] (by kernel_rfl) ⟨g72_0, b72_5, g72_1, b72_12, g72_2, b72_19, g72_3, trivial⟩
                · have h := Option.some.inj h
                  subst h
                  have hk : o = f59_filter_right_out false := hk
                  subst hk
                  exact At.fin hm ht ⟨[(5, .b true), (12, .b true), (19, .b false)], [], [], [4], []⟩ [PT.isNil f = false, (decide (((PT.num f) : Int) ≥ 0)) = true, PT.isNil f = false, (decide (((PT.num f) : Int) ≤ 65535)) = true, PT.isNil f = false, (PT.isNil (PT.fst f)) = false] (by kernel_rfl) ⟨g72_0, b72_5, g72_1, b72_12, g72_2, b72_19, trivial⟩
              · have h := Option.some.inj h
                subst h
                have hk : o = f59_filter_right_out false := hk
                subst hk
                exact At.fin hm ht ⟨[(5, .b true), (12, .b false)], [], [], [4], []⟩ [PT.isNil f = false, (decide (((PT.num f) : Int) ≥ 0)) = true, PT.isNil f = false, (decide (((PT.num f) : Int) ≤ 65535)) = false] (by kernel_rfl) ⟨g72_0, b72_5, g72_1, b72_12, trivial⟩
            · have h := Option.some.inj h
              subst h
              have hk : o = f59_filter_right_out false := hk
              subst hk
              exact At.fin hm ht ⟨[(5, .b false)], [], [], [4], []⟩ [PT.isNil f = false, (decide (((PT.num f) : Int) ≥ 0)) = false] (by kernel_rfl) ⟨g72_0, b72_5, trivial⟩
          · refine At.step hm ht ⟨[], [false], [], [0, 1, 14], []⟩ 13 ⟨[(0, oc (.d (.pt f))), (1, oc (zi left)), (14, oc (zi t14))], [], [], 0⟩ [((t14 : Int) == 5) = false] (by kernel_rfl) ⟨b71_e0, trivial⟩ ?_
            obtain ⟨w73, cw73, h⟩ := bindS h
            refine f59_filter_right_L13_ok rc_f59_filter_right hrc_f59_filter_right n f left t14 w73 cw73 _ ?_
            have h := Option.some.inj h
            subst h
            exact hk
def f59_filter_right : Nat → PT → Int → Option (Bool)
  | 0, _, _ => none
  | n + 1, f, left =>
    if (PT.isNil f) = true then
      some false
    else
      if ((left : Int) == 0) = true then
        some false
      else
        if PT.isNil f = false then
        if (((PT.op f) : Int) == 1) = true then
          if (((PT.op f) : Int) == 1) = true then
            if PT.isNil f = false then
            if (((PT.num f) : Int) == 0) = true then
              if PT.isNil f = false then
              if (PT.isNil (PT.fst f)) = true then
                if PT.isNil f = false then
                some (PT.isNil (PT.snd f))
                else none
              else
                some false
              else none
            else
              some false
            else none
          else
            (f59_filter_right_L7 (f59_filter_right n) n f left (PT.op f)).bind fun w75 =>
            some w75
        else
          if (((PT.op f) : Int) == 11) = true then
            if PT.isNil f = false then
            if (((PT.num f) : Int) == 0) = true then
              if PT.isNil f = false then
              if (PT.isNil (PT.fst f)) = true then
                if PT.isNil f = false then
                some (PT.isNil (PT.snd f))
                else none
              else
                some false
              else none
            else
              some false
            else none
          else
            (f59_filter_right_L7 (f59_filter_right n) n f left (PT.op f)).bind fun w79 =>
            some w79
        else none
theorem f59_filter_right_ok (n : Nat) : ∀ (f : PT) (left : Int) (r : Bool) (h : f59_filter_right n f left = some r), FnOK Tryd.prog 59 (f59_filter_right_in f left) (f59_filter_right_out r) := by
  induction n with
  | zero => intro f left r h; rw [f59_filter_right] at h; cases h
  | succ n ih =>
    intro f left r h
    rw [f59_filter_right] at h
    refine At.fn (r := 0) Tryd.func59 rfl (by kernel_rfl) rfl rfl (by kernel_rfl) ?_
    show At Tryd.prog Tryd.f59 0 0 ⟨[(0, oc (.d (.pt f))), (1, oc (zi left))], [], [], 0⟩ _
    refine At.step hm ht ⟨[], [], [], [0, 1], []⟩ 1 ⟨[(0, oc (.d (.pt f))), (1, oc (zi left))], [], [], 0⟩ [] (by kernel_rfl) trivial ?_
    rcases iteS h with ⟨b43_2, h⟩ | ⟨b43_2, h⟩
    · refine At.step hm ht ⟨[(2, .b true)], [true], [], [], []⟩ 2 ⟨[], [], [], 0⟩ [(PT.isNil f) = true, true = true] (by kernel_rfl) ⟨b43_2, rfl, trivial⟩ ?_
      have h := Option.some.inj h
      subst h
      exact At.fin hm ht ⟨[], [], [], [4], []⟩ [] (by kernel_rfl) trivial
    · rcases iteS h with ⟨b43_e0, h⟩ | ⟨b43_e0, h⟩
      · refine At.step hm ht ⟨[(2, .b false)], [true], [], [], []⟩ 2 ⟨[], [], [], 0⟩ [(PT.isNil f) = false, ((left : Int) == 0) = true] (by kernel_rfl) ⟨b43_2, b43_e0, trivial⟩ ?_
        have h := Option.some.inj h
        subst h
        exact At.fin hm ht ⟨[], [], [], [4], []⟩ [] (by kernel_rfl) trivial
      · refine At.step hm ht ⟨[(2, .b false)], [false], [], [0, 1], []⟩ 3 ⟨[(0, oc (.d (.pt f))), (1, oc (zi left))], [], [], 0⟩ [(PT.isNil f) = false, ((left : Int) == 0) = false] (by kernel_rfl) ⟨b43_2, b43_e0, trivial⟩ ?_
        obtain ⟨g46_0, h⟩ := ifS h
        refine At.step hm ht ⟨[], [], [], [0, 1, 14], []⟩ 4 ⟨[(0, oc (.d (.pt f))), (1, oc (zi left)), (14, oc (zi (PT.op f)))], [], [], 0⟩ [PT.isNil f = false] (by kernel_rfl) ⟨g46_0, trivial⟩ ?_
        rcases iteS h with ⟨b47_e0, h⟩ | ⟨b47_e0, h⟩
        · rcases iteS h with ⟨b47_e1, h⟩ | ⟨b47_e1, h⟩
          · refine At.step hm ht ⟨[], [true, true], [], [0], []⟩ 6 ⟨[(0, oc (.d (.pt f)))], [], [], 0⟩ [(((PT.op f) : Int) == 1) = true, (((PT.op f) : Int) == 1) = true] (by kernel_rfl) ⟨b47_e0, b47_e1, trivial⟩ ?_
            obtain ⟨g48_0, h⟩ := ifS h
            rcases iteS h with ⟨b48_5, h⟩ | ⟨b48_5, h⟩
            · obtain ⟨g48_1, h⟩ := ifS h
              rcases iteS h with ⟨b48_12, h⟩ | ⟨b48_12, h⟩
              · obtain ⟨g48_2, h⟩ := ifS h
                have h := Option.some.inj h
                subst h
                exact At.fin hm ht ⟨[(5, .b true), (12, .b true)], [], [], [4], []⟩ [PT.isNil f = false, (((PT.num f) : Int) == 0) = true, PT.isNil f = false, (PT.isNil (PT.fst f)) = true, PT.isNil f = false] (by kernel_rfl) ⟨g48_0, b48_5, g48_1, b48_12, g48_2, trivial⟩
              · have h := Option.some.inj h
                subst h
                exact At.fin hm ht ⟨[(5, .b true), (12, .b false)], [], [], [4], []⟩ [PT.isNil f = false, (((PT.num f) : Int) == 0) = true, PT.isNil f = false, (PT.isNil (PT.fst f)) = false] (by kernel_rfl) ⟨g48_0, b48_5, g48_1, b48_12, trivial⟩
            · have h := Option.some.inj h
              subst h
              exact At.fin hm ht ⟨[(5, .b false)], [], [], [4], []⟩ [PT.isNil f = false, (((PT.num f) : Int) == 0) = false] (by kernel_rfl) ⟨g48_0, b48_5, trivial⟩
          · refine At.step hm ht ⟨[], [true, false], [], [0, 1, 14], []⟩ 7 ⟨[(0, oc (.d (.pt f))), (1, oc (zi left)), (14, oc (zi (PT.op f)))], [], [], 0⟩ [(((PT.op f) : Int) == 1) = true, (((PT.op f) : Int) == 1) = false] (by kernel_rfl) ⟨b47_e0, b47_e1, trivial⟩ ?_
            obtain ⟨w75, cw75, h⟩ := bindS h
            refine f59_filter_right_L7_ok (f59_filter_right n) ih n f left (PT.op f) w75 cw75 _ ?_
            have h := Option.some.inj h
            subst h
            rfl
        · refine At.step hm ht ⟨[], [false], [], [0, 1, 14], []⟩ 5 ⟨[(0, oc (.d (.pt f))), (1, oc (zi left)), (14, oc (zi (PT.op f)))], [], [], 0⟩ [(((PT.op f) : Int) == 1) = false] (by kernel_rfl) ⟨b47_e0, trivial⟩ ?_
          rcases iteS h with ⟨b77_e0, h⟩ | ⟨b77_e0, h⟩
          · refine At.step hm ht ⟨[], [true], [], [0], []⟩ 6 ⟨[(0, oc (.d (.pt f)))], [], [], 0⟩ [(((PT.op f) : Int) == 11) = true] (by kernel_rfl) ⟨b77_e0, trivial⟩ ?_
            obtain ⟨g78_0, h⟩ := ifS h
            rcases iteS h with ⟨b78_5, h⟩ | ⟨b78_5, h⟩
            · obtain ⟨g78_1, h⟩ := ifS h
              rcases iteS h with ⟨b78_12, h⟩ | ⟨b78_12, h⟩
              · obtain ⟨g78_2, h⟩ := ifS h
                have h := Option.some.inj h
                subst h
                exact At.fin hm ht ⟨[(5, .b true), (12, .b true)], [], [], [4], []⟩ [PT.isNil f = false, (((PT.num f) : Int) == 0) = true, PT.isNil f = false, (PT.isNil (PT.fst f)) = true, PT.isNil f = false] (by kernel_rfl) ⟨g78_0, b78_5, g78_1, b78_12, g78_2, trivial⟩
              · have h := Option.some.inj h
                subst h
                exact At.fin hm ht ⟨[(5, .b true), (12, .b false)], [], [], [4], []⟩ [PT.isNil f = false, (((PT.num f) : Int) == 0) = true, PT.isNil f = false, (PT.isNil (PT.fst f)) = false] (by kernel_rfl) ⟨g78_0, b78_5, g78_1, b78_12, trivial⟩
            · have h := Option.some.inj h
              subst h
              exact At.fin hm ht ⟨[(5, .b false)], [], [], [4], []⟩ [PT.isNil f = false, (((PT.num f) : Int) == 0) = false] (by kernel_rfl) ⟨g78_0, b78_5, trivial⟩
          · refine At.step hm ht ⟨[], [false], [], [0, 1, 14], []⟩ 7 ⟨[(0, oc (.d (.pt f))), (1, oc (zi left)), (14, oc (zi (PT.op f)))], [], [], 0⟩ [(((PT.op f) : Int) == 11) = false] (by kernel_rfl) ⟨b77_e0, trivial⟩ ?_
            obtain ⟨w79, cw79, h⟩ := bindS h
            refine f59_filter_right_L7_ok (f59_filter_right n) ih n f left (PT.op f) w79 cw79 _ ?_
            have h := Option.some.inj h
            subst h
            rfl
/-! brougham/filter.Right -/
def f31_filter_Right_in (f : PT) : Inn := ⟨[.c (.d (.pt f))], [], [], 0⟩
def f31_filter_Right_out (r : Bool) : Out := ⟨oc (.d (.bool r)), [], [], 0⟩
def f31_filter_Right (n : Nat) (f : PT) : Option (Bool) :=
  (f59_filter_right n f 16).bind fun r41_0 =>
  some r41_0
theorem f31_filter_Right_ok (n : Nat) (f : PT) (r : Bool) (h : f31_filter_Right n f = some r) : FnOK Tryd.prog 31 (f31_filter_Right_in f) (f31_filter_Right_out r) := by
  unfold f31_filter_Right at h
  refine At.fn (r := 0) Tryd.func31 rfl (by kernel_rfl) rfl rfl (by kernel_rfl) ?_
  show At Tryd.prog Tryd.f31 0 0 ⟨[(0, oc (.d (.pt f)))], [], [], 0⟩ _
  refine At.step hm ht ⟨[], [], [], [0], []⟩ 1 ⟨[(0, oc (.d (.pt f)))], [], [], 0⟩ [] (by kernel_rfl) trivial ?_
  obtain ⟨r41_0, cr41_0, h⟩ := bindS h
  have h := Option.some.inj h
  subst h
  exact At.fin hm ht ⟨[(1, .call [] [] (f59_filter_right_out r41_0))], [], [], [2], []⟩ [FnOK Tryd.prog 59 (f59_filter_right_in f 16) (f59_filter_right_out r41_0)] (by kernel_rfl) ⟨(f59_filter_right_ok n f 16 r41_0 cr41_0), trivial⟩
/-! brougham/filter.flag -/
def f87_filter_flag_in (n_ : Int) : Inn := ⟨[.c (zi n_)], [], [], 0⟩
def f87_filter_flag_out (r : ByteArray) : Out := ⟨oc (.d (.str r)), [], [], 0⟩
def f87_filter_flag (n_ : Int) : Option (ByteArray) :=
  if ((n_ : Int) == 1) = true then
    some (⟨#[115, 121, 110]⟩ : ByteArray)
  else
    if ((n_ : Int) == 2) = true then
      some (⟨#[97, 99, 107]⟩ : ByteArray)
    else
      some (⟨#[114, 115, 116]⟩ : ByteArray)
theorem f87_filter_flag_ok (n_ : Int) (r : ByteArray) (h : f87_filter_flag n_ = some r) : FnOK Tryd.prog 87 (f87_filter_flag_in n_) (f87_filter_flag_out r) := by
  unfold f87_filter_flag at h
  refine At.fn (r := 0) Tryd.func87 rfl (by kernel_rfl) rfl rfl (by kernel_rfl) ?_
  show At Tryd.prog Tryd.f87 0 0 ⟨[(0, oc (zi n_))], [], [], 0⟩ _
  refine At.step hm ht ⟨[], [], [], [0], []⟩ 1 ⟨[(0, oc (zi n_))], [], [], 0⟩ [] (by kernel_rfl) trivial ?_
  refine At.step hm ht ⟨[], [], [], [3], []⟩ 2 ⟨[(3, oc (zi n_))], [], [], 0⟩ [] (by kernel_rfl) trivial ?_
  rcases iteS h with ⟨b93_e0, h⟩ | ⟨b93_e0, h⟩
  · refine At.step hm ht ⟨[], [true], [], [], []⟩ 3 ⟨[], [], [], 0⟩ [((n_ : Int) == 1) = true] (by kernel_rfl) ⟨b93_e0, trivial⟩ ?_
    have h := Option.some.inj h
    subst h
    exact At.fin hm ht ⟨[], [], [], [2], []⟩ [] (by kernel_rfl) trivial
  · refine At.step hm ht ⟨[], [false], [], [3], []⟩ 4 ⟨[(3, oc (zi n_))], [], [], 0⟩ [((n_ : Int) == 1) = false] (by kernel_rfl) ⟨b93_e0, trivial⟩ ?_
    rcases iteS h with ⟨b95_e0, h⟩ | ⟨b95_e0, h⟩
    · refine At.step hm ht ⟨[], [true], [], [], []⟩ 5 ⟨[], [], [], 0⟩ [((n_ : Int) == 2) = true] (by kernel_rfl) ⟨b95_e0, trivial⟩ ?_
      have h := Option.some.inj h
      subst h
      exact At.fin hm ht ⟨[], [], [], [2], []⟩ [] (by kernel_rfl) trivial
    · refine At.step hm ht ⟨[], [false], [], [], []⟩ 6 ⟨[], [], [], 0⟩ [((n_ : Int) == 2) = false] (by kernel_rfl) ⟨b95_e0, trivial⟩ ?_
      have h := Option.some.inj h
      subst h
      exact At.fin hm ht ⟨[], [], [], [2], []⟩ [] (by kernel_rfl) trivial
/-! brougham/filter.text -/
def f56_filter_text_in (f : PT) : Inn := ⟨[.c (.d (.pt f))], [], [], 0⟩
def f56_filter_text_out (r : ByteArray) : Out := ⟨oc (.d (.str r)), [], [], 0⟩
def f56_filter_text : Nat → PT → Option (ByteArray)
  | 0, _ => none
  | n + 1, f =>
    if PT.isNil f = false then
    if (((PT.op f) : Int) == 1) = true then
      some (⟨#[97, 108, 108]⟩ : ByteArray)
    else
      if (((PT.op f) : Int) == 11) = true then
        some (⟨#[101, 109, 112, 116, 121]⟩ : ByteArray)
      else
        if (((PT.op f) : Int) == 2) = true then
          if PT.isNil f = false then
          (f87_filter_flag (PT.num f)).bind fun r90_1 =>
          some r90_1
          else none
        else
          if (((PT.op f) : Int) == 3) = true then
            if PT.isNil f = false then
            (f52_num_Text (PT.num f)).bind fun r99_1 =>
            if (⟨#[112, 111, 114, 116, 32]⟩ : ByteArray).size + r99_1.size ≤ 9223372036854775807 then
            some ((⟨#[112, 111, 114, 116, 32]⟩ : ByteArray) ++ r99_1)
            else none
            else none
          else
            if (((PT.op f) : Int) == 4) = true then
              if PT.isNil f = false then
              (f52_num_Text (PT.num f)).bind fun r101_1 =>
              if (⟨#[115, 114, 99, 32]⟩ : ByteArray).size + r101_1.size ≤ 9223372036854775807 then
              some ((⟨#[115, 114, 99, 32]⟩ : ByteArray) ++ r101_1)
              else none
              else none
            else
              if (((PT.op f) : Int) == 5) = true then
                if PT.isNil f = false then
                (f52_num_Text (PT.num f)).bind fun r103_1 =>
                if (⟨#[100, 115, 116, 32]⟩ : ByteArray).size + r103_1.size ≤ 9223372036854775807 then
                some ((⟨#[100, 115, 116, 32]⟩ : ByteArray) ++ r103_1)
                else none
                else none
              else
                if (((PT.op f) : Int) == 6) = true then
                  if PT.isNil f = false then
                  (f52_num_Text (PT.num f)).bind fun r105_1 =>
                  if (⟨#[104, 97, 115, 32]⟩ : ByteArray).size + r105_1.size ≤ 9223372036854775807 then
                  some ((⟨#[104, 97, 115, 32]⟩ : ByteArray) ++ r105_1)
                  else none
                  else none
                else
                  if (((PT.op f) : Int) == 7) = true then
                    if PT.isNil f = false then
                    (f52_num_Text (PT.num f)).bind fun r107_1 =>
                    if (⟨#[108, 111, 110, 103, 32]⟩ : ByteArray).size + r107_1.size ≤ 9223372036854775807 then
                    some ((⟨#[108, 111, 110, 103, 32]⟩ : ByteArray) ++ r107_1)
                    else none
                    else none
                  else
                    if (((PT.op f) : Int) == 8) = true then
                      if PT.isNil f = false then
                      ((f56_filter_text n) (PT.fst f)).bind fun r109_1 =>
                      if (⟨#[40, 32, 110, 111, 116, 32]⟩ : ByteArray).size + r109_1.size ≤ 9223372036854775807 then
                      if ((⟨#[40, 32, 110, 111, 116, 32]⟩ : ByteArray) ++ r109_1).size + (⟨#[32, 41]⟩ : ByteArray).size ≤ 9223372036854775807 then
                      some (((⟨#[40, 32, 110, 111, 116, 32]⟩ : ByteArray) ++ r109_1) ++ (⟨#[32, 41]⟩ : ByteArray))
                      else none
                      else none
                      else none
                    else
                      if (((PT.op f) : Int) == 9) = true then
                        if PT.isNil f = false then
                        ((f56_filter_text n) (PT.fst f)).bind fun r111_1 =>
                        if (⟨#[40, 32]⟩ : ByteArray).size + r111_1.size ≤ 9223372036854775807 then
                        if ((⟨#[40, 32]⟩ : ByteArray) ++ r111_1).size + (⟨#[32, 97, 110, 100, 32]⟩ : ByteArray).size ≤ 9223372036854775807 then
                        if PT.isNil f = false then
                        ((f56_filter_text n) (PT.snd f)).bind fun r111_5 =>
                        if (((⟨#[40, 32]⟩ : ByteArray) ++ r111_1) ++ (⟨#[32, 97, 110, 100, 32]⟩ : ByteArray)).size + r111_5.size ≤ 9223372036854775807 then
                        if ((((⟨#[40, 32]⟩ : ByteArray) ++ r111_1) ++ (⟨#[32, 97, 110, 100, 32]⟩ : ByteArray)) ++ r111_5).size + (⟨#[32, 41]⟩ : ByteArray).size ≤ 9223372036854775807 then
                        some (((((⟨#[40, 32]⟩ : ByteArray) ++ r111_1) ++ (⟨#[32, 97, 110, 100, 32]⟩ : ByteArray)) ++ r111_5) ++ (⟨#[32, 41]⟩ : ByteArray))
                        else none
                        else none
                        else none
                        else none
                        else none
                        else none
                      else
                        if PT.isNil f = false then
                        ((f56_filter_text n) (PT.fst f)).bind fun r112_1 =>
                        if (⟨#[40, 32]⟩ : ByteArray).size + r112_1.size ≤ 9223372036854775807 then
                        if ((⟨#[40, 32]⟩ : ByteArray) ++ r112_1).size + (⟨#[32, 111, 114, 32]⟩ : ByteArray).size ≤ 9223372036854775807 then
                        if PT.isNil f = false then
                        ((f56_filter_text n) (PT.snd f)).bind fun r112_5 =>
                        if (((⟨#[40, 32]⟩ : ByteArray) ++ r112_1) ++ (⟨#[32, 111, 114, 32]⟩ : ByteArray)).size + r112_5.size ≤ 9223372036854775807 then
                        if ((((⟨#[40, 32]⟩ : ByteArray) ++ r112_1) ++ (⟨#[32, 111, 114, 32]⟩ : ByteArray)) ++ r112_5).size + (⟨#[32, 41]⟩ : ByteArray).size ≤ 9223372036854775807 then
                        some (((((⟨#[40, 32]⟩ : ByteArray) ++ r112_1) ++ (⟨#[32, 111, 114, 32]⟩ : ByteArray)) ++ r112_5) ++ (⟨#[32, 41]⟩ : ByteArray))
                        else none
                        else none
                        else none
                        else none
                        else none
                        else none
    else none
theorem f56_filter_text_ok (n : Nat) : ∀ (f : PT) (r : ByteArray) (h : f56_filter_text n f = some r), FnOK Tryd.prog 56 (f56_filter_text_in f) (f56_filter_text_out r) := by
  induction n with
  | zero => intro f r h; rw [f56_filter_text] at h; cases h
  | succ n ih =>
    intro f r h
    rw [f56_filter_text] at h
    refine At.fn (r := 0) Tryd.func56 rfl (by kernel_rfl) rfl rfl (by kernel_rfl) ?_
    show At Tryd.prog Tryd.f56 0 0 ⟨[(0, oc (.d (.pt f)))], [], [], 0⟩ _
    refine At.step hm ht ⟨[], [], [], [0], []⟩ 1 ⟨[(0, oc (.d (.pt f)))], [], [], 0⟩ [] (by kernel_rfl) trivial ?_
    obtain ⟨g84_0, h⟩ := ifS h
    refine At.step hm ht ⟨[], [], [], [0, 6], []⟩ 2 ⟨[(0, oc (.d (.pt f))), (6, oc (zi (PT.op f)))], [], [], 0⟩ [PT.isNil f = false] (by kernel_rfl) ⟨g84_0, trivial⟩ ?_
    rcases iteS h with ⟨b85_e0, h⟩ | ⟨b85_e0, h⟩
    · refine At.step hm ht ⟨[], [true], [], [], []⟩ 3 ⟨[], [], [], 0⟩ [(((PT.op f) : Int) == 1) = true] (by kernel_rfl) ⟨b85_e0, trivial⟩ ?_
      have h := Option.some.inj h
      subst h
      exact At.fin hm ht ⟨[], [], [], [2], []⟩ [] (by kernel_rfl) trivial
    · refine At.step hm ht ⟨[], [false], [], [0, 6], []⟩ 4 ⟨[(0, oc (.d (.pt f))), (6, oc (zi (PT.op f)))], [], [], 0⟩ [(((PT.op f) : Int) == 1) = false] (by kernel_rfl) ⟨b85_e0, trivial⟩ ?_
      rcases iteS h with ⟨b87_e0, h⟩ | ⟨b87_e0, h⟩
      · refine At.step hm ht ⟨[], [true], [], [], []⟩ 5 ⟨[], [], [], 0⟩ [(((PT.op f) : Int) == 11) = true] (by kernel_rfl) ⟨b87_e0, trivial⟩ ?_
        have h := Option.some.inj h
        subst h
        exact At.fin hm ht ⟨[], [], [], [2], []⟩ [] (by kernel_rfl) trivial
      · refine At.step hm ht ⟨[], [false], [], [0, 6], []⟩ 6 ⟨[(0, oc (.d (.pt f))), (6, oc (zi (PT.op f)))], [], [], 0⟩ [(((PT.op f) : Int) == 11) = false] (by kernel_rfl) ⟨b87_e0, trivial⟩ ?_
        rcases iteS h with ⟨b89_e0, h⟩ | ⟨b89_e0, h⟩
        · refine At.step hm ht ⟨[], [true], [], [0], []⟩ 7 ⟨[(0, oc (.d (.pt f)))], [], [], 0⟩ [(((PT.op f) : Int) == 2) = true] (by kernel_rfl) ⟨b89_e0, trivial⟩ ?_
          obtain ⟨g90_0, h⟩ := ifS h
          obtain ⟨r90_1, cr90_1, h⟩ := bindS h
          have h := Option.some.inj h
          subst h
          exact At.fin hm ht ⟨[(4, .call [] [] (f87_filter_flag_out r90_1))], [], [], [2], []⟩ [PT.isNil f = false, FnOK Tryd.prog 87 (f87_filter_flag_in (PT.num f)) (f87_filter_flag_out r90_1)] (by kernel_rfl) ⟨g90_0, (f87_filter_flag_ok (PT.num f) r90_1 cr90_1), trivial⟩
        · refine At.step hm ht ⟨[], [false], [], [0, 6], []⟩ 8 ⟨[(0, oc (.d (.pt f))), (6, oc (zi (PT.op f)))], [], [], 0⟩ [(((PT.op f) : Int) == 2) = false] (by kernel_rfl) ⟨b89_e0, trivial⟩ ?_
          rcases iteS h with ⟨b98_e0, h⟩ | ⟨b98_e0, h⟩
          · refine At.step hm ht ⟨[], [true], [], [0], []⟩ 9 ⟨[(0, oc (.d (.pt f)))], [], [], 0⟩ [(((PT.op f) : Int) == 3) = true] (by kernel_rfl) ⟨b98_e0, trivial⟩ ?_
            obtain ⟨g99_0, h⟩ := ifS h
            obtain ⟨r99_1, cr99_1, h⟩ := bindS h
            obtain ⟨g99_2, h⟩ := ifS h
            have h := Option.some.inj h
            subst h
            exact At.fin hm ht ⟨[(4, .call [] [] (f52_num_Text_out r99_1))], [], [], [2], []⟩ [PT.isNil f = false, FnOK Tryd.prog 52 (f52_num_Text_in (PT.num f)) (f52_num_Text_out r99_1), (⟨#[112, 111, 114, 116, 32]⟩ : ByteArray).size + r99_1.size ≤ 9223372036854775807] (by kernel_rfl) ⟨g99_0, (f52_num_Text_ok (PT.num f) r99_1 cr99_1), g99_2, trivial⟩
          · refine At.step hm ht ⟨[], [false], [], [0, 6], []⟩ 10 ⟨[(0, oc (.d (.pt f))), (6, oc (zi (PT.op f)))], [], [], 0⟩ [(((PT.op f) : Int) == 3) = false] (by kernel_rfl) ⟨b98_e0, trivial⟩ ?_
            rcases iteS h with ⟨b100_e0, h⟩ | ⟨b100_e0, h⟩
            · refine At.step hm ht ⟨[], [true], [], [0], []⟩ 11 ⟨[(0, oc (.d (.pt f)))], [], [], 0⟩ [(((PT.op f) : Int) == 4) = true] (by kernel_rfl) ⟨b100_e0, trivial⟩ ?_
              obtain ⟨g101_0, h⟩ := ifS h
              obtain ⟨r101_1, cr101_1, h⟩ := bindS h
              obtain ⟨g101_2, h⟩ := ifS h
              have h := Option.some.inj h
              subst h
              exact At.fin hm ht ⟨[(4, .call [] [] (f52_num_Text_out r101_1))], [], [], [2], []⟩ [PT.isNil f = false, FnOK Tryd.prog 52 (f52_num_Text_in (PT.num f)) (f52_num_Text_out r101_1), (⟨#[115, 114, 99, 32]⟩ : ByteArray).size + r101_1.size ≤ 9223372036854775807] (by kernel_rfl) ⟨g101_0, (f52_num_Text_ok (PT.num f) r101_1 cr101_1), g101_2, trivial⟩
            · refine At.step hm ht ⟨[], [false], [], [0, 6], []⟩ 12 ⟨[(0, oc (.d (.pt f))), (6, oc (zi (PT.op f)))], [], [], 0⟩ [(((PT.op f) : Int) == 4) = false] (by kernel_rfl) ⟨b100_e0, trivial⟩ ?_
              rcases iteS h with ⟨b102_e0, h⟩ | ⟨b102_e0, h⟩
              · refine At.step hm ht ⟨[], [true], [], [0], []⟩ 13 ⟨[(0, oc (.d (.pt f)))], [], [], 0⟩ [(((PT.op f) : Int) == 5) = true] (by kernel_rfl) ⟨b102_e0, trivial⟩ ?_
                obtain ⟨g103_0, h⟩ := ifS h
                obtain ⟨r103_1, cr103_1, h⟩ := bindS h
                obtain ⟨g103_2, h⟩ := ifS h
                have h := Option.some.inj h
                subst h
                exact At.fin hm ht ⟨[(4, .call [] [] (f52_num_Text_out r103_1))], [], [], [2], []⟩ [PT.isNil f = false, FnOK Tryd.prog 52 (f52_num_Text_in (PT.num f)) (f52_num_Text_out r103_1), (⟨#[100, 115, 116, 32]⟩ : ByteArray).size + r103_1.size ≤ 9223372036854775807] (by kernel_rfl) ⟨g103_0, (f52_num_Text_ok (PT.num f) r103_1 cr103_1), g103_2, trivial⟩
              · refine At.step hm ht ⟨[], [false], [], [0, 6], []⟩ 14 ⟨[(0, oc (.d (.pt f))), (6, oc (zi (PT.op f)))], [], [], 0⟩ [(((PT.op f) : Int) == 5) = false] (by kernel_rfl) ⟨b102_e0, trivial⟩ ?_
                rcases iteS h with ⟨b104_e0, h⟩ | ⟨b104_e0, h⟩
                · refine At.step hm ht ⟨[], [true], [], [0], []⟩ 15 ⟨[(0, oc (.d (.pt f)))], [], [], 0⟩ [(((PT.op f) : Int) == 6) = true] (by kernel_rfl) ⟨b104_e0, trivial⟩ ?_
                  obtain ⟨g105_0, h⟩ := ifS h
                  obtain ⟨r105_1, cr105_1, h⟩ := bindS h
                  obtain ⟨g105_2, h⟩ := ifS h
                  have h := Option.some.inj h
                  subst h
                  exact At.fin hm ht ⟨[(4, .call [] [] (f52_num_Text_out r105_1))], [], [], [2], []⟩ [PT.isNil f = false, FnOK Tryd.prog 52 (f52_num_Text_in (PT.num f)) (f52_num_Text_out r105_1), (⟨#[104, 97, 115, 32]⟩ : ByteArray).size + r105_1.size ≤ 9223372036854775807] (by kernel_rfl) ⟨g105_0, (f52_num_Text_ok (PT.num f) r105_1 cr105_1), g105_2, trivial⟩
                · refine At.step hm ht ⟨[], [false], [], [0, 6], []⟩ 16 ⟨[(0, oc (.d (.pt f))), (6, oc (zi (PT.op f)))], [], [], 0⟩ [(((PT.op f) : Int) == 6) = false] (by kernel_rfl) ⟨b104_e0, trivial⟩ ?_
                  rcases iteS h with ⟨b106_e0, h⟩ | ⟨b106_e0, h⟩
                  · refine At.step hm ht ⟨[], [true], [], [0], []⟩ 17 ⟨[(0, oc (.d (.pt f)))], [], [], 0⟩ [(((PT.op f) : Int) == 7) = true] (by kernel_rfl) ⟨b106_e0, trivial⟩ ?_
                    obtain ⟨g107_0, h⟩ := ifS h
                    obtain ⟨r107_1, cr107_1, h⟩ := bindS h
                    obtain ⟨g107_2, h⟩ := ifS h
                    have h := Option.some.inj h
                    subst h
                    exact At.fin hm ht ⟨[(4, .call [] [] (f52_num_Text_out r107_1))], [], [], [2], []⟩ [PT.isNil f = false, FnOK Tryd.prog 52 (f52_num_Text_in (PT.num f)) (f52_num_Text_out r107_1), (⟨#[108, 111, 110, 103, 32]⟩ : ByteArray).size + r107_1.size ≤ 9223372036854775807] (by kernel_rfl) ⟨g107_0, (f52_num_Text_ok (PT.num f) r107_1 cr107_1), g107_2, trivial⟩
                  · refine At.step hm ht ⟨[], [false], [], [0, 6], []⟩ 18 ⟨[(0, oc (.d (.pt f))), (6, oc (zi (PT.op f)))], [], [], 0⟩ [(((PT.op f) : Int) == 7) = false] (by kernel_rfl) ⟨b106_e0, trivial⟩ ?_
                    rcases iteS h with ⟨b108_e0, h⟩ | ⟨b108_e0, h⟩
                    · refine At.step hm ht ⟨[], [true], [], [0], []⟩ 19 ⟨[(0, oc (.d (.pt f)))], [], [], 0⟩ [(((PT.op f) : Int) == 8) = true] (by kernel_rfl) ⟨b108_e0, trivial⟩ ?_
                      obtain ⟨g109_0, h⟩ := ifS h
                      obtain ⟨r109_1, cr109_1, h⟩ := bindS h
                      obtain ⟨g109_2, h⟩ := ifS h
                      obtain ⟨g109_3, h⟩ := ifS h
                      have h := Option.some.inj h
                      subst h
                      exact At.fin hm ht ⟨[(4, .call [] [] (f56_filter_text_out r109_1))], [], [], [2], []⟩ [PT.isNil f = false, FnOK Tryd.prog 56 (f56_filter_text_in (PT.fst f)) (f56_filter_text_out r109_1), (⟨#[40, 32, 110, 111, 116, 32]⟩ : ByteArray).size + r109_1.size ≤ 9223372036854775807, ((⟨#[40, 32, 110, 111, 116, 32]⟩ : ByteArray) ++ r109_1).size + (⟨#[32, 41]⟩ : ByteArray).size ≤ 9223372036854775807] (by kernel_rfl) ⟨g109_0, (ih (PT.fst f) r109_1 cr109_1), g109_2, g109_3, trivial⟩
                    · refine At.step hm ht ⟨[], [false], [], [0, 6], []⟩ 20 ⟨[(0, oc (.d (.pt f))), (6, oc (zi (PT.op f)))], [], [], 0⟩ [(((PT.op f) : Int) == 8) = false] (by kernel_rfl) ⟨b108_e0, trivial⟩ ?_
                      rcases iteS h with ⟨b110_e0, h⟩ | ⟨b110_e0, h⟩
                      · refine At.step hm ht ⟨[], [true], [], [0], []⟩ 21 ⟨[(0, oc (.d (.pt f)))], [], [], 0⟩ [(((PT.op f) : Int) == 9) = true] (by kernel_rfl) ⟨b110_e0, trivial⟩ ?_
                        obtain ⟨g111_0, h⟩ := ifS h
                        obtain ⟨r111_1, cr111_1, h⟩ := bindS h
                        obtain ⟨g111_2, h⟩ := ifS h
                        obtain ⟨g111_3, h⟩ := ifS h
                        obtain ⟨g111_4, h⟩ := ifS h
                        obtain ⟨r111_5, cr111_5, h⟩ := bindS h
                        obtain ⟨g111_6, h⟩ := ifS h
                        obtain ⟨g111_7, h⟩ := ifS h
                        have h := Option.some.inj h
                        subst h
                        exact At.fin hm ht ⟨[(4, .call [] [] (f56_filter_text_out r111_1)), (11, .call [] [] (f56_filter_text_out r111_5))], [], [], [2], []⟩ [PT.isNil f = false, FnOK Tryd.prog 56 (f56_filter_text_in (PT.fst f)) (f56_filter_text_out r111_1), (⟨#[40, 32]⟩ : ByteArray).size + r111_1.size ≤ 9223372036854775807, ((⟨#[40, 32]⟩ : ByteArray) ++ r111_1).size + (⟨#[32, 97, 110, 100, 32]⟩ : ByteArray).size ≤ 9223372036854775807, PT.isNil f = false, FnOK Tryd.prog 56 (f56_filter_text_in (PT.snd f)) (f56_filter_text_out r111_5), (((⟨#[40, 32]⟩ : ByteArray) ++ r111_1) ++ (⟨#[32, 97, 110, 100, 32]⟩ : ByteArray)).size + r111_5.size ≤ 9223372036854775807, ((((⟨#[40, 32]⟩ : ByteArray) ++ r111_1) ++ (⟨#[32, 97, 110, 100, 32]⟩ : ByteArray)) ++ r111_5).size + (⟨#[32, 41]⟩ : ByteArray).size ≤ 9223372036854775807] (by kernel_rfl) ⟨g111_0, (ih (PT.fst f) r111_1 cr111_1), g111_2, g111_3, g111_4, (ih (PT.snd f) r111_5 cr111_5), g111_6, g111_7, trivial⟩
                      · refine At.step hm ht ⟨[], [false], [], [0], []⟩ 22 ⟨[(0, oc (.d (.pt f)))], [], [], 0⟩ [(((PT.op f) : Int) == 9) = false] (by kernel_rfl) ⟨b110_e0, trivial⟩ ?_
                        obtain ⟨g112_0, h⟩ := ifS h
                        obtain ⟨r112_1, cr112_1, h⟩ := bindS h
                        obtain ⟨g112_2, h⟩ := ifS h
                        obtain ⟨g112_3, h⟩ := ifS h
                        obtain ⟨g112_4, h⟩ := ifS h
                        obtain ⟨r112_5, cr112_5, h⟩ := bindS h
                        obtain ⟨g112_6, h⟩ := ifS h
                        obtain ⟨g112_7, h⟩ := ifS h
                        have h := Option.some.inj h
                        subst h
                        exact At.fin hm ht ⟨[(4, .call [] [] (f56_filter_text_out r112_1)), (11, .call [] [] (f56_filter_text_out r112_5))], [], [], [2], []⟩ [PT.isNil f = false, FnOK Tryd.prog 56 (f56_filter_text_in (PT.fst f)) (f56_filter_text_out r112_1), (⟨#[40, 32]⟩ : ByteArray).size + r112_1.size ≤ 9223372036854775807, ((⟨#[40, 32]⟩ : ByteArray) ++ r112_1).size + (⟨#[32, 111, 114, 32]⟩ : ByteArray).size ≤ 9223372036854775807, PT.isNil f = false, FnOK Tryd.prog 56 (f56_filter_text_in (PT.snd f)) (f56_filter_text_out r112_5), (((⟨#[40, 32]⟩ : ByteArray) ++ r112_1) ++ (⟨#[32, 111, 114, 32]⟩ : ByteArray)).size + r112_5.size ≤ 9223372036854775807, ((((⟨#[40, 32]⟩ : ByteArray) ++ r112_1) ++ (⟨#[32, 111, 114, 32]⟩ : ByteArray)) ++ r112_5).size + (⟨#[32, 41]⟩ : ByteArray).size ≤ 9223372036854775807] (by kernel_rfl) ⟨g112_0, (ih (PT.fst f) r112_1 cr112_1), g112_2, g112_3, g112_4, (ih (PT.snd f) r112_5 cr112_5), g112_6, g112_7, trivial⟩
/-! brougham/filter.Text -/
def f27_filter_Text_in (f : PT) : Inn := ⟨[.c (.d (.pt f))], [], [], 0⟩
def f27_filter_Text_out (r : ByteArray) : Out := ⟨oc (.d (.str r)), [], [], 0⟩
def f27_filter_Text (n : Nat) (f : PT) : Option (ByteArray) :=
  (f31_filter_Right n f).bind fun r39_0 =>
  if (!r39_0) = true then
    some (⟨#[]⟩ : ByteArray)
  else
    (f56_filter_text n f).bind fun r82_0 =>
    some r82_0
theorem f27_filter_Text_ok (n : Nat) (f : PT) (r : ByteArray) (h : f27_filter_Text n f = some r) : FnOK Tryd.prog 27 (f27_filter_Text_in f) (f27_filter_Text_out r) := by
  unfold f27_filter_Text at h
  refine At.fn (r := 0) Tryd.func27 rfl (by kernel_rfl) rfl rfl (by kernel_rfl) ?_
  show At Tryd.prog Tryd.f27 0 0 ⟨[(0, oc (.d (.pt f)))], [], [], 0⟩ _
  refine At.step hm ht ⟨[], [], [], [0], []⟩ 1 ⟨[(0, oc (.d (.pt f)))], [], [], 0⟩ [] (by kernel_rfl) trivial ?_
  obtain ⟨r39_0, cr39_0, h⟩ := bindS h
  rcases iteS h with ⟨b39_e0, h⟩ | ⟨b39_e0, h⟩
  · refine At.step hm ht ⟨[(1, .call [] [] (f31_filter_Right_out r39_0))], [true], [], [], []⟩ 2 ⟨[], [], [], 0⟩ [FnOK Tryd.prog 31 (f31_filter_Right_in f) (f31_filter_Right_out r39_0), (!r39_0) = true] (by kernel_rfl) ⟨(f31_filter_Right_ok n f r39_0 cr39_0), b39_e0, trivial⟩ ?_
    have h := Option.some.inj h
    subst h
    exact At.fin hm ht ⟨[], [], [], [2], []⟩ [] (by kernel_rfl) trivial
  · refine At.step hm ht ⟨[(1, .call [] [] (f31_filter_Right_out r39_0))], [false], [], [0], []⟩ 3 ⟨[(0, oc (.d (.pt f)))], [], [], 0⟩ [FnOK Tryd.prog 31 (f31_filter_Right_in f) (f31_filter_Right_out r39_0), (!r39_0) = false] (by kernel_rfl) ⟨(f31_filter_Right_ok n f r39_0 cr39_0), b39_e0, trivial⟩ ?_
    obtain ⟨r82_0, cr82_0, h⟩ := bindS h
    have h := Option.some.inj h
    subst h
    exact At.fin hm ht ⟨[(1, .call [] [] (f56_filter_text_out r82_0))], [], [], [2], []⟩ [FnOK Tryd.prog 56 (f56_filter_text_in f) (f56_filter_text_out r82_0)] (by kernel_rfl) ⟨(f56_filter_text_ok n f r82_0 cr82_0), trivial⟩
/-! brougham/num.Pieces -/
def f15_num_Pieces_in (s : ByteArray) : Inn := ⟨[.c (.d (.str s))], [], [], 0⟩
def f15_num_Pieces_out (r : List ByteArray) : Out := ⟨oc (.d (.sl .str r)), [], [], 0⟩
def f15_num_Pieces_L4 : Nat → (List ByteArray) → (List ByteArray) → Int → Int → Option (List ByteArray)
  | 0, _, _, _, _ => none
  | n + 1, out, t13, t14, t15 =>
    if (decide ((t15 : Int) < t14)) = true then
      if (0 : Int) ≤ t15 ∧ t15 < (((t13).length : Nat) : Int) then
      if (!((t13.getD t15.toNat ByteArray.empty).toList == (⟨#[]⟩ : ByteArray).toList)) = true then
        if out.length + [(t13.getD t15.toNat ByteArray.empty)].length ≤ maxLen ∧ (out.length + [(t13.getD t15.toNat ByteArray.empty)].length) * 16 ≤ 140737488355328 then
        f15_num_Pieces_L4 n (out ++ [(t13.getD t15.toNat ByteArray.empty)]) t13 t14 (IntKind.wrap .i64 (t15 + 1))
        else none
      else
        f15_num_Pieces_L4 n out t13 t14 (IntKind.wrap .i64 (t15 + 1))
      else none
    else
      some (out)
def f15_num_Pieces_L4_k (e : List ByteArray) (o : Out) : Prop := At Tryd.prog Tryd.f15 0 9 ⟨[(3, oc (.own 0 .str e))], [(0, some ⟨9, 0⟩)], [], 1⟩ o
theorem f15_num_Pieces_L4_ok (n : Nat) : ∀ (out : List ByteArray) (t13 : List ByteArray) (t14 : Int) (t15 : Int) (w : List ByteArray) (h : f15_num_Pieces_L4 n out t13 t14 t15 = some w) (o : Out) (hk : f15_num_Pieces_L4_k w o), At Tryd.prog Tryd.f15 0 4 ⟨[(3, oc (.own 0 .str out)), (13, oc (.d (.sl .str t13))), (14, oc (zi t14)), (15, oc (zi t15))], [(0, some ⟨9, 0⟩)], [], 1⟩ o := by
  induction n with
  | zero => intro out t13 t14 t15 w h; rw [f15_num_Pieces_L4] at h; cases h
  | succ n ih =>
    intro out t13 t14 t15 w h o hk
    rw [f15_num_Pieces_L4] at h
    rcases iteS h with ⟨b131_e0, h⟩ | ⟨b131_e0, h⟩
    · refine At.step hm ht ⟨[], [true], [], [3, 13, 14, 15], [0]⟩ 5 ⟨[(3, oc (.own 0 .str out)), (13, oc (.d (.sl .str t13))), (14, oc (zi t14)), (15, oc (zi t15))], [(0, some ⟨9, 0⟩)], [], 1⟩ [(decide ((t15 : Int) < t14)) = true] (by kernel_rfl) ⟨b131_e0, trivial⟩ ?_
      obtain ⟨g132_0, h⟩ := ifS h
      refine At.step hm ht ⟨[], [], [], [3, 5, 13, 14, 15], [0]⟩ 6 ⟨[(3, oc (.own 0 .str out)), (5, oc (.d (.str (t13.getD t15.toNat ByteArray.empty)))), (13, oc (.d (.sl .str t13))), (14, oc (zi t14)), (15, oc (zi t15))], [(0, some ⟨9, 0⟩)], [], 1⟩ [(0 : Int) ≤ t15 ∧ t15 < (((t13).length : Nat) : Int)] (by kernel_rfl) ⟨g132_0, trivial⟩ ?_
      rcases iteS h with ⟨b133_e0, h⟩ | ⟨b133_e0, h⟩
      · refine At.step hm ht ⟨[], [true], [], [3, 5, 13, 14, 15], [0]⟩ 7 ⟨[(3, oc (.own 0 .str out)), (5, oc (.d (.str (t13.getD t15.toNat ByteArray.empty)))), (13, oc (.d (.sl .str t13))), (14, oc (zi t14)), (15, oc (zi t15))], [(0, some ⟨9, 0⟩)], [], 1⟩ [(!((t13.getD t15.toNat ByteArray.empty).toList == (⟨#[]⟩ : ByteArray).toList)) = true] (by kernel_rfl) ⟨b133_e0, trivial⟩ ?_
        obtain ⟨g134_0, h⟩ := ifS h
        refine At.step hm ht ⟨[], [], [], [3, 13, 14, 15], [4]⟩ 8 ⟨[(3, oc (.own 0 .str (out ++ [(t13.getD t15.toNat ByteArray.empty)]))), (13, oc (.d (.sl .str t13))), (14, oc (zi t14)), (15, oc (zi t15))], [(0, some ⟨9, 0⟩)], [], 1⟩ [out.length + [(t13.getD t15.toNat ByteArray.empty)].length ≤ maxLen ∧ (out.length + [(t13.getD t15.toNat ByteArray.empty)].length) * 16 ≤ 140737488355328] (by kernel_rfl) ⟨g134_0, trivial⟩ ?_
        refine At.step hm ht ⟨[], [], [], [3, 13, 14, 15], [0]⟩ 4 ⟨[(3, oc (.own 0 .str (out ++ [(t13.getD t15.toNat ByteArray.empty)]))), (13, oc (.d (.sl .str t13))), (14, oc (zi t14)), (15, oc (zi (IntKind.wrap .i64 (t15 + 1))))], [(0, some ⟨9, 0⟩)], [], 1⟩ [] (by kernel_rfl) trivial ?_
        exact ih (out ++ [(t13.getD t15.toNat ByteArray.empty)]) t13 t14 (IntKind.wrap .i64 (t15 + 1)) w h o hk
      · refine At.step hm ht ⟨[], [false], [], [3, 13, 14, 15], [0]⟩ 8 ⟨[(3, oc (.own 0 .str out)), (13, oc (.d (.sl .str t13))), (14, oc (zi t14)), (15, oc (zi t15))], [(0, some ⟨9, 0⟩)], [], 1⟩ [(!((t13.getD t15.toNat ByteArray.empty).toList == (⟨#[]⟩ : ByteArray).toList)) = false] (by kernel_rfl) ⟨b133_e0, trivial⟩ ?_
        refine At.step hm ht ⟨[], [], [], [3, 13, 14, 15], [0]⟩ 4 ⟨[(3, oc (.own 0 .str out)), (13, oc (.d (.sl .str t13))), (14, oc (zi t14)), (15, oc (zi (IntKind.wrap .i64 (t15 + 1))))], [(0, some ⟨9, 0⟩)], [], 1⟩ [] (by kernel_rfl) trivial ?_
        exact ih out t13 t14 (IntKind.wrap .i64 (t15 + 1)) w h o hk
    · refine At.step hm ht ⟨[], [false], [], [3], [0]⟩ 9 ⟨[(3, oc (.own 0 .str out))], [(0, some ⟨9, 0⟩)], [], 1⟩ [(decide ((t15 : Int) < t14)) = false] (by kernel_rfl) ⟨b131_e0, trivial⟩ ?_
      have h := Option.some.inj h
      subst h
      exact hk
def f15_num_Pieces (n : Nat) (s : ByteArray) : Option (List ByteArray) :=
  (f49_strings_Cut s (⟨#[35]⟩ : ByteArray)).bind fun r128_0 =>
  (f45_strings_Split r128_0.1 (⟨#[32]⟩ : ByteArray)).bind fun r130_0 =>
  (f15_num_Pieces_L4 n [] r130_0 ((r130_0.length : Nat) : Int) 0).bind fun w137 =>
  some w137
theorem f15_num_Pieces_ok (n : Nat) (s : ByteArray) (r : List ByteArray) (h : f15_num_Pieces n s = some r) : FnOK Tryd.prog 15 (f15_num_Pieces_in s) (f15_num_Pieces_out r) := by
  unfold f15_num_Pieces at h
  refine At.fn (r := 0) Tryd.func15 rfl (by kernel_rfl) rfl rfl (by kernel_rfl) ?_
  show At Tryd.prog Tryd.f15 0 0 ⟨[(0, oc (.d (.str s)))], [], [], 0⟩ _
  refine At.step hm ht ⟨[], [], [], [0], []⟩ 1 ⟨[(0, oc (.d (.str s)))], [], [], 0⟩ [] (by kernel_rfl) trivial ?_
  obtain ⟨r128_0, cr128_0, h⟩ := bindS h
  refine At.step hm ht ⟨[(1, .call [] [] (f49_strings_Cut_out r128_0))], [], [], [0], []⟩ 2 ⟨[(0, oc (.d (.str r128_0.1)))], [], [], 0⟩ [FnOK Tryd.prog 49 (f49_strings_Cut_in s (⟨#[35]⟩ : ByteArray)) (f49_strings_Cut_out r128_0)] (by kernel_rfl) ⟨(f49_strings_Cut_ok s (⟨#[35]⟩ : ByteArray) r128_0 cr128_0), trivial⟩ ?_
  refine At.step hm ht ⟨[], [], [], [0, 3], []⟩ 3 ⟨[(0, oc (.d (.str r128_0.1))), (3, oc (.d (.sl .unit [])))], [], [], 0⟩ [] (by kernel_rfl) trivial ?_
  obtain ⟨r130_0, cr130_0, h⟩ := bindS h
  refine At.step hm ht ⟨[(1, .call [] [] (f45_strings_Split_out r130_0))], [], [.nil false 3 0 .str (some 9)], [3, 13, 14, 15], [3]⟩ 4 ⟨[(3, oc (.own 0 .str [])), (13, oc (.d (.sl .str r130_0))), (14, oc (zi ((r130_0.length : Nat) : Int))), (15, oc (zi 0))], [(0, some ⟨9, 0⟩)], [], 1⟩ [FnOK Tryd.prog 45 (f45_strings_Split_in r128_0.1 (⟨#[32]⟩ : ByteArray)) (f45_strings_Split_out r130_0)] (by kernel_rfl) ⟨(f45_strings_Split_ok r128_0.1 (⟨#[32]⟩ : ByteArray) r130_0 cr130_0), trivial⟩ ?_
  obtain ⟨w137, cw137, h⟩ := bindS h
  refine f15_num_Pieces_L4_ok n [] r130_0 ((r130_0.length : Nat) : Int) 0 w137 cw137 _ ?_
  show At Tryd.prog Tryd.f15 0 9 ⟨[(3, oc (.own 0 .str w137))], [(0, some ⟨9, 0⟩)], [], 1⟩ _
  have h := Option.some.inj h
  subst h
  exact At.fin hm ht ⟨[], [], [], [2], []⟩ [] (by kernel_rfl) trivial
/-! (*brougham/filter.reader).took -/
def f84_filter_reader_took_in (s : ByteArray) (r__0 : List ByteArray) (r__1 : Int) (r__2 : Bool) : Inn := ⟨[.c (.ptr 0 0), .c (.d (.str s))], [], [(0, [.d (.sl .str r__0), zi r__1, .d (.bool r__2)])], 1⟩
def f84_filter_reader_took_out (r : Bool × List ByteArray × Int × Bool) : Out := ⟨oc (.d (.bool r.1)), [], [(0, [.d (.sl .str r.2.1), zi r.2.2.1, .d (.bool r.2.2.2)])], 1⟩
def f84_filter_reader_took (s : ByteArray) (r__0 : List ByteArray) (r__1 : Int) (r__2 : Bool) : Option (Bool × List ByteArray × Int × Bool) :=
  if ((((r__0.length : Nat) : Int) : Int) == 0) = true then
    some (false, r__0, r__1, r__2)
  else
    if (0 : Int) ≤ 0 ∧ 0 < (((r__0).length : Nat) : Int) then
    if (!((r__0.getD 0 ByteArray.empty).toList == s.toList)) = true then
      some (false, r__0, r__1, r__2)
    else
      if cutOk r__0.length (some 1) none none then
      some (true, ((r__0.take r__0.length).drop 1), r__1, r__2)
      else none
    else none
theorem f84_filter_reader_took_ok (s : ByteArray) (r__0 : List ByteArray) (r__1 : Int) (r__2 : Bool) (r : Bool × List ByteArray × Int × Bool) (h : f84_filter_reader_took s r__0 r__1 r__2 = some r) : FnOK Tryd.prog 84 (f84_filter_reader_took_in s r__0 r__1 r__2) (f84_filter_reader_took_out r) := by
  unfold f84_filter_reader_took at h
  refine At.fn (r := 0) Tryd.func84 rfl (by kernel_rfl) rfl rfl (by kernel_rfl) ?_
  show At Tryd.prog Tryd.f84 1 0 ⟨[(0, oc (.ptr 0 0)), (1, oc (.d (.str s)))], [], [(0, [.d (.sl .str r__0), zi r__1, .d (.bool r__2)])], 1⟩ _
  refine At.step hm ht ⟨[], [], [], [0, 1], [0]⟩ 1 ⟨[(0, oc (.ptr 0 0)), (1, oc (.d (.str s)))], [], [(0, [.d (.sl .str r__0), zi r__1, .d (.bool r__2)])], 1⟩ [] (by kernel_rfl) trivial ?_
  rcases iteS h with ⟨b152_6, h⟩ | ⟨b152_6, h⟩
  · refine At.step hm ht ⟨[(6, .b true)], [true], [], [], [0]⟩ 2 ⟨[], [], [(0, [.d (.sl .str r__0), zi r__1, .d (.bool r__2)])], 1⟩ [((((r__0.length : Nat) : Int) : Int) == 0) = true, true = true] (by kernel_rfl) ⟨b152_6, rfl, trivial⟩ ?_
    have h := Option.some.inj h
    subst h
    exact At.fin hm ht ⟨[], [], [], [4], [0]⟩ [] (by kernel_rfl) trivial
  · obtain ⟨g152_0, h⟩ := ifS h
    rcases iteS h with ⟨b152_e0, h⟩ | ⟨b152_e0, h⟩
    · refine At.step hm ht ⟨[(6, .b false)], [true], [], [], [0]⟩ 2 ⟨[], [], [(0, [.d (.sl .str r__0), zi r__1, .d (.bool r__2)])], 1⟩ [((((r__0.length : Nat) : Int) : Int) == 0) = false, (0 : Int) ≤ 0 ∧ 0 < (((r__0).length : Nat) : Int), (!((r__0.getD 0 ByteArray.empty).toList == s.toList)) = true] (by kernel_rfl) ⟨b152_6, g152_0, b152_e0, trivial⟩ ?_
      have h := Option.some.inj h
      subst h
      exact At.fin hm ht ⟨[], [], [], [4], [0]⟩ [] (by kernel_rfl) trivial
    · refine At.step hm ht ⟨[(6, .b false)], [false], [], [0], [0]⟩ 3 ⟨[(0, oc (.ptr 0 0))], [], [(0, [.d (.sl .str r__0), zi r__1, .d (.bool r__2)])], 1⟩ [((((r__0.length : Nat) : Int) : Int) == 0) = false, (0 : Int) ≤ 0 ∧ 0 < (((r__0).length : Nat) : Int), (!((r__0.getD 0 ByteArray.empty).toList == s.toList)) = false] (by kernel_rfl) ⟨b152_6, g152_0, b152_e0, trivial⟩ ?_
      obtain ⟨g155_0, h⟩ := ifS h
      refine At.step hm ht ⟨[], [], [], [], [0]⟩ 4 ⟨[], [], [(0, [.d (.sl .str ((r__0.take r__0.length).drop 1)), zi r__1, .d (.bool r__2)])], 1⟩ [cutOk r__0.length (some 1) none none, 0 + 1 ≤ 3] (by kernel_rfl) ⟨g155_0, (by decide), trivial⟩ ?_
      have h := Option.some.inj h
      subst h
      exact At.fin hm ht ⟨[], [], [], [4], [0]⟩ [] (by kernel_rfl) trivial
/-! (*brougham/filter.reader).number -/
def f115_filter_reader_number_in (op : Int) (r__0 : List ByteArray) (r__1 : Int) (r__2 : Bool) : Inn := ⟨[.c (.ptr 0 0), .c (zi op)], [], [(0, [.d (.sl .str r__0), zi r__1, .d (.bool r__2)])], 1⟩
def f115_filter_reader_number_out (r : PT × List ByteArray × Int × Bool) : Out := ⟨oc (.d (.pt r.1)), [], [(0, [.d (.sl .str r.2.1), zi r.2.2.1, .d (.bool r.2.2.2)])], 1⟩
def f115_filter_reader_number (op : Int) (r__0 : List ByteArray) (r__1 : Int) (r__2 : Bool) : Option (PT × List ByteArray × Int × Bool) :=
  if ((((r__0.length : Nat) : Int) : Int) == 0) = true then
    some (PT.nil, r__0, r__1, true)
  else
    if (0 : Int) ≤ 0 ∧ 0 < (((r__0).length : Nat) : Int) then
    (f51_num_Parse (r__0.getD 0 ByteArray.empty)).bind fun r178_1 =>
    if cutOk r__0.length (some 1) none none then
    if r__2 = true then
      some ((PT.node op r178_1.1 PT.nil PT.nil), ((r__0.take r__0.length).drop 1), r__1, true)
    else
      some ((PT.node op r178_1.1 PT.nil PT.nil), ((r__0.take r__0.length).drop 1), r__1, ((r178_1.2 : Int) != 0))
    else none
    else none
theorem f115_filter_reader_number_ok (op : Int) (r__0 : List ByteArray) (r__1 : Int) (r__2 : Bool) (r : PT × List ByteArray × Int × Bool) (h : f115_filter_reader_number op r__0 r__1 r__2 = some r) : FnOK Tryd.prog 115 (f115_filter_reader_number_in op r__0 r__1 r__2) (f115_filter_reader_number_out r) := by
  unfold f115_filter_reader_number at h
  refine At.fn (r := 0) Tryd.func115 rfl (by kernel_rfl) rfl rfl (by kernel_rfl) ?_
  show At Tryd.prog Tryd.f115 1 0 ⟨[(0, oc (.ptr 0 0)), (1, oc (zi op))], [], [(0, [.d (.sl .str r__0), zi r__1, .d (.bool r__2)])], 1⟩ _
  refine At.step hm ht ⟨[], [], [.nilpt 4], [0, 1], [0]⟩ 1 ⟨[(0, oc (.ptr 0 0)), (1, oc (zi op))], [], [(0, [.d (.sl .str r__0), zi r__1, .d (.bool r__2)])], 1⟩ [] (by kernel_rfl) trivial ?_
  rcases iteS h with ⟨b175_e0, h⟩ | ⟨b175_e0, h⟩
  · refine At.step hm ht ⟨[], [true], [], [0], [0]⟩ 2 ⟨[(0, oc (.ptr 0 0))], [], [(0, [.d (.sl .str r__0), zi r__1, .d (.bool r__2)])], 1⟩ [((((r__0.length : Nat) : Int) : Int) == 0) = true] (by kernel_rfl) ⟨b175_e0, trivial⟩ ?_
    refine At.step hm ht ⟨[], [], [], [], [0]⟩ 3 ⟨[], [], [(0, [.d (.sl .str r__0), zi r__1, .d (.bool true)])], 1⟩ [2 + 1 ≤ 3] (by kernel_rfl) ⟨(by decide), trivial⟩ ?_
    have h := Option.some.inj h
    subst h
    exact At.fin hm ht ⟨[], [], [.nilpt 4], [4], [0]⟩ [] (by kernel_rfl) trivial
  · refine At.step hm ht ⟨[], [false], [], [0, 1], [0]⟩ 4 ⟨[(0, oc (.ptr 0 0)), (1, oc (zi op))], [], [(0, [.d (.sl .str r__0), zi r__1, .d (.bool r__2)])], 1⟩ [((((r__0.length : Nat) : Int) : Int) == 0) = false] (by kernel_rfl) ⟨b175_e0, trivial⟩ ?_
    obtain ⟨g178_0, h⟩ := ifS h
    obtain ⟨r178_1, cr178_1, h⟩ := bindS h
    refine At.step hm ht ⟨[(6, .call [] [] (f51_num_Parse_out r178_1))], [], [], [0, 1, 5, 6], [0]⟩ 5 ⟨[(0, oc (.ptr 0 0)), (1, oc (zi op)), (5, oc (zi r178_1.1)), (6, oc (zi r178_1.2))], [], [(0, [.d (.sl .str r__0), zi r__1, .d (.bool r__2)])], 1⟩ [(0 : Int) ≤ 0 ∧ 0 < (((r__0).length : Nat) : Int), FnOK Tryd.prog 51 (f51_num_Parse_in (r__0.getD 0 ByteArray.empty)) (f51_num_Parse_out r178_1)] (by kernel_rfl) ⟨g178_0, (f51_num_Parse_ok (r__0.getD 0 ByteArray.empty) r178_1 cr178_1), trivial⟩ ?_
    obtain ⟨g179_0, h⟩ := ifS h
    refine At.step hm ht ⟨[], [], [], [0, 1, 5, 6], [0]⟩ 6 ⟨[(0, oc (.ptr 0 0)), (1, oc (zi op)), (5, oc (zi r178_1.1)), (6, oc (zi r178_1.2))], [], [(0, [.d (.sl .str ((r__0.take r__0.length).drop 1)), zi r__1, .d (.bool r__2)])], 1⟩ [cutOk r__0.length (some 1) none none, 0 + 1 ≤ 3] (by kernel_rfl) ⟨g179_0, (by decide), trivial⟩ ?_
    rcases iteS h with ⟨b180_5, h⟩ | ⟨b180_5, h⟩
    · refine At.step hm ht ⟨[(5, .b true)], [], [], [1, 5], [0]⟩ 7 ⟨[(1, oc (zi op)), (5, oc (zi r178_1.1))], [], [(0, [.d (.sl .str ((r__0.take r__0.length).drop 1)), zi r__1, .d (.bool true)])], 1⟩ [r__2 = true, 2 + 1 ≤ 3] (by kernel_rfl) ⟨b180_5, (by decide), trivial⟩ ?_
      have h := Option.some.inj h
      subst h
      exact At.fin hm ht ⟨[], [], [.tree 4], [4], [0]⟩ [] (by kernel_rfl) trivial
    · refine At.step hm ht ⟨[(5, .b false)], [], [], [1, 5], [0]⟩ 7 ⟨[(1, oc (zi op)), (5, oc (zi r178_1.1))], [], [(0, [.d (.sl .str ((r__0.take r__0.length).drop 1)), zi r__1, .d (.bool ((r178_1.2 : Int) != 0))])], 1⟩ [r__2 = false, 2 + 1 ≤ 3] (by kernel_rfl) ⟨b180_5, (by decide), trivial⟩ ?_
      have h := Option.some.inj h
      subst h
      exact At.fin hm ht ⟨[], [], [.tree 4], [4], [0]⟩ [] (by kernel_rfl) trivial
/-! (*brougham/filter.reader).plain -/
def f112_filter_reader_plain_in (r__0 : List ByteArray) (r__1 : Int) (r__2 : Bool) : Inn := ⟨[.c (.ptr 0 0)], [], [(0, [.d (.sl .str r__0), zi r__1, .d (.bool r__2)])], 1⟩
def f112_filter_reader_plain_out (r : PT × List ByteArray × Int × Bool) : Out := ⟨oc (.d (.pt r.1)), [], [(0, [.d (.sl .str r.2.1), zi r.2.2.1, .d (.bool r.2.2.2)])], 1⟩
def f112_filter_reader_plain (r__0 : List ByteArray) (r__1 : Int) (r__2 : Bool) : Option (PT × List ByteArray × Int × Bool) :=
  (f84_filter_reader_took (⟨#[97, 108, 108]⟩ : ByteArray) r__0 r__1 r__2).bind fun r162_0 =>
  if r162_0.1 = true then
    some ((PT.node 1 0 PT.nil PT.nil), r162_0.2.1, r162_0.2.2.1, r162_0.2.2.2)
  else
    (f84_filter_reader_took (⟨#[101, 109, 112, 116, 121]⟩ : ByteArray) r162_0.2.1 r162_0.2.2.1 r162_0.2.2.2).bind fun r164_0 =>
    if r164_0.1 = true then
      some ((PT.node 11 0 PT.nil PT.nil), r164_0.2.1, r164_0.2.2.1, r164_0.2.2.2)
    else
      (f84_filter_reader_took (⟨#[115, 121, 110]⟩ : ByteArray) r164_0.2.1 r164_0.2.2.1 r164_0.2.2.2).bind fun r166_0 =>
      if r166_0.1 = true then
        some ((PT.node 2 1 PT.nil PT.nil), r166_0.2.1, r166_0.2.2.1, r166_0.2.2.2)
      else
        (f84_filter_reader_took (⟨#[97, 99, 107]⟩ : ByteArray) r166_0.2.1 r166_0.2.2.1 r166_0.2.2.2).bind fun r168_0 =>
        if r168_0.1 = true then
          some ((PT.node 2 2 PT.nil PT.nil), r168_0.2.1, r168_0.2.2.1, r168_0.2.2.2)
        else
          (f84_filter_reader_took (⟨#[114, 115, 116]⟩ : ByteArray) r168_0.2.1 r168_0.2.2.1 r168_0.2.2.2).bind fun r170_0 =>
          if r170_0.1 = true then
            some ((PT.node 2 4 PT.nil PT.nil), r170_0.2.1, r170_0.2.2.1, r170_0.2.2.2)
          else
            (f84_filter_reader_took (⟨#[112, 111, 114, 116]⟩ : ByteArray) r170_0.2.1 r170_0.2.2.1 r170_0.2.2.2).bind fun r172_0 =>
            if r172_0.1 = true then
              (f115_filter_reader_number 3 r172_0.2.1 r172_0.2.2.1 r172_0.2.2.2).bind fun r173_0 =>
              some (r173_0.1, r173_0.2.1, r173_0.2.2.1, r173_0.2.2.2)
            else
              (f84_filter_reader_took (⟨#[115, 114, 99]⟩ : ByteArray) r172_0.2.1 r172_0.2.2.1 r172_0.2.2.2).bind fun r183_0 =>
              if r183_0.1 = true then
                (f115_filter_reader_number 4 r183_0.2.1 r183_0.2.2.1 r183_0.2.2.2).bind fun r184_0 =>
                some (r184_0.1, r184_0.2.1, r184_0.2.2.1, r184_0.2.2.2)
              else
                (f84_filter_reader_took (⟨#[100, 115, 116]⟩ : ByteArray) r183_0.2.1 r183_0.2.2.1 r183_0.2.2.2).bind fun r185_0 =>
                if r185_0.1 = true then
                  (f115_filter_reader_number 5 r185_0.2.1 r185_0.2.2.1 r185_0.2.2.2).bind fun r186_0 =>
                  some (r186_0.1, r186_0.2.1, r186_0.2.2.1, r186_0.2.2.2)
                else
                  (f84_filter_reader_took (⟨#[104, 97, 115]⟩ : ByteArray) r185_0.2.1 r185_0.2.2.1 r185_0.2.2.2).bind fun r187_0 =>
                  if r187_0.1 = true then
                    (f115_filter_reader_number 6 r187_0.2.1 r187_0.2.2.1 r187_0.2.2.2).bind fun r188_0 =>
                    some (r188_0.1, r188_0.2.1, r188_0.2.2.1, r188_0.2.2.2)
                  else
                    (f84_filter_reader_took (⟨#[108, 111, 110, 103]⟩ : ByteArray) r187_0.2.1 r187_0.2.2.1 r187_0.2.2.2).bind fun r189_0 =>
                    if r189_0.1 = true then
                      (f115_filter_reader_number 7 r189_0.2.1 r189_0.2.2.1 r189_0.2.2.2).bind fun r190_0 =>
                      some (r190_0.1, r190_0.2.1, r190_0.2.2.1, r190_0.2.2.2)
                    else
                      some (PT.nil, r189_0.2.1, r189_0.2.2.1, true)
theorem f112_filter_reader_plain_ok (r__0 : List ByteArray) (r__1 : Int) (r__2 : Bool) (r : PT × List ByteArray × Int × Bool) (h : f112_filter_reader_plain r__0 r__1 r__2 = some r) : FnOK Tryd.prog 112 (f112_filter_reader_plain_in r__0 r__1 r__2) (f112_filter_reader_plain_out r) := by
  unfold f112_filter_reader_plain at h
  refine At.fn (r := 0) Tryd.func112 rfl (by kernel_rfl) rfl rfl (by kernel_rfl) ?_
  show At Tryd.prog Tryd.f112 1 0 ⟨[(0, oc (.ptr 0 0))], [], [(0, [.d (.sl .str r__0), zi r__1, .d (.bool r__2)])], 1⟩ _
  refine At.step hm ht ⟨[], [], [.nilpt 2], [0], [0]⟩ 1 ⟨[(0, oc (.ptr 0 0))], [], [(0, [.d (.sl .str r__0), zi r__1, .d (.bool r__2)])], 1⟩ [] (by kernel_rfl) trivial ?_
  obtain ⟨r162_0, cr162_0, h⟩ := bindS h
  rcases iteS h with ⟨b162_e0, h⟩ | ⟨b162_e0, h⟩
  · refine At.step hm ht ⟨[(1, .call [0] [] (f84_filter_reader_took_out r162_0))], [true], [], [], [0]⟩ 2 ⟨[], [], [(0, [.d (.sl .str r162_0.2.1), zi r162_0.2.2.1, .d (.bool r162_0.2.2.2)])], 1⟩ [FnOK Tryd.prog 84 (f84_filter_reader_took_in (⟨#[97, 108, 108]⟩ : ByteArray) r__0 r__1 r__2) (f84_filter_reader_took_out r162_0), r162_0.1 = true] (by kernel_rfl) ⟨(f84_filter_reader_took_ok (⟨#[97, 108, 108]⟩ : ByteArray) r__0 r__1 r__2 r162_0 cr162_0), b162_e0, trivial⟩ ?_
    have h := Option.some.inj h
    subst h
    exact At.fin hm ht ⟨[], [], [.tree 2], [2], [0]⟩ [] (by kernel_rfl) trivial
  · refine At.step hm ht ⟨[(1, .call [0] [] (f84_filter_reader_took_out r162_0))], [false], [], [0], [0]⟩ 3 ⟨[(0, oc (.ptr 0 0))], [], [(0, [.d (.sl .str r162_0.2.1), zi r162_0.2.2.1, .d (.bool r162_0.2.2.2)])], 1⟩ [FnOK Tryd.prog 84 (f84_filter_reader_took_in (⟨#[97, 108, 108]⟩ : ByteArray) r__0 r__1 r__2) (f84_filter_reader_took_out r162_0), r162_0.1 = false] (by kernel_rfl) ⟨(f84_filter_reader_took_ok (⟨#[97, 108, 108]⟩ : ByteArray) r__0 r__1 r__2 r162_0 cr162_0), b162_e0, trivial⟩ ?_
    obtain ⟨r164_0, cr164_0, h⟩ := bindS h
    rcases iteS h with ⟨b164_e0, h⟩ | ⟨b164_e0, h⟩
    · refine At.step hm ht ⟨[(1, .call [0] [] (f84_filter_reader_took_out r164_0))], [true], [], [], [0]⟩ 4 ⟨[], [], [(0, [.d (.sl .str r164_0.2.1), zi r164_0.2.2.1, .d (.bool r164_0.2.2.2)])], 1⟩ [FnOK Tryd.prog 84 (f84_filter_reader_took_in (⟨#[101, 109, 112, 116, 121]⟩ : ByteArray) r162_0.2.1 r162_0.2.2.1 r162_0.2.2.2) (f84_filter_reader_took_out r164_0), r164_0.1 = true] (by kernel_rfl) ⟨(f84_filter_reader_took_ok (⟨#[101, 109, 112, 116, 121]⟩ : ByteArray) r162_0.2.1 r162_0.2.2.1 r162_0.2.2.2 r164_0 cr164_0), b164_e0, trivial⟩ ?_
      have h := Option.some.inj h
      subst h
      exact At.fin hm ht ⟨[], [], [.tree 2], [2], [0]⟩ [] (by kernel_rfl) trivial
    · refine At.step hm ht ⟨[(1, .call [0] [] (f84_filter_reader_took_out r164_0))], [false], [], [0], [0]⟩ 5 ⟨[(0, oc (.ptr 0 0))], [], [(0, [.d (.sl .str r164_0.2.1), zi r164_0.2.2.1, .d (.bool r164_0.2.2.2)])], 1⟩ [FnOK Tryd.prog 84 (f84_filter_reader_took_in (⟨#[101, 109, 112, 116, 121]⟩ : ByteArray) r162_0.2.1 r162_0.2.2.1 r162_0.2.2.2) (f84_filter_reader_took_out r164_0), r164_0.1 = false] (by kernel_rfl) ⟨(f84_filter_reader_took_ok (⟨#[101, 109, 112, 116, 121]⟩ : ByteArray) r162_0.2.1 r162_0.2.2.1 r162_0.2.2.2 r164_0 cr164_0), b164_e0, trivial⟩ ?_
      obtain ⟨r166_0, cr166_0, h⟩ := bindS h
      rcases iteS h with ⟨b166_e0, h⟩ | ⟨b166_e0, h⟩
      · refine At.step hm ht ⟨[(1, .call [0] [] (f84_filter_reader_took_out r166_0))], [true], [], [], [0]⟩ 6 ⟨[], [], [(0, [.d (.sl .str r166_0.2.1), zi r166_0.2.2.1, .d (.bool r166_0.2.2.2)])], 1⟩ [FnOK Tryd.prog 84 (f84_filter_reader_took_in (⟨#[115, 121, 110]⟩ : ByteArray) r164_0.2.1 r164_0.2.2.1 r164_0.2.2.2) (f84_filter_reader_took_out r166_0), r166_0.1 = true] (by kernel_rfl) ⟨(f84_filter_reader_took_ok (⟨#[115, 121, 110]⟩ : ByteArray) r164_0.2.1 r164_0.2.2.1 r164_0.2.2.2 r166_0 cr166_0), b166_e0, trivial⟩ ?_
        have h := Option.some.inj h
        subst h
        exact At.fin hm ht ⟨[], [], [.tree 2], [2], [0]⟩ [] (by kernel_rfl) trivial
      · refine At.step hm ht ⟨[(1, .call [0] [] (f84_filter_reader_took_out r166_0))], [false], [], [0], [0]⟩ 7 ⟨[(0, oc (.ptr 0 0))], [], [(0, [.d (.sl .str r166_0.2.1), zi r166_0.2.2.1, .d (.bool r166_0.2.2.2)])], 1⟩ [FnOK Tryd.prog 84 (f84_filter_reader_took_in (⟨#[115, 121, 110]⟩ : ByteArray) r164_0.2.1 r164_0.2.2.1 r164_0.2.2.2) (f84_filter_reader_took_out r166_0), r166_0.1 = false] (by kernel_rfl) ⟨(f84_filter_reader_took_ok (⟨#[115, 121, 110]⟩ : ByteArray) r164_0.2.1 r164_0.2.2.1 r164_0.2.2.2 r166_0 cr166_0), b166_e0, trivial⟩ ?_
        obtain ⟨r168_0, cr168_0, h⟩ := bindS h
        rcases iteS h with ⟨b168_e0, h⟩ | ⟨b168_e0, h⟩
        · refine At.step hm ht ⟨[(1, .call [0] [] (f84_filter_reader_took_out r168_0))], [true], [], [], [0]⟩ 8 ⟨[], [], [(0, [.d (.sl .str r168_0.2.1), zi r168_0.2.2.1, .d (.bool r168_0.2.2.2)])], 1⟩ [FnOK Tryd.prog 84 (f84_filter_reader_took_in (⟨#[97, 99, 107]⟩ : ByteArray) r166_0.2.1 r166_0.2.2.1 r166_0.2.2.2) (f84_filter_reader_took_out r168_0), r168_0.1 = true] (by kernel_rfl) ⟨(f84_filter_reader_took_ok (⟨#[97, 99, 107]⟩ : ByteArray) r166_0.2.1 r166_0.2.2.1 r166_0.2.2.2 r168_0 cr168_0), b168_e0, trivial⟩ ?_
          have h := Option.some.inj h
          subst h
          exact At.fin hm ht ⟨[], [], [.tree 2], [2], [0]⟩ [] (by kernel_rfl) trivial
        · refine At.step hm ht ⟨[(1, .call [0] [] (f84_filter_reader_took_out r168_0))], [false], [], [0], [0]⟩ 9 ⟨[(0, oc (.ptr 0 0))], [], [(0, [.d (.sl .str r168_0.2.1), zi r168_0.2.2.1, .d (.bool r168_0.2.2.2)])], 1⟩ [FnOK Tryd.prog 84 (f84_filter_reader_took_in (⟨#[97, 99, 107]⟩ : ByteArray) r166_0.2.1 r166_0.2.2.1 r166_0.2.2.2) (f84_filter_reader_took_out r168_0), r168_0.1 = false] (by kernel_rfl) ⟨(f84_filter_reader_took_ok (⟨#[97, 99, 107]⟩ : ByteArray) r166_0.2.1 r166_0.2.2.1 r166_0.2.2.2 r168_0 cr168_0), b168_e0, trivial⟩ ?_
          obtain ⟨r170_0, cr170_0, h⟩ := bindS h
          rcases iteS h with ⟨b170_e0, h⟩ | ⟨b170_e0, h⟩
          · refine At.step hm ht ⟨[(1, .call [0] [] (f84_filter_reader_took_out r170_0))], [true], [], [], [0]⟩ 10 ⟨[], [], [(0, [.d (.sl .str r170_0.2.1), zi r170_0.2.2.1, .d (.bool r170_0.2.2.2)])], 1⟩ [FnOK Tryd.prog 84 (f84_filter_reader_took_in (⟨#[114, 115, 116]⟩ : ByteArray) r168_0.2.1 r168_0.2.2.1 r168_0.2.2.2) (f84_filter_reader_took_out r170_0), r170_0.1 = true] (by kernel_rfl) ⟨(f84_filter_reader_took_ok (⟨#[114, 115, 116]⟩ : ByteArray) r168_0.2.1 r168_0.2.2.1 r168_0.2.2.2 r170_0 cr170_0), b170_e0, trivial⟩ ?_
            have h := Option.some.inj h
            subst h
            exact At.fin hm ht ⟨[], [], [.tree 2], [2], [0]⟩ [] (by kernel_rfl) trivial
          · refine At.step hm ht ⟨[(1, .call [0] [] (f84_filter_reader_took_out r170_0))], [false], [], [0], [0]⟩ 11 ⟨[(0, oc (.ptr 0 0))], [], [(0, [.d (.sl .str r170_0.2.1), zi r170_0.2.2.1, .d (.bool r170_0.2.2.2)])], 1⟩ [FnOK Tryd.prog 84 (f84_filter_reader_took_in (⟨#[114, 115, 116]⟩ : ByteArray) r168_0.2.1 r168_0.2.2.1 r168_0.2.2.2) (f84_filter_reader_took_out r170_0), r170_0.1 = false] (by kernel_rfl) ⟨(f84_filter_reader_took_ok (⟨#[114, 115, 116]⟩ : ByteArray) r168_0.2.1 r168_0.2.2.1 r168_0.2.2.2 r170_0 cr170_0), b170_e0, trivial⟩ ?_
            obtain ⟨r172_0, cr172_0, h⟩ := bindS h
            rcases iteS h with ⟨b172_e0, h⟩ | ⟨b172_e0, h⟩
            · refine At.step hm ht ⟨[(1, .call [0] [] (f84_filter_reader_took_out r172_0))], [true], [], [0], [0]⟩ 12 ⟨[(0, oc (.ptr 0 0))], [], [(0, [.d (.sl .str r172_0.2.1), zi r172_0.2.2.1, .d (.bool r172_0.2.2.2)])], 1⟩ [FnOK Tryd.prog 84 (f84_filter_reader_took_in (⟨#[112, 111, 114, 116]⟩ : ByteArray) r170_0.2.1 r170_0.2.2.1 r170_0.2.2.2) (f84_filter_reader_took_out r172_0), r172_0.1 = true] (by kernel_rfl) ⟨(f84_filter_reader_took_ok (⟨#[112, 111, 114, 116]⟩ : ByteArray) r170_0.2.1 r170_0.2.2.1 r170_0.2.2.2 r172_0 cr172_0), b172_e0, trivial⟩ ?_
              obtain ⟨r173_0, cr173_0, h⟩ := bindS h
              have h := Option.some.inj h
              subst h
              exact At.fin hm ht ⟨[(1, .call [0] [] (f115_filter_reader_number_out r173_0))], [], [], [2], [0]⟩ [FnOK Tryd.prog 115 (f115_filter_reader_number_in 3 r172_0.2.1 r172_0.2.2.1 r172_0.2.2.2) (f115_filter_reader_number_out r173_0)] (by kernel_rfl) ⟨(f115_filter_reader_number_ok 3 r172_0.2.1 r172_0.2.2.1 r172_0.2.2.2 r173_0 cr173_0), trivial⟩
            · refine At.step hm ht ⟨[(1, .call [0] [] (f84_filter_reader_took_out r172_0))], [false], [], [0], [0]⟩ 13 ⟨[(0, oc (.ptr 0 0))], [], [(0, [.d (.sl .str r172_0.2.1), zi r172_0.2.2.1, .d (.bool r172_0.2.2.2)])], 1⟩ [FnOK Tryd.prog 84 (f84_filter_reader_took_in (⟨#[112, 111, 114, 116]⟩ : ByteArray) r170_0.2.1 r170_0.2.2.1 r170_0.2.2.2) (f84_filter_reader_took_out r172_0), r172_0.1 = false] (by kernel_rfl) ⟨(f84_filter_reader_took_ok (⟨#[112, 111, 114, 116]⟩ : ByteArray) r170_0.2.1 r170_0.2.2.1 r170_0.2.2.2 r172_0 cr172_0), b172_e0, trivial⟩ ?_
              obtain ⟨r183_0, cr183_0, h⟩ := bindS h
              rcases iteS h with ⟨b183_e0, h⟩ | ⟨b183_e0, h⟩
              · refine At.step hm ht ⟨[(1, .call [0] [] (f84_filter_reader_took_out r183_0))], [true], [], [0], [0]⟩ 14 ⟨[(0, oc (.ptr 0 0))], [], [(0, [.d (.sl .str r183_0.2.1), zi r183_0.2.2.1, .d (.bool r183_0.2.2.2)])], 1⟩ [FnOK Tryd.prog 84 (f84_filter_reader_took_in (⟨#[115, 114, 99]⟩ : ByteArray) r172_0.2.1 r172_0.2.2.1 r172_0.2.2.2) (f84_filter_reader_took_out r183_0), r183_0.1 = true] (by kernel_rfl) ⟨(f84_filter_reader_took_ok (⟨#[115, 114, 99]⟩ : ByteArray) r172_0.2.1 r172_0.2.2.1 r172_0.2.2.2 r183_0 cr183_0), b183_e0, trivial⟩ ?_
                obtain ⟨r184_0, cr184_0, h⟩ := bindS h
                have h := Option.some.inj h
                subst h
                exact At.fin hm ht ⟨[(1, .call [0] [] (f115_filter_reader_number_out r184_0))], [], [], [2], [0]⟩ [FnOK Tryd.prog 115 (f115_filter_reader_number_in 4 r183_0.2.1 r183_0.2.2.1 r183_0.2.2.2) (f115_filter_reader_number_out r184_0)] (by kernel_rfl) ⟨(f115_filter_reader_number_ok 4 r183_0.2.1 r183_0.2.2.1 r183_0.2.2.2 r184_0 cr184_0), trivial⟩
              · refine At.step hm ht ⟨[(1, .call [0] [] (f84_filter_reader_took_out r183_0))], [false], [], [0], [0]⟩ 15 ⟨[(0, oc (.ptr 0 0))], [], [(0, [.d (.sl .str r183_0.2.1), zi r183_0.2.2.1, .d (.bool r183_0.2.2.2)])], 1⟩ [FnOK Tryd.prog 84 (f84_filter_reader_took_in (⟨#[115, 114, 99]⟩ : ByteArray) r172_0.2.1 r172_0.2.2.1 r172_0.2.2.2) (f84_filter_reader_took_out r183_0), r183_0.1 = false] (by kernel_rfl) ⟨(f84_filter_reader_took_ok (⟨#[115, 114, 99]⟩ : ByteArray) r172_0.2.1 r172_0.2.2.1 r172_0.2.2.2 r183_0 cr183_0), b183_e0, trivial⟩ ?_
                obtain ⟨r185_0, cr185_0, h⟩ := bindS h
                rcases iteS h with ⟨b185_e0, h⟩ | ⟨b185_e0, h⟩
                · refine At.step hm ht ⟨[(1, .call [0] [] (f84_filter_reader_took_out r185_0))], [true], [], [0], [0]⟩ 16 ⟨[(0, oc (.ptr 0 0))], [], [(0, [.d (.sl .str r185_0.2.1), zi r185_0.2.2.1, .d (.bool r185_0.2.2.2)])], 1⟩ [FnOK Tryd.prog 84 (f84_filter_reader_took_in (⟨#[100, 115, 116]⟩ : ByteArray) r183_0.2.1 r183_0.2.2.1 r183_0.2.2.2) (f84_filter_reader_took_out r185_0), r185_0.1 = true] (by kernel_rfl) ⟨(f84_filter_reader_took_ok (⟨#[100, 115, 116]⟩ : ByteArray) r183_0.2.1 r183_0.2.2.1 r183_0.2.2.2 r185_0 cr185_0), b185_e0, trivial⟩ ?_
                  obtain ⟨r186_0, cr186_0, h⟩ := bindS h
                  have h := Option.some.inj h
                  subst h
                  exact At.fin hm ht ⟨[(1, .call [0] [] (f115_filter_reader_number_out r186_0))], [], [], [2], [0]⟩ [FnOK Tryd.prog 115 (f115_filter_reader_number_in 5 r185_0.2.1 r185_0.2.2.1 r185_0.2.2.2) (f115_filter_reader_number_out r186_0)] (by kernel_rfl) ⟨(f115_filter_reader_number_ok 5 r185_0.2.1 r185_0.2.2.1 r185_0.2.2.2 r186_0 cr186_0), trivial⟩
                · refine At.step hm ht ⟨[(1, .call [0] [] (f84_filter_reader_took_out r185_0))], [false], [], [0], [0]⟩ 17 ⟨[(0, oc (.ptr 0 0))], [], [(0, [.d (.sl .str r185_0.2.1), zi r185_0.2.2.1, .d (.bool r185_0.2.2.2)])], 1⟩ [FnOK Tryd.prog 84 (f84_filter_reader_took_in (⟨#[100, 115, 116]⟩ : ByteArray) r183_0.2.1 r183_0.2.2.1 r183_0.2.2.2) (f84_filter_reader_took_out r185_0), r185_0.1 = false] (by kernel_rfl) ⟨(f84_filter_reader_took_ok (⟨#[100, 115, 116]⟩ : ByteArray) r183_0.2.1 r183_0.2.2.1 r183_0.2.2.2 r185_0 cr185_0), b185_e0, trivial⟩ ?_
                  obtain ⟨r187_0, cr187_0, h⟩ := bindS h
                  rcases iteS h with ⟨b187_e0, h⟩ | ⟨b187_e0, h⟩
                  · refine At.step hm ht ⟨[(1, .call [0] [] (f84_filter_reader_took_out r187_0))], [true], [], [0], [0]⟩ 18 ⟨[(0, oc (.ptr 0 0))], [], [(0, [.d (.sl .str r187_0.2.1), zi r187_0.2.2.1, .d (.bool r187_0.2.2.2)])], 1⟩ [FnOK Tryd.prog 84 (f84_filter_reader_took_in (⟨#[104, 97, 115]⟩ : ByteArray) r185_0.2.1 r185_0.2.2.1 r185_0.2.2.2) (f84_filter_reader_took_out r187_0), r187_0.1 = true] (by kernel_rfl) ⟨(f84_filter_reader_took_ok (⟨#[104, 97, 115]⟩ : ByteArray) r185_0.2.1 r185_0.2.2.1 r185_0.2.2.2 r187_0 cr187_0), b187_e0, trivial⟩ ?_
                    obtain ⟨r188_0, cr188_0, h⟩ := bindS h
                    have h := Option.some.inj h
                    subst h
                    exact At.fin hm ht ⟨[(1, .call [0] [] (f115_filter_reader_number_out r188_0))], [], [], [2], [0]⟩ [FnOK Tryd.prog 115 (f115_filter_reader_number_in 6 r187_0.2.1 r187_0.2.2.1 r187_0.2.2.2) (f115_filter_reader_number_out r188_0)] (by kernel_rfl) ⟨(f115_filter_reader_number_ok 6 r187_0.2.1 r187_0.2.2.1 r187_0.2.2.2 r188_0 cr188_0), trivial⟩
                  · refine At.step hm ht ⟨[(1, .call [0] [] (f84_filter_reader_took_out r187_0))], [false], [], [0], [0]⟩ 19 ⟨[(0, oc (.ptr 0 0))], [], [(0, [.d (.sl .str r187_0.2.1), zi r187_0.2.2.1, .d (.bool r187_0.2.2.2)])], 1⟩ [FnOK Tryd.prog 84 (f84_filter_reader_took_in (⟨#[104, 97, 115]⟩ : ByteArray) r185_0.2.1 r185_0.2.2.1 r185_0.2.2.2) (f84_filter_reader_took_out r187_0), r187_0.1 = false] (by kernel_rfl) ⟨(f84_filter_reader_took_ok (⟨#[104, 97, 115]⟩ : ByteArray) r185_0.2.1 r185_0.2.2.1 r185_0.2.2.2 r187_0 cr187_0), b187_e0, trivial⟩ ?_
                    obtain ⟨r189_0, cr189_0, h⟩ := bindS h
                    rcases iteS h with ⟨b189_e0, h⟩ | ⟨b189_e0, h⟩
                    · refine At.step hm ht ⟨[(1, .call [0] [] (f84_filter_reader_took_out r189_0))], [true], [], [0], [0]⟩ 20 ⟨[(0, oc (.ptr 0 0))], [], [(0, [.d (.sl .str r189_0.2.1), zi r189_0.2.2.1, .d (.bool r189_0.2.2.2)])], 1⟩ [FnOK Tryd.prog 84 (f84_filter_reader_took_in (⟨#[108, 111, 110, 103]⟩ : ByteArray) r187_0.2.1 r187_0.2.2.1 r187_0.2.2.2) (f84_filter_reader_took_out r189_0), r189_0.1 = true] (by kernel_rfl) ⟨(f84_filter_reader_took_ok (⟨#[108, 111, 110, 103]⟩ : ByteArray) r187_0.2.1 r187_0.2.2.1 r187_0.2.2.2 r189_0 cr189_0), b189_e0, trivial⟩ ?_
                      obtain ⟨r190_0, cr190_0, h⟩ := bindS h
                      have h := Option.some.inj h
                      subst h
                      exact At.fin hm ht ⟨[(1, .call [0] [] (f115_filter_reader_number_out r190_0))], [], [], [2], [0]⟩ [FnOK Tryd.prog 115 (f115_filter_reader_number_in 7 r189_0.2.1 r189_0.2.2.1 r189_0.2.2.2) (f115_filter_reader_number_out r190_0)] (by kernel_rfl) ⟨(f115_filter_reader_number_ok 7 r189_0.2.1 r189_0.2.2.1 r189_0.2.2.2 r190_0 cr190_0), trivial⟩
                    · refine At.step hm ht ⟨[(1, .call [0] [] (f84_filter_reader_took_out r189_0))], [false], [], [0], [0]⟩ 21 ⟨[(0, oc (.ptr 0 0))], [], [(0, [.d (.sl .str r189_0.2.1), zi r189_0.2.2.1, .d (.bool r189_0.2.2.2)])], 1⟩ [FnOK Tryd.prog 84 (f84_filter_reader_took_in (⟨#[108, 111, 110, 103]⟩ : ByteArray) r187_0.2.1 r187_0.2.2.1 r187_0.2.2.2) (f84_filter_reader_took_out r189_0), r189_0.1 = false] (by kernel_rfl) ⟨(f84_filter_reader_took_ok (⟨#[108, 111, 110, 103]⟩ : ByteArray) r187_0.2.1 r187_0.2.2.1 r187_0.2.2.2 r189_0 cr189_0), b189_e0, trivial⟩ ?_
                      refine At.step hm ht ⟨[], [], [], [], [0]⟩ 22 ⟨[], [], [(0, [.d (.sl .str r189_0.2.1), zi r189_0.2.2.1, .d (.bool true)])], 1⟩ [2 + 1 ≤ 3] (by kernel_rfl) ⟨(by decide), trivial⟩ ?_
                      have h := Option.some.inj h
                      subst h
                      exact At.fin hm ht ⟨[], [], [.nilpt 2], [2], [0]⟩ [] (by kernel_rfl) trivial
/-! (*brougham/filter.reader).one -/
def f99_filter_reader_one_in (r__0 : List ByteArray) (r__1 : Int) (r__2 : Bool) : Inn := ⟨[.c (.ptr 0 0)], [], [(0, [.d (.sl .str r__0), zi r__1, .d (.bool r__2)])], 1⟩
def f99_filter_reader_one_out (r : PT × List ByteArray × Int × Bool) : Out := ⟨oc (.d (.pt r.1)), [], [(0, [.d (.sl .str r.2.1), zi r.2.2.1, .d (.bool r.2.2.2)])], 1⟩
/-! (*brougham/filter.reader).or -/
def f54_filter_reader_or_in (r__0 : List ByteArray) (r__1 : Int) (r__2 : Bool) : Inn := ⟨[.c (.ptr 0 0)], [], [(0, [.d (.sl .str r__0), zi r__1, .d (.bool r__2)])], 1⟩
def f54_filter_reader_or_out (r : PT × List ByteArray × Int × Bool) : Out := ⟨oc (.d (.pt r.1)), [], [(0, [.d (.sl .str r.2.1), zi r.2.2.1, .d (.bool r.2.2.2)])], 1⟩
/-! (*brougham/filter.reader).one -/
def f99_filter_reader_one_D5_in (b0_0 : List ByteArray) (b0_1 : Int) (b0_2 : Bool) : Inn := ⟨[.c (.ptr 1 0)], [], [(0, [.d (.sl .str b0_0), zi b0_1, .d (.bool b0_2)]), (1, [.ptr 0 0])], 2⟩
def f99_filter_reader_one_D5_out (r : PT × List ByteArray × Int × Bool) : Out := ⟨oc (.d (.pt r.1)), [], [(0, [.d (.sl .str r.2.1), zi r.2.2.1, .d (.bool r.2.2.2)]), (1, [.ptr 0 0])], 2⟩
def f99_filter_reader_one_D5 (rc_f54_filter_reader_or : (List ByteArray) → Int → Bool → Option (PT × List ByteArray × Int × Bool)) (rc_f99_filter_reader_one : (List ByteArray) → Int → Bool → Option (PT × List ByteArray × Int × Bool)) (n : Nat) (b0_0 : List ByteArray) (b0_1 : Int) (b0_2 : Bool) : Option (PT × List ByteArray × Int × Bool) :=
  (f84_filter_reader_took (⟨#[110, 111, 116]⟩ : ByteArray) b0_0 b0_1 b0_2).bind fun r253_0 =>
  if r253_0.1 = true then
    (rc_f99_filter_reader_one r253_0.2.1 r253_0.2.2.1 r253_0.2.2.2).bind fun r254_0 =>
    some ((PT.node 8 0 r254_0.1 PT.nil), r254_0.2.1, r254_0.2.2.1, r254_0.2.2.2)
  else
    (f84_filter_reader_took (⟨#[40]⟩ : ByteArray) r253_0.2.1 r253_0.2.2.1 r253_0.2.2.2).bind fun r255_0 =>
    if r255_0.1 = true then
      (rc_f54_filter_reader_or r255_0.2.1 r255_0.2.2.1 r255_0.2.2.2).bind fun r256_0 =>
      (f84_filter_reader_took (⟨#[41]⟩ : ByteArray) r256_0.2.1 r256_0.2.2.1 r256_0.2.2.2).bind fun r257_0 =>
      if (!r257_0.1) = true then
        some (r256_0.1, r257_0.2.1, r257_0.2.2.1, true)
      else
        some (r256_0.1, r257_0.2.1, r257_0.2.2.1, r257_0.2.2.2)
    else
      (f112_filter_reader_plain r255_0.2.1 r255_0.2.2.1 r255_0.2.2.2).bind fun r260_0 =>
      some (r260_0.1, r260_0.2.1, r260_0.2.2.1, r260_0.2.2.2)
theorem f99_filter_reader_one_D5_ok (rc_f54_filter_reader_or : (List ByteArray) → Int → Bool → Option (PT × List ByteArray × Int × Bool)) (hrc_f54_filter_reader_or : ∀ (r__0 : List ByteArray) (r__1 : Int) (r__2 : Bool) (r : PT × List ByteArray × Int × Bool) (h : rc_f54_filter_reader_or r__0 r__1 r__2 = some r), FnOK Tryd.prog 54 (f54_filter_reader_or_in r__0 r__1 r__2) (f54_filter_reader_or_out r)) (rc_f99_filter_reader_one : (List ByteArray) → Int → Bool → Option (PT × List ByteArray × Int × Bool)) (hrc_f99_filter_reader_one : ∀ (r__0 : List ByteArray) (r__1 : Int) (r__2 : Bool) (r : PT × List ByteArray × Int × Bool) (h : rc_f99_filter_reader_one r__0 r__1 r__2 = some r), FnOK Tryd.prog 99 (f99_filter_reader_one_in r__0 r__1 r__2) (f99_filter_reader_one_out r)) (n : Nat) (b0_0 : List ByteArray) (b0_1 : Int) (b0_2 : Bool) (r : PT × List ByteArray × Int × Bool) (h : f99_filter_reader_one_D5 rc_f54_filter_reader_or rc_f99_filter_reader_one n b0_0 b0_1 b0_2 = some r) : At Tryd.prog Tryd.f99 2 6 ⟨[(1, oc (.ptr 1 0))], [], [(0, [.d (.sl .str b0_0), zi b0_1, .d (.bool b0_2)]), (1, [.ptr 0 0])], 2⟩ (f99_filter_reader_one_D5_out r) := by
  unfold f99_filter_reader_one_D5 at h
  obtain ⟨r253_0, cr253_0, h⟩ := bindS h
  rcases iteS h with ⟨b253_e0, h⟩ | ⟨b253_e0, h⟩
  · refine At.step hm ht ⟨[(1, .call [0] [] (f84_filter_reader_took_out r253_0))], [true], [], [1], [0, 1]⟩ 7 ⟨[(1, oc (.ptr 1 0))], [], [(0, [.d (.sl .str r253_0.2.1), zi r253_0.2.2.1, .d (.bool r253_0.2.2.2)]), (1, [.ptr 0 0])], 2⟩ [FnOK Tryd.prog 84 (f84_filter_reader_took_in (⟨#[110, 111, 116]⟩ : ByteArray) b0_0 b0_1 b0_2) (f84_filter_reader_took_out r253_0), r253_0.1 = true] (by kernel_rfl) ⟨(f84_filter_reader_took_ok (⟨#[110, 111, 116]⟩ : ByteArray) b0_0 b0_1 b0_2 r253_0 cr253_0), b253_e0, trivial⟩ ?_
    obtain ⟨r254_0, cr254_0, h⟩ := bindS h
    have h := Option.some.inj h
    subst h
    exact At.fin hm ht ⟨[(1, .call [0] [] (f99_filter_reader_one_out r254_0))], [], [.tree 5], [2], [0, 1]⟩ [FnOK Tryd.prog 99 (f99_filter_reader_one_in r253_0.2.1 r253_0.2.2.1 r253_0.2.2.2) (f99_filter_reader_one_out r254_0)] (by kernel_rfl) ⟨(hrc_f99_filter_reader_one r253_0.2.1 r253_0.2.2.1 r253_0.2.2.2 r254_0 cr254_0), trivial⟩
  · refine At.step hm ht ⟨[(1, .call [0] [] (f84_filter_reader_took_out r253_0))], [false], [], [1], [0, 1]⟩ 8 ⟨[(1, oc (.ptr 1 0))], [], [(0, [.d (.sl .str r253_0.2.1), zi r253_0.2.2.1, .d (.bool r253_0.2.2.2)]), (1, [.ptr 0 0])], 2⟩ [FnOK Tryd.prog 84 (f84_filter_reader_took_in (⟨#[110, 111, 116]⟩ : ByteArray) b0_0 b0_1 b0_2) (f84_filter_reader_took_out r253_0), r253_0.1 = false] (by kernel_rfl) ⟨(f84_filter_reader_took_ok (⟨#[110, 111, 116]⟩ : ByteArray) b0_0 b0_1 b0_2 r253_0 cr253_0), b253_e0, trivial⟩ ?_
    obtain ⟨r255_0, cr255_0, h⟩ := bindS h
    rcases iteS h with ⟨b255_e0, h⟩ | ⟨b255_e0, h⟩
    · refine At.step hm ht ⟨[(1, .call [0] [] (f84_filter_reader_took_out r255_0))], [true], [], [1], [0, 1]⟩ 9 ⟨[(1, oc (.ptr 1 0))], [], [(0, [.d (.sl .str r255_0.2.1), zi r255_0.2.2.1, .d (.bool r255_0.2.2.2)]), (1, [.ptr 0 0])], 2⟩ [FnOK Tryd.prog 84 (f84_filter_reader_took_in (⟨#[40]⟩ : ByteArray) r253_0.2.1 r253_0.2.2.1 r253_0.2.2.2) (f84_filter_reader_took_out r255_0), r255_0.1 = true] (by kernel_rfl) ⟨(f84_filter_reader_took_ok (⟨#[40]⟩ : ByteArray) r253_0.2.1 r253_0.2.2.1 r253_0.2.2.2 r255_0 cr255_0), b255_e0, trivial⟩ ?_
      obtain ⟨r256_0, cr256_0, h⟩ := bindS h
      refine At.step hm ht ⟨[(1, .call [0] [] (f54_filter_reader_or_out r256_0))], [], [], [1, 3], [0, 1]⟩ 10 ⟨[(1, oc (.ptr 1 0)), (3, oc (.d (.pt r256_0.1)))], [], [(0, [.d (.sl .str r256_0.2.1), zi r256_0.2.2.1, .d (.bool r256_0.2.2.2)]), (1, [.ptr 0 0])], 2⟩ [FnOK Tryd.prog 54 (f54_filter_reader_or_in r255_0.2.1 r255_0.2.2.1 r255_0.2.2.2) (f54_filter_reader_or_out r256_0)] (by kernel_rfl) ⟨(hrc_f54_filter_reader_or r255_0.2.1 r255_0.2.2.1 r255_0.2.2.2 r256_0 cr256_0), trivial⟩ ?_
      obtain ⟨r257_0, cr257_0, h⟩ := bindS h
      rcases iteS h with ⟨b257_4, h⟩ | ⟨b257_4, h⟩
      · refine At.step hm ht ⟨[(2, .call [0] [] (f84_filter_reader_took_out r257_0)), (4, .b true)], [], [], [3], [0, 1]⟩ 11 ⟨[(3, oc (.d (.pt r256_0.1)))], [], [(0, [.d (.sl .str r257_0.2.1), zi r257_0.2.2.1, .d (.bool true)]), (1, [.ptr 0 0])], 2⟩ [FnOK Tryd.prog 84 (f84_filter_reader_took_in (⟨#[41]⟩ : ByteArray) r256_0.2.1 r256_0.2.2.1 r256_0.2.2.2) (f84_filter_reader_took_out r257_0), (!r257_0.1) = true, 2 + 1 ≤ 3] (by kernel_rfl) ⟨(f84_filter_reader_took_ok (⟨#[41]⟩ : ByteArray) r256_0.2.1 r256_0.2.2.1 r256_0.2.2.2 r257_0 cr257_0), b257_4, (by decide), trivial⟩ ?_
        have h := Option.some.inj h
        subst h
        exact At.fin hm ht ⟨[], [], [], [2], [0, 1]⟩ [] (by kernel_rfl) trivial
      · refine At.step hm ht ⟨[(2, .call [0] [] (f84_filter_reader_took_out r257_0)), (4, .b false)], [], [], [3], [0, 1]⟩ 11 ⟨[(3, oc (.d (.pt r256_0.1)))], [], [(0, [.d (.sl .str r257_0.2.1), zi r257_0.2.2.1, .d (.bool r257_0.2.2.2)]), (1, [.ptr 0 0])], 2⟩ [FnOK Tryd.prog 84 (f84_filter_reader_took_in (⟨#[41]⟩ : ByteArray) r256_0.2.1 r256_0.2.2.1 r256_0.2.2.2) (f84_filter_reader_took_out r257_0), (!r257_0.1) = false, 2 + 1 ≤ 3] (by kernel_rfl) ⟨(f84_filter_reader_took_ok (⟨#[41]⟩ : ByteArray) r256_0.2.1 r256_0.2.2.1 r256_0.2.2.2 r257_0 cr257_0), b257_4, (by decide), trivial⟩ ?_
        have h := Option.some.inj h
        subst h
        exact At.fin hm ht ⟨[], [], [], [2], [0, 1]⟩ [] (by kernel_rfl) trivial
    · refine At.step hm ht ⟨[(1, .call [0] [] (f84_filter_reader_took_out r255_0))], [false], [], [1], [0, 1]⟩ 12 ⟨[(1, oc (.ptr 1 0))], [], [(0, [.d (.sl .str r255_0.2.1), zi r255_0.2.2.1, .d (.bool r255_0.2.2.2)]), (1, [.ptr 0 0])], 2⟩ [FnOK Tryd.prog 84 (f84_filter_reader_took_in (⟨#[40]⟩ : ByteArray) r253_0.2.1 r253_0.2.2.1 r253_0.2.2.2) (f84_filter_reader_took_out r255_0), r255_0.1 = false] (by kernel_rfl) ⟨(f84_filter_reader_took_ok (⟨#[40]⟩ : ByteArray) r253_0.2.1 r253_0.2.2.1 r253_0.2.2.2 r255_0 cr255_0), b255_e0, trivial⟩ ?_
      obtain ⟨r260_0, cr260_0, h⟩ := bindS h
      have h := Option.some.inj h
      subst h
      exact At.fin hm ht ⟨[(1, .call [0] [] (f112_filter_reader_plain_out r260_0))], [], [], [2], [0, 1]⟩ [FnOK Tryd.prog 112 (f112_filter_reader_plain_in r255_0.2.1 r255_0.2.2.1 r255_0.2.2.2) (f112_filter_reader_plain_out r260_0)] (by kernel_rfl) ⟨(f112_filter_reader_plain_ok r255_0.2.1 r255_0.2.2.1 r255_0.2.2.2 r260_0 cr260_0), trivial⟩
def f99_filter_reader_one (rc_f54_filter_reader_or : (List ByteArray) → Int → Bool → Option (PT × List ByteArray × Int × Bool)) : Nat → (List ByteArray) → Int → Bool → Option (PT × List ByteArray × Int × Bool)
  | 0, _, _, _ => none
  | n + 1, r__0, r__1, r__2 =>
    if (decide (((IntKind.wrap .i64 (r__1 - 1)) : Int) < 0)) = true then
      some (PT.nil, r__0, (IntKind.wrap .i64 (r__1 - 1)), true)
    else
      (f99_filter_reader_one_D5 rc_f54_filter_reader_or (f99_filter_reader_one rc_f54_filter_reader_or n) n r__0 (IntKind.wrap .i64 (r__1 - 1)) r__2).bind fun r261 =>
      some (r261.1, r261.2.1, (IntKind.wrap .i64 (r261.2.2.1 + 1)), r261.2.2.2)
theorem f99_filter_reader_one_ok (rc_f54_filter_reader_or : (List ByteArray) → Int → Bool → Option (PT × List ByteArray × Int × Bool)) (hrc_f54_filter_reader_or : ∀ (r__0 : List ByteArray) (r__1 : Int) (r__2 : Bool) (r : PT × List ByteArray × Int × Bool) (h : rc_f54_filter_reader_or r__0 r__1 r__2 = some r), FnOK Tryd.prog 54 (f54_filter_reader_or_in r__0 r__1 r__2) (f54_filter_reader_or_out r)) (n : Nat) : ∀ (r__0 : List ByteArray) (r__1 : Int) (r__2 : Bool) (r : PT × List ByteArray × Int × Bool) (h : f99_filter_reader_one rc_f54_filter_reader_or n r__0 r__1 r__2 = some r), FnOK Tryd.prog 99 (f99_filter_reader_one_in r__0 r__1 r__2) (f99_filter_reader_one_out r) := by
  induction n with
  | zero => intro r__0 r__1 r__2 r h; rw [f99_filter_reader_one] at h; cases h
  | succ n ih =>
    intro r__0 r__1 r__2 r h
    rw [f99_filter_reader_one] at h
    refine At0.fn (r := 0) Tryd.func99 rfl (by kernel_rfl) rfl rfl (by kernel_rfl) ?_
    show At0 Tryd.prog Tryd.f99 1 0 ⟨[(0, oc (.ptr 0 0))], [], [(0, [.d (.sl .str r__0), zi r__1, .d (.bool r__2)])], 1⟩ _
    refine At0.step hm ht ⟨[], [], [.nilpt 2], [1], [0, 1]⟩ 1 ⟨[(1, oc (.ptr 1 0))], [], [(0, [.d (.sl .str r__0), zi r__1, .d (.bool r__2)]), (1, [.ptr 0 0])], 2⟩ [] (by kernel_rfl) trivial ?_
    refine At0.step hm ht ⟨[], [], [], [1], [0, 1]⟩ 2 ⟨[(1, oc (.ptr 1 0))], [], [(0, [.d (.sl .str r__0), zi (IntKind.wrap .i64 (r__1 - 1)), .d (.bool r__2)]), (1, [.ptr 0 0])], 2⟩ [1 + 1 ≤ 3] (by kernel_rfl) ⟨(by decide), trivial⟩ ?_
    rcases iteS h with ⟨b250_e0, h⟩ | ⟨b250_e0, h⟩
    · refine At0.step hm ht ⟨[], [true], [], [1], [0, 1]⟩ 3 ⟨[(1, oc (.ptr 1 0))], [], [(0, [.d (.sl .str r__0), zi (IntKind.wrap .i64 (r__1 - 1)), .d (.bool r__2)]), (1, [.ptr 0 0])], 2⟩ [(decide (((IntKind.wrap .i64 (r__1 - 1)) : Int) < 0)) = true] (by kernel_rfl) ⟨b250_e0, trivial⟩ ?_
      refine At0.step hm ht ⟨[], [], [], [], [0]⟩ 4 ⟨[], [], [(0, [.d (.sl .str r__0), zi (IntKind.wrap .i64 (r__1 - 1)), .d (.bool true)])], 1⟩ [2 + 1 ≤ 3] (by kernel_rfl) ⟨(by decide), trivial⟩ ?_
      have h := Option.some.inj h
      subst h
      exact At.zero (At.fin hm ht ⟨[], [], [.nilpt 2], [2], [0]⟩ [] (by kernel_rfl) trivial)
    · refine At0.step hm ht ⟨[], [false], [], [1], [0, 1]⟩ 5 ⟨[(1, oc (.ptr 1 0))], [], [(0, [.d (.sl .str r__0), zi (IntKind.wrap .i64 (r__1 - 1)), .d (.bool r__2)]), (1, [.ptr 0 0])], 2⟩ [(decide (((IntKind.wrap .i64 (r__1 - 1)) : Int) < 0)) = false] (by kernel_rfl) ⟨b250_e0, trivial⟩ ?_
      obtain ⟨r261, cr261, h⟩ := bindS h
      have h := Option.some.inj h
      subst h
      have q := Go.Proofs.YtakamchmiakicaaDoorDfr.dfr rfl rfl rfl (f99_filter_reader_one_D5_ok rc_f54_filter_reader_or hrc_f54_filter_reader_or (f99_filter_reader_one rc_f54_filter_reader_or n) ih n r__0 (IntKind.wrap .i64 (r__1 - 1)) r__2 r261 cr261)
      exact q
/-! (*brougham/filter.reader).and -/
def f83_filter_reader_and_in (r__0 : List ByteArray) (r__1 : Int) (r__2 : Bool) : Inn := ⟨[.c (.ptr 0 0)], [], [(0, [.d (.sl .str r__0), zi r__1, .d (.bool r__2)])], 1⟩
def f83_filter_reader_and_out (r : PT × List ByteArray × Int × Bool) : Out := ⟨oc (.d (.pt r.1)), [], [(0, [.d (.sl .str r.2.1), zi r.2.2.1, .d (.bool r.2.2.2)])], 1⟩
def f83_filter_reader_and_L2 (rc_f54_filter_reader_or : (List ByteArray) → Int → Bool → Option (PT × List ByteArray × Int × Bool)) : Nat → PT → (List ByteArray) → Int → Bool → Option (PT × List ByteArray × Int × Bool)
  | 0, _, _, _, _ => none
  | n + 1, f, r__0, r__1, r__2 =>
    if (!r__2) = true then
      (f84_filter_reader_took (⟨#[97, 110, 100]⟩ : ByteArray) r__0 r__1 r__2).bind fun r262_0 =>
      if r262_0.1 = true then
        (f99_filter_reader_one rc_f54_filter_reader_or n r262_0.2.1 r262_0.2.2.1 r262_0.2.2.2).bind fun r263_0 =>
        f83_filter_reader_and_L2 rc_f54_filter_reader_or n (PT.node 9 0 f r263_0.1) r263_0.2.1 r263_0.2.2.1 r263_0.2.2.2
      else
        some ((f, r262_0.2.1, r262_0.2.2.1, r262_0.2.2.2))
    else
      some ((f, r__0, r__1, r__2))
def f83_filter_reader_and_L2_k (e : PT × List ByteArray × Int × Bool) (o : Out) : Prop := At Tryd.prog Tryd.f83 1 4 ⟨[(3, oc (.d (.pt e.1)))], [], [(0, [.d (.sl .str e.2.1), zi e.2.2.1, .d (.bool e.2.2.2)])], 1⟩ o
theorem f83_filter_reader_and_L2_ok (rc_f54_filter_reader_or : (List ByteArray) → Int → Bool → Option (PT × List ByteArray × Int × Bool)) (hrc_f54_filter_reader_or : ∀ (r__0 : List ByteArray) (r__1 : Int) (r__2 : Bool) (r : PT × List ByteArray × Int × Bool) (h : rc_f54_filter_reader_or r__0 r__1 r__2 = some r), FnOK Tryd.prog 54 (f54_filter_reader_or_in r__0 r__1 r__2) (f54_filter_reader_or_out r)) (n : Nat) : ∀ (f : PT) (r__0 : List ByteArray) (r__1 : Int) (r__2 : Bool) (w : PT × List ByteArray × Int × Bool) (h : f83_filter_reader_and_L2 rc_f54_filter_reader_or n f r__0 r__1 r__2 = some w) (o : Out) (hk : f83_filter_reader_and_L2_k w o), At Tryd.prog Tryd.f83 1 2 ⟨[(0, oc (.ptr 0 0)), (3, oc (.d (.pt f)))], [], [(0, [.d (.sl .str r__0), zi r__1, .d (.bool r__2)])], 1⟩ o := by
  induction n with
  | zero => intro f r__0 r__1 r__2 w h; rw [f83_filter_reader_and_L2] at h; cases h
  | succ n ih =>
    intro f r__0 r__1 r__2 w h o hk
    rw [f83_filter_reader_and_L2] at h
    rcases iteS h with ⟨b262_5, h⟩ | ⟨b262_5, h⟩
    · obtain ⟨r262_0, cr262_0, h⟩ := bindS h
      rcases iteS h with ⟨b262_e0, h⟩ | ⟨b262_e0, h⟩
      · refine At.step hm ht ⟨[(5, .b true), (7, .call [0] [] (f84_filter_reader_took_out r262_0))], [true], [], [0, 3], [0]⟩ 3 ⟨[(0, oc (.ptr 0 0)), (3, oc (.d (.pt f)))], [], [(0, [.d (.sl .str r262_0.2.1), zi r262_0.2.2.1, .d (.bool r262_0.2.2.2)])], 1⟩ [(!r__2) = true, FnOK Tryd.prog 84 (f84_filter_reader_took_in (⟨#[97, 110, 100]⟩ : ByteArray) r__0 r__1 r__2) (f84_filter_reader_took_out r262_0), r262_0.1 = true] (by kernel_rfl) ⟨b262_5, (f84_filter_reader_took_ok (⟨#[97, 110, 100]⟩ : ByteArray) r__0 r__1 r__2 r262_0 cr262_0), b262_e0, trivial⟩ ?_
        obtain ⟨r263_0, cr263_0, h⟩ := bindS h
        refine At.step hm ht ⟨[(2, .call [0] [] (f99_filter_reader_one_out r263_0))], [], [.tree 5], [0, 3], [0]⟩ 2 ⟨[(0, oc (.ptr 0 0)), (3, oc (.d (.pt (PT.node 9 0 f r263_0.1))))], [], [(0, [.d (.sl .str r263_0.2.1), zi r263_0.2.2.1, .d (.bool r263_0.2.2.2)])], 1⟩ [FnOK Tryd.prog 99 (f99_filter_reader_one_in r262_0.2.1 r262_0.2.2.1 r262_0.2.2.2) (f99_filter_reader_one_out r263_0)] (by kernel_rfl) ⟨(f99_filter_reader_one_ok rc_f54_filter_reader_or hrc_f54_filter_reader_or n r262_0.2.1 r262_0.2.2.1 r262_0.2.2.2 r263_0 cr263_0), trivial⟩ ?_
        exact ih (PT.node 9 0 f r263_0.1) r263_0.2.1 r263_0.2.2.1 r263_0.2.2.2 w h o hk
      · refine At.step hm ht ⟨[(5, .b true), (7, .call [0] [] (f84_filter_reader_took_out r262_0))], [false], [], [3], [0]⟩ 4 ⟨[(3, oc (.d (.pt f)))], [], [(0, [.d (.sl .str r262_0.2.1), zi r262_0.2.2.1, .d (.bool r262_0.2.2.2)])], 1⟩ [(!r__2) = true, FnOK Tryd.prog 84 (f84_filter_reader_took_in (⟨#[97, 110, 100]⟩ : ByteArray) r__0 r__1 r__2) (f84_filter_reader_took_out r262_0), r262_0.1 = false] (by kernel_rfl) ⟨b262_5, (f84_filter_reader_took_ok (⟨#[97, 110, 100]⟩ : ByteArray) r__0 r__1 r__2 r262_0 cr262_0), b262_e0, trivial⟩ ?_
        have h := Option.some.inj h
        subst h
        exact hk
    · refine At.step hm ht ⟨[(5, .b false)], [false], [], [3], [0]⟩ 4 ⟨[(3, oc (.d (.pt f)))], [], [(0, [.d (.sl .str r__0), zi r__1, .d (.bool r__2)])], 1⟩ [(!r__2) = false, false = false] (by kernel_rfl) ⟨b262_5, rfl, trivial⟩ ?_
      have h := Option.some.inj h
      subst h
      exact hk
def f83_filter_reader_and (rc_f54_filter_reader_or : (List ByteArray) → Int → Bool → Option (PT × List ByteArray × Int × Bool)) (n : Nat) (r__0 : List ByteArray) (r__1 : Int) (r__2 : Bool) : Option (PT × List ByteArray × Int × Bool) :=
  (f99_filter_reader_one rc_f54_filter_reader_or n r__0 r__1 r__2).bind fun r247_0 =>
  (f83_filter_reader_and_L2 rc_f54_filter_reader_or n r247_0.1 r247_0.2.1 r247_0.2.2.1 r247_0.2.2.2).bind fun w264 =>
  some (w264.1, w264.2.1, w264.2.2.1, w264.2.2.2)
theorem f83_filter_reader_and_ok (rc_f54_filter_reader_or : (List ByteArray) → Int → Bool → Option (PT × List ByteArray × Int × Bool)) (hrc_f54_filter_reader_or : ∀ (r__0 : List ByteArray) (r__1 : Int) (r__2 : Bool) (r : PT × List ByteArray × Int × Bool) (h : rc_f54_filter_reader_or r__0 r__1 r__2 = some r), FnOK Tryd.prog 54 (f54_filter_reader_or_in r__0 r__1 r__2) (f54_filter_reader_or_out r)) (n : Nat) (r__0 : List ByteArray) (r__1 : Int) (r__2 : Bool) (r : PT × List ByteArray × Int × Bool) (h : f83_filter_reader_and rc_f54_filter_reader_or n r__0 r__1 r__2 = some r) : FnOK Tryd.prog 83 (f83_filter_reader_and_in r__0 r__1 r__2) (f83_filter_reader_and_out r) := by
  unfold f83_filter_reader_and at h
  refine At.fn (r := 0) Tryd.func83 rfl (by kernel_rfl) rfl rfl (by kernel_rfl) ?_
  show At Tryd.prog Tryd.f83 1 0 ⟨[(0, oc (.ptr 0 0))], [], [(0, [.d (.sl .str r__0), zi r__1, .d (.bool r__2)])], 1⟩ _
  refine At.step hm ht ⟨[], [], [.nilpt 2], [0], [0]⟩ 1 ⟨[(0, oc (.ptr 0 0))], [], [(0, [.d (.sl .str r__0), zi r__1, .d (.bool r__2)])], 1⟩ [] (by kernel_rfl) trivial ?_
  obtain ⟨r247_0, cr247_0, h⟩ := bindS h
  refine At.step hm ht ⟨[(1, .call [0] [] (f99_filter_reader_one_out r247_0))], [], [], [0, 3], [0]⟩ 2 ⟨[(0, oc (.ptr 0 0)), (3, oc (.d (.pt r247_0.1)))], [], [(0, [.d (.sl .str r247_0.2.1), zi r247_0.2.2.1, .d (.bool r247_0.2.2.2)])], 1⟩ [FnOK Tryd.prog 99 (f99_filter_reader_one_in r__0 r__1 r__2) (f99_filter_reader_one_out r247_0)] (by kernel_rfl) ⟨(f99_filter_reader_one_ok rc_f54_filter_reader_or hrc_f54_filter_reader_or n r__0 r__1 r__2 r247_0 cr247_0), trivial⟩ ?_
  obtain ⟨w264, cw264, h⟩ := bindS h
  refine f83_filter_reader_and_L2_ok rc_f54_filter_reader_or hrc_f54_filter_reader_or n r247_0.1 r247_0.2.1 r247_0.2.2.1 r247_0.2.2.2 w264 cw264 _ ?_
  show At Tryd.prog Tryd.f83 1 4 ⟨[(3, oc (.d (.pt w264.1)))], [], [(0, [.d (.sl .str w264.2.1), zi w264.2.2.1, .d (.bool w264.2.2.2)])], 1⟩ _
  have h := Option.some.inj h
  subst h
  exact At.fin hm ht ⟨[], [], [], [2], [0]⟩ [] (by kernel_rfl) trivial
def f54_filter_reader_or_L2 (rc_f54_filter_reader_or : (List ByteArray) → Int → Bool → Option (PT × List ByteArray × Int × Bool)) : Nat → PT → (List ByteArray) → Int → Bool → Option (PT × List ByteArray × Int × Bool)
  | 0, _, _, _, _ => none
  | n + 1, f, r__0, r__1, r__2 =>
    if (!r__2) = true then
      (f84_filter_reader_took (⟨#[111, 114]⟩ : ByteArray) r__0 r__1 r__2).bind fun r267_0 =>
      if r267_0.1 = true then
        (f83_filter_reader_and rc_f54_filter_reader_or n r267_0.2.1 r267_0.2.2.1 r267_0.2.2.2).bind fun r268_0 =>
        f54_filter_reader_or_L2 rc_f54_filter_reader_or n (PT.node 10 0 f r268_0.1) r268_0.2.1 r268_0.2.2.1 r268_0.2.2.2
      else
        some ((f, r267_0.2.1, r267_0.2.2.1, r267_0.2.2.2))
    else
      some ((f, r__0, r__1, r__2))
def f54_filter_reader_or_L2_k (e : PT × List ByteArray × Int × Bool) (o : Out) : Prop := At Tryd.prog Tryd.f54 1 4 ⟨[(3, oc (.d (.pt e.1)))], [], [(0, [.d (.sl .str e.2.1), zi e.2.2.1, .d (.bool e.2.2.2)])], 1⟩ o
theorem f54_filter_reader_or_L2_ok (rc_f54_filter_reader_or : (List ByteArray) → Int → Bool → Option (PT × List ByteArray × Int × Bool)) (hrc_f54_filter_reader_or : ∀ (r__0 : List ByteArray) (r__1 : Int) (r__2 : Bool) (r : PT × List ByteArray × Int × Bool) (h : rc_f54_filter_reader_or r__0 r__1 r__2 = some r), FnOK Tryd.prog 54 (f54_filter_reader_or_in r__0 r__1 r__2) (f54_filter_reader_or_out r)) (n : Nat) : ∀ (f : PT) (r__0 : List ByteArray) (r__1 : Int) (r__2 : Bool) (w : PT × List ByteArray × Int × Bool) (h : f54_filter_reader_or_L2 rc_f54_filter_reader_or n f r__0 r__1 r__2 = some w) (o : Out) (hk : f54_filter_reader_or_L2_k w o), At Tryd.prog Tryd.f54 1 2 ⟨[(0, oc (.ptr 0 0)), (3, oc (.d (.pt f)))], [], [(0, [.d (.sl .str r__0), zi r__1, .d (.bool r__2)])], 1⟩ o := by
  induction n with
  | zero => intro f r__0 r__1 r__2 w h; rw [f54_filter_reader_or_L2] at h; cases h
  | succ n ih =>
    intro f r__0 r__1 r__2 w h o hk
    rw [f54_filter_reader_or_L2] at h
    rcases iteS h with ⟨b267_5, h⟩ | ⟨b267_5, h⟩
    · obtain ⟨r267_0, cr267_0, h⟩ := bindS h
      rcases iteS h with ⟨b267_e0, h⟩ | ⟨b267_e0, h⟩
      · refine At.step hm ht ⟨[(5, .b true), (7, .call [0] [] (f84_filter_reader_took_out r267_0))], [true], [], [0, 3], [0]⟩ 3 ⟨[(0, oc (.ptr 0 0)), (3, oc (.d (.pt f)))], [], [(0, [.d (.sl .str r267_0.2.1), zi r267_0.2.2.1, .d (.bool r267_0.2.2.2)])], 1⟩ [(!r__2) = true, FnOK Tryd.prog 84 (f84_filter_reader_took_in (⟨#[111, 114]⟩ : ByteArray) r__0 r__1 r__2) (f84_filter_reader_took_out r267_0), r267_0.1 = true] (by kernel_rfl) ⟨b267_5, (f84_filter_reader_took_ok (⟨#[111, 114]⟩ : ByteArray) r__0 r__1 r__2 r267_0 cr267_0), b267_e0, trivial⟩ ?_
        obtain ⟨r268_0, cr268_0, h⟩ := bindS h
        refine At.step hm ht ⟨[(2, .call [0] [] (f83_filter_reader_and_out r268_0))], [], [.tree 5], [0, 3], [0]⟩ 2 ⟨[(0, oc (.ptr 0 0)), (3, oc (.d (.pt (PT.node 10 0 f r268_0.1))))], [], [(0, [.d (.sl .str r268_0.2.1), zi r268_0.2.2.1, .d (.bool r268_0.2.2.2)])], 1⟩ [FnOK Tryd.prog 83 (f83_filter_reader_and_in r267_0.2.1 r267_0.2.2.1 r267_0.2.2.2) (f83_filter_reader_and_out r268_0)] (by kernel_rfl) ⟨(f83_filter_reader_and_ok rc_f54_filter_reader_or hrc_f54_filter_reader_or n r267_0.2.1 r267_0.2.2.1 r267_0.2.2.2 r268_0 cr268_0), trivial⟩ ?_
        exact ih (PT.node 10 0 f r268_0.1) r268_0.2.1 r268_0.2.2.1 r268_0.2.2.2 w h o hk
      · refine At.step hm ht ⟨[(5, .b true), (7, .call [0] [] (f84_filter_reader_took_out r267_0))], [false], [], [3], [0]⟩ 4 ⟨[(3, oc (.d (.pt f)))], [], [(0, [.d (.sl .str r267_0.2.1), zi r267_0.2.2.1, .d (.bool r267_0.2.2.2)])], 1⟩ [(!r__2) = true, FnOK Tryd.prog 84 (f84_filter_reader_took_in (⟨#[111, 114]⟩ : ByteArray) r__0 r__1 r__2) (f84_filter_reader_took_out r267_0), r267_0.1 = false] (by kernel_rfl) ⟨b267_5, (f84_filter_reader_took_ok (⟨#[111, 114]⟩ : ByteArray) r__0 r__1 r__2 r267_0 cr267_0), b267_e0, trivial⟩ ?_
        have h := Option.some.inj h
        subst h
        exact hk
    · refine At.step hm ht ⟨[(5, .b false)], [false], [], [3], [0]⟩ 4 ⟨[(3, oc (.d (.pt f)))], [], [(0, [.d (.sl .str r__0), zi r__1, .d (.bool r__2)])], 1⟩ [(!r__2) = false, false = false] (by kernel_rfl) ⟨b267_5, rfl, trivial⟩ ?_
      have h := Option.some.inj h
      subst h
      exact hk
def f54_filter_reader_or : Nat → (List ByteArray) → Int → Bool → Option (PT × List ByteArray × Int × Bool)
  | 0, _, _, _ => none
  | n + 1, r__0, r__1, r__2 =>
    (f83_filter_reader_and (f54_filter_reader_or n) n r__0 r__1 r__2).bind fun r245_0 =>
    (f54_filter_reader_or_L2 (f54_filter_reader_or n) n r245_0.1 r245_0.2.1 r245_0.2.2.1 r245_0.2.2.2).bind fun w269 =>
    some (w269.1, w269.2.1, w269.2.2.1, w269.2.2.2)
theorem f54_filter_reader_or_ok (n : Nat) : ∀ (r__0 : List ByteArray) (r__1 : Int) (r__2 : Bool) (r : PT × List ByteArray × Int × Bool) (h : f54_filter_reader_or n r__0 r__1 r__2 = some r), FnOK Tryd.prog 54 (f54_filter_reader_or_in r__0 r__1 r__2) (f54_filter_reader_or_out r) := by
  induction n with
  | zero => intro r__0 r__1 r__2 r h; rw [f54_filter_reader_or] at h; cases h
  | succ n ih =>
    intro r__0 r__1 r__2 r h
    rw [f54_filter_reader_or] at h
    refine At.fn (r := 0) Tryd.func54 rfl (by kernel_rfl) rfl rfl (by kernel_rfl) ?_
    show At Tryd.prog Tryd.f54 1 0 ⟨[(0, oc (.ptr 0 0))], [], [(0, [.d (.sl .str r__0), zi r__1, .d (.bool r__2)])], 1⟩ _
    refine At.step hm ht ⟨[], [], [.nilpt 2], [0], [0]⟩ 1 ⟨[(0, oc (.ptr 0 0))], [], [(0, [.d (.sl .str r__0), zi r__1, .d (.bool r__2)])], 1⟩ [] (by kernel_rfl) trivial ?_
    obtain ⟨r245_0, cr245_0, h⟩ := bindS h
    refine At.step hm ht ⟨[(1, .call [0] [] (f83_filter_reader_and_out r245_0))], [], [], [0, 3], [0]⟩ 2 ⟨[(0, oc (.ptr 0 0)), (3, oc (.d (.pt r245_0.1)))], [], [(0, [.d (.sl .str r245_0.2.1), zi r245_0.2.2.1, .d (.bool r245_0.2.2.2)])], 1⟩ [FnOK Tryd.prog 83 (f83_filter_reader_and_in r__0 r__1 r__2) (f83_filter_reader_and_out r245_0)] (by kernel_rfl) ⟨(f83_filter_reader_and_ok (f54_filter_reader_or n) ih n r__0 r__1 r__2 r245_0 cr245_0), trivial⟩ ?_
    obtain ⟨w269, cw269, h⟩ := bindS h
    refine f54_filter_reader_or_L2_ok (f54_filter_reader_or n) ih n r245_0.1 r245_0.2.1 r245_0.2.2.1 r245_0.2.2.2 w269 cw269 _ ?_
    show At Tryd.prog Tryd.f54 1 4 ⟨[(3, oc (.d (.pt w269.1)))], [], [(0, [.d (.sl .str w269.2.1), zi w269.2.2.1, .d (.bool w269.2.2.2)])], 1⟩ _
    have h := Option.some.inj h
    subst h
    exact At.fin hm ht ⟨[], [], [], [2], [0]⟩ [] (by kernel_rfl) trivial
/-! brougham/filter.Parse -/
def f21_filter_Parse_in (s : ByteArray) : Inn := ⟨[.c (.d (.str s))], [], [], 0⟩
def f21_filter_Parse_out (r : PT × Bool) : Out := ⟨.tup [.c (.d (.pt r.1)), .c (.d (.bool r.2))], [], [], 0⟩
def f21_filter_Parse (n : Nat) (s : ByteArray) : Option (PT × Bool) :=
  if (decide ((((s.size : Nat) : Int) : Int) > 4096)) = true then
    some (PT.nil, false)
  else
    (f15_num_Pieces n s).bind fun r117_0 =>
    (f54_filter_reader_or n r117_0 64 false).bind fun r140_0 =>
    if r140_0.2.2.2 = true then
      some (PT.nil, false)
    else
      if (decide ((((r140_0.2.1.length : Nat) : Int) : Int) > 0)) = true then
        some (PT.nil, false)
      else
        (f31_filter_Right n r140_0.1).bind fun r272_0 =>
        if (!r272_0) = true then
          some (PT.nil, false)
        else
          some (r140_0.1, true)
theorem f21_filter_Parse_ok (n : Nat) (s : ByteArray) (r : PT × Bool) (h : f21_filter_Parse n s = some r) : FnOK Tryd.prog 21 (f21_filter_Parse_in s) (f21_filter_Parse_out r) := by
  unfold f21_filter_Parse at h
  refine At.fn (r := 0) Tryd.func21 rfl (by kernel_rfl) rfl rfl (by kernel_rfl) ?_
  show At Tryd.prog Tryd.f21 0 0 ⟨[(0, oc (.d (.str s)))], [], [], 0⟩ _
  refine At.step hm ht ⟨[], [], [.nilpt 2], [0], []⟩ 1 ⟨[(0, oc (.d (.str s)))], [], [], 0⟩ [] (by kernel_rfl) trivial ?_
  rcases iteS h with ⟨b115_e0, h⟩ | ⟨b115_e0, h⟩
  · refine At.step hm ht ⟨[], [true], [], [], []⟩ 2 ⟨[], [], [], 0⟩ [(decide ((((s.size : Nat) : Int) : Int) > 4096)) = true] (by kernel_rfl) ⟨b115_e0, trivial⟩ ?_
    have h := Option.some.inj h
    subst h
    exact At.fin hm ht ⟨[], [], [.nilpt 2], [2, 3], []⟩ [] (by kernel_rfl) trivial
  · refine At.step hm ht ⟨[], [false], [], [0], []⟩ 3 ⟨[(0, oc (.d (.str s)))], [], [], 0⟩ [(decide ((((s.size : Nat) : Int) : Int) > 4096)) = false] (by kernel_rfl) ⟨b115_e0, trivial⟩ ?_
    obtain ⟨r117_0, cr117_0, h⟩ := bindS h
    refine At.step hm ht ⟨[(1, .call [] [] (f15_num_Pieces_out r117_0))], [], [], [4], [2]⟩ 4 ⟨[(4, oc (.ptr 0 0))], [], [(0, [.d (.sl .str r117_0), zi 64, .d (.bool false)])], 1⟩ [FnOK Tryd.prog 15 (f15_num_Pieces_in s) (f15_num_Pieces_out r117_0)] (by kernel_rfl) ⟨(f15_num_Pieces_ok n s r117_0 cr117_0), trivial⟩ ?_
    obtain ⟨r140_0, cr140_0, h⟩ := bindS h
    refine At.step hm ht ⟨[(1, .call [0] [] (f54_filter_reader_or_out r140_0))], [], [], [4, 5], [0]⟩ 5 ⟨[(4, oc (.ptr 0 0)), (5, oc (.d (.pt r140_0.1)))], [], [(0, [.d (.sl .str r140_0.2.1), zi r140_0.2.2.1, .d (.bool r140_0.2.2.2)])], 1⟩ [FnOK Tryd.prog 54 (f54_filter_reader_or_in r117_0 64 false) (f54_filter_reader_or_out r140_0)] (by kernel_rfl) ⟨(f54_filter_reader_or_ok n r117_0 64 false r140_0 cr140_0), trivial⟩ ?_
    rcases iteS h with ⟨b272_4, h⟩ | ⟨b272_4, h⟩
    · refine At.step hm ht ⟨[(4, .b true)], [true], [], [], []⟩ 6 ⟨[], [], [], 0⟩ [r140_0.2.2.2 = true, true = true] (by kernel_rfl) ⟨b272_4, rfl, trivial⟩ ?_
      have h := Option.some.inj h
      subst h
      exact At.fin hm ht ⟨[], [], [.nilpt 2], [2, 3], []⟩ [] (by kernel_rfl) trivial
    · rcases iteS h with ⟨b272_12, h⟩ | ⟨b272_12, h⟩
      · refine At.step hm ht ⟨[(4, .b false), (12, .b true)], [true], [], [], []⟩ 6 ⟨[], [], [], 0⟩ [r140_0.2.2.2 = false, (decide ((((r140_0.2.1.length : Nat) : Int) : Int) > 0)) = true, true = true] (by kernel_rfl) ⟨b272_4, b272_12, rfl, trivial⟩ ?_
        have h := Option.some.inj h
        subst h
        exact At.fin hm ht ⟨[], [], [.nilpt 2], [2, 3], []⟩ [] (by kernel_rfl) trivial
      · obtain ⟨r272_0, cr272_0, h⟩ := bindS h
        rcases iteS h with ⟨b272_e0, h⟩ | ⟨b272_e0, h⟩
        · refine At.step hm ht ⟨[(4, .b false), (12, .b false), (14, .call [] [] (f31_filter_Right_out r272_0))], [true], [], [], []⟩ 6 ⟨[], [], [], 0⟩ [r140_0.2.2.2 = false, (decide ((((r140_0.2.1.length : Nat) : Int) : Int) > 0)) = false, FnOK Tryd.prog 31 (f31_filter_Right_in r140_0.1) (f31_filter_Right_out r272_0), (!r272_0) = true] (by kernel_rfl) ⟨b272_4, b272_12, (f31_filter_Right_ok n r140_0.1 r272_0 cr272_0), b272_e0, trivial⟩ ?_
          have h := Option.some.inj h
          subst h
          exact At.fin hm ht ⟨[], [], [.nilpt 2], [2, 3], []⟩ [] (by kernel_rfl) trivial
        · refine At.step hm ht ⟨[(4, .b false), (12, .b false), (14, .call [] [] (f31_filter_Right_out r272_0))], [false], [], [5], []⟩ 7 ⟨[(5, oc (.d (.pt r140_0.1)))], [], [], 0⟩ [r140_0.2.2.2 = false, (decide ((((r140_0.2.1.length : Nat) : Int) : Int) > 0)) = false, FnOK Tryd.prog 31 (f31_filter_Right_in r140_0.1) (f31_filter_Right_out r272_0), (!r272_0) = false] (by kernel_rfl) ⟨b272_4, b272_12, (f31_filter_Right_ok n r140_0.1 r272_0 cr272_0), b272_e0, trivial⟩ ?_
          have h := Option.some.inj h
          subst h
          exact At.fin hm ht ⟨[], [], [], [2, 3], []⟩ [] (by kernel_rfl) trivial
/-! brougham/broughamlaw35.Plain -/
def f25_broughamlaw35_Plain_in (f : PT) (levels : Int) : Inn := ⟨[.c (.d (.pt f)), .c (zi levels)], [], [], 0⟩
def f25_broughamlaw35_Plain_out (r : Int × Int × List (Int × Int × List FT)) : Out := ⟨.one (.agg [zi r.1, zi r.2.1, .own 1 (.pair (.int .i64) (.pair (.int .i64) .wood)) r.2.2]), [(1, ⟨42, 0⟩)], [(0, [zi r.1, zi r.2.1, .own 1 (.pair (.int .i64) (.pair (.int .i64) .wood)) r.2.2])], 2⟩
def f25_broughamlaw35_Plain : Nat → PT → Int → Option (Int × Int × List (Int × Int × List FT))
  | 0, _, _ => none
  | n + 1, f, levels =>
    if (PT.isNil f) = true then
      some (0, 0, [])
    else
      if ((levels : Int) == 0) = true then
        some (0, 0, [])
      else
        if PT.isNil f = false then
        if PT.isNil f = false then
        if PT.isNil f = false then
        if (!(PT.isNil (PT.fst f))) = true then
          if PT.isNil f = false then
          ((f25_broughamlaw35_Plain n) (PT.fst f) (IntKind.wrap .i64 (levels - 1))).bind fun r295_1 =>
          if [(r295_1.1, (r295_1.2.1, (r295_1.2.2.map FT.of)))].length ≤ maxLen ∧ [(r295_1.1, (r295_1.2.1, (r295_1.2.2.map FT.of)))].length * 40 ≤ 140737488355328 then
          if PT.isNil f = false then
          if (!(PT.isNil (PT.snd f))) = true then
            if PT.isNil f = false then
            ((f25_broughamlaw35_Plain n) (PT.snd f) (IntKind.wrap .i64 (levels - 1))).bind fun r297_1 =>
            if [(r295_1.1, (r295_1.2.1, (r295_1.2.2.map FT.of)))].length + [(r297_1.1, (r297_1.2.1, (r297_1.2.2.map FT.of)))].length ≤ maxLen ∧ ([(r295_1.1, (r295_1.2.1, (r295_1.2.2.map FT.of)))].length + [(r297_1.1, (r297_1.2.1, (r297_1.2.2.map FT.of)))].length) * 40 ≤ 140737488355328 then
            some ((PT.op f), (PT.num f), ([(r295_1.1, (r295_1.2.1, (r295_1.2.2.map FT.of)))] ++ [(r297_1.1, (r297_1.2.1, (r297_1.2.2.map FT.of)))]))
            else none
            else none
          else
            some ((PT.op f), (PT.num f), [(r295_1.1, (r295_1.2.1, (r295_1.2.2.map FT.of)))])
          else none
          else none
          else none
        else
          if PT.isNil f = false then
          if (!(PT.isNil (PT.snd f))) = true then
            if PT.isNil f = false then
            ((f25_broughamlaw35_Plain n) (PT.snd f) (IntKind.wrap .i64 (levels - 1))).bind fun r301_1 =>
            if [(r301_1.1, (r301_1.2.1, (r301_1.2.2.map FT.of)))].length ≤ maxLen ∧ [(r301_1.1, (r301_1.2.1, (r301_1.2.2.map FT.of)))].length * 40 ≤ 140737488355328 then
            some ((PT.op f), (PT.num f), [(r301_1.1, (r301_1.2.1, (r301_1.2.2.map FT.of)))])
            else none
            else none
          else
            some ((PT.op f), (PT.num f), [])
          else none
        else none
        else none
        else none
theorem f25_broughamlaw35_Plain_ok (n : Nat) : ∀ (f : PT) (levels : Int) (r : Int × Int × List (Int × Int × List FT)) (h : f25_broughamlaw35_Plain n f levels = some r), FnOK Tryd.prog 25 (f25_broughamlaw35_Plain_in f levels) (f25_broughamlaw35_Plain_out r) := by
  induction n with
  | zero => intro f levels r h; rw [f25_broughamlaw35_Plain] at h; cases h
  | succ n ih =>
    intro f levels r h
    rw [f25_broughamlaw35_Plain] at h
    refine At.fn (r := 0) Tryd.func25 rfl (by kernel_rfl) rfl rfl (by kernel_rfl) ?_
    show At Tryd.prog Tryd.f25 0 0 ⟨[(0, oc (.d (.pt f))), (1, oc (zi levels))], [], [], 0⟩ _
    refine At.step hm ht ⟨[], [], [], [0, 1, 4], [0]⟩ 1 ⟨[(0, oc (.d (.pt f))), (1, oc (zi levels)), (4, oc (.ptr 0 0))], [], [(0, [zi 0, zi 0, .d (.sl .unit [])])], 1⟩ [] (by kernel_rfl) trivial ?_
    rcases iteS h with ⟨b290_2, h⟩ | ⟨b290_2, h⟩
    · refine At.step hm ht ⟨[(2, .b true)], [true], [], [4], [0]⟩ 2 ⟨[(4, oc (.ptr 0 0))], [], [(0, [zi 0, zi 0, .d (.sl .unit [])])], 1⟩ [(PT.isNil f) = true, true = true] (by kernel_rfl) ⟨b290_2, rfl, trivial⟩ ?_
      have h := Option.some.inj h
      subst h
      exact At.fin hm ht ⟨[], [], [.nil true 0 2 (.pair (.int .i64) (.pair (.int .i64) .wood)) (some 42)], [4], [0, 3]⟩ [0 + 3 ≤ 3] (by kernel_rfl) ⟨(by decide), trivial⟩
    · rcases iteS h with ⟨b290_e0, h⟩ | ⟨b290_e0, h⟩
      · refine At.step hm ht ⟨[(2, .b false)], [true], [], [4], [0]⟩ 2 ⟨[(4, oc (.ptr 0 0))], [], [(0, [zi 0, zi 0, .d (.sl .unit [])])], 1⟩ [(PT.isNil f) = false, ((levels : Int) == 0) = true] (by kernel_rfl) ⟨b290_2, b290_e0, trivial⟩ ?_
        have h := Option.some.inj h
        subst h
        exact At.fin hm ht ⟨[], [], [.nil true 0 2 (.pair (.int .i64) (.pair (.int .i64) .wood)) (some 42)], [4], [0, 3]⟩ [0 + 3 ≤ 3] (by kernel_rfl) ⟨(by decide), trivial⟩
      · refine At.step hm ht ⟨[(2, .b false)], [false], [], [0, 1, 4], [0]⟩ 3 ⟨[(0, oc (.d (.pt f))), (1, oc (zi levels)), (4, oc (.ptr 0 0))], [], [(0, [zi 0, zi 0, .d (.sl .unit [])])], 1⟩ [(PT.isNil f) = false, ((levels : Int) == 0) = false] (by kernel_rfl) ⟨b290_2, b290_e0, trivial⟩ ?_
        obtain ⟨g293_0, h⟩ := ifS h
        obtain ⟨g293_1, h⟩ := ifS h
        refine At.step hm ht ⟨[], [], [], [0, 1, 4, 5], [0, 10]⟩ 4 ⟨[(0, oc (.d (.pt f))), (1, oc (zi levels)), (4, oc (.ptr 0 0)), (5, oc (.ptr 1 0))], [], [(0, [zi 0, zi 0, .d (.sl .unit [])]), (1, [zi (PT.op f), zi (PT.num f), .d (.sl .unit [])])], 2⟩ [PT.isNil f = false, PT.isNil f = false, 0 + 3 ≤ 3] (by kernel_rfl) ⟨g293_0, g293_1, (by decide), trivial⟩ ?_
        obtain ⟨g294_0, h⟩ := ifS h
        rcases iteS h with ⟨b294_e0, h⟩ | ⟨b294_e0, h⟩
        · refine At.step hm ht ⟨[], [true], [], [0, 1, 4, 5], [0, 1]⟩ 5 ⟨[(0, oc (.d (.pt f))), (1, oc (zi levels)), (4, oc (.ptr 0 0)), (5, oc (.ptr 1 0))], [], [(0, [zi 0, zi 0, .d (.sl .unit [])]), (1, [zi (PT.op f), zi (PT.num f), .d (.sl .unit [])])], 2⟩ [PT.isNil f = false, (!(PT.isNil (PT.fst f))) = true] (by kernel_rfl) ⟨g294_0, b294_e0, trivial⟩ ?_
          obtain ⟨g295_0, h⟩ := ifS h
          obtain ⟨r295_1, cr295_1, h⟩ := bindS h
          obtain ⟨g295_2, h⟩ := ifS h
          refine At.step hm ht ⟨[(8, .call [] [] (f25_broughamlaw35_Plain_out r295_1))], [], [], [0, 1, 4, 5], [0, 1, 13]⟩ 6 ⟨[(0, oc (.d (.pt f))), (1, oc (zi levels)), (4, oc (.ptr 0 0)), (5, oc (.ptr 1 0))], [(2, some ⟨42, 0⟩)], [(0, [zi 0, zi 0, .d (.sl .unit [])]), (1, [zi (PT.op f), zi (PT.num f), .own 2 (.pair (.int .i64) (.pair (.int .i64) .wood)) ([(r295_1.1, (r295_1.2.1, (r295_1.2.2.map FT.of)))] : List (Int × Int × List FT))])], 3⟩ [PT.isNil f = false, FnOK Tryd.prog 25 (f25_broughamlaw35_Plain_in (PT.fst f) (IntKind.wrap .i64 (levels - 1))) (f25_broughamlaw35_Plain_out r295_1), [(r295_1.1, (r295_1.2.1, (r295_1.2.2.map FT.of)))].length ≤ maxLen ∧ [(r295_1.1, (r295_1.2.1, (r295_1.2.2.map FT.of)))].length * 40 ≤ 140737488355328, 2 + 1 ≤ 3] (by kernel_rfl) ⟨g295_0, (ih (PT.fst f) (IntKind.wrap .i64 (levels - 1)) r295_1 cr295_1), g295_2, (by decide), trivial⟩ ?_
          obtain ⟨g296_0, h⟩ := ifS h
          rcases iteS h with ⟨b296_e0, h⟩ | ⟨b296_e0, h⟩
          · refine At.step hm ht ⟨[], [true], [], [0, 1, 4, 5], [0, 1, 2]⟩ 7 ⟨[(0, oc (.d (.pt f))), (1, oc (zi levels)), (4, oc (.ptr 0 0)), (5, oc (.ptr 1 0))], [(2, some ⟨42, 0⟩)], [(0, [zi 0, zi 0, .d (.sl .unit [])]), (1, [zi (PT.op f), zi (PT.num f), .own 2 (.pair (.int .i64) (.pair (.int .i64) .wood)) ([(r295_1.1, (r295_1.2.1, (r295_1.2.2.map FT.of)))] : List (Int × Int × List FT))])], 3⟩ [PT.isNil f = false, (!(PT.isNil (PT.snd f))) = true] (by kernel_rfl) ⟨g296_0, b296_e0, trivial⟩ ?_
            obtain ⟨g297_0, h⟩ := ifS h
            obtain ⟨r297_1, cr297_1, h⟩ := bindS h
            obtain ⟨g297_2, h⟩ := ifS h
            refine At.step hm ht ⟨[(8, .call [] [] (f25_broughamlaw35_Plain_out r297_1))], [], [], [4, 5], [0, 1, 14]⟩ 8 ⟨[(4, oc (.ptr 0 0)), (5, oc (.ptr 1 0))], [(2, some ⟨42, 0⟩)], [(0, [zi 0, zi 0, .d (.sl .unit [])]), (1, [zi (PT.op f), zi (PT.num f), .own 2 (.pair (.int .i64) (.pair (.int .i64) .wood)) ([(r295_1.1, (r295_1.2.1, (r295_1.2.2.map FT.of)))] ++ [(r297_1.1, (r297_1.2.1, (r297_1.2.2.map FT.of)))])])], 3⟩ [PT.isNil f = false, FnOK Tryd.prog 25 (f25_broughamlaw35_Plain_in (PT.snd f) (IntKind.wrap .i64 (levels - 1))) (f25_broughamlaw35_Plain_out r297_1), [(r295_1.1, (r295_1.2.1, (r295_1.2.2.map FT.of)))].length + [(r297_1.1, (r297_1.2.1, (r297_1.2.2.map FT.of)))].length ≤ maxLen ∧ ([(r295_1.1, (r295_1.2.1, (r295_1.2.2.map FT.of)))].length + [(r297_1.1, (r297_1.2.1, (r297_1.2.2.map FT.of)))].length) * 40 ≤ 140737488355328, 2 + 1 ≤ 3] (by kernel_rfl) ⟨g297_0, (ih (PT.snd f) (IntKind.wrap .i64 (levels - 1)) r297_1 cr297_1), g297_2, (by decide), trivial⟩ ?_
            have h := Option.some.inj h
            subst h
            exact At.fin hm ht ⟨[], [], [], [4], [0, 2]⟩ [0 + 3 ≤ 3] (by kernel_rfl) ⟨(by decide), trivial⟩
          · refine At.step hm ht ⟨[], [false], [], [4, 5], [0, 1, 2]⟩ 8 ⟨[(4, oc (.ptr 0 0)), (5, oc (.ptr 1 0))], [(2, some ⟨42, 0⟩)], [(0, [zi 0, zi 0, .d (.sl .unit [])]), (1, [zi (PT.op f), zi (PT.num f), .own 2 (.pair (.int .i64) (.pair (.int .i64) .wood)) ([(r295_1.1, (r295_1.2.1, (r295_1.2.2.map FT.of)))] : List (Int × Int × List FT))])], 3⟩ [PT.isNil f = false, (!(PT.isNil (PT.snd f))) = false] (by kernel_rfl) ⟨g296_0, b296_e0, trivial⟩ ?_
            have h := Option.some.inj h
            subst h
            exact At.fin hm ht ⟨[], [], [], [4], [0, 2]⟩ [0 + 3 ≤ 3] (by kernel_rfl) ⟨(by decide), trivial⟩
        · refine At.step hm ht ⟨[], [false], [], [0, 1, 4, 5], [0, 1]⟩ 6 ⟨[(0, oc (.d (.pt f))), (1, oc (zi levels)), (4, oc (.ptr 0 0)), (5, oc (.ptr 1 0))], [], [(0, [zi 0, zi 0, .d (.sl .unit [])]), (1, [zi (PT.op f), zi (PT.num f), .d (.sl .unit [])])], 2⟩ [PT.isNil f = false, (!(PT.isNil (PT.fst f))) = false] (by kernel_rfl) ⟨g294_0, b294_e0, trivial⟩ ?_
          obtain ⟨g300_0, h⟩ := ifS h
          rcases iteS h with ⟨b300_e0, h⟩ | ⟨b300_e0, h⟩
          · refine At.step hm ht ⟨[], [true], [], [0, 1, 4, 5], [0, 1]⟩ 7 ⟨[(0, oc (.d (.pt f))), (1, oc (zi levels)), (4, oc (.ptr 0 0)), (5, oc (.ptr 1 0))], [], [(0, [zi 0, zi 0, .d (.sl .unit [])]), (1, [zi (PT.op f), zi (PT.num f), .d (.sl .unit [])])], 2⟩ [PT.isNil f = false, (!(PT.isNil (PT.snd f))) = true] (by kernel_rfl) ⟨g300_0, b300_e0, trivial⟩ ?_
            obtain ⟨g301_0, h⟩ := ifS h
            obtain ⟨r301_1, cr301_1, h⟩ := bindS h
            obtain ⟨g301_2, h⟩ := ifS h
            refine At.step hm ht ⟨[(8, .call [] [] (f25_broughamlaw35_Plain_out r301_1))], [], [], [4, 5], [0, 1, 13]⟩ 8 ⟨[(4, oc (.ptr 0 0)), (5, oc (.ptr 1 0))], [(2, some ⟨42, 0⟩)], [(0, [zi 0, zi 0, .d (.sl .unit [])]), (1, [zi (PT.op f), zi (PT.num f), .own 2 (.pair (.int .i64) (.pair (.int .i64) .wood)) ([(r301_1.1, (r301_1.2.1, (r301_1.2.2.map FT.of)))] : List (Int × Int × List FT))])], 3⟩ [PT.isNil f = false, FnOK Tryd.prog 25 (f25_broughamlaw35_Plain_in (PT.snd f) (IntKind.wrap .i64 (levels - 1))) (f25_broughamlaw35_Plain_out r301_1), [(r301_1.1, (r301_1.2.1, (r301_1.2.2.map FT.of)))].length ≤ maxLen ∧ [(r301_1.1, (r301_1.2.1, (r301_1.2.2.map FT.of)))].length * 40 ≤ 140737488355328, 2 + 1 ≤ 3] (by kernel_rfl) ⟨g301_0, (ih (PT.snd f) (IntKind.wrap .i64 (levels - 1)) r301_1 cr301_1), g301_2, (by decide), trivial⟩ ?_
            have h := Option.some.inj h
            subst h
            exact At.fin hm ht ⟨[], [], [], [4], [0, 2]⟩ [0 + 3 ≤ 3] (by kernel_rfl) ⟨(by decide), trivial⟩
          · refine At.step hm ht ⟨[], [false], [], [4, 5], [0, 1]⟩ 8 ⟨[(4, oc (.ptr 0 0)), (5, oc (.ptr 1 0))], [], [(0, [zi 0, zi 0, .d (.sl .unit [])]), (1, [zi (PT.op f), zi (PT.num f), .d (.sl .unit [])])], 2⟩ [PT.isNil f = false, (!(PT.isNil (PT.snd f))) = false] (by kernel_rfl) ⟨g300_0, b300_e0, trivial⟩ ?_
            have h := Option.some.inj h
            subst h
            exact At.fin hm ht ⟨[], [], [.nil true 0 2 (.pair (.int .i64) (.pair (.int .i64) .wood)) (some 42)], [4], [0, 4]⟩ [0 + 3 ≤ 3] (by kernel_rfl) ⟨(by decide), trivial⟩
/-! brougham/broughamref35.Same -/
def f24_broughamref35_Same_in (a_0 : Int) (a_1 : Int) (a_2 : List (Int × Int × List FT)) (b_0 : Int) (b_1 : Int) (b_2 : List (Int × Int × List FT)) : Inn := ⟨[.agg [zi a_0, zi a_1, .d (.sl (.pair (.int .i64) (.pair (.int .i64) .wood)) a_2)], .agg [zi b_0, zi b_1, .d (.sl (.pair (.int .i64) (.pair (.int .i64) .wood)) b_2)]], [], [], 0⟩
def f24_broughamref35_Same_out (r : Bool) : Out := ⟨oc (.d (.bool r)), [], [], 0⟩
def f24_broughamref35_Same_L4 (rc_f24_broughamref35_Same : Int → Int → (List (Int × Int × List FT)) → Int → Int → (List (Int × Int × List FT)) → Option (Bool)) : Nat → Int → Int → Int → (List (Int × Int × List FT)) → Int → Int → (List (Int × Int × List FT)) → Option ((Bool) ⊕ (Unit))
  | 0, _, _, _, _, _, _, _ => none
  | n + 1, i, a_0, a_1, a_2, b_0, b_1, b_2 =>
    if (decide ((i : Int) < ((a_2.length : Nat) : Int))) = true then
      if (0 : Int) ≤ i ∧ i < (((a_2).length : Nat) : Int) then
      if (0 : Int) ≤ i ∧ i < (((b_2).length : Nat) : Int) then
      (rc_f24_broughamref35_Same ((a_2.getD i.toNat (0, (0, []))).1) (((a_2.getD i.toNat (0, (0, []))).2).1) ((((a_2.getD i.toNat (0, (0, []))).2).2).map FT.un) ((b_2.getD i.toNat (0, (0, []))).1) (((b_2.getD i.toNat (0, (0, []))).2).1) ((((b_2.getD i.toNat (0, (0, []))).2).2).map FT.un)).bind fun r311_2 =>
      if (!r311_2) = true then
        some (.inl false)
      else
        f24_broughamref35_Same_L4 rc_f24_broughamref35_Same n (IntKind.wrap .i64 (i + 1)) a_0 a_1 a_2 b_0 b_1 b_2
      else none
      else none
    else
      some (.inr ())
def f24_broughamref35_Same_L4_k (w : (Bool) ⊕ (Unit)) (o : Out) : Prop := match w with
  | .inl e => o = f24_broughamref35_Same_out e
  | .inr e => At Tryd.prog Tryd.f24 0 8 ⟨[], [], [], 0⟩ o
theorem f24_broughamref35_Same_L4_ok (rc_f24_broughamref35_Same : Int → Int → (List (Int × Int × List FT)) → Int → Int → (List (Int × Int × List FT)) → Option (Bool)) (hrc_f24_broughamref35_Same : ∀ (a_0 : Int) (a_1 : Int) (a_2 : List (Int × Int × List FT)) (b_0 : Int) (b_1 : Int) (b_2 : List (Int × Int × List FT)) (r : Bool) (h : rc_f24_broughamref35_Same a_0 a_1 a_2 b_0 b_1 b_2 = some r), FnOK Tryd.prog 24 (f24_broughamref35_Same_in a_0 a_1 a_2 b_0 b_1 b_2) (f24_broughamref35_Same_out r)) (n : Nat) : ∀ (i : Int) (a_0 : Int) (a_1 : Int) (a_2 : List (Int × Int × List FT)) (b_0 : Int) (b_1 : Int) (b_2 : List (Int × Int × List FT)) (w : (Bool) ⊕ (Unit)) (h : f24_broughamref35_Same_L4 rc_f24_broughamref35_Same n i a_0 a_1 a_2 b_0 b_1 b_2 = some w) (o : Out) (hk : f24_broughamref35_Same_L4_k w o), At Tryd.prog Tryd.f24 0 4 ⟨[(2, oc (.ptr 0 0)), (3, oc (.ptr 1 0)), (5, oc (zi i))], [], [(0, [zi a_0, zi a_1, .d (.sl (.pair (.int .i64) (.pair (.int .i64) .wood)) a_2)]), (1, [zi b_0, zi b_1, .d (.sl (.pair (.int .i64) (.pair (.int .i64) .wood)) b_2)])], 2⟩ o := by
  induction n with
  | zero => intro i a_0 a_1 a_2 b_0 b_1 b_2 w h; rw [f24_broughamref35_Same_L4] at h; cases h
  | succ n ih =>
    intro i a_0 a_1 a_2 b_0 b_1 b_2 w h o hk
    rw [f24_broughamref35_Same_L4] at h
    rcases iteS h with ⟨b310_e0, h⟩ | ⟨b310_e0, h⟩
    · refine At.step hm ht ⟨[], [true], [], [2, 3, 5], [0, 1]⟩ 6 ⟨[(2, oc (.ptr 0 0)), (3, oc (.ptr 1 0)), (5, oc (zi i))], [], [(0, [zi a_0, zi a_1, .d (.sl (.pair (.int .i64) (.pair (.int .i64) .wood)) a_2)]), (1, [zi b_0, zi b_1, .d (.sl (.pair (.int .i64) (.pair (.int .i64) .wood)) b_2)])], 2⟩ [(decide ((i : Int) < ((a_2.length : Nat) : Int))) = true] (by kernel_rfl) ⟨b310_e0, trivial⟩ ?_
      obtain ⟨g311_0, h⟩ := ifS h
      obtain ⟨g311_1, h⟩ := ifS h
      obtain ⟨r311_2, cr311_2, h⟩ := bindS h
      rcases iteS h with ⟨b311_e0, h⟩ | ⟨b311_e0, h⟩
      · refine At.step hm ht ⟨[(10, .call [] [] (f24_broughamref35_Same_out r311_2))], [true], [], [], []⟩ 7 ⟨[], [], [], 0⟩ [(0 : Int) ≤ i ∧ i < (((a_2).length : Nat) : Int), (0 : Int) ≤ i ∧ i < (((b_2).length : Nat) : Int), FnOK Tryd.prog 24 (f24_broughamref35_Same_in ((a_2.getD i.toNat (0, (0, []))).1) (((a_2.getD i.toNat (0, (0, []))).2).1) ((((a_2.getD i.toNat (0, (0, []))).2).2).map FT.un) ((b_2.getD i.toNat (0, (0, []))).1) (((b_2.getD i.toNat (0, (0, []))).2).1) ((((b_2.getD i.toNat (0, (0, []))).2).2).map FT.un)) (f24_broughamref35_Same_out r311_2), (!r311_2) = true] (by kernel_rfl) ⟨g311_0, g311_1, (hrc_f24_broughamref35_Same ((a_2.getD i.toNat (0, (0, []))).1) (((a_2.getD i.toNat (0, (0, []))).2).1) ((((a_2.getD i.toNat (0, (0, []))).2).2).map FT.un) ((b_2.getD i.toNat (0, (0, []))).1) (((b_2.getD i.toNat (0, (0, []))).2).1) ((((b_2.getD i.toNat (0, (0, []))).2).2).map FT.un) r311_2 cr311_2), b311_e0, trivial⟩ ?_
        have h := Option.some.inj h
        subst h
        have hk : o = f24_broughamref35_Same_out false := hk
        subst hk
        exact At.fin hm ht ⟨[], [], [], [4], []⟩ [] (by kernel_rfl) trivial
      · refine At.step hm ht ⟨[(10, .call [] [] (f24_broughamref35_Same_out r311_2))], [false], [], [2, 3, 5], [0, 1]⟩ 5 ⟨[(2, oc (.ptr 0 0)), (3, oc (.ptr 1 0)), (5, oc (zi i))], [], [(0, [zi a_0, zi a_1, .d (.sl (.pair (.int .i64) (.pair (.int .i64) .wood)) a_2)]), (1, [zi b_0, zi b_1, .d (.sl (.pair (.int .i64) (.pair (.int .i64) .wood)) b_2)])], 2⟩ [(0 : Int) ≤ i ∧ i < (((a_2).length : Nat) : Int), (0 : Int) ≤ i ∧ i < (((b_2).length : Nat) : Int), FnOK Tryd.prog 24 (f24_broughamref35_Same_in ((a_2.getD i.toNat (0, (0, []))).1) (((a_2.getD i.toNat (0, (0, []))).2).1) ((((a_2.getD i.toNat (0, (0, []))).2).2).map FT.un) ((b_2.getD i.toNat (0, (0, []))).1) (((b_2.getD i.toNat (0, (0, []))).2).1) ((((b_2.getD i.toNat (0, (0, []))).2).2).map FT.un)) (f24_broughamref35_Same_out r311_2), (!r311_2) = false] (by kernel_rfl) ⟨g311_0, g311_1, (hrc_f24_broughamref35_Same ((a_2.getD i.toNat (0, (0, []))).1) (((a_2.getD i.toNat (0, (0, []))).2).1) ((((a_2.getD i.toNat (0, (0, []))).2).2).map FT.un) ((b_2.getD i.toNat (0, (0, []))).1) (((b_2.getD i.toNat (0, (0, []))).2).1) ((((b_2.getD i.toNat (0, (0, []))).2).2).map FT.un) r311_2 cr311_2), b311_e0, trivial⟩ ?_
        refine At.step hm ht ⟨[], [], [], [2, 3, 5], [0, 1]⟩ 4 ⟨[(2, oc (.ptr 0 0)), (3, oc (.ptr 1 0)), (5, oc (zi (IntKind.wrap .i64 (i + 1))))], [], [(0, [zi a_0, zi a_1, .d (.sl (.pair (.int .i64) (.pair (.int .i64) .wood)) a_2)]), (1, [zi b_0, zi b_1, .d (.sl (.pair (.int .i64) (.pair (.int .i64) .wood)) b_2)])], 2⟩ [] (by kernel_rfl) trivial ?_
        exact ih (IntKind.wrap .i64 (i + 1)) a_0 a_1 a_2 b_0 b_1 b_2 w h o hk
    · refine At.step hm ht ⟨[], [false], [], [], []⟩ 8 ⟨[], [], [], 0⟩ [(decide ((i : Int) < ((a_2.length : Nat) : Int))) = false] (by kernel_rfl) ⟨b310_e0, trivial⟩ ?_
      have h := Option.some.inj h
      subst h
      exact hk
def f24_broughamref35_Same : Nat → Int → Int → (List (Int × Int × List FT)) → Int → Int → (List (Int × Int × List FT)) → Option (Bool)
  | 0, _, _, _, _, _, _ => none
  | n + 1, a_0, a_1, a_2, b_0, b_1, b_2 =>
    if ((a_0 : Int) != b_0) = true then
      some false
    else
      if ((a_1 : Int) != b_1) = true then
        some false
      else
        if ((((a_2.length : Nat) : Int) : Int) != ((b_2.length : Nat) : Int)) = true then
          some false
        else
          (f24_broughamref35_Same_L4 (f24_broughamref35_Same n) n 0 a_0 a_1 a_2 b_0 b_1 b_2).bind fun w314 =>
          match w314 with
          | .inl e315 =>
            some e315
          | .inr e316 =>
            some true
theorem f24_broughamref35_Same_ok (n : Nat) : ∀ (a_0 : Int) (a_1 : Int) (a_2 : List (Int × Int × List FT)) (b_0 : Int) (b_1 : Int) (b_2 : List (Int × Int × List FT)) (r : Bool) (h : f24_broughamref35_Same n a_0 a_1 a_2 b_0 b_1 b_2 = some r), FnOK Tryd.prog 24 (f24_broughamref35_Same_in a_0 a_1 a_2 b_0 b_1 b_2) (f24_broughamref35_Same_out r) := by
  induction n with
  | zero => intro a_0 a_1 a_2 b_0 b_1 b_2 r h; rw [f24_broughamref35_Same] at h; cases h
  | succ n ih =>
    intro a_0 a_1 a_2 b_0 b_1 b_2 r h
    rw [f24_broughamref35_Same] at h
    refine At.fn (r := 0) Tryd.func24 rfl (by kernel_rfl) rfl rfl (by kernel_rfl) ?_
    show At Tryd.prog Tryd.f24 0 0 ⟨[(0, .one (.agg [zi a_0, zi a_1, .d (.sl (.pair (.int .i64) (.pair (.int .i64) .wood)) a_2)])), (1, .one (.agg [zi b_0, zi b_1, .d (.sl (.pair (.int .i64) (.pair (.int .i64) .wood)) b_2)]))], [], [], 0⟩ _
    refine At.step hm ht ⟨[], [], [], [2, 3], [0, 1]⟩ 1 ⟨[(2, oc (.ptr 0 0)), (3, oc (.ptr 1 0))], [], [(0, [zi a_0, zi a_1, .d (.sl (.pair (.int .i64) (.pair (.int .i64) .wood)) a_2)]), (1, [zi b_0, zi b_1, .d (.sl (.pair (.int .i64) (.pair (.int .i64) .wood)) b_2)])], 2⟩ [] (by kernel_rfl) trivial ?_
    rcases iteS h with ⟨b305_5, h⟩ | ⟨b305_5, h⟩
    · refine At.step hm ht ⟨[(5, .b true)], [true], [], [], []⟩ 2 ⟨[], [], [], 0⟩ [((a_0 : Int) != b_0) = true, true = true] (by kernel_rfl) ⟨b305_5, rfl, trivial⟩ ?_
      have h := Option.some.inj h
      subst h
      exact At.fin hm ht ⟨[], [], [], [4], []⟩ [] (by kernel_rfl) trivial
    · rcases iteS h with ⟨b305_12, h⟩ | ⟨b305_12, h⟩
      · refine At.step hm ht ⟨[(5, .b false), (12, .b true)], [true], [], [], []⟩ 2 ⟨[], [], [], 0⟩ [((a_0 : Int) != b_0) = false, ((a_1 : Int) != b_1) = true, true = true] (by kernel_rfl) ⟨b305_5, b305_12, rfl, trivial⟩ ?_
        have h := Option.some.inj h
        subst h
        exact At.fin hm ht ⟨[], [], [], [4], []⟩ [] (by kernel_rfl) trivial
      · rcases iteS h with ⟨b305_e0, h⟩ | ⟨b305_e0, h⟩
        · refine At.step hm ht ⟨[(5, .b false), (12, .b false)], [true], [], [], []⟩ 2 ⟨[], [], [], 0⟩ [((a_0 : Int) != b_0) = false, ((a_1 : Int) != b_1) = false, ((((a_2.length : Nat) : Int) : Int) != ((b_2.length : Nat) : Int)) = true] (by kernel_rfl) ⟨b305_5, b305_12, b305_e0, trivial⟩ ?_
          have h := Option.some.inj h
          subst h
          exact At.fin hm ht ⟨[], [], [], [4], []⟩ [] (by kernel_rfl) trivial
        · refine At.step hm ht ⟨[(5, .b false), (12, .b false)], [false], [], [2, 3], [0, 1]⟩ 3 ⟨[(2, oc (.ptr 0 0)), (3, oc (.ptr 1 0))], [], [(0, [zi a_0, zi a_1, .d (.sl (.pair (.int .i64) (.pair (.int .i64) .wood)) a_2)]), (1, [zi b_0, zi b_1, .d (.sl (.pair (.int .i64) (.pair (.int .i64) .wood)) b_2)])], 2⟩ [((a_0 : Int) != b_0) = false, ((a_1 : Int) != b_1) = false, ((((a_2.length : Nat) : Int) : Int) != ((b_2.length : Nat) : Int)) = false] (by kernel_rfl) ⟨b305_5, b305_12, b305_e0, trivial⟩ ?_
          refine At.step hm ht ⟨[], [], [], [2, 3, 5], [0, 1]⟩ 4 ⟨[(2, oc (.ptr 0 0)), (3, oc (.ptr 1 0)), (5, oc (zi 0))], [], [(0, [zi a_0, zi a_1, .d (.sl (.pair (.int .i64) (.pair (.int .i64) .wood)) a_2)]), (1, [zi b_0, zi b_1, .d (.sl (.pair (.int .i64) (.pair (.int .i64) .wood)) b_2)])], 2⟩ [] (by kernel_rfl) trivial ?_
          obtain ⟨w314, cw314, h⟩ := bindS h
          refine f24_broughamref35_Same_L4_ok (f24_broughamref35_Same n) ih n 0 a_0 a_1 a_2 b_0 b_1 b_2 w314 cw314 _ ?_
          rcases w314 with e315 | e316
          · have h := Option.some.inj h
            subst h
            rfl
          · show At Tryd.prog Tryd.f24 0 8 ⟨[], [], [], 0⟩ _
            have h := Option.some.inj h
            subst h
            exact At.fin hm ht ⟨[], [], [], [4], []⟩ [] (by kernel_rfl) trivial
/-! brougham/seg.First -/
def f89_seg_First_in (s_0 : Int) (s_1 : Int) (s_2 : Int) (s_3 : Int) (s_4 : Int) (s_5 : List (Int × List Int)) (s_6 : List Int) (kind : Int) : Inn := ⟨[.agg [.d (.int .u16 s_0), .d (.int .u16 s_1), .d (.int .u32 s_2), .d (.int .u32 s_3), .d (.int .u8 s_4), .d (.sl (.pair (.int .u8) (.slice (.int .u8))) s_5), .d (.sl (.int .u8) s_6)], .c (.d (.int .u8 kind))], [], [], 0⟩
def f89_seg_First_out (r : Bool × Int × List Int) : Out := ⟨.tup [.agg [.d (.int .u8 r.2.1), .d (.sl (.int .u8) r.2.2)], .c (.d (.bool r.1))], [], [(0, [.d (.int .u8 r.2.1), .d (.sl (.int .u8) r.2.2)])], 1⟩
def f89_seg_First_L2 : Nat → Int → (List (Int × List Int)) → Int → Int → Int → Option ((Bool × Int × List Int) ⊕ (Int))
  | 0, _, _, _, _, _ => none
  | n + 1, kind, t9, t10, t11, t4_0 =>
    if (decide ((t11 : Int) < t10)) = true then
      if (0 : Int) ≤ t11 ∧ t11 < (((t9).length : Nat) : Int) then
      if ((((t9.getD t11.toNat (0, [])).1) : Int) == kind) = true then
        some (.inl (true, (t9.getD t11.toNat (0, [])).1, (t9.getD t11.toNat (0, [])).2))
      else
        f89_seg_First_L2 n kind t9 t10 (IntKind.wrap .i64 (t11 + 1)) t4_0
      else none
    else
      some (.inr t4_0)
def f89_seg_First_L2_k (w : (Bool × Int × List Int) ⊕ (Int)) (o : Out) : Prop := match w with
  | .inl e => o = f89_seg_First_out e
  | .inr e => At Tryd.prog Tryd.f89 0 7 ⟨[(4, oc (.ptr 0 0))], [], [(0, [.d (.int .u8 e), .d (.sl .unit [])])], 1⟩ o
theorem f89_seg_First_L2_ok (n : Nat) : ∀ (kind : Int) (t9 : List (Int × List Int)) (t10 : Int) (t11 : Int) (t4_0 : Int) (w : (Bool × Int × List Int) ⊕ (Int)) (h : f89_seg_First_L2 n kind t9 t10 t11 t4_0 = some w) (o : Out) (hk : f89_seg_First_L2_k w o), At Tryd.prog Tryd.f89 0 2 ⟨[(1, oc (.d (.int .u8 kind))), (4, oc (.ptr 0 0)), (9, oc (.d (.sl (.pair (.int .u8) (.slice (.int .u8))) t9))), (10, oc (zi t10)), (11, oc (zi t11))], [], [(0, [.d (.int .u8 t4_0), .d (.sl .unit [])])], 1⟩ o := by
  induction n with
  | zero => intro kind t9 t10 t11 t4_0 w h; rw [f89_seg_First_L2] at h; cases h
  | succ n ih =>
    intro kind t9 t10 t11 t4_0 w h o hk
    rw [f89_seg_First_L2] at h
    rcases iteS h with ⟨b343_e0, h⟩ | ⟨b343_e0, h⟩
    · refine At.step hm ht ⟨[], [true], [], [1, 4, 9, 10, 11], [0]⟩ 3 ⟨[(1, oc (.d (.int .u8 kind))), (4, oc (.ptr 0 0)), (9, oc (.d (.sl (.pair (.int .u8) (.slice (.int .u8))) t9))), (10, oc (zi t10)), (11, oc (zi t11))], [], [(0, [.d (.int .u8 t4_0), .d (.sl .unit [])])], 1⟩ [(decide ((t11 : Int) < t10)) = true] (by kernel_rfl) ⟨b343_e0, trivial⟩ ?_
      obtain ⟨g344_0, h⟩ := ifS h
      refine At.step hm ht ⟨[], [], [], [1, 4, 7, 9, 10, 11], [0, 3]⟩ 4 ⟨[(1, oc (.d (.int .u8 kind))), (4, oc (.ptr 0 0)), (7, oc (.ptr 1 0)), (9, oc (.d (.sl (.pair (.int .u8) (.slice (.int .u8))) t9))), (10, oc (zi t10)), (11, oc (zi t11))], [], [(0, [.d (.int .u8 t4_0), .d (.sl .unit [])]), (1, [.d (.int .u8 ((t9.getD t11.toNat (0, [])).1)), .d (.sl (.int .u8) ((t9.getD t11.toNat (0, [])).2))])], 2⟩ [(0 : Int) ≤ t11 ∧ t11 < (((t9).length : Nat) : Int), 0 + 2 ≤ 2] (by kernel_rfl) ⟨g344_0, (by decide), trivial⟩ ?_
      rcases iteS h with ⟨b345_e0, h⟩ | ⟨b345_e0, h⟩
      · refine At.step hm ht ⟨[], [true], [], [4, 7], [0, 1]⟩ 5 ⟨[(4, oc (.ptr 0 0)), (7, oc (.ptr 1 0))], [], [(0, [.d (.int .u8 t4_0), .d (.sl .unit [])]), (1, [.d (.int .u8 ((t9.getD t11.toNat (0, [])).1)), .d (.sl (.int .u8) ((t9.getD t11.toNat (0, [])).2))])], 2⟩ [((((t9.getD t11.toNat (0, [])).1) : Int) == kind) = true] (by kernel_rfl) ⟨b345_e0, trivial⟩ ?_
        have h := Option.some.inj h
        subst h
        have hk : o = f89_seg_First_out (true, (t9.getD t11.toNat (0, [])).1, (t9.getD t11.toNat (0, [])).2) := hk
        subst hk
        exact At.fin hm ht ⟨[], [], [], [4, 5], [0]⟩ [0 + 2 ≤ 2] (by kernel_rfl) ⟨(by decide), trivial⟩
      · refine At.step hm ht ⟨[], [false], [], [1, 4, 9, 10, 11], [0]⟩ 6 ⟨[(1, oc (.d (.int .u8 kind))), (4, oc (.ptr 0 0)), (9, oc (.d (.sl (.pair (.int .u8) (.slice (.int .u8))) t9))), (10, oc (zi t10)), (11, oc (zi t11))], [], [(0, [.d (.int .u8 t4_0), .d (.sl .unit [])])], 1⟩ [((((t9.getD t11.toNat (0, [])).1) : Int) == kind) = false] (by kernel_rfl) ⟨b345_e0, trivial⟩ ?_
        refine At.step hm ht ⟨[], [], [], [1, 4, 9, 10, 11], [0]⟩ 2 ⟨[(1, oc (.d (.int .u8 kind))), (4, oc (.ptr 0 0)), (9, oc (.d (.sl (.pair (.int .u8) (.slice (.int .u8))) t9))), (10, oc (zi t10)), (11, oc (zi (IntKind.wrap .i64 (t11 + 1))))], [], [(0, [.d (.int .u8 t4_0), .d (.sl .unit [])])], 1⟩ [] (by kernel_rfl) trivial ?_
        exact ih kind t9 t10 (IntKind.wrap .i64 (t11 + 1)) t4_0 w h o hk
    · refine At.step hm ht ⟨[], [false], [], [4], [0]⟩ 7 ⟨[(4, oc (.ptr 0 0))], [], [(0, [.d (.int .u8 t4_0), .d (.sl .unit [])])], 1⟩ [(decide ((t11 : Int) < t10)) = false] (by kernel_rfl) ⟨b343_e0, trivial⟩ ?_
      have h := Option.some.inj h
      subst h
      exact hk
def f89_seg_First (n : Nat) (s_0 : Int) (s_1 : Int) (s_2 : Int) (s_3 : Int) (s_4 : Int) (s_5 : List (Int × List Int)) (s_6 : List Int) (kind : Int) : Option (Bool × Int × List Int) :=
  (f89_seg_First_L2 n kind s_5 ((s_5.length : Nat) : Int) 0 0).bind fun w348 =>
  match w348 with
  | .inl e349 =>
    some (e349.1, e349.2.1, e349.2.2)
  | .inr e350 =>
    some (false, 0, [])
theorem f89_seg_First_ok (n : Nat) (s_0 : Int) (s_1 : Int) (s_2 : Int) (s_3 : Int) (s_4 : Int) (s_5 : List (Int × List Int)) (s_6 : List Int) (kind : Int) (r : Bool × Int × List Int) (h : f89_seg_First n s_0 s_1 s_2 s_3 s_4 s_5 s_6 kind = some r) : FnOK Tryd.prog 89 (f89_seg_First_in s_0 s_1 s_2 s_3 s_4 s_5 s_6 kind) (f89_seg_First_out r) := by
  unfold f89_seg_First at h
  refine At.fn (r := 0) Tryd.func89 rfl (by kernel_rfl) rfl rfl (by kernel_rfl) ?_
  show At Tryd.prog Tryd.f89 0 0 ⟨[(0, .one (.agg [.d (.int .u16 s_0), .d (.int .u16 s_1), .d (.int .u32 s_2), .d (.int .u32 s_3), .d (.int .u8 s_4), .d (.sl (.pair (.int .u8) (.slice (.int .u8))) s_5), .d (.sl (.int .u8) s_6)])), (1, oc (.d (.int .u8 kind)))], [], [], 0⟩ _
  refine At.step hm ht ⟨[], [], [], [1, 2, 4], [0, 1]⟩ 1 ⟨[(1, oc (.d (.int .u8 kind))), (2, oc (.ptr 0 0)), (4, oc (.ptr 1 0))], [], [(0, [.d (.int .u16 s_0), .d (.int .u16 s_1), .d (.int .u32 s_2), .d (.int .u32 s_3), .d (.int .u8 s_4), .d (.sl (.pair (.int .u8) (.slice (.int .u8))) s_5), .d (.sl (.int .u8) s_6)]), (1, [.d (.int .u8 0), .d (.sl .unit [])])], 2⟩ [] (by kernel_rfl) trivial ?_
  refine At.step hm ht ⟨[], [], [], [1, 4, 9, 10, 11], [1]⟩ 2 ⟨[(1, oc (.d (.int .u8 kind))), (4, oc (.ptr 0 0)), (9, oc (.d (.sl (.pair (.int .u8) (.slice (.int .u8))) s_5))), (10, oc (zi ((s_5.length : Nat) : Int))), (11, oc (zi 0))], [], [(0, [.d (.int .u8 0), .d (.sl .unit [])])], 1⟩ [] (by kernel_rfl) trivial ?_
  obtain ⟨w348, cw348, h⟩ := bindS h
  refine f89_seg_First_L2_ok n kind s_5 ((s_5.length : Nat) : Int) 0 0 w348 cw348 _ ?_
  rcases w348 with e349 | e350
  · have h := Option.some.inj h
    subst h
    rfl
  · show At Tryd.prog Tryd.f89 0 7 ⟨[(4, oc (.ptr 0 0))], [], [(0, [.d (.int .u8 e350), .d (.sl .unit [])])], 1⟩ _
    have h := Option.some.inj h
    subst h
    exact At.fin hm ht ⟨[], [], [.nil true 0 1 (.int .u8) none], [4, 5], [0]⟩ [0 + 2 ≤ 2] (by kernel_rfl) ⟨(by decide), trivial⟩
/-! brougham/filter.match -/
def f60_filter_match_in (f : PT) (s_0 : Int) (s_1 : Int) (s_2 : Int) (s_3 : Int) (s_4 : Int) (s_5 : List (Int × List Int)) (s_6 : List Int) : Inn := ⟨[.c (.d (.pt f)), .agg [.d (.int .u16 s_0), .d (.int .u16 s_1), .d (.int .u32 s_2), .d (.int .u32 s_3), .d (.int .u8 s_4), .d (.sl (.pair (.int .u8) (.slice (.int .u8))) s_5), .d (.sl (.int .u8) s_6)]], [], [], 0⟩
def f60_filter_match_out (r : Bool) : Out := ⟨oc (.d (.bool r)), [], [], 0⟩
def f60_filter_match : Nat → PT → Int → Int → Int → Int → Int → (List (Int × List Int)) → (List Int) → Option (Bool)
  | 0, _, _, _, _, _, _, _, _ => none
  | n + 1, f, s_0, s_1, s_2, s_3, s_4, s_5, s_6 =>
    if PT.isNil f = false then
    if (((PT.op f) : Int) == 1) = true then
      some true
    else
      if (((PT.op f) : Int) == 2) = true then
        if PT.isNil f = false then
        some (((bits .and .i64 (IntKind.wrap .i64 s_4) (PT.num f)) : Int) != 0)
        else none
      else
        if (((PT.op f) : Int) == 3) = true then
          if PT.isNil f = false then
          if (((IntKind.wrap .i64 s_0) : Int) == (PT.num f)) = true then
            some true
          else
            if PT.isNil f = false then
            some (((IntKind.wrap .i64 s_1) : Int) == (PT.num f))
            else none
          else none
        else
          if (((PT.op f) : Int) == 4) = true then
            if PT.isNil f = false then
            some (((IntKind.wrap .i64 s_0) : Int) == (PT.num f))
            else none
          else
            if (((PT.op f) : Int) == 5) = true then
              if PT.isNil f = false then
              some (((IntKind.wrap .i64 s_1) : Int) == (PT.num f))
              else none
            else
              if (((PT.op f) : Int) == 6) = true then
                if PT.isNil f = false then
                (f89_seg_First n s_0 s_1 s_2 s_3 s_4 s_5 s_6 (IntKind.wrap .u8 (PT.num f))).bind fun r340_1 =>
                some r340_1.1
                else none
              else
                if (((PT.op f) : Int) == 7) = true then
                  if PT.isNil f = false then
                  some (decide ((((s_6.length : Nat) : Int) : Int) ≥ (PT.num f)))
                  else none
                else
                  if (((PT.op f) : Int) == 11) = true then
                    some ((((s_6.length : Nat) : Int) : Int) == 0)
                  else
                    if (((PT.op f) : Int) == 8) = true then
                      if PT.isNil f = false then
                      ((f60_filter_match n) (PT.fst f) s_0 s_1 s_2 s_3 s_4 s_5 s_6).bind fun r358_1 =>
                      some (!r358_1)
                      else none
                    else
                      if (((PT.op f) : Int) == 9) = true then
                        if PT.isNil f = false then
                        ((f60_filter_match n) (PT.fst f) s_0 s_1 s_2 s_3 s_4 s_5 s_6).bind fun r360_1 =>
                        if r360_1 = true then
                          if PT.isNil f = false then
                          ((f60_filter_match n) (PT.snd f) s_0 s_1 s_2 s_3 s_4 s_5 s_6).bind fun r360_3 =>
                          some r360_3
                          else none
                        else
                          some false
                        else none
                      else
                        if PT.isNil f = false then
                        ((f60_filter_match n) (PT.fst f) s_0 s_1 s_2 s_3 s_4 s_5 s_6).bind fun r361_1 =>
                        if r361_1 = true then
                          some true
                        else
                          if PT.isNil f = false then
                          ((f60_filter_match n) (PT.snd f) s_0 s_1 s_2 s_3 s_4 s_5 s_6).bind fun r361_3 =>
                          some r361_3
                          else none
                        else none
    else none
theorem f60_filter_match_ok (n : Nat) : ∀ (f : PT) (s_0 : Int) (s_1 : Int) (s_2 : Int) (s_3 : Int) (s_4 : Int) (s_5 : List (Int × List Int)) (s_6 : List Int) (r : Bool) (h : f60_filter_match n f s_0 s_1 s_2 s_3 s_4 s_5 s_6 = some r), FnOK Tryd.prog 60 (f60_filter_match_in f s_0 s_1 s_2 s_3 s_4 s_5 s_6) (f60_filter_match_out r) := by
  induction n with
  | zero => intro f s_0 s_1 s_2 s_3 s_4 s_5 s_6 r h; rw [f60_filter_match] at h; cases h
  | succ n ih =>
    intro f s_0 s_1 s_2 s_3 s_4 s_5 s_6 r h
    rw [f60_filter_match] at h
    refine At.fn (r := 0) Tryd.func60 rfl (by kernel_rfl) rfl rfl (by kernel_rfl) ?_
    show At Tryd.prog Tryd.f60 0 0 ⟨[(0, oc (.d (.pt f))), (1, .one (.agg [.d (.int .u16 s_0), .d (.int .u16 s_1), .d (.int .u32 s_2), .d (.int .u32 s_3), .d (.int .u8 s_4), .d (.sl (.pair (.int .u8) (.slice (.int .u8))) s_5), .d (.sl (.int .u8) s_6)]))], [], [], 0⟩ _
    refine At.step hm ht ⟨[], [], [], [0, 3], [0]⟩ 1 ⟨[(0, oc (.d (.pt f))), (3, oc (.ptr 0 0))], [], [(0, [.d (.int .u16 s_0), .d (.int .u16 s_1), .d (.int .u32 s_2), .d (.int .u32 s_3), .d (.int .u8 s_4), .d (.sl (.pair (.int .u8) (.slice (.int .u8))) s_5), .d (.sl (.int .u8) s_6)])], 1⟩ [] (by kernel_rfl) trivial ?_
    obtain ⟨g328_0, h⟩ := ifS h
    refine At.step hm ht ⟨[], [], [], [0, 3, 10], [0]⟩ 2 ⟨[(0, oc (.d (.pt f))), (3, oc (.ptr 0 0)), (10, oc (zi (PT.op f)))], [], [(0, [.d (.int .u16 s_0), .d (.int .u16 s_1), .d (.int .u32 s_2), .d (.int .u32 s_3), .d (.int .u8 s_4), .d (.sl (.pair (.int .u8) (.slice (.int .u8))) s_5), .d (.sl (.int .u8) s_6)])], 1⟩ [PT.isNil f = false] (by kernel_rfl) ⟨g328_0, trivial⟩ ?_
    rcases iteS h with ⟨b329_e0, h⟩ | ⟨b329_e0, h⟩
    · refine At.step hm ht ⟨[], [true], [], [], []⟩ 3 ⟨[], [], [], 0⟩ [(((PT.op f) : Int) == 1) = true] (by kernel_rfl) ⟨b329_e0, trivial⟩ ?_
      have h := Option.some.inj h
      subst h
      exact At.fin hm ht ⟨[], [], [], [4], []⟩ [] (by kernel_rfl) trivial
    · refine At.step hm ht ⟨[], [false], [], [0, 3, 10], [0]⟩ 4 ⟨[(0, oc (.d (.pt f))), (3, oc (.ptr 0 0)), (10, oc (zi (PT.op f)))], [], [(0, [.d (.int .u16 s_0), .d (.int .u16 s_1), .d (.int .u32 s_2), .d (.int .u32 s_3), .d (.int .u8 s_4), .d (.sl (.pair (.int .u8) (.slice (.int .u8))) s_5), .d (.sl (.int .u8) s_6)])], 1⟩ [(((PT.op f) : Int) == 1) = false] (by kernel_rfl) ⟨b329_e0, trivial⟩ ?_
      rcases iteS h with ⟨b331_e0, h⟩ | ⟨b331_e0, h⟩
      · refine At.step hm ht ⟨[], [true], [], [0, 3], [0]⟩ 5 ⟨[(0, oc (.d (.pt f))), (3, oc (.ptr 0 0))], [], [(0, [.d (.int .u16 s_0), .d (.int .u16 s_1), .d (.int .u32 s_2), .d (.int .u32 s_3), .d (.int .u8 s_4), .d (.sl (.pair (.int .u8) (.slice (.int .u8))) s_5), .d (.sl (.int .u8) s_6)])], 1⟩ [(((PT.op f) : Int) == 2) = true] (by kernel_rfl) ⟨b331_e0, trivial⟩ ?_
        obtain ⟨g332_0, h⟩ := ifS h
        have h := Option.some.inj h
        subst h
        exact At.fin hm ht ⟨[], [], [], [4], []⟩ [PT.isNil f = false] (by kernel_rfl) ⟨g332_0, trivial⟩
      · refine At.step hm ht ⟨[], [false], [], [0, 3, 10], [0]⟩ 6 ⟨[(0, oc (.d (.pt f))), (3, oc (.ptr 0 0)), (10, oc (zi (PT.op f)))], [], [(0, [.d (.int .u16 s_0), .d (.int .u16 s_1), .d (.int .u32 s_2), .d (.int .u32 s_3), .d (.int .u8 s_4), .d (.sl (.pair (.int .u8) (.slice (.int .u8))) s_5), .d (.sl (.int .u8) s_6)])], 1⟩ [(((PT.op f) : Int) == 2) = false] (by kernel_rfl) ⟨b331_e0, trivial⟩ ?_
        rcases iteS h with ⟨b333_e0, h⟩ | ⟨b333_e0, h⟩
        · refine At.step hm ht ⟨[], [true], [], [0, 3], [0]⟩ 7 ⟨[(0, oc (.d (.pt f))), (3, oc (.ptr 0 0))], [], [(0, [.d (.int .u16 s_0), .d (.int .u16 s_1), .d (.int .u32 s_2), .d (.int .u32 s_3), .d (.int .u8 s_4), .d (.sl (.pair (.int .u8) (.slice (.int .u8))) s_5), .d (.sl (.int .u8) s_6)])], 1⟩ [(((PT.op f) : Int) == 3) = true] (by kernel_rfl) ⟨b333_e0, trivial⟩ ?_
          obtain ⟨g334_0, h⟩ := ifS h
          rcases iteS h with ⟨b334_8, h⟩ | ⟨b334_8, h⟩
          · have h := Option.some.inj h
            subst h
            exact At.fin hm ht ⟨[(8, .b true)], [], [], [4], []⟩ [PT.isNil f = false, (((IntKind.wrap .i64 s_0) : Int) == (PT.num f)) = true] (by kernel_rfl) ⟨g334_0, b334_8, trivial⟩
          · obtain ⟨g334_1, h⟩ := ifS h
            have h := Option.some.inj h
            subst h
            exact At.fin hm ht ⟨[(8, .b false)], [], [], [4], []⟩ [PT.isNil f = false, (((IntKind.wrap .i64 s_0) : Int) == (PT.num f)) = false, PT.isNil f = false] (by kernel_rfl) ⟨g334_0, b334_8, g334_1, trivial⟩
        · refine At.step hm ht ⟨[], [false], [], [0, 3, 10], [0]⟩ 8 ⟨[(0, oc (.d (.pt f))), (3, oc (.ptr 0 0)), (10, oc (zi (PT.op f)))], [], [(0, [.d (.int .u16 s_0), .d (.int .u16 s_1), .d (.int .u32 s_2), .d (.int .u32 s_3), .d (.int .u8 s_4), .d (.sl (.pair (.int .u8) (.slice (.int .u8))) s_5), .d (.sl (.int .u8) s_6)])], 1⟩ [(((PT.op f) : Int) == 3) = false] (by kernel_rfl) ⟨b333_e0, trivial⟩ ?_
          rcases iteS h with ⟨b335_e0, h⟩ | ⟨b335_e0, h⟩
          · refine At.step hm ht ⟨[], [true], [], [0, 3], [0]⟩ 9 ⟨[(0, oc (.d (.pt f))), (3, oc (.ptr 0 0))], [], [(0, [.d (.int .u16 s_0), .d (.int .u16 s_1), .d (.int .u32 s_2), .d (.int .u32 s_3), .d (.int .u8 s_4), .d (.sl (.pair (.int .u8) (.slice (.int .u8))) s_5), .d (.sl (.int .u8) s_6)])], 1⟩ [(((PT.op f) : Int) == 4) = true] (by kernel_rfl) ⟨b335_e0, trivial⟩ ?_
            obtain ⟨g336_0, h⟩ := ifS h
            have h := Option.some.inj h
            subst h
            exact At.fin hm ht ⟨[], [], [], [4], []⟩ [PT.isNil f = false] (by kernel_rfl) ⟨g336_0, trivial⟩
          · refine At.step hm ht ⟨[], [false], [], [0, 3, 10], [0]⟩ 10 ⟨[(0, oc (.d (.pt f))), (3, oc (.ptr 0 0)), (10, oc (zi (PT.op f)))], [], [(0, [.d (.int .u16 s_0), .d (.int .u16 s_1), .d (.int .u32 s_2), .d (.int .u32 s_3), .d (.int .u8 s_4), .d (.sl (.pair (.int .u8) (.slice (.int .u8))) s_5), .d (.sl (.int .u8) s_6)])], 1⟩ [(((PT.op f) : Int) == 4) = false] (by kernel_rfl) ⟨b335_e0, trivial⟩ ?_
            rcases iteS h with ⟨b337_e0, h⟩ | ⟨b337_e0, h⟩
            · refine At.step hm ht ⟨[], [true], [], [0, 3], [0]⟩ 11 ⟨[(0, oc (.d (.pt f))), (3, oc (.ptr 0 0))], [], [(0, [.d (.int .u16 s_0), .d (.int .u16 s_1), .d (.int .u32 s_2), .d (.int .u32 s_3), .d (.int .u8 s_4), .d (.sl (.pair (.int .u8) (.slice (.int .u8))) s_5), .d (.sl (.int .u8) s_6)])], 1⟩ [(((PT.op f) : Int) == 5) = true] (by kernel_rfl) ⟨b337_e0, trivial⟩ ?_
              obtain ⟨g338_0, h⟩ := ifS h
              have h := Option.some.inj h
              subst h
              exact At.fin hm ht ⟨[], [], [], [4], []⟩ [PT.isNil f = false] (by kernel_rfl) ⟨g338_0, trivial⟩
            · refine At.step hm ht ⟨[], [false], [], [0, 3, 10], [0]⟩ 12 ⟨[(0, oc (.d (.pt f))), (3, oc (.ptr 0 0)), (10, oc (zi (PT.op f)))], [], [(0, [.d (.int .u16 s_0), .d (.int .u16 s_1), .d (.int .u32 s_2), .d (.int .u32 s_3), .d (.int .u8 s_4), .d (.sl (.pair (.int .u8) (.slice (.int .u8))) s_5), .d (.sl (.int .u8) s_6)])], 1⟩ [(((PT.op f) : Int) == 5) = false] (by kernel_rfl) ⟨b337_e0, trivial⟩ ?_
              rcases iteS h with ⟨b339_e0, h⟩ | ⟨b339_e0, h⟩
              · refine At.step hm ht ⟨[], [true], [], [0, 3], [0]⟩ 13 ⟨[(0, oc (.d (.pt f))), (3, oc (.ptr 0 0))], [], [(0, [.d (.int .u16 s_0), .d (.int .u16 s_1), .d (.int .u32 s_2), .d (.int .u32 s_3), .d (.int .u8 s_4), .d (.sl (.pair (.int .u8) (.slice (.int .u8))) s_5), .d (.sl (.int .u8) s_6)])], 1⟩ [(((PT.op f) : Int) == 6) = true] (by kernel_rfl) ⟨b339_e0, trivial⟩ ?_
                obtain ⟨g340_0, h⟩ := ifS h
                obtain ⟨r340_1, cr340_1, h⟩ := bindS h
                refine At.step hm ht ⟨[(6, .call [] [] (f89_seg_First_out r340_1))], [], [], [6], []⟩ 14 ⟨[(6, oc (.d (.bool r340_1.1)))], [], [], 0⟩ [PT.isNil f = false, FnOK Tryd.prog 89 (f89_seg_First_in s_0 s_1 s_2 s_3 s_4 s_5 s_6 (IntKind.wrap .u8 (PT.num f))) (f89_seg_First_out r340_1), 0 + 2 ≤ 2] (by kernel_rfl) ⟨g340_0, (f89_seg_First_ok n s_0 s_1 s_2 s_3 s_4 s_5 s_6 (IntKind.wrap .u8 (PT.num f)) r340_1 cr340_1), (by decide), trivial⟩ ?_
                have h := Option.some.inj h
                subst h
                exact At.fin hm ht ⟨[], [], [], [4], []⟩ [] (by kernel_rfl) trivial
              · refine At.step hm ht ⟨[], [false], [], [0, 3, 10], [0]⟩ 15 ⟨[(0, oc (.d (.pt f))), (3, oc (.ptr 0 0)), (10, oc (zi (PT.op f)))], [], [(0, [.d (.int .u16 s_0), .d (.int .u16 s_1), .d (.int .u32 s_2), .d (.int .u32 s_3), .d (.int .u8 s_4), .d (.sl (.pair (.int .u8) (.slice (.int .u8))) s_5), .d (.sl (.int .u8) s_6)])], 1⟩ [(((PT.op f) : Int) == 6) = false] (by kernel_rfl) ⟨b339_e0, trivial⟩ ?_
                rcases iteS h with ⟨b353_e0, h⟩ | ⟨b353_e0, h⟩
                · refine At.step hm ht ⟨[], [true], [], [0, 3], [0]⟩ 16 ⟨[(0, oc (.d (.pt f))), (3, oc (.ptr 0 0))], [], [(0, [.d (.int .u16 s_0), .d (.int .u16 s_1), .d (.int .u32 s_2), .d (.int .u32 s_3), .d (.int .u8 s_4), .d (.sl (.pair (.int .u8) (.slice (.int .u8))) s_5), .d (.sl (.int .u8) s_6)])], 1⟩ [(((PT.op f) : Int) == 7) = true] (by kernel_rfl) ⟨b353_e0, trivial⟩ ?_
                  obtain ⟨g354_0, h⟩ := ifS h
                  have h := Option.some.inj h
                  subst h
                  exact At.fin hm ht ⟨[], [], [], [4], []⟩ [PT.isNil f = false] (by kernel_rfl) ⟨g354_0, trivial⟩
                · refine At.step hm ht ⟨[], [false], [], [0, 3, 10], [0]⟩ 17 ⟨[(0, oc (.d (.pt f))), (3, oc (.ptr 0 0)), (10, oc (zi (PT.op f)))], [], [(0, [.d (.int .u16 s_0), .d (.int .u16 s_1), .d (.int .u32 s_2), .d (.int .u32 s_3), .d (.int .u8 s_4), .d (.sl (.pair (.int .u8) (.slice (.int .u8))) s_5), .d (.sl (.int .u8) s_6)])], 1⟩ [(((PT.op f) : Int) == 7) = false] (by kernel_rfl) ⟨b353_e0, trivial⟩ ?_
                  rcases iteS h with ⟨b355_e0, h⟩ | ⟨b355_e0, h⟩
                  · refine At.step hm ht ⟨[], [true], [], [3], [0]⟩ 18 ⟨[(3, oc (.ptr 0 0))], [], [(0, [.d (.int .u16 s_0), .d (.int .u16 s_1), .d (.int .u32 s_2), .d (.int .u32 s_3), .d (.int .u8 s_4), .d (.sl (.pair (.int .u8) (.slice (.int .u8))) s_5), .d (.sl (.int .u8) s_6)])], 1⟩ [(((PT.op f) : Int) == 11) = true] (by kernel_rfl) ⟨b355_e0, trivial⟩ ?_
                    have h := Option.some.inj h
                    subst h
                    exact At.fin hm ht ⟨[], [], [], [4], []⟩ [] (by kernel_rfl) trivial
                  · refine At.step hm ht ⟨[], [false], [], [0, 3, 10], [0]⟩ 19 ⟨[(0, oc (.d (.pt f))), (3, oc (.ptr 0 0)), (10, oc (zi (PT.op f)))], [], [(0, [.d (.int .u16 s_0), .d (.int .u16 s_1), .d (.int .u32 s_2), .d (.int .u32 s_3), .d (.int .u8 s_4), .d (.sl (.pair (.int .u8) (.slice (.int .u8))) s_5), .d (.sl (.int .u8) s_6)])], 1⟩ [(((PT.op f) : Int) == 11) = false] (by kernel_rfl) ⟨b355_e0, trivial⟩ ?_
                    rcases iteS h with ⟨b357_e0, h⟩ | ⟨b357_e0, h⟩
                    · refine At.step hm ht ⟨[], [true], [], [0, 3], [0]⟩ 20 ⟨[(0, oc (.d (.pt f))), (3, oc (.ptr 0 0))], [], [(0, [.d (.int .u16 s_0), .d (.int .u16 s_1), .d (.int .u32 s_2), .d (.int .u32 s_3), .d (.int .u8 s_4), .d (.sl (.pair (.int .u8) (.slice (.int .u8))) s_5), .d (.sl (.int .u8) s_6)])], 1⟩ [(((PT.op f) : Int) == 8) = true] (by kernel_rfl) ⟨b357_e0, trivial⟩ ?_
                      obtain ⟨g358_0, h⟩ := ifS h
                      obtain ⟨r358_1, cr358_1, h⟩ := bindS h
                      have h := Option.some.inj h
                      subst h
                      exact At.fin hm ht ⟨[(5, .call [] [] (f60_filter_match_out r358_1))], [], [], [4], []⟩ [PT.isNil f = false, FnOK Tryd.prog 60 (f60_filter_match_in (PT.fst f) s_0 s_1 s_2 s_3 s_4 s_5 s_6) (f60_filter_match_out r358_1)] (by kernel_rfl) ⟨g358_0, (ih (PT.fst f) s_0 s_1 s_2 s_3 s_4 s_5 s_6 r358_1 cr358_1), trivial⟩
                    · refine At.step hm ht ⟨[], [false], [], [0, 3, 10], [0]⟩ 21 ⟨[(0, oc (.d (.pt f))), (3, oc (.ptr 0 0)), (10, oc (zi (PT.op f)))], [], [(0, [.d (.int .u16 s_0), .d (.int .u16 s_1), .d (.int .u32 s_2), .d (.int .u32 s_3), .d (.int .u8 s_4), .d (.sl (.pair (.int .u8) (.slice (.int .u8))) s_5), .d (.sl (.int .u8) s_6)])], 1⟩ [(((PT.op f) : Int) == 8) = false] (by kernel_rfl) ⟨b357_e0, trivial⟩ ?_
                      rcases iteS h with ⟨b359_e0, h⟩ | ⟨b359_e0, h⟩
                      · refine At.step hm ht ⟨[], [true], [], [0, 3], [0]⟩ 22 ⟨[(0, oc (.d (.pt f))), (3, oc (.ptr 0 0))], [], [(0, [.d (.int .u16 s_0), .d (.int .u16 s_1), .d (.int .u32 s_2), .d (.int .u32 s_3), .d (.int .u8 s_4), .d (.sl (.pair (.int .u8) (.slice (.int .u8))) s_5), .d (.sl (.int .u8) s_6)])], 1⟩ [(((PT.op f) : Int) == 9) = true] (by kernel_rfl) ⟨b359_e0, trivial⟩ ?_
                        obtain ⟨g360_0, h⟩ := ifS h
                        obtain ⟨r360_1, cr360_1, h⟩ := bindS h
                        rcases iteS h with ⟨b360_6, h⟩ | ⟨b360_6, h⟩
                        · obtain ⟨g360_2, h⟩ := ifS h
                          obtain ⟨r360_3, cr360_3, h⟩ := bindS h
                          have h := Option.some.inj h
                          subst h
                          exact At.fin hm ht ⟨[(5, .call [] [] (f60_filter_match_out r360_1)), (6, .b true), (12, .call [] [] (f60_filter_match_out r360_3))], [], [], [4], []⟩ [PT.isNil f = false, FnOK Tryd.prog 60 (f60_filter_match_in (PT.fst f) s_0 s_1 s_2 s_3 s_4 s_5 s_6) (f60_filter_match_out r360_1), r360_1 = true, PT.isNil f = false, FnOK Tryd.prog 60 (f60_filter_match_in (PT.snd f) s_0 s_1 s_2 s_3 s_4 s_5 s_6) (f60_filter_match_out r360_3)] (by kernel_rfl) ⟨g360_0, (ih (PT.fst f) s_0 s_1 s_2 s_3 s_4 s_5 s_6 r360_1 cr360_1), b360_6, g360_2, (ih (PT.snd f) s_0 s_1 s_2 s_3 s_4 s_5 s_6 r360_3 cr360_3), trivial⟩
                        · have h := Option.some.inj h
                          subst h
                          exact At.fin hm ht ⟨[(5, .call [] [] (f60_filter_match_out r360_1)), (6, .b false)], [], [], [4], []⟩ [PT.isNil f = false, FnOK Tryd.prog 60 (f60_filter_match_in (PT.fst f) s_0 s_1 s_2 s_3 s_4 s_5 s_6) (f60_filter_match_out r360_1), r360_1 = false] (by kernel_rfl) ⟨g360_0, (ih (PT.fst f) s_0 s_1 s_2 s_3 s_4 s_5 s_6 r360_1 cr360_1), b360_6, trivial⟩
                      · refine At.step hm ht ⟨[], [false], [], [0, 3], [0]⟩ 23 ⟨[(0, oc (.d (.pt f))), (3, oc (.ptr 0 0))], [], [(0, [.d (.int .u16 s_0), .d (.int .u16 s_1), .d (.int .u32 s_2), .d (.int .u32 s_3), .d (.int .u8 s_4), .d (.sl (.pair (.int .u8) (.slice (.int .u8))) s_5), .d (.sl (.int .u8) s_6)])], 1⟩ [(((PT.op f) : Int) == 9) = false] (by kernel_rfl) ⟨b359_e0, trivial⟩ ?_
                        obtain ⟨g361_0, h⟩ := ifS h
                        obtain ⟨r361_1, cr361_1, h⟩ := bindS h
                        rcases iteS h with ⟨b361_6, h⟩ | ⟨b361_6, h⟩
                        · have h := Option.some.inj h
                          subst h
                          exact At.fin hm ht ⟨[(5, .call [] [] (f60_filter_match_out r361_1)), (6, .b true)], [], [], [4], []⟩ [PT.isNil f = false, FnOK Tryd.prog 60 (f60_filter_match_in (PT.fst f) s_0 s_1 s_2 s_3 s_4 s_5 s_6) (f60_filter_match_out r361_1), r361_1 = true] (by kernel_rfl) ⟨g361_0, (ih (PT.fst f) s_0 s_1 s_2 s_3 s_4 s_5 s_6 r361_1 cr361_1), b361_6, trivial⟩
                        · obtain ⟨g361_2, h⟩ := ifS h
                          obtain ⟨r361_3, cr361_3, h⟩ := bindS h
                          have h := Option.some.inj h
                          subst h
                          exact At.fin hm ht ⟨[(5, .call [] [] (f60_filter_match_out r361_1)), (6, .b false), (12, .call [] [] (f60_filter_match_out r361_3))], [], [], [4], []⟩ [PT.isNil f = false, FnOK Tryd.prog 60 (f60_filter_match_in (PT.fst f) s_0 s_1 s_2 s_3 s_4 s_5 s_6) (f60_filter_match_out r361_1), r361_1 = false, PT.isNil f = false, FnOK Tryd.prog 60 (f60_filter_match_in (PT.snd f) s_0 s_1 s_2 s_3 s_4 s_5 s_6) (f60_filter_match_out r361_3)] (by kernel_rfl) ⟨g361_0, (ih (PT.fst f) s_0 s_1 s_2 s_3 s_4 s_5 s_6 r361_1 cr361_1), b361_6, g361_2, (ih (PT.snd f) s_0 s_1 s_2 s_3 s_4 s_5 s_6 r361_3 cr361_3), trivial⟩
/-! brougham/filter.Match -/
def f32_filter_Match_in (f : PT) (s_0 : Int) (s_1 : Int) (s_2 : Int) (s_3 : Int) (s_4 : Int) (s_5 : List (Int × List Int)) (s_6 : List Int) : Inn := ⟨[.c (.d (.pt f)), .agg [.d (.int .u16 s_0), .d (.int .u16 s_1), .d (.int .u32 s_2), .d (.int .u32 s_3), .d (.int .u8 s_4), .d (.sl (.pair (.int .u8) (.slice (.int .u8))) s_5), .d (.sl (.int .u8) s_6)]], [], [], 0⟩
def f32_filter_Match_out (r : Bool) : Out := ⟨oc (.d (.bool r)), [], [], 0⟩
def f32_filter_Match (n : Nat) (f : PT) (s_0 : Int) (s_1 : Int) (s_2 : Int) (s_3 : Int) (s_4 : Int) (s_5 : List (Int × List Int)) (s_6 : List Int) : Option (Bool) :=
  (f31_filter_Right n f).bind fun r326_0 =>
  if r326_0 = true then
    (f60_filter_match n f s_0 s_1 s_2 s_3 s_4 s_5 s_6).bind fun r326_1 =>
    some r326_1
  else
    some false
theorem f32_filter_Match_ok (n : Nat) (f : PT) (s_0 : Int) (s_1 : Int) (s_2 : Int) (s_3 : Int) (s_4 : Int) (s_5 : List (Int × List Int)) (s_6 : List Int) (r : Bool) (h : f32_filter_Match n f s_0 s_1 s_2 s_3 s_4 s_5 s_6 = some r) : FnOK Tryd.prog 32 (f32_filter_Match_in f s_0 s_1 s_2 s_3 s_4 s_5 s_6) (f32_filter_Match_out r) := by
  unfold f32_filter_Match at h
  refine At.fn (r := 0) Tryd.func32 rfl (by kernel_rfl) rfl rfl (by kernel_rfl) ?_
  show At Tryd.prog Tryd.f32 0 0 ⟨[(0, oc (.d (.pt f))), (1, .one (.agg [.d (.int .u16 s_0), .d (.int .u16 s_1), .d (.int .u32 s_2), .d (.int .u32 s_3), .d (.int .u8 s_4), .d (.sl (.pair (.int .u8) (.slice (.int .u8))) s_5), .d (.sl (.int .u8) s_6)]))], [], [], 0⟩ _
  refine At.step hm ht ⟨[], [], [], [0, 3], [0]⟩ 1 ⟨[(0, oc (.d (.pt f))), (3, oc (.ptr 0 0))], [], [(0, [.d (.int .u16 s_0), .d (.int .u16 s_1), .d (.int .u32 s_2), .d (.int .u32 s_3), .d (.int .u8 s_4), .d (.sl (.pair (.int .u8) (.slice (.int .u8))) s_5), .d (.sl (.int .u8) s_6)])], 1⟩ [] (by kernel_rfl) trivial ?_
  obtain ⟨r326_0, cr326_0, h⟩ := bindS h
  rcases iteS h with ⟨b326_2, h⟩ | ⟨b326_2, h⟩
  · obtain ⟨r326_1, cr326_1, h⟩ := bindS h
    have h := Option.some.inj h
    subst h
    exact At.fin hm ht ⟨[(1, .call [] [] (f31_filter_Right_out r326_0)), (2, .b true), (5, .call [] [] (f60_filter_match_out r326_1))], [], [], [4], []⟩ [FnOK Tryd.prog 31 (f31_filter_Right_in f) (f31_filter_Right_out r326_0), r326_0 = true, FnOK Tryd.prog 60 (f60_filter_match_in f s_0 s_1 s_2 s_3 s_4 s_5 s_6) (f60_filter_match_out r326_1)] (by kernel_rfl) ⟨(f31_filter_Right_ok n f r326_0 cr326_0), b326_2, (f60_filter_match_ok n f s_0 s_1 s_2 s_3 s_4 s_5 s_6 r326_1 cr326_1), trivial⟩
  · have h := Option.some.inj h
    subst h
    exact At.fin hm ht ⟨[(1, .call [] [] (f31_filter_Right_out r326_0)), (2, .b false)], [], [], [4], []⟩ [FnOK Tryd.prog 31 (f31_filter_Right_in f) (f31_filter_Right_out r326_0), r326_0 = false] (by kernel_rfl) ⟨(f31_filter_Right_ok n f r326_0 cr326_0), b326_2, trivial⟩
/-! brougham/filter.right -/
def f59_filter_right_v2_in (left : Int) : Inn := ⟨[.c (.d (.nilP)), .c (zi left)], [], [], 0⟩
def f59_filter_right_v2_out (r : Bool) : Out := ⟨oc (.d (.bool r)), [], [], 0⟩
def f59_filter_right_v2 (left : Int) : Option (Bool) :=
  some false
theorem f59_filter_right_v2_ok (left : Int) (r : Bool) (h : f59_filter_right_v2 left = some r) : FnOK Tryd.prog 59 (f59_filter_right_v2_in left) (f59_filter_right_v2_out r) := by
  unfold f59_filter_right_v2 at h
  refine At.fn (r := 0) Tryd.func59 rfl (by kernel_rfl) rfl rfl (by kernel_rfl) ?_
  show At Tryd.prog Tryd.f59 0 0 ⟨[(0, oc (.d (.nilP))), (1, oc (zi left))], [], [], 0⟩ _
  refine At.step hm ht ⟨[], [], [], [0, 1], []⟩ 1 ⟨[(0, oc (.d (.nilP))), (1, oc (zi left))], [], [], 0⟩ [] (by kernel_rfl) trivial ?_
  refine At.step hm ht ⟨[], [true], [.nilpt 5], [], []⟩ 2 ⟨[], [], [], 0⟩ [true = true] (by kernel_rfl) ⟨rfl, trivial⟩ ?_
  have h := Option.some.inj h
  subst h
  exact At.fin hm ht ⟨[], [], [], [4], []⟩ [] (by kernel_rfl) trivial
/-! brougham/filter.Right -/
def f31_filter_Right_v2_in : Inn := ⟨[.c (.d (.nilP))], [], [], 0⟩
def f31_filter_Right_v2_out (r : Bool) : Out := ⟨oc (.d (.bool r)), [], [], 0⟩
def f31_filter_Right_v2 : Option (Bool) :=
  (f59_filter_right_v2 16).bind fun r363_0 =>
  some r363_0
theorem f31_filter_Right_v2_ok (r : Bool) (h : f31_filter_Right_v2 = some r) : FnOK Tryd.prog 31 (f31_filter_Right_v2_in) (f31_filter_Right_v2_out r) := by
  unfold f31_filter_Right_v2 at h
  refine At.fn (r := 0) Tryd.func31 rfl (by kernel_rfl) rfl rfl (by kernel_rfl) ?_
  show At Tryd.prog Tryd.f31 0 0 ⟨[(0, oc (.d (.nilP)))], [], [], 0⟩ _
  refine At.step hm ht ⟨[], [], [], [0], []⟩ 1 ⟨[(0, oc (.d (.nilP)))], [], [], 0⟩ [] (by kernel_rfl) trivial ?_
  obtain ⟨r363_0, cr363_0, h⟩ := bindS h
  have h := Option.some.inj h
  subst h
  exact At.fin hm ht ⟨[(1, .call [] [] (f59_filter_right_v2_out r363_0))], [], [.nilpt 3], [2], []⟩ [FnOK Tryd.prog 59 (f59_filter_right_v2_in 16) (f59_filter_right_v2_out r363_0)] (by kernel_rfl) ⟨(f59_filter_right_v2_ok 16 r363_0 cr363_0), trivial⟩
/-! brougham/broughamlaw35.alive -/
def f23_broughamlaw35_alive_in : Inn := ⟨[], [], [], 0⟩
def f23_broughamlaw35_alive_out (r : Bool) : Out := ⟨oc (.d (.bool r)), [], [], 0⟩
def f23_broughamlaw35_alive (n : Nat) : Option (Bool) :=
  (f21_filter_Parse n (⟨#[112, 111, 114, 116, 32, 56, 48, 32, 97, 110, 100, 32, 110, 111, 116, 32, 114, 115, 116]⟩ : ByteArray)).bind fun r323_0 =>
  if r323_0.2 = true then
    (f27_filter_Text n r323_0.1).bind fun r324_0 =>
    if (r324_0.toList == (⟨#[40, 32, 112, 111, 114, 116, 32, 56, 48, 32, 97, 110, 100, 32, 40, 32, 110, 111, 116, 32, 114, 115, 116, 32, 41, 32, 41]⟩ : ByteArray).toList) = true then
      (f32_filter_Match n r323_0.1 80 0 0 0 0 [] []).bind fun r324_1 =>
      if r324_1 = true then
        (f32_filter_Match n r323_0.1 80 0 0 0 4 [] []).bind fun r324_2 =>
        if (!r324_2) = true then
          (f31_filter_Right_v2).bind fun r324_3 =>
          some (!r324_3)
        else
          some false
      else
        some false
    else
      some false
  else
    some false
theorem f23_broughamlaw35_alive_ok (n : Nat) (r : Bool) (h : f23_broughamlaw35_alive n = some r) : FnOK Tryd.prog 23 (f23_broughamlaw35_alive_in) (f23_broughamlaw35_alive_out r) := by
  unfold f23_broughamlaw35_alive at h
  refine At.fn (r := 0) Tryd.func23 rfl (by kernel_rfl) rfl rfl (by kernel_rfl) ?_
  show At Tryd.prog Tryd.f23 0 0 ⟨[], [], [], 0⟩ _
  refine At.step hm ht ⟨[], [], [], [], []⟩ 1 ⟨[], [], [], 0⟩ [] (by kernel_rfl) trivial ?_
  obtain ⟨r323_0, cr323_0, h⟩ := bindS h
  refine At.step hm ht ⟨[(0, .call [] [] (f21_filter_Parse_out r323_0))], [], [], [1, 2], []⟩ 2 ⟨[(1, oc (.d (.pt r323_0.1))), (2, oc (.d (.bool r323_0.2)))], [], [], 0⟩ [FnOK Tryd.prog 21 (f21_filter_Parse_in (⟨#[112, 111, 114, 116, 32, 56, 48, 32, 97, 110, 100, 32, 110, 111, 116, 32, 114, 115, 116]⟩ : ByteArray)) (f21_filter_Parse_out r323_0)] (by kernel_rfl) ⟨(f21_filter_Parse_ok n (⟨#[112, 111, 114, 116, 32, 56, 48, 32, 97, 110, 100, 32, 110, 111, 116, 32, 114, 115, 116]⟩ : ByteArray) r323_0 cr323_0), trivial⟩ ?_
  rcases iteS h with ⟨b324_1, h⟩ | ⟨b324_1, h⟩
  · obtain ⟨r324_0, cr324_0, h⟩ := bindS h
    rcases iteS h with ⟨b324_6, h⟩ | ⟨b324_6, h⟩
    · obtain ⟨r324_1, cr324_1, h⟩ := bindS h
      rcases iteS h with ⟨b324_11, h⟩ | ⟨b324_11, h⟩
      · obtain ⟨r324_2, cr324_2, h⟩ := bindS h
        rcases iteS h with ⟨b324_17, h⟩ | ⟨b324_17, h⟩
        · obtain ⟨r324_3, cr324_3, h⟩ := bindS h
          have h := Option.some.inj h
          subst h
          exact At.fin hm ht ⟨[(1, .b true), (3, .call [] [] (f27_filter_Text_out r324_0)), (6, .b true), (9, .call [] [(1, 5, (.pair (.int .u8) (.slice (.int .u8)))), (1, 6, (.int .u8))] (f32_filter_Match_out r324_1)), (11, .b true), (14, .call [] [(1, 5, (.pair (.int .u8) (.slice (.int .u8)))), (1, 6, (.int .u8))] (f32_filter_Match_out r324_2)), (17, .b true), (18, .call [] [] (f31_filter_Right_v2_out r324_3))], [], [], [0], []⟩ [r323_0.2 = true, FnOK Tryd.prog 27 (f27_filter_Text_in r323_0.1) (f27_filter_Text_out r324_0), (r324_0.toList == (⟨#[40, 32, 112, 111, 114, 116, 32, 56, 48, 32, 97, 110, 100, 32, 40, 32, 110, 111, 116, 32, 114, 115, 116, 32, 41, 32, 41]⟩ : ByteArray).toList) = true, FnOK Tryd.prog 32 (f32_filter_Match_in r323_0.1 80 0 0 0 0 [] []) (f32_filter_Match_out r324_1), r324_1 = true, FnOK Tryd.prog 32 (f32_filter_Match_in r323_0.1 80 0 0 0 4 [] []) (f32_filter_Match_out r324_2), (!r324_2) = true, FnOK Tryd.prog 31 (f31_filter_Right_v2_in) (f31_filter_Right_v2_out r324_3)] (by kernel_rfl) ⟨b324_1, (f27_filter_Text_ok n r323_0.1 r324_0 cr324_0), b324_6, (f32_filter_Match_ok n r323_0.1 80 0 0 0 0 [] [] r324_1 cr324_1), b324_11, (f32_filter_Match_ok n r323_0.1 80 0 0 0 4 [] [] r324_2 cr324_2), b324_17, (f31_filter_Right_v2_ok r324_3 cr324_3), trivial⟩
        · have h := Option.some.inj h
          subst h
          exact At.fin hm ht ⟨[(1, .b true), (3, .call [] [] (f27_filter_Text_out r324_0)), (6, .b true), (9, .call [] [(1, 5, (.pair (.int .u8) (.slice (.int .u8)))), (1, 6, (.int .u8))] (f32_filter_Match_out r324_1)), (11, .b true), (14, .call [] [(1, 5, (.pair (.int .u8) (.slice (.int .u8)))), (1, 6, (.int .u8))] (f32_filter_Match_out r324_2)), (17, .b false)], [], [], [0], []⟩ [r323_0.2 = true, FnOK Tryd.prog 27 (f27_filter_Text_in r323_0.1) (f27_filter_Text_out r324_0), (r324_0.toList == (⟨#[40, 32, 112, 111, 114, 116, 32, 56, 48, 32, 97, 110, 100, 32, 40, 32, 110, 111, 116, 32, 114, 115, 116, 32, 41, 32, 41]⟩ : ByteArray).toList) = true, FnOK Tryd.prog 32 (f32_filter_Match_in r323_0.1 80 0 0 0 0 [] []) (f32_filter_Match_out r324_1), r324_1 = true, FnOK Tryd.prog 32 (f32_filter_Match_in r323_0.1 80 0 0 0 4 [] []) (f32_filter_Match_out r324_2), (!r324_2) = false] (by kernel_rfl) ⟨b324_1, (f27_filter_Text_ok n r323_0.1 r324_0 cr324_0), b324_6, (f32_filter_Match_ok n r323_0.1 80 0 0 0 0 [] [] r324_1 cr324_1), b324_11, (f32_filter_Match_ok n r323_0.1 80 0 0 0 4 [] [] r324_2 cr324_2), b324_17, trivial⟩
      · have h := Option.some.inj h
        subst h
        exact At.fin hm ht ⟨[(1, .b true), (3, .call [] [] (f27_filter_Text_out r324_0)), (6, .b true), (9, .call [] [(1, 5, (.pair (.int .u8) (.slice (.int .u8)))), (1, 6, (.int .u8))] (f32_filter_Match_out r324_1)), (11, .b false)], [], [], [0], []⟩ [r323_0.2 = true, FnOK Tryd.prog 27 (f27_filter_Text_in r323_0.1) (f27_filter_Text_out r324_0), (r324_0.toList == (⟨#[40, 32, 112, 111, 114, 116, 32, 56, 48, 32, 97, 110, 100, 32, 40, 32, 110, 111, 116, 32, 114, 115, 116, 32, 41, 32, 41]⟩ : ByteArray).toList) = true, FnOK Tryd.prog 32 (f32_filter_Match_in r323_0.1 80 0 0 0 0 [] []) (f32_filter_Match_out r324_1), r324_1 = false] (by kernel_rfl) ⟨b324_1, (f27_filter_Text_ok n r323_0.1 r324_0 cr324_0), b324_6, (f32_filter_Match_ok n r323_0.1 80 0 0 0 0 [] [] r324_1 cr324_1), b324_11, trivial⟩
    · have h := Option.some.inj h
      subst h
      exact At.fin hm ht ⟨[(1, .b true), (3, .call [] [] (f27_filter_Text_out r324_0)), (6, .b false)], [], [], [0], []⟩ [r323_0.2 = true, FnOK Tryd.prog 27 (f27_filter_Text_in r323_0.1) (f27_filter_Text_out r324_0), (r324_0.toList == (⟨#[40, 32, 112, 111, 114, 116, 32, 56, 48, 32, 97, 110, 100, 32, 40, 32, 110, 111, 116, 32, 114, 115, 116, 32, 41, 32, 41]⟩ : ByteArray).toList) = false] (by kernel_rfl) ⟨b324_1, (f27_filter_Text_ok n r323_0.1 r324_0 cr324_0), b324_6, trivial⟩
  · have h := Option.some.inj h
    subst h
    exact At.fin hm ht ⟨[(1, .b false)], [], [], [0], []⟩ [r323_0.2 = false] (by kernel_rfl) ⟨b324_1, trivial⟩
/-! brougham/broughamlaw35.FilterBack -/
def f6_broughamlaw35_FilterBack_in (f_0 : Int) (f_1 : Int) (f_2 : List (Int × Int × List FT)) (t : ByteArray) : Inn := ⟨[.agg [zi f_0, zi f_1, .d (.sl (.pair (.int .i64) (.pair (.int .i64) .wood)) f_2)], .c (.d (.str t))], [], [], 0⟩
def f6_broughamlaw35_FilterBack_out (r : Bool) : Out := ⟨oc (.d (.bool r)), [], [], 0⟩
def f6_broughamlaw35_FilterBack (n : Nat) (f_0 : Int) (f_1 : Int) (f_2 : List (Int × Int × List FT)) (t : ByteArray) : Option (Bool) :=
  (f26_broughamlaw35_great n f_0 f_1 f_2).bind fun r2_0 =>
  if r2_0 = true then
    some true
  else
    if (decide ((((t.size : Nat) : Int) : Int) > 5000)) = true then
      some true
    else
      (f28_broughamlaw35_Made n f_0 f_1 f_2).bind fun r18_0 =>
      (f27_filter_Text n r18_0).bind fun r18_1 =>
      (f21_filter_Parse n r18_1).bind fun r113_0 =>
      if (!(r18_1.toList == (⟨#[]⟩ : ByteArray).toList)) = true then
        if (decide ((((r18_1.size : Nat) : Int) : Int) ≤ 4096)) = true then
          if (!r113_0.2) = true then
            some false
          else
            (f25_broughamlaw35_Plain n r113_0.1 20).bind fun r277_0 =>
            (f24_broughamref35_Same n r277_0.1 r277_0.2.1 r277_0.2.2 f_0 f_1 f_2).bind fun r277_1 =>
            if (!r277_1) = true then
              some false
            else
              (f21_filter_Parse n t).bind fun r319_0 =>
              if (!r319_0.2) = true then
                if (PT.isNil r319_0.1) = true then
                  (f23_broughamlaw35_alive n).bind fun r321_0 =>
                  some r321_0
                else
                  some false
              else
                (f27_filter_Text n r319_0.1).bind fun r367_0 =>
                (f21_filter_Parse n r367_0).bind fun r368_0 =>
                if (!(r367_0.toList == (⟨#[]⟩ : ByteArray).toList)) = true then
                  if (decide ((((r367_0.size : Nat) : Int) : Int) > 4096)) = true then
                    (f23_broughamlaw35_alive n).bind fun r369_0 =>
                    some r369_0
                  else
                    if r368_0.2 = true then
                      (f25_broughamlaw35_Plain n r319_0.1 20).bind fun r369_0 =>
                      (f25_broughamlaw35_Plain n r368_0.1 20).bind fun r369_1 =>
                      (f24_broughamref35_Same n r369_0.1 r369_0.2.1 r369_0.2.2 r369_1.1 r369_1.2.1 r369_1.2.2).bind fun r369_2 =>
                      if r369_2 = true then
                        (f23_broughamlaw35_alive n).bind fun r369_3 =>
                        some r369_3
                      else
                        some false
                    else
                      some false
                else
                  some false
        else
          (f21_filter_Parse n t).bind fun r370_0 =>
          if (!r370_0.2) = true then
            if (PT.isNil r370_0.1) = true then
              (f23_broughamlaw35_alive n).bind fun r372_0 =>
              some r372_0
            else
              some false
          else
            (f27_filter_Text n r370_0.1).bind fun r373_0 =>
            (f21_filter_Parse n r373_0).bind fun r374_0 =>
            if (!(r373_0.toList == (⟨#[]⟩ : ByteArray).toList)) = true then
              if (decide ((((r373_0.size : Nat) : Int) : Int) > 4096)) = true then
                (f23_broughamlaw35_alive n).bind fun r375_0 =>
                some r375_0
              else
                if r374_0.2 = true then
                  (f25_broughamlaw35_Plain n r370_0.1 20).bind fun r375_0 =>
                  (f25_broughamlaw35_Plain n r374_0.1 20).bind fun r375_1 =>
                  (f24_broughamref35_Same n r375_0.1 r375_0.2.1 r375_0.2.2 r375_1.1 r375_1.2.1 r375_1.2.2).bind fun r375_2 =>
                  if r375_2 = true then
                    (f23_broughamlaw35_alive n).bind fun r375_3 =>
                    some r375_3
                  else
                    some false
                else
                  some false
            else
              some false
      else
        (f21_filter_Parse n t).bind fun r376_0 =>
        if (!r376_0.2) = true then
          if (PT.isNil r376_0.1) = true then
            (f23_broughamlaw35_alive n).bind fun r378_0 =>
            some r378_0
          else
            some false
        else
          (f27_filter_Text n r376_0.1).bind fun r379_0 =>
          (f21_filter_Parse n r379_0).bind fun r380_0 =>
          if (!(r379_0.toList == (⟨#[]⟩ : ByteArray).toList)) = true then
            if (decide ((((r379_0.size : Nat) : Int) : Int) > 4096)) = true then
              (f23_broughamlaw35_alive n).bind fun r381_0 =>
              some r381_0
            else
              if r380_0.2 = true then
                (f25_broughamlaw35_Plain n r376_0.1 20).bind fun r381_0 =>
                (f25_broughamlaw35_Plain n r380_0.1 20).bind fun r381_1 =>
                (f24_broughamref35_Same n r381_0.1 r381_0.2.1 r381_0.2.2 r381_1.1 r381_1.2.1 r381_1.2.2).bind fun r381_2 =>
                if r381_2 = true then
                  (f23_broughamlaw35_alive n).bind fun r381_3 =>
                  some r381_3
                else
                  some false
              else
                some false
          else
            some false
theorem f6_broughamlaw35_FilterBack_ok (n : Nat) (f_0 : Int) (f_1 : Int) (f_2 : List (Int × Int × List FT)) (t : ByteArray) (r : Bool) (h : f6_broughamlaw35_FilterBack n f_0 f_1 f_2 t = some r) : FnOK Tryd.prog 6 (f6_broughamlaw35_FilterBack_in f_0 f_1 f_2 t) (f6_broughamlaw35_FilterBack_out r) := by
  unfold f6_broughamlaw35_FilterBack at h
  refine At.fn (r := 0) Tryd.func6 rfl (by kernel_rfl) rfl rfl (by kernel_rfl) ?_
  show At Tryd.prog Tryd.f6 0 0 ⟨[(0, .one (.agg [zi f_0, zi f_1, .d (.sl (.pair (.int .i64) (.pair (.int .i64) .wood)) f_2)])), (1, oc (.d (.str t)))], [], [], 0⟩ _
  refine At.step hm ht ⟨[], [], [], [1, 2], [0]⟩ 1 ⟨[(1, oc (.d (.str t))), (2, oc (.ptr 0 0))], [], [(0, [zi f_0, zi f_1, .d (.sl (.pair (.int .i64) (.pair (.int .i64) .wood)) f_2)])], 1⟩ [] (by kernel_rfl) trivial ?_
  obtain ⟨r2_0, cr2_0, h⟩ := bindS h
  rcases iteS h with ⟨b2_2, h⟩ | ⟨b2_2, h⟩
  · refine At.step hm ht ⟨[(1, .call [] [] (f26_broughamlaw35_great_out r2_0)), (2, .b true)], [true], [], [], []⟩ 2 ⟨[], [], [], 0⟩ [FnOK Tryd.prog 26 (f26_broughamlaw35_great_in f_0 f_1 f_2) (f26_broughamlaw35_great_out r2_0), r2_0 = true, true = true] (by kernel_rfl) ⟨(f26_broughamlaw35_great_ok n f_0 f_1 f_2 r2_0 cr2_0), b2_2, rfl, trivial⟩ ?_
    have h := Option.some.inj h
    subst h
    exact At.fin hm ht ⟨[], [], [], [4], []⟩ [] (by kernel_rfl) trivial
  · rcases iteS h with ⟨b2_e0, h⟩ | ⟨b2_e0, h⟩
    · refine At.step hm ht ⟨[(1, .call [] [] (f26_broughamlaw35_great_out r2_0)), (2, .b false)], [true], [], [], []⟩ 2 ⟨[], [], [], 0⟩ [FnOK Tryd.prog 26 (f26_broughamlaw35_great_in f_0 f_1 f_2) (f26_broughamlaw35_great_out r2_0), r2_0 = false, (decide ((((t.size : Nat) : Int) : Int) > 5000)) = true] (by kernel_rfl) ⟨(f26_broughamlaw35_great_ok n f_0 f_1 f_2 r2_0 cr2_0), b2_2, b2_e0, trivial⟩ ?_
      have h := Option.some.inj h
      subst h
      exact At.fin hm ht ⟨[], [], [], [4], []⟩ [] (by kernel_rfl) trivial
    · refine At.step hm ht ⟨[(1, .call [] [] (f26_broughamlaw35_great_out r2_0)), (2, .b false)], [false], [], [1, 2], [0]⟩ 3 ⟨[(1, oc (.d (.str t))), (2, oc (.ptr 0 0))], [], [(0, [zi f_0, zi f_1, .d (.sl (.pair (.int .i64) (.pair (.int .i64) .wood)) f_2)])], 1⟩ [FnOK Tryd.prog 26 (f26_broughamlaw35_great_in f_0 f_1 f_2) (f26_broughamlaw35_great_out r2_0), r2_0 = false, (decide ((((t.size : Nat) : Int) : Int) > 5000)) = false] (by kernel_rfl) ⟨(f26_broughamlaw35_great_ok n f_0 f_1 f_2 r2_0 cr2_0), b2_2, b2_e0, trivial⟩ ?_
      obtain ⟨r18_0, cr18_0, h⟩ := bindS h
      obtain ⟨r18_1, cr18_1, h⟩ := bindS h
      refine At.step hm ht ⟨[(1, .call [] [] (f28_broughamlaw35_Made_out r18_0)), (2, .call [] [] (f27_filter_Text_out r18_1))], [], [], [1, 2, 5], [0]⟩ 4 ⟨[(1, oc (.d (.str t))), (2, oc (.ptr 0 0)), (5, oc (.d (.str r18_1)))], [], [(0, [zi f_0, zi f_1, .d (.sl (.pair (.int .i64) (.pair (.int .i64) .wood)) f_2)])], 1⟩ [FnOK Tryd.prog 28 (f28_broughamlaw35_Made_in f_0 f_1 f_2) (f28_broughamlaw35_Made_out r18_0), FnOK Tryd.prog 27 (f27_filter_Text_in r18_0) (f27_filter_Text_out r18_1)] (by kernel_rfl) ⟨(f28_broughamlaw35_Made_ok n f_0 f_1 f_2 r18_0 cr18_0), (f27_filter_Text_ok n r18_0 r18_1 cr18_1), trivial⟩ ?_
      obtain ⟨r113_0, cr113_0, h⟩ := bindS h
      refine At.step hm ht ⟨[(1, .call [] [] (f21_filter_Parse_out r113_0))], [], [], [1, 2, 5, 6, 7], [0]⟩ 5 ⟨[(1, oc (.d (.str t))), (2, oc (.ptr 0 0)), (5, oc (.d (.str r18_1))), (6, oc (.d (.pt r113_0.1))), (7, oc (.d (.bool r113_0.2)))], [], [(0, [zi f_0, zi f_1, .d (.sl (.pair (.int .i64) (.pair (.int .i64) .wood)) f_2)])], 1⟩ [FnOK Tryd.prog 21 (f21_filter_Parse_in r18_1) (f21_filter_Parse_out r113_0)] (by kernel_rfl) ⟨(f21_filter_Parse_ok n r18_1 r113_0 cr113_0), trivial⟩ ?_
      rcases iteS h with ⟨b277_2, h⟩ | ⟨b277_2, h⟩
      · rcases iteS h with ⟨b277_7, h⟩ | ⟨b277_7, h⟩
        · rcases iteS h with ⟨b277_10, h⟩ | ⟨b277_10, h⟩
          · refine At.step hm ht ⟨[(2, .b true), (7, .b true), (10, .b true)], [true], [], [], []⟩ 6 ⟨[], [], [], 0⟩ [(!(r18_1.toList == (⟨#[]⟩ : ByteArray).toList)) = true, (decide ((((r18_1.size : Nat) : Int) : Int) ≤ 4096)) = true, (!r113_0.2) = true, true = true] (by kernel_rfl) ⟨b277_2, b277_7, b277_10, rfl, trivial⟩ ?_
            have h := Option.some.inj h
            subst h
            exact At.fin hm ht ⟨[], [], [], [4], []⟩ [] (by kernel_rfl) trivial
          · obtain ⟨r277_0, cr277_0, h⟩ := bindS h
            obtain ⟨r277_1, cr277_1, h⟩ := bindS h
            rcases iteS h with ⟨b277_e0, h⟩ | ⟨b277_e0, h⟩
            · refine At.step hm ht ⟨[(2, .b true), (7, .b true), (10, .b false), (12, .call [] [] (f25_broughamlaw35_Plain_out r277_0)), (14, .call [] [] (f24_broughamref35_Same_out r277_1))], [true], [], [], []⟩ 6 ⟨[], [], [], 0⟩ [(!(r18_1.toList == (⟨#[]⟩ : ByteArray).toList)) = true, (decide ((((r18_1.size : Nat) : Int) : Int) ≤ 4096)) = true, (!r113_0.2) = false, FnOK Tryd.prog 25 (f25_broughamlaw35_Plain_in r113_0.1 20) (f25_broughamlaw35_Plain_out r277_0), FnOK Tryd.prog 24 (f24_broughamref35_Same_in r277_0.1 r277_0.2.1 r277_0.2.2 f_0 f_1 f_2) (f24_broughamref35_Same_out r277_1), (!r277_1) = true] (by kernel_rfl) ⟨b277_2, b277_7, b277_10, (f25_broughamlaw35_Plain_ok n r113_0.1 20 r277_0 cr277_0), (f24_broughamref35_Same_ok n r277_0.1 r277_0.2.1 r277_0.2.2 f_0 f_1 f_2 r277_1 cr277_1), b277_e0, trivial⟩ ?_
              have h := Option.some.inj h
              subst h
              exact At.fin hm ht ⟨[], [], [], [4], []⟩ [] (by kernel_rfl) trivial
            · refine At.step hm ht ⟨[(2, .b true), (7, .b true), (10, .b false), (12, .call [] [] (f25_broughamlaw35_Plain_out r277_0)), (14, .call [] [] (f24_broughamref35_Same_out r277_1))], [false], [], [1], []⟩ 7 ⟨[(1, oc (.d (.str t)))], [], [], 0⟩ [(!(r18_1.toList == (⟨#[]⟩ : ByteArray).toList)) = true, (decide ((((r18_1.size : Nat) : Int) : Int) ≤ 4096)) = true, (!r113_0.2) = false, FnOK Tryd.prog 25 (f25_broughamlaw35_Plain_in r113_0.1 20) (f25_broughamlaw35_Plain_out r277_0), FnOK Tryd.prog 24 (f24_broughamref35_Same_in r277_0.1 r277_0.2.1 r277_0.2.2 f_0 f_1 f_2) (f24_broughamref35_Same_out r277_1), (!r277_1) = false] (by kernel_rfl) ⟨b277_2, b277_7, b277_10, (f25_broughamlaw35_Plain_ok n r113_0.1 20 r277_0 cr277_0), (f24_broughamref35_Same_ok n r277_0.1 r277_0.2.1 r277_0.2.2 f_0 f_1 f_2 r277_1 cr277_1), b277_e0, trivial⟩ ?_
              obtain ⟨r319_0, cr319_0, h⟩ := bindS h
              refine At.step hm ht ⟨[(1, .call [] [] (f21_filter_Parse_out r319_0))], [], [], [8, 9], []⟩ 8 ⟨[(8, oc (.d (.pt r319_0.1))), (9, oc (.d (.bool r319_0.2)))], [], [], 0⟩ [FnOK Tryd.prog 21 (f21_filter_Parse_in t) (f21_filter_Parse_out r319_0)] (by kernel_rfl) ⟨(f21_filter_Parse_ok n t r319_0 cr319_0), trivial⟩ ?_
              rcases iteS h with ⟨b320_e0, h⟩ | ⟨b320_e0, h⟩
              · refine At.step hm ht ⟨[], [true], [], [8], []⟩ 9 ⟨[(8, oc (.d (.pt r319_0.1)))], [], [], 0⟩ [(!r319_0.2) = true] (by kernel_rfl) ⟨b320_e0, trivial⟩ ?_
                rcases iteS h with ⟨b321_2, h⟩ | ⟨b321_2, h⟩
                · obtain ⟨r321_0, cr321_0, h⟩ := bindS h
                  have h := Option.some.inj h
                  subst h
                  exact At.fin hm ht ⟨[(2, .b true), (3, .call [] [] (f23_broughamlaw35_alive_out r321_0))], [], [], [4], []⟩ [(PT.isNil r319_0.1) = true, FnOK Tryd.prog 23 (f23_broughamlaw35_alive_in) (f23_broughamlaw35_alive_out r321_0)] (by kernel_rfl) ⟨b321_2, (f23_broughamlaw35_alive_ok n r321_0 cr321_0), trivial⟩
                · have h := Option.some.inj h
                  subst h
                  exact At.fin hm ht ⟨[(2, .b false)], [], [], [4], []⟩ [(PT.isNil r319_0.1) = false] (by kernel_rfl) ⟨b321_2, trivial⟩
              · refine At.step hm ht ⟨[], [false], [], [8], []⟩ 10 ⟨[(8, oc (.d (.pt r319_0.1)))], [], [], 0⟩ [(!r319_0.2) = false] (by kernel_rfl) ⟨b320_e0, trivial⟩ ?_
                obtain ⟨r367_0, cr367_0, h⟩ := bindS h
                refine At.step hm ht ⟨[(1, .call [] [] (f27_filter_Text_out r367_0))], [], [], [5, 8], []⟩ 11 ⟨[(5, oc (.d (.str r367_0))), (8, oc (.d (.pt r319_0.1)))], [], [], 0⟩ [FnOK Tryd.prog 27 (f27_filter_Text_in r319_0.1) (f27_filter_Text_out r367_0)] (by kernel_rfl) ⟨(f27_filter_Text_ok n r319_0.1 r367_0 cr367_0), trivial⟩ ?_
                obtain ⟨r368_0, cr368_0, h⟩ := bindS h
                refine At.step hm ht ⟨[(1, .call [] [] (f21_filter_Parse_out r368_0))], [], [], [5, 8, 10, 11], []⟩ 12 ⟨[(5, oc (.d (.str r367_0))), (8, oc (.d (.pt r319_0.1))), (10, oc (.d (.pt r368_0.1))), (11, oc (.d (.bool r368_0.2)))], [], [], 0⟩ [FnOK Tryd.prog 21 (f21_filter_Parse_in r367_0) (f21_filter_Parse_out r368_0)] (by kernel_rfl) ⟨(f21_filter_Parse_ok n r367_0 r368_0 cr368_0), trivial⟩ ?_
                rcases iteS h with ⟨b369_2, h⟩ | ⟨b369_2, h⟩
                · rcases iteS h with ⟨b369_6, h⟩ | ⟨b369_6, h⟩
                  · obtain ⟨r369_0, cr369_0, h⟩ := bindS h
                    have h := Option.some.inj h
                    subst h
                    exact At.fin hm ht ⟨[(2, .b true), (6, .b true), (18, .call [] [] (f23_broughamlaw35_alive_out r369_0))], [], [], [4], []⟩ [(!(r367_0.toList == (⟨#[]⟩ : ByteArray).toList)) = true, (decide ((((r367_0.size : Nat) : Int) : Int) > 4096)) = true, FnOK Tryd.prog 23 (f23_broughamlaw35_alive_in) (f23_broughamlaw35_alive_out r369_0)] (by kernel_rfl) ⟨b369_2, b369_6, (f23_broughamlaw35_alive_ok n r369_0 cr369_0), trivial⟩
                  · rcases iteS h with ⟨b369_8, h⟩ | ⟨b369_8, h⟩
                    · obtain ⟨r369_0, cr369_0, h⟩ := bindS h
                      obtain ⟨r369_1, cr369_1, h⟩ := bindS h
                      obtain ⟨r369_2, cr369_2, h⟩ := bindS h
                      rcases iteS h with ⟨b369_17, h⟩ | ⟨b369_17, h⟩
                      · obtain ⟨r369_3, cr369_3, h⟩ := bindS h
                        have h := Option.some.inj h
                        subst h
                        exact At.fin hm ht ⟨[(2, .b true), (6, .b false), (8, .b true), (10, .call [] [] (f25_broughamlaw35_Plain_out r369_0)), (12, .call [] [] (f25_broughamlaw35_Plain_out r369_1)), (13, .call [] [] (f24_broughamref35_Same_out r369_2)), (17, .b true), (18, .call [] [] (f23_broughamlaw35_alive_out r369_3))], [], [], [4], []⟩ [(!(r367_0.toList == (⟨#[]⟩ : ByteArray).toList)) = true, (decide ((((r367_0.size : Nat) : Int) : Int) > 4096)) = false, r368_0.2 = true, FnOK Tryd.prog 25 (f25_broughamlaw35_Plain_in r319_0.1 20) (f25_broughamlaw35_Plain_out r369_0), FnOK Tryd.prog 25 (f25_broughamlaw35_Plain_in r368_0.1 20) (f25_broughamlaw35_Plain_out r369_1), FnOK Tryd.prog 24 (f24_broughamref35_Same_in r369_0.1 r369_0.2.1 r369_0.2.2 r369_1.1 r369_1.2.1 r369_1.2.2) (f24_broughamref35_Same_out r369_2), r369_2 = true, FnOK Tryd.prog 23 (f23_broughamlaw35_alive_in) (f23_broughamlaw35_alive_out r369_3)] (by kernel_rfl) ⟨b369_2, b369_6, b369_8, (f25_broughamlaw35_Plain_ok n r319_0.1 20 r369_0 cr369_0), (f25_broughamlaw35_Plain_ok n r368_0.1 20 r369_1 cr369_1), (f24_broughamref35_Same_ok n r369_0.1 r369_0.2.1 r369_0.2.2 r369_1.1 r369_1.2.1 r369_1.2.2 r369_2 cr369_2), b369_17, (f23_broughamlaw35_alive_ok n r369_3 cr369_3), trivial⟩
                      · have h := Option.some.inj h
                        subst h
                        exact At.fin hm ht ⟨[(2, .b true), (6, .b false), (8, .b true), (10, .call [] [] (f25_broughamlaw35_Plain_out r369_0)), (12, .call [] [] (f25_broughamlaw35_Plain_out r369_1)), (13, .call [] [] (f24_broughamref35_Same_out r369_2)), (17, .b false)], [], [], [4], []⟩ [(!(r367_0.toList == (⟨#[]⟩ : ByteArray).toList)) = true, (decide ((((r367_0.size : Nat) : Int) : Int) > 4096)) = false, r368_0.2 = true, FnOK Tryd.prog 25 (f25_broughamlaw35_Plain_in r319_0.1 20) (f25_broughamlaw35_Plain_out r369_0), FnOK Tryd.prog 25 (f25_broughamlaw35_Plain_in r368_0.1 20) (f25_broughamlaw35_Plain_out r369_1), FnOK Tryd.prog 24 (f24_broughamref35_Same_in r369_0.1 r369_0.2.1 r369_0.2.2 r369_1.1 r369_1.2.1 r369_1.2.2) (f24_broughamref35_Same_out r369_2), r369_2 = false] (by kernel_rfl) ⟨b369_2, b369_6, b369_8, (f25_broughamlaw35_Plain_ok n r319_0.1 20 r369_0 cr369_0), (f25_broughamlaw35_Plain_ok n r368_0.1 20 r369_1 cr369_1), (f24_broughamref35_Same_ok n r369_0.1 r369_0.2.1 r369_0.2.2 r369_1.1 r369_1.2.1 r369_1.2.2 r369_2 cr369_2), b369_17, trivial⟩
                    · have h := Option.some.inj h
                      subst h
                      exact At.fin hm ht ⟨[(2, .b true), (6, .b false), (8, .b false)], [], [], [4], []⟩ [(!(r367_0.toList == (⟨#[]⟩ : ByteArray).toList)) = true, (decide ((((r367_0.size : Nat) : Int) : Int) > 4096)) = false, r368_0.2 = false] (by kernel_rfl) ⟨b369_2, b369_6, b369_8, trivial⟩
                · have h := Option.some.inj h
                  subst h
                  exact At.fin hm ht ⟨[(2, .b false)], [], [], [4], []⟩ [(!(r367_0.toList == (⟨#[]⟩ : ByteArray).toList)) = false] (by kernel_rfl) ⟨b369_2, trivial⟩
        · refine At.step hm ht ⟨[(2, .b true), (7, .b false)], [false], [], [1], []⟩ 7 ⟨[(1, oc (.d (.str t)))], [], [], 0⟩ [(!(r18_1.toList == (⟨#[]⟩ : ByteArray).toList)) = true, (decide ((((r18_1.size : Nat) : Int) : Int) ≤ 4096)) = false, false = false] (by kernel_rfl) ⟨b277_2, b277_7, rfl, trivial⟩ ?_
          obtain ⟨r370_0, cr370_0, h⟩ := bindS h
          refine At.step hm ht ⟨[(1, .call [] [] (f21_filter_Parse_out r370_0))], [], [], [8, 9], []⟩ 8 ⟨[(8, oc (.d (.pt r370_0.1))), (9, oc (.d (.bool r370_0.2)))], [], [], 0⟩ [FnOK Tryd.prog 21 (f21_filter_Parse_in t) (f21_filter_Parse_out r370_0)] (by kernel_rfl) ⟨(f21_filter_Parse_ok n t r370_0 cr370_0), trivial⟩ ?_
          rcases iteS h with ⟨b371_e0, h⟩ | ⟨b371_e0, h⟩
          · refine At.step hm ht ⟨[], [true], [], [8], []⟩ 9 ⟨[(8, oc (.d (.pt r370_0.1)))], [], [], 0⟩ [(!r370_0.2) = true] (by kernel_rfl) ⟨b371_e0, trivial⟩ ?_
            rcases iteS h with ⟨b372_2, h⟩ | ⟨b372_2, h⟩
            · obtain ⟨r372_0, cr372_0, h⟩ := bindS h
              have h := Option.some.inj h
              subst h
              exact At.fin hm ht ⟨[(2, .b true), (3, .call [] [] (f23_broughamlaw35_alive_out r372_0))], [], [], [4], []⟩ [(PT.isNil r370_0.1) = true, FnOK Tryd.prog 23 (f23_broughamlaw35_alive_in) (f23_broughamlaw35_alive_out r372_0)] (by kernel_rfl) ⟨b372_2, (f23_broughamlaw35_alive_ok n r372_0 cr372_0), trivial⟩
            · have h := Option.some.inj h
              subst h
              exact At.fin hm ht ⟨[(2, .b false)], [], [], [4], []⟩ [(PT.isNil r370_0.1) = false] (by kernel_rfl) ⟨b372_2, trivial⟩
          · refine At.step hm ht ⟨[], [false], [], [8], []⟩ 10 ⟨[(8, oc (.d (.pt r370_0.1)))], [], [], 0⟩ [(!r370_0.2) = false] (by kernel_rfl) ⟨b371_e0, trivial⟩ ?_
            obtain ⟨r373_0, cr373_0, h⟩ := bindS h
            refine At.step hm ht ⟨[(1, .call [] [] (f27_filter_Text_out r373_0))], [], [], [5, 8], []⟩ 11 ⟨[(5, oc (.d (.str r373_0))), (8, oc (.d (.pt r370_0.1)))], [], [], 0⟩ [FnOK Tryd.prog 27 (f27_filter_Text_in r370_0.1) (f27_filter_Text_out r373_0)] (by kernel_rfl) ⟨(f27_filter_Text_ok n r370_0.1 r373_0 cr373_0), trivial⟩ ?_
            obtain ⟨r374_0, cr374_0, h⟩ := bindS h
            refine At.step hm ht ⟨[(1, .call [] [] (f21_filter_Parse_out r374_0))], [], [], [5, 8, 10, 11], []⟩ 12 ⟨[(5, oc (.d (.str r373_0))), (8, oc (.d (.pt r370_0.1))), (10, oc (.d (.pt r374_0.1))), (11, oc (.d (.bool r374_0.2)))], [], [], 0⟩ [FnOK Tryd.prog 21 (f21_filter_Parse_in r373_0) (f21_filter_Parse_out r374_0)] (by kernel_rfl) ⟨(f21_filter_Parse_ok n r373_0 r374_0 cr374_0), trivial⟩ ?_
            rcases iteS h with ⟨b375_2, h⟩ | ⟨b375_2, h⟩
            · rcases iteS h with ⟨b375_6, h⟩ | ⟨b375_6, h⟩
              · obtain ⟨r375_0, cr375_0, h⟩ := bindS h
                have h := Option.some.inj h
                subst h
                exact At.fin hm ht ⟨[(2, .b true), (6, .b true), (18, .call [] [] (f23_broughamlaw35_alive_out r375_0))], [], [], [4], []⟩ [(!(r373_0.toList == (⟨#[]⟩ : ByteArray).toList)) = true, (decide ((((r373_0.size : Nat) : Int) : Int) > 4096)) = true, FnOK Tryd.prog 23 (f23_broughamlaw35_alive_in) (f23_broughamlaw35_alive_out r375_0)] (by kernel_rfl) ⟨b375_2, b375_6, (f23_broughamlaw35_alive_ok n r375_0 cr375_0), trivial⟩
              · rcases iteS h with ⟨b375_8, h⟩ | ⟨b375_8, h⟩
                · obtain ⟨r375_0, cr375_0, h⟩ := bindS h
                  obtain ⟨r375_1, cr375_1, h⟩ := bindS h
                  obtain ⟨r375_2, cr375_2, h⟩ := bindS h
                  rcases iteS h with ⟨b375_17, h⟩ | ⟨b375_17, h⟩
                  · obtain ⟨r375_3, cr375_3, h⟩ := bindS h
                    have h := Option.some.inj h
                    subst h
                    exact At.fin hm ht ⟨[(2, .b true), (6, .b false), (8, .b true), (10, .call [] [] (f25_broughamlaw35_Plain_out r375_0)), (12, .call [] [] (f25_broughamlaw35_Plain_out r375_1)), (13, .call [] [] (f24_broughamref35_Same_out r375_2)), (17, .b true), (18, .call [] [] (f23_broughamlaw35_alive_out r375_3))], [], [], [4], []⟩ [(!(r373_0.toList == (⟨#[]⟩ : ByteArray).toList)) = true, (decide ((((r373_0.size : Nat) : Int) : Int) > 4096)) = false, r374_0.2 = true, FnOK Tryd.prog 25 (f25_broughamlaw35_Plain_in r370_0.1 20) (f25_broughamlaw35_Plain_out r375_0), FnOK Tryd.prog 25 (f25_broughamlaw35_Plain_in r374_0.1 20) (f25_broughamlaw35_Plain_out r375_1), FnOK Tryd.prog 24 (f24_broughamref35_Same_in r375_0.1 r375_0.2.1 r375_0.2.2 r375_1.1 r375_1.2.1 r375_1.2.2) (f24_broughamref35_Same_out r375_2), r375_2 = true, FnOK Tryd.prog 23 (f23_broughamlaw35_alive_in) (f23_broughamlaw35_alive_out r375_3)] (by kernel_rfl) ⟨b375_2, b375_6, b375_8, (f25_broughamlaw35_Plain_ok n r370_0.1 20 r375_0 cr375_0), (f25_broughamlaw35_Plain_ok n r374_0.1 20 r375_1 cr375_1), (f24_broughamref35_Same_ok n r375_0.1 r375_0.2.1 r375_0.2.2 r375_1.1 r375_1.2.1 r375_1.2.2 r375_2 cr375_2), b375_17, (f23_broughamlaw35_alive_ok n r375_3 cr375_3), trivial⟩
                  · have h := Option.some.inj h
                    subst h
                    exact At.fin hm ht ⟨[(2, .b true), (6, .b false), (8, .b true), (10, .call [] [] (f25_broughamlaw35_Plain_out r375_0)), (12, .call [] [] (f25_broughamlaw35_Plain_out r375_1)), (13, .call [] [] (f24_broughamref35_Same_out r375_2)), (17, .b false)], [], [], [4], []⟩ [(!(r373_0.toList == (⟨#[]⟩ : ByteArray).toList)) = true, (decide ((((r373_0.size : Nat) : Int) : Int) > 4096)) = false, r374_0.2 = true, FnOK Tryd.prog 25 (f25_broughamlaw35_Plain_in r370_0.1 20) (f25_broughamlaw35_Plain_out r375_0), FnOK Tryd.prog 25 (f25_broughamlaw35_Plain_in r374_0.1 20) (f25_broughamlaw35_Plain_out r375_1), FnOK Tryd.prog 24 (f24_broughamref35_Same_in r375_0.1 r375_0.2.1 r375_0.2.2 r375_1.1 r375_1.2.1 r375_1.2.2) (f24_broughamref35_Same_out r375_2), r375_2 = false] (by kernel_rfl) ⟨b375_2, b375_6, b375_8, (f25_broughamlaw35_Plain_ok n r370_0.1 20 r375_0 cr375_0), (f25_broughamlaw35_Plain_ok n r374_0.1 20 r375_1 cr375_1), (f24_broughamref35_Same_ok n r375_0.1 r375_0.2.1 r375_0.2.2 r375_1.1 r375_1.2.1 r375_1.2.2 r375_2 cr375_2), b375_17, trivial⟩
                · have h := Option.some.inj h
                  subst h
                  exact At.fin hm ht ⟨[(2, .b true), (6, .b false), (8, .b false)], [], [], [4], []⟩ [(!(r373_0.toList == (⟨#[]⟩ : ByteArray).toList)) = true, (decide ((((r373_0.size : Nat) : Int) : Int) > 4096)) = false, r374_0.2 = false] (by kernel_rfl) ⟨b375_2, b375_6, b375_8, trivial⟩
            · have h := Option.some.inj h
              subst h
              exact At.fin hm ht ⟨[(2, .b false)], [], [], [4], []⟩ [(!(r373_0.toList == (⟨#[]⟩ : ByteArray).toList)) = false] (by kernel_rfl) ⟨b375_2, trivial⟩
      · refine At.step hm ht ⟨[(2, .b false)], [false], [], [1], []⟩ 7 ⟨[(1, oc (.d (.str t)))], [], [], 0⟩ [(!(r18_1.toList == (⟨#[]⟩ : ByteArray).toList)) = false, false = false] (by kernel_rfl) ⟨b277_2, rfl, trivial⟩ ?_
        obtain ⟨r376_0, cr376_0, h⟩ := bindS h
        refine At.step hm ht ⟨[(1, .call [] [] (f21_filter_Parse_out r376_0))], [], [], [8, 9], []⟩ 8 ⟨[(8, oc (.d (.pt r376_0.1))), (9, oc (.d (.bool r376_0.2)))], [], [], 0⟩ [FnOK Tryd.prog 21 (f21_filter_Parse_in t) (f21_filter_Parse_out r376_0)] (by kernel_rfl) ⟨(f21_filter_Parse_ok n t r376_0 cr376_0), trivial⟩ ?_
        rcases iteS h with ⟨b377_e0, h⟩ | ⟨b377_e0, h⟩
        · refine At.step hm ht ⟨[], [true], [], [8], []⟩ 9 ⟨[(8, oc (.d (.pt r376_0.1)))], [], [], 0⟩ [(!r376_0.2) = true] (by kernel_rfl) ⟨b377_e0, trivial⟩ ?_
          rcases iteS h with ⟨b378_2, h⟩ | ⟨b378_2, h⟩
          · obtain ⟨r378_0, cr378_0, h⟩ := bindS h
            have h := Option.some.inj h
            subst h
            exact At.fin hm ht ⟨[(2, .b true), (3, .call [] [] (f23_broughamlaw35_alive_out r378_0))], [], [], [4], []⟩ [(PT.isNil r376_0.1) = true, FnOK Tryd.prog 23 (f23_broughamlaw35_alive_in) (f23_broughamlaw35_alive_out r378_0)] (by kernel_rfl) ⟨b378_2, (f23_broughamlaw35_alive_ok n r378_0 cr378_0), trivial⟩
          · have h := Option.some.inj h
            subst h
            exact At.fin hm ht ⟨[(2, .b false)], [], [], [4], []⟩ [(PT.isNil r376_0.1) = false] (by kernel_rfl) ⟨b378_2, trivial⟩
        · refine At.step hm ht ⟨[], [false], [], [8], []⟩ 10 ⟨[(8, oc (.d (.pt r376_0.1)))], [], [], 0⟩ [(!r376_0.2) = false] (by kernel_rfl) ⟨b377_e0, trivial⟩ ?_
          obtain ⟨r379_0, cr379_0, h⟩ := bindS h
          refine At.step hm ht ⟨[(1, .call [] [] (f27_filter_Text_out r379_0))], [], [], [5, 8], []⟩ 11 ⟨[(5, oc (.d (.str r379_0))), (8, oc (.d (.pt r376_0.1)))], [], [], 0⟩ [FnOK Tryd.prog 27 (f27_filter_Text_in r376_0.1) (f27_filter_Text_out r379_0)] (by kernel_rfl) ⟨(f27_filter_Text_ok n r376_0.1 r379_0 cr379_0), trivial⟩ ?_
          obtain ⟨r380_0, cr380_0, h⟩ := bindS h
          refine At.step hm ht ⟨[(1, .call [] [] (f21_filter_Parse_out r380_0))], [], [], [5, 8, 10, 11], []⟩ 12 ⟨[(5, oc (.d (.str r379_0))), (8, oc (.d (.pt r376_0.1))), (10, oc (.d (.pt r380_0.1))), (11, oc (.d (.bool r380_0.2)))], [], [], 0⟩ [FnOK Tryd.prog 21 (f21_filter_Parse_in r379_0) (f21_filter_Parse_out r380_0)] (by kernel_rfl) ⟨(f21_filter_Parse_ok n r379_0 r380_0 cr380_0), trivial⟩ ?_
          rcases iteS h with ⟨b381_2, h⟩ | ⟨b381_2, h⟩
          · rcases iteS h with ⟨b381_6, h⟩ | ⟨b381_6, h⟩
            · obtain ⟨r381_0, cr381_0, h⟩ := bindS h
              have h := Option.some.inj h
              subst h
              exact At.fin hm ht ⟨[(2, .b true), (6, .b true), (18, .call [] [] (f23_broughamlaw35_alive_out r381_0))], [], [], [4], []⟩ [(!(r379_0.toList == (⟨#[]⟩ : ByteArray).toList)) = true, (decide ((((r379_0.size : Nat) : Int) : Int) > 4096)) = true, FnOK Tryd.prog 23 (f23_broughamlaw35_alive_in) (f23_broughamlaw35_alive_out r381_0)] (by kernel_rfl) ⟨b381_2, b381_6, (f23_broughamlaw35_alive_ok n r381_0 cr381_0), trivial⟩
            · rcases iteS h with ⟨b381_8, h⟩ | ⟨b381_8, h⟩
              · obtain ⟨r381_0, cr381_0, h⟩ := bindS h
                obtain ⟨r381_1, cr381_1, h⟩ := bindS h
                obtain ⟨r381_2, cr381_2, h⟩ := bindS h
                rcases iteS h with ⟨b381_17, h⟩ | ⟨b381_17, h⟩
                · obtain ⟨r381_3, cr381_3, h⟩ := bindS h
                  have h := Option.some.inj h
                  subst h
                  exact At.fin hm ht ⟨[(2, .b true), (6, .b false), (8, .b true), (10, .call [] [] (f25_broughamlaw35_Plain_out r381_0)), (12, .call [] [] (f25_broughamlaw35_Plain_out r381_1)), (13, .call [] [] (f24_broughamref35_Same_out r381_2)), (17, .b true), (18, .call [] [] (f23_broughamlaw35_alive_out r381_3))], [], [], [4], []⟩ [(!(r379_0.toList == (⟨#[]⟩ : ByteArray).toList)) = true, (decide ((((r379_0.size : Nat) : Int) : Int) > 4096)) = false, r380_0.2 = true, FnOK Tryd.prog 25 (f25_broughamlaw35_Plain_in r376_0.1 20) (f25_broughamlaw35_Plain_out r381_0), FnOK Tryd.prog 25 (f25_broughamlaw35_Plain_in r380_0.1 20) (f25_broughamlaw35_Plain_out r381_1), FnOK Tryd.prog 24 (f24_broughamref35_Same_in r381_0.1 r381_0.2.1 r381_0.2.2 r381_1.1 r381_1.2.1 r381_1.2.2) (f24_broughamref35_Same_out r381_2), r381_2 = true, FnOK Tryd.prog 23 (f23_broughamlaw35_alive_in) (f23_broughamlaw35_alive_out r381_3)] (by kernel_rfl) ⟨b381_2, b381_6, b381_8, (f25_broughamlaw35_Plain_ok n r376_0.1 20 r381_0 cr381_0), (f25_broughamlaw35_Plain_ok n r380_0.1 20 r381_1 cr381_1), (f24_broughamref35_Same_ok n r381_0.1 r381_0.2.1 r381_0.2.2 r381_1.1 r381_1.2.1 r381_1.2.2 r381_2 cr381_2), b381_17, (f23_broughamlaw35_alive_ok n r381_3 cr381_3), trivial⟩
                · have h := Option.some.inj h
                  subst h
                  exact At.fin hm ht ⟨[(2, .b true), (6, .b false), (8, .b true), (10, .call [] [] (f25_broughamlaw35_Plain_out r381_0)), (12, .call [] [] (f25_broughamlaw35_Plain_out r381_1)), (13, .call [] [] (f24_broughamref35_Same_out r381_2)), (17, .b false)], [], [], [4], []⟩ [(!(r379_0.toList == (⟨#[]⟩ : ByteArray).toList)) = true, (decide ((((r379_0.size : Nat) : Int) : Int) > 4096)) = false, r380_0.2 = true, FnOK Tryd.prog 25 (f25_broughamlaw35_Plain_in r376_0.1 20) (f25_broughamlaw35_Plain_out r381_0), FnOK Tryd.prog 25 (f25_broughamlaw35_Plain_in r380_0.1 20) (f25_broughamlaw35_Plain_out r381_1), FnOK Tryd.prog 24 (f24_broughamref35_Same_in r381_0.1 r381_0.2.1 r381_0.2.2 r381_1.1 r381_1.2.1 r381_1.2.2) (f24_broughamref35_Same_out r381_2), r381_2 = false] (by kernel_rfl) ⟨b381_2, b381_6, b381_8, (f25_broughamlaw35_Plain_ok n r376_0.1 20 r381_0 cr381_0), (f25_broughamlaw35_Plain_ok n r380_0.1 20 r381_1 cr381_1), (f24_broughamref35_Same_ok n r381_0.1 r381_0.2.1 r381_0.2.2 r381_1.1 r381_1.2.1 r381_1.2.2 r381_2 cr381_2), b381_17, trivial⟩
              · have h := Option.some.inj h
                subst h
                exact At.fin hm ht ⟨[(2, .b true), (6, .b false), (8, .b false)], [], [], [4], []⟩ [(!(r379_0.toList == (⟨#[]⟩ : ByteArray).toList)) = true, (decide ((((r379_0.size : Nat) : Int) : Int) > 4096)) = false, r380_0.2 = false] (by kernel_rfl) ⟨b381_2, b381_6, b381_8, trivial⟩
          · have h := Option.some.inj h
            subst h
            exact At.fin hm ht ⟨[(2, .b false)], [], [], [4], []⟩ [(!(r379_0.toList == (⟨#[]⟩ : ByteArray).toList)) = false] (by kernel_rfl) ⟨b381_2, trivial⟩
end Go.Proofs.YtakamchmiakicaaDoorF35b
