/- What the functions compute, and that they do: printed by a program of this session (zgen.py), proved by Zed. -/
import Derived.Test.YtakamchmiakicaaDoorProg
import Derived.Test.YtakamchmiakicaaDoorZedYa
import Derived.Test.YtakamchmiakicaaDoorLeaf
import Derived.Test.YtakamchmiakicaaDoorDfr
namespace Go.Proofs.YtakamchmiakicaaDoorF35d
open Go Zed Go.Proofs.YtakamchmiakicaaDoorLeaf Go.Proofs.YtakamchmiakicaaDoorDfr
set_option maxRecDepth 100000
set_option linter.unusedVariables false
def tab : Tab := [(3, ⟨.int .i64, 1, 8, [.int .i64 0], some (.int .i64), none⟩), (4, ⟨.bool, 1, 1, [.bool false], some .bool, none⟩), (5, ⟨.int .u8, 1, 1, [.int .u8 0], some (.int .u8), none⟩), (9, ⟨.str, 1, 16, [.str (⟨#[]⟩ : ByteArray)], some .str, none⟩), (23, ⟨.int .i64, 1, 8, [.int .i64 0], some (.int .i64), none⟩), (31, ⟨.slice 9, 1, 24, [.sl .unit []], some (.slice .str), none⟩), (37, ⟨.ptr 68, 1, 8, [.nilP], some .tree, none⟩), (40, ⟨.slice 42, 1, 24, [.sl .unit []], some .wood, none⟩), (42, ⟨.struct [(0, 3), (1, 3), (2, 40)], 3, 40, [.int .i64 0, .int .i64 0, .sl .unit []], some (.pair (.int .i64) (.pair (.int .i64) .wood)), some [(0, 3), (1, 3), (2, 40)]⟩), (51, ⟨.int .u16, 1, 2, [.int .u16 0], some (.int .u16), none⟩), (52, ⟨.int .u32, 1, 4, [.int .u32 0], some (.int .u32), none⟩), (53, ⟨.slice 97, 1, 24, [.sl .unit []], some (.slice (.pair (.int .u8) (.slice (.int .u8)))), none⟩), (54, ⟨.slice 5, 1, 24, [.sl .unit []], some (.slice (.int .u8)), none⟩), (56, ⟨.struct [(0, 51), (1, 51), (2, 52), (3, 52), (4, 5), (5, 53), (6, 54)], 7, 64, [.int .u16 0, .int .u16 0, .int .u32 0, .int .u32 0, .int .u8 0, .sl .unit [], .sl .unit []], some (.pair (.int .u16) (.pair (.int .u16) (.pair (.int .u32) (.pair (.int .u32) (.pair (.int .u8) (.pair (.slice (.pair (.int .u8) (.slice (.int .u8)))) (.slice (.int .u8)))))))), some [(0, 51), (1, 51), (2, 52), (3, 52), (4, 5), (5, 53), (6, 54)]⟩), (66, ⟨.int .i64, 1, 8, [.int .i64 0], some (.int .i64), none⟩), (68, ⟨.struct [(0, 66), (1, 3), (2, 37), (3, 37)], 4, 32, [.int .i64 0, .int .i64 0, .nilP, .nilP], some (.pair (.int .i64) (.pair (.int .i64) (.pair .tree .tree))), some [(0, 66), (1, 3), (2, 37), (3, 37)]⟩), (91, ⟨.ptr 93, 1, 8, [.nilP], none, none⟩), (93, ⟨.struct [(0, 31), (1, 3), (2, 4)], 3, 40, [.sl .unit [], .int .i64 0, .bool false], some (.pair (.slice .str) (.pair (.int .i64) .bool)), some [(0, 31), (1, 3), (2, 4)]⟩), (97, ⟨.struct [(0, 5), (1, 54)], 2, 32, [.int .u8 0, .sl .unit []], some (.pair (.int .u8) (.slice (.int .u8))), some [(0, 5), (1, 54)]⟩), (101, ⟨.slice 37, 1, 24, [.sl .unit []], some (.slice .tree), none⟩)]
theorem ht : TabOk Go.Proofs.Tryd.prog tab := tabOk_of (ts := [3, 4, 5, 9, 23, 31, 37, 40, 42, 51, 52, 53, 54, 56, 66, 68, 91, 93, 97, 101]) (by kernel_rfl)
theorem hm : Go.Proofs.Tryd.prog.follows .mixedOrders = true := by kernel_rfl
abbrev zi (n : Int) : Z1 := .d (.int .i64 n)
abbrev oc (z : Z1) : Z := .one (.c z)
/-! brougham/broughamlaw35.parts -/
def f37_broughamlaw35_parts_in (f_0 : Int) (f_1 : Int) (f_2 : List (Int × Int × List FT)) (most : Int) : Inn := ⟨[.agg [zi f_0, zi f_1, .d (.sl (.pair (.int .i64) (.pair (.int .i64) .wood)) f_2)], .c (zi most)], [], [], 0⟩
def f37_broughamlaw35_parts_out (r : Int) : Out := ⟨oc (zi r), [], [], 0⟩
def f37_broughamlaw35_parts_L5 (rc_f37_broughamlaw35_parts : Int → Int → (List (Int × Int × List FT)) → Int → Option (Int)) : Nat → Int → Int → Int → Int → Int → (List (Int × Int × List FT)) → Option (Int)
  | 0, _, _, _, _, _, _ => none
  | n + 1, most, n_, i, f_0, f_1, f_2 =>
    if (decide ((i : Int) < ((f_2.length : Nat) : Int))) = true then
      if (decide ((n_ : Int) ≤ most)) = true then
        if (0 : Int) ≤ i ∧ i < (((f_2).length : Nat) : Int) then
        (rc_f37_broughamlaw35_parts ((f_2.getD i.toNat (0, (0, []))).1) (((f_2.getD i.toNat (0, (0, []))).2).1) ((((f_2.getD i.toNat (0, (0, []))).2).2).map FT.un) most).bind fun r9_1 =>
        f37_broughamlaw35_parts_L5 rc_f37_broughamlaw35_parts n most (IntKind.wrap .i64 (n_ + r9_1)) (IntKind.wrap .i64 (i + 1)) f_0 f_1 f_2
        else none
      else
        some (n_)
    else
      some (n_)
def f37_broughamlaw35_parts_L5_k (e : Int) (o : Out) : Prop := At Tryd.prog Tryd.f37 0 8 ⟨[(5, oc (zi e))], [], [], 0⟩ o
theorem f37_broughamlaw35_parts_L5_ok (rc_f37_broughamlaw35_parts : Int → Int → (List (Int × Int × List FT)) → Int → Option (Int)) (hrc_f37_broughamlaw35_parts : ∀ (f_0 : Int) (f_1 : Int) (f_2 : List (Int × Int × List FT)) (most : Int) (r : Int) (h : rc_f37_broughamlaw35_parts f_0 f_1 f_2 most = some r), FnOK Tryd.prog 37 (f37_broughamlaw35_parts_in f_0 f_1 f_2 most) (f37_broughamlaw35_parts_out r)) (n : Nat) : ∀ (most : Int) (n_ : Int) (i : Int) (f_0 : Int) (f_1 : Int) (f_2 : List (Int × Int × List FT)) (w : Int) (h : f37_broughamlaw35_parts_L5 rc_f37_broughamlaw35_parts n most n_ i f_0 f_1 f_2 = some w) (o : Out) (hk : f37_broughamlaw35_parts_L5_k w o), At Tryd.prog Tryd.f37 0 5 ⟨[(1, oc (zi most)), (2, oc (.ptr 0 0)), (5, oc (zi n_)), (6, oc (zi i))], [], [(0, [zi f_0, zi f_1, .d (.sl (.pair (.int .i64) (.pair (.int .i64) .wood)) f_2)])], 1⟩ o := by
  induction n with
  | zero => intro most n_ i f_0 f_1 f_2 w h; rw [f37_broughamlaw35_parts_L5] at h; cases h
  | succ n ih =>
    intro most n_ i f_0 f_1 f_2 w h o hk
    rw [f37_broughamlaw35_parts_L5] at h
    rcases iteS h with ⟨b8_5, h⟩ | ⟨b8_5, h⟩
    · rcases iteS h with ⟨b8_e0, h⟩ | ⟨b8_e0, h⟩
      · refine At.step hm ht ⟨[(5, .b true)], [true], [], [1, 2, 5, 6], [0]⟩ 7 ⟨[(1, oc (zi most)), (2, oc (.ptr 0 0)), (5, oc (zi n_)), (6, oc (zi i))], [], [(0, [zi f_0, zi f_1, .d (.sl (.pair (.int .i64) (.pair (.int .i64) .wood)) f_2)])], 1⟩ [(decide ((i : Int) < ((f_2.length : Nat) : Int))) = true, (decide ((n_ : Int) ≤ most)) = true] (by kernel_rfl) ⟨b8_5, b8_e0, trivial⟩ ?_
        obtain ⟨g9_0, h⟩ := ifS h
        obtain ⟨r9_1, cr9_1, h⟩ := bindS h
        refine At.step hm ht ⟨[(7, .call [] [] (f37_broughamlaw35_parts_out r9_1))], [], [], [1, 2, 5, 6], [0]⟩ 6 ⟨[(1, oc (zi most)), (2, oc (.ptr 0 0)), (5, oc (zi (IntKind.wrap .i64 (n_ + r9_1)))), (6, oc (zi i))], [], [(0, [zi f_0, zi f_1, .d (.sl (.pair (.int .i64) (.pair (.int .i64) .wood)) f_2)])], 1⟩ [(0 : Int) ≤ i ∧ i < (((f_2).length : Nat) : Int), FnOK Tryd.prog 37 (f37_broughamlaw35_parts_in ((f_2.getD i.toNat (0, (0, []))).1) (((f_2.getD i.toNat (0, (0, []))).2).1) ((((f_2.getD i.toNat (0, (0, []))).2).2).map FT.un) most) (f37_broughamlaw35_parts_out r9_1)] (by kernel_rfl) ⟨g9_0, (hrc_f37_broughamlaw35_parts ((f_2.getD i.toNat (0, (0, []))).1) (((f_2.getD i.toNat (0, (0, []))).2).1) ((((f_2.getD i.toNat (0, (0, []))).2).2).map FT.un) most r9_1 cr9_1), trivial⟩ ?_
        refine At.step hm ht ⟨[], [], [], [1, 2, 5, 6], [0]⟩ 5 ⟨[(1, oc (zi most)), (2, oc (.ptr 0 0)), (5, oc (zi (IntKind.wrap .i64 (n_ + r9_1)))), (6, oc (zi (IntKind.wrap .i64 (i + 1))))], [], [(0, [zi f_0, zi f_1, .d (.sl (.pair (.int .i64) (.pair (.int .i64) .wood)) f_2)])], 1⟩ [] (by kernel_rfl) trivial ?_
        exact ih most (IntKind.wrap .i64 (n_ + r9_1)) (IntKind.wrap .i64 (i + 1)) f_0 f_1 f_2 w h o hk
      · refine At.step hm ht ⟨[(5, .b true)], [false], [], [5], []⟩ 8 ⟨[(5, oc (zi n_))], [], [], 0⟩ [(decide ((i : Int) < ((f_2.length : Nat) : Int))) = true, (decide ((n_ : Int) ≤ most)) = false] (by kernel_rfl) ⟨b8_5, b8_e0, trivial⟩ ?_
        have h := Option.some.inj h
        subst h
        exact hk
    · refine At.step hm ht ⟨[(5, .b false)], [false], [], [5], []⟩ 8 ⟨[(5, oc (zi n_))], [], [], 0⟩ [(decide ((i : Int) < ((f_2.length : Nat) : Int))) = false, false = false] (by kernel_rfl) ⟨b8_5, rfl, trivial⟩ ?_
      have h := Option.some.inj h
      subst h
      exact hk
def f37_broughamlaw35_parts : Nat → Int → Int → (List (Int × Int × List FT)) → Int → Option (Int)
  | 0, _, _, _, _ => none
  | n + 1, f_0, f_1, f_2, most =>
    if (decide ((((f_2.length : Nat) : Int) : Int) > 2)) = true then
      some (IntKind.wrap .i64 (most + 1))
    else
      (f37_broughamlaw35_parts_L5 (f37_broughamlaw35_parts n) n most 1 0 f_0 f_1 f_2).bind fun w11 =>
      some w11
theorem f37_broughamlaw35_parts_ok (n : Nat) : ∀ (f_0 : Int) (f_1 : Int) (f_2 : List (Int × Int × List FT)) (most : Int) (r : Int) (h : f37_broughamlaw35_parts n f_0 f_1 f_2 most = some r), FnOK Tryd.prog 37 (f37_broughamlaw35_parts_in f_0 f_1 f_2 most) (f37_broughamlaw35_parts_out r) := by
  induction n with
  | zero => intro f_0 f_1 f_2 most r h; rw [f37_broughamlaw35_parts] at h; cases h
  | succ n ih =>
    intro f_0 f_1 f_2 most r h
    rw [f37_broughamlaw35_parts] at h
    refine At.fn (r := 0) Tryd.func37 rfl (by kernel_rfl) rfl rfl (by kernel_rfl) ?_
    show At Tryd.prog Tryd.f37 0 0 ⟨[(0, .one (.agg [zi f_0, zi f_1, .d (.sl (.pair (.int .i64) (.pair (.int .i64) .wood)) f_2)])), (1, oc (zi most))], [], [], 0⟩ _
    refine At.step hm ht ⟨[], [], [], [1, 2], [0]⟩ 1 ⟨[(1, oc (zi most)), (2, oc (.ptr 0 0))], [], [(0, [zi f_0, zi f_1, .d (.sl (.pair (.int .i64) (.pair (.int .i64) .wood)) f_2)])], 1⟩ [] (by kernel_rfl) trivial ?_
    refine At.step hm ht ⟨[], [], [], [1, 2, 5], [0]⟩ 2 ⟨[(1, oc (zi most)), (2, oc (.ptr 0 0)), (5, oc (zi 1))], [], [(0, [zi f_0, zi f_1, .d (.sl (.pair (.int .i64) (.pair (.int .i64) .wood)) f_2)])], 1⟩ [] (by kernel_rfl) trivial ?_
    rcases iteS h with ⟨b5_e0, h⟩ | ⟨b5_e0, h⟩
    · refine At.step hm ht ⟨[], [true], [], [1], []⟩ 3 ⟨[(1, oc (zi most))], [], [], 0⟩ [(decide ((((f_2.length : Nat) : Int) : Int) > 2)) = true] (by kernel_rfl) ⟨b5_e0, trivial⟩ ?_
      have h := Option.some.inj h
      subst h
      exact At.fin hm ht ⟨[], [], [], [4], []⟩ [] (by kernel_rfl) trivial
    · refine At.step hm ht ⟨[], [false], [], [1, 2, 5], [0]⟩ 4 ⟨[(1, oc (zi most)), (2, oc (.ptr 0 0)), (5, oc (zi 1))], [], [(0, [zi f_0, zi f_1, .d (.sl (.pair (.int .i64) (.pair (.int .i64) .wood)) f_2)])], 1⟩ [(decide ((((f_2.length : Nat) : Int) : Int) > 2)) = false] (by kernel_rfl) ⟨b5_e0, trivial⟩ ?_
      refine At.step hm ht ⟨[], [], [], [1, 2, 5, 6], [0]⟩ 5 ⟨[(1, oc (zi most)), (2, oc (.ptr 0 0)), (5, oc (zi 1)), (6, oc (zi 0))], [], [(0, [zi f_0, zi f_1, .d (.sl (.pair (.int .i64) (.pair (.int .i64) .wood)) f_2)])], 1⟩ [] (by kernel_rfl) trivial ?_
      obtain ⟨w11, cw11, h⟩ := bindS h
      refine f37_broughamlaw35_parts_L5_ok (f37_broughamlaw35_parts n) ih n most 1 0 f_0 f_1 f_2 w11 cw11 _ ?_
      show At Tryd.prog Tryd.f37 0 8 ⟨[(5, oc (zi w11))], [], [], 0⟩ _
      have h := Option.some.inj h
      subst h
      exact At.fin hm ht ⟨[], [], [], [4], []⟩ [] (by kernel_rfl) trivial
/-! brougham/broughamref35.depth -/
def f57_broughamref35_depth_in (f_0 : Int) (f_1 : Int) (f_2 : List (Int × Int × List FT)) : Inn := ⟨[.agg [zi f_0, zi f_1, .d (.sl (.pair (.int .i64) (.pair (.int .i64) .wood)) f_2)]], [], [], 0⟩
def f57_broughamref35_depth_out (r : Int) : Out := ⟨oc (zi r), [], [], 0⟩
def f57_broughamref35_depth_L3 (rc_f57_broughamref35_depth : Int → Int → (List (Int × Int × List FT)) → Option (Int)) : Nat → Int → Int → Int → Int → (List (Int × Int × List FT)) → Option (Int)
  | 0, _, _, _, _, _ => none
  | n + 1, n_, i, f_0, f_1, f_2 =>
    if (decide ((i : Int) < ((f_2.length : Nat) : Int))) = true then
      if (0 : Int) ≤ i ∧ i < (((f_2).length : Nat) : Int) then
      (rc_f57_broughamref35_depth ((f_2.getD i.toNat (0, (0, []))).1) (((f_2.getD i.toNat (0, (0, []))).2).1) ((((f_2.getD i.toNat (0, (0, []))).2).2).map FT.un)).bind fun r30_1 =>
      if (decide ((r30_1 : Int) > n_)) = true then
        f57_broughamref35_depth_L3 rc_f57_broughamref35_depth n r30_1 (IntKind.wrap .i64 (i + 1)) f_0 f_1 f_2
      else
        f57_broughamref35_depth_L3 rc_f57_broughamref35_depth n n_ (IntKind.wrap .i64 (i + 1)) f_0 f_1 f_2
      else none
    else
      some (n_)
def f57_broughamref35_depth_L3_k (e : Int) (o : Out) : Prop := At Tryd.prog Tryd.f57 0 8 ⟨[(3, oc (zi e))], [], [], 0⟩ o
theorem f57_broughamref35_depth_L3_ok (rc_f57_broughamref35_depth : Int → Int → (List (Int × Int × List FT)) → Option (Int)) (hrc_f57_broughamref35_depth : ∀ (f_0 : Int) (f_1 : Int) (f_2 : List (Int × Int × List FT)) (r : Int) (h : rc_f57_broughamref35_depth f_0 f_1 f_2 = some r), FnOK Tryd.prog 57 (f57_broughamref35_depth_in f_0 f_1 f_2) (f57_broughamref35_depth_out r)) (n : Nat) : ∀ (n_ : Int) (i : Int) (f_0 : Int) (f_1 : Int) (f_2 : List (Int × Int × List FT)) (w : Int) (h : f57_broughamref35_depth_L3 rc_f57_broughamref35_depth n n_ i f_0 f_1 f_2 = some w) (o : Out) (hk : f57_broughamref35_depth_L3_k w o), At Tryd.prog Tryd.f57 0 3 ⟨[(1, oc (.ptr 0 0)), (3, oc (zi n_)), (4, oc (zi i))], [], [(0, [zi f_0, zi f_1, .d (.sl (.pair (.int .i64) (.pair (.int .i64) .wood)) f_2)])], 1⟩ o := by
  induction n with
  | zero => intro n_ i f_0 f_1 f_2 w h; rw [f57_broughamref35_depth_L3] at h; cases h
  | succ n ih =>
    intro n_ i f_0 f_1 f_2 w h o hk
    rw [f57_broughamref35_depth_L3] at h
    rcases iteS h with ⟨b29_e0, h⟩ | ⟨b29_e0, h⟩
    · refine At.step hm ht ⟨[], [true], [], [1, 3, 4], [0]⟩ 5 ⟨[(1, oc (.ptr 0 0)), (3, oc (zi n_)), (4, oc (zi i))], [], [(0, [zi f_0, zi f_1, .d (.sl (.pair (.int .i64) (.pair (.int .i64) .wood)) f_2)])], 1⟩ [(decide ((i : Int) < ((f_2.length : Nat) : Int))) = true] (by kernel_rfl) ⟨b29_e0, trivial⟩ ?_
      obtain ⟨g30_0, h⟩ := ifS h
      obtain ⟨r30_1, cr30_1, h⟩ := bindS h
      refine At.step hm ht ⟨[(5, .call [] [] (f57_broughamref35_depth_out r30_1))], [], [], [1, 3, 4, 5], [0]⟩ 6 ⟨[(1, oc (.ptr 0 0)), (3, oc (zi n_)), (4, oc (zi i)), (5, oc (zi r30_1))], [], [(0, [zi f_0, zi f_1, .d (.sl (.pair (.int .i64) (.pair (.int .i64) .wood)) f_2)])], 1⟩ [(0 : Int) ≤ i ∧ i < (((f_2).length : Nat) : Int), FnOK Tryd.prog 57 (f57_broughamref35_depth_in ((f_2.getD i.toNat (0, (0, []))).1) (((f_2.getD i.toNat (0, (0, []))).2).1) ((((f_2.getD i.toNat (0, (0, []))).2).2).map FT.un)) (f57_broughamref35_depth_out r30_1)] (by kernel_rfl) ⟨g30_0, (hrc_f57_broughamref35_depth ((f_2.getD i.toNat (0, (0, []))).1) (((f_2.getD i.toNat (0, (0, []))).2).1) ((((f_2.getD i.toNat (0, (0, []))).2).2).map FT.un) r30_1 cr30_1), trivial⟩ ?_
      rcases iteS h with ⟨b31_e0, h⟩ | ⟨b31_e0, h⟩
      · refine At.step hm ht ⟨[], [true], [], [1, 4, 5], [0]⟩ 7 ⟨[(1, oc (.ptr 0 0)), (4, oc (zi i)), (5, oc (zi r30_1))], [], [(0, [zi f_0, zi f_1, .d (.sl (.pair (.int .i64) (.pair (.int .i64) .wood)) f_2)])], 1⟩ [(decide ((r30_1 : Int) > n_)) = true] (by kernel_rfl) ⟨b31_e0, trivial⟩ ?_
        refine At.step hm ht ⟨[], [], [], [1, 3, 4], [0]⟩ 4 ⟨[(1, oc (.ptr 0 0)), (3, oc (zi r30_1)), (4, oc (zi i))], [], [(0, [zi f_0, zi f_1, .d (.sl (.pair (.int .i64) (.pair (.int .i64) .wood)) f_2)])], 1⟩ [] (by kernel_rfl) trivial ?_
        refine At.step hm ht ⟨[], [], [], [1, 3, 4], [0]⟩ 3 ⟨[(1, oc (.ptr 0 0)), (3, oc (zi r30_1)), (4, oc (zi (IntKind.wrap .i64 (i + 1))))], [], [(0, [zi f_0, zi f_1, .d (.sl (.pair (.int .i64) (.pair (.int .i64) .wood)) f_2)])], 1⟩ [] (by kernel_rfl) trivial ?_
        exact ih r30_1 (IntKind.wrap .i64 (i + 1)) f_0 f_1 f_2 w h o hk
      · refine At.step hm ht ⟨[], [false], [], [1, 3, 4], [0]⟩ 4 ⟨[(1, oc (.ptr 0 0)), (3, oc (zi n_)), (4, oc (zi i))], [], [(0, [zi f_0, zi f_1, .d (.sl (.pair (.int .i64) (.pair (.int .i64) .wood)) f_2)])], 1⟩ [(decide ((r30_1 : Int) > n_)) = false] (by kernel_rfl) ⟨b31_e0, trivial⟩ ?_
        refine At.step hm ht ⟨[], [], [], [1, 3, 4], [0]⟩ 3 ⟨[(1, oc (.ptr 0 0)), (3, oc (zi n_)), (4, oc (zi (IntKind.wrap .i64 (i + 1))))], [], [(0, [zi f_0, zi f_1, .d (.sl (.pair (.int .i64) (.pair (.int .i64) .wood)) f_2)])], 1⟩ [] (by kernel_rfl) trivial ?_
        exact ih n_ (IntKind.wrap .i64 (i + 1)) f_0 f_1 f_2 w h o hk
    · refine At.step hm ht ⟨[], [false], [], [3], []⟩ 8 ⟨[(3, oc (zi n_))], [], [], 0⟩ [(decide ((i : Int) < ((f_2.length : Nat) : Int))) = false] (by kernel_rfl) ⟨b29_e0, trivial⟩ ?_
      have h := Option.some.inj h
      subst h
      exact hk
def f57_broughamref35_depth : Nat → Int → Int → (List (Int × Int × List FT)) → Option (Int)
  | 0, _, _, _ => none
  | n + 1, f_0, f_1, f_2 =>
    (f57_broughamref35_depth_L3 (f57_broughamref35_depth n) n 0 0 f_0 f_1 f_2).bind fun w35 =>
    some (IntKind.wrap .i64 (w35 + 1))
theorem f57_broughamref35_depth_ok (n : Nat) : ∀ (f_0 : Int) (f_1 : Int) (f_2 : List (Int × Int × List FT)) (r : Int) (h : f57_broughamref35_depth n f_0 f_1 f_2 = some r), FnOK Tryd.prog 57 (f57_broughamref35_depth_in f_0 f_1 f_2) (f57_broughamref35_depth_out r) := by
  induction n with
  | zero => intro f_0 f_1 f_2 r h; rw [f57_broughamref35_depth] at h; cases h
  | succ n ih =>
    intro f_0 f_1 f_2 r h
    rw [f57_broughamref35_depth] at h
    refine At.fn (r := 0) Tryd.func57 rfl (by kernel_rfl) rfl rfl (by kernel_rfl) ?_
    show At Tryd.prog Tryd.f57 0 0 ⟨[(0, .one (.agg [zi f_0, zi f_1, .d (.sl (.pair (.int .i64) (.pair (.int .i64) .wood)) f_2)]))], [], [], 0⟩ _
    refine At.step hm ht ⟨[], [], [], [1], [0]⟩ 1 ⟨[(1, oc (.ptr 0 0))], [], [(0, [zi f_0, zi f_1, .d (.sl (.pair (.int .i64) (.pair (.int .i64) .wood)) f_2)])], 1⟩ [] (by kernel_rfl) trivial ?_
    refine At.step hm ht ⟨[], [], [], [1, 3], [0]⟩ 2 ⟨[(1, oc (.ptr 0 0)), (3, oc (zi 0))], [], [(0, [zi f_0, zi f_1, .d (.sl (.pair (.int .i64) (.pair (.int .i64) .wood)) f_2)])], 1⟩ [] (by kernel_rfl) trivial ?_
    refine At.step hm ht ⟨[], [], [], [1, 3, 4], [0]⟩ 3 ⟨[(1, oc (.ptr 0 0)), (3, oc (zi 0)), (4, oc (zi 0))], [], [(0, [zi f_0, zi f_1, .d (.sl (.pair (.int .i64) (.pair (.int .i64) .wood)) f_2)])], 1⟩ [] (by kernel_rfl) trivial ?_
    obtain ⟨w35, cw35, h⟩ := bindS h
    refine f57_broughamref35_depth_L3_ok (f57_broughamref35_depth n) ih n 0 0 f_0 f_1 f_2 w35 cw35 _ ?_
    show At Tryd.prog Tryd.f57 0 8 ⟨[(3, oc (zi w35))], [], [], 0⟩ _
    have h := Option.some.inj h
    subst h
    exact At.fin hm ht ⟨[], [], [], [2], []⟩ [] (by kernel_rfl) trivial
/-! brougham/broughamref35.own -/
def f88_broughamref35_own_in (f_0 : Int) (f_1 : Int) (f_2 : List (Int × Int × List FT)) : Inn := ⟨[.agg [zi f_0, zi f_1, .d (.sl (.pair (.int .i64) (.pair (.int .i64) .wood)) f_2)]], [], [], 0⟩
def f88_broughamref35_own_out (r : Bool) : Out := ⟨oc (.d (.bool r)), [], [], 0⟩
def f88_broughamref35_own_L15 : Nat → Int → Int → Int → (List (Int × Int × List FT)) → Option (Bool)
  | 0, _, _, _, _ => none
  | n + 1, t21, f_0, f_1, f_2 =>
    if ((t21 : Int) == 6) = true then
      if (decide ((f_1 : Int) ≥ 1)) = true then
        some ((decide ((f_1 : Int) ≤ 255)))
      else
        some (false)
    else
      if ((t21 : Int) == 7) = true then
        if (decide ((f_1 : Int) ≥ 0)) = true then
          some ((decide ((f_1 : Int) ≤ 2147483647)))
        else
          some (false)
      else
        if ((f_1 : Int) == 0) = true then
          if (decide ((f_0 : Int) ≥ 1)) = true then
            some ((decide ((f_0 : Int) ≤ 11)))
          else
            some (false)
        else
          some (false)
def f88_broughamref35_own_L15_k (e : Bool) (o : Out) : Prop := o = f88_broughamref35_own_out e
theorem f88_broughamref35_own_L15_ok (n : Nat) : ∀ (t21 : Int) (f_0 : Int) (f_1 : Int) (f_2 : List (Int × Int × List FT)) (w : Bool) (h : f88_broughamref35_own_L15 n t21 f_0 f_1 f_2 = some w) (o : Out) (hk : f88_broughamref35_own_L15_k w o), At Tryd.prog Tryd.f88 0 15 ⟨[(1, oc (.ptr 0 0)), (21, oc (zi t21))], [], [(0, [zi f_0, zi f_1, .d (.sl (.pair (.int .i64) (.pair (.int .i64) .wood)) f_2)])], 1⟩ o := by
  induction n with
  | zero => intro t21 f_0 f_1 f_2 w h; rw [f88_broughamref35_own_L15] at h; cases h
  | succ n ih =>
    intro t21 f_0 f_1 f_2 w h o hk
    rw [f88_broughamref35_own_L15] at h
    rcases iteS h with ⟨b58_e0, h⟩ | ⟨b58_e0, h⟩
    · refine At.step hm ht ⟨[], [true], [], [1], [0]⟩ 16 ⟨[(1, oc (.ptr 0 0))], [], [(0, [zi f_0, zi f_1, .d (.sl (.pair (.int .i64) (.pair (.int .i64) .wood)) f_2)])], 1⟩ [((t21 : Int) == 6) = true] (by kernel_rfl) ⟨b58_e0, trivial⟩ ?_
      rcases iteS h with ⟨b59_3, h⟩ | ⟨b59_3, h⟩
      · have h := Option.some.inj h
        subst h
        have hk : o = f88_broughamref35_own_out (decide ((f_1 : Int) ≤ 255)) := hk
        subst hk
        exact At.fin hm ht ⟨[(3, .b true)], [], [], [2], []⟩ [(decide ((f_1 : Int) ≥ 1)) = true] (by kernel_rfl) ⟨b59_3, trivial⟩
      · have h := Option.some.inj h
        subst h
        have hk : o = f88_broughamref35_own_out false := hk
        subst hk
        exact At.fin hm ht ⟨[(3, .b false)], [], [], [2], []⟩ [(decide ((f_1 : Int) ≥ 1)) = false] (by kernel_rfl) ⟨b59_3, trivial⟩
    · refine At.step hm ht ⟨[], [false], [], [1, 21], [0]⟩ 17 ⟨[(1, oc (.ptr 0 0)), (21, oc (zi t21))], [], [(0, [zi f_0, zi f_1, .d (.sl (.pair (.int .i64) (.pair (.int .i64) .wood)) f_2)])], 1⟩ [((t21 : Int) == 6) = false] (by kernel_rfl) ⟨b58_e0, trivial⟩ ?_
      rcases iteS h with ⟨b60_e0, h⟩ | ⟨b60_e0, h⟩
      · refine At.step hm ht ⟨[], [true], [], [1], [0]⟩ 18 ⟨[(1, oc (.ptr 0 0))], [], [(0, [zi f_0, zi f_1, .d (.sl (.pair (.int .i64) (.pair (.int .i64) .wood)) f_2)])], 1⟩ [((t21 : Int) == 7) = true] (by kernel_rfl) ⟨b60_e0, trivial⟩ ?_
        rcases iteS h with ⟨b61_3, h⟩ | ⟨b61_3, h⟩
        · have h := Option.some.inj h
          subst h
          have hk : o = f88_broughamref35_own_out (decide ((f_1 : Int) ≤ 2147483647)) := hk
          subst hk
          exact At.fin hm ht ⟨[(3, .b true)], [], [], [2], []⟩ [(decide ((f_1 : Int) ≥ 0)) = true] (by kernel_rfl) ⟨b61_3, trivial⟩
        · have h := Option.some.inj h
          subst h
          have hk : o = f88_broughamref35_own_out false := hk
          subst hk
          exact At.fin hm ht ⟨[(3, .b false)], [], [], [2], []⟩ [(decide ((f_1 : Int) ≥ 0)) = false] (by kernel_rfl) ⟨b61_3, trivial⟩
      · refine At.step hm ht ⟨[], [false], [], [1], [0]⟩ 19 ⟨[(1, oc (.ptr 0 0))], [], [(0, [zi f_0, zi f_1, .d (.sl (.pair (.int .i64) (.pair (.int .i64) .wood)) f_2)])], 1⟩ [((t21 : Int) == 7) = false] (by kernel_rfl) ⟨b60_e0, trivial⟩ ?_
        rcases iteS h with ⟨b62_3, h⟩ | ⟨b62_3, h⟩
        · rcases iteS h with ⟨b62_8, h⟩ | ⟨b62_8, h⟩
          · have h := Option.some.inj h
            subst h
            have hk : o = f88_broughamref35_own_out (decide ((f_0 : Int) ≤ 11)) := hk
            subst hk
            exact At.fin hm ht ⟨[(3, .b true), (8, .b true)], [], [], [2], []⟩ [((f_1 : Int) == 0) = true, (decide ((f_0 : Int) ≥ 1)) = true] (by kernel_rfl) ⟨b62_3, b62_8, trivial⟩
          · have h := Option.some.inj h
            subst h
            have hk : o = f88_broughamref35_own_out false := hk
            subst hk
            exact At.fin hm ht ⟨[(3, .b true), (8, .b false)], [], [], [2], []⟩ [((f_1 : Int) == 0) = true, (decide ((f_0 : Int) ≥ 1)) = false] (by kernel_rfl) ⟨b62_3, b62_8, trivial⟩
        · have h := Option.some.inj h
          subst h
          have hk : o = f88_broughamref35_own_out false := hk
          subst hk
          exact At.fin hm ht ⟨[(3, .b false)], [], [], [2], []⟩ [((f_1 : Int) == 0) = false] (by kernel_rfl) ⟨b62_3, trivial⟩
def f88_broughamref35_own_L6 : Nat → Int → Int → Int → (List (Int × Int × List FT)) → Option (Bool)
  | 0, _, _, _, _ => none
  | n + 1, below, f_0, f_1, f_2 =>
    if ((((f_2.length : Nat) : Int) : Int) != below) = true then
      some (false)
    else
      if ((f_0 : Int) == 2) = true then
        if ((f_1 : Int) == 1) = true then
          some (true)
        else
          if ((f_1 : Int) == 2) = true then
            some (true)
          else
            some (((f_1 : Int) == 4))
      else
        if ((f_0 : Int) == 3) = true then
          if ((f_0 : Int) == 3) = true then
            if (decide ((f_1 : Int) ≥ 0)) = true then
              some ((decide ((f_1 : Int) ≤ 65535)))
            else
              some (false)
          else
            (f88_broughamref35_own_L15 n f_0 f_0 f_1 f_2).bind fun w63 =>
            some (w63)
        else
          if ((f_0 : Int) == 4) = true then
            if ((f_0 : Int) == 4) = true then
              if (decide ((f_1 : Int) ≥ 0)) = true then
                some ((decide ((f_1 : Int) ≤ 65535)))
              else
                some (false)
            else
              (f88_broughamref35_own_L15 n f_0 f_0 f_1 f_2).bind fun w67 =>
              some (w67)
          else
            if ((f_0 : Int) == 5) = true then
              if (decide ((f_1 : Int) ≥ 0)) = true then
                some ((decide ((f_1 : Int) ≤ 65535)))
              else
                some (false)
            else
              (f88_broughamref35_own_L15 n f_0 f_0 f_1 f_2).bind fun w71 =>
              some (w71)
def f88_broughamref35_own_L6_k (e : Bool) (o : Out) : Prop := o = f88_broughamref35_own_out e
theorem f88_broughamref35_own_L6_ok (n : Nat) : ∀ (below : Int) (f_0 : Int) (f_1 : Int) (f_2 : List (Int × Int × List FT)) (w : Bool) (h : f88_broughamref35_own_L6 n below f_0 f_1 f_2 = some w) (o : Out) (hk : f88_broughamref35_own_L6_k w o), At Tryd.prog Tryd.f88 0 6 ⟨[(1, oc (.ptr 0 0)), (3, oc (zi below))], [], [(0, [zi f_0, zi f_1, .d (.sl (.pair (.int .i64) (.pair (.int .i64) .wood)) f_2)])], 1⟩ o := by
  induction n with
  | zero => intro below f_0 f_1 f_2 w h; rw [f88_broughamref35_own_L6] at h; cases h
  | succ n ih =>
    intro below f_0 f_1 f_2 w h o hk
    rw [f88_broughamref35_own_L6] at h
    rcases iteS h with ⟨b51_e0, h⟩ | ⟨b51_e0, h⟩
    · refine At.step hm ht ⟨[], [true], [], [], []⟩ 7 ⟨[], [], [], 0⟩ [((((f_2.length : Nat) : Int) : Int) != below) = true] (by kernel_rfl) ⟨b51_e0, trivial⟩ ?_
      have h := Option.some.inj h
      subst h
      have hk : o = f88_broughamref35_own_out false := hk
      subst hk
      exact At.fin hm ht ⟨[], [], [], [2], []⟩ [] (by kernel_rfl) trivial
    · refine At.step hm ht ⟨[], [false], [], [1], [0]⟩ 8 ⟨[(1, oc (.ptr 0 0))], [], [(0, [zi f_0, zi f_1, .d (.sl (.pair (.int .i64) (.pair (.int .i64) .wood)) f_2)])], 1⟩ [((((f_2.length : Nat) : Int) : Int) != below) = false] (by kernel_rfl) ⟨b51_e0, trivial⟩ ?_
      refine At.step hm ht ⟨[], [], [], [1, 21], [0]⟩ 9 ⟨[(1, oc (.ptr 0 0)), (21, oc (zi f_0))], [], [(0, [zi f_0, zi f_1, .d (.sl (.pair (.int .i64) (.pair (.int .i64) .wood)) f_2)])], 1⟩ [] (by kernel_rfl) trivial ?_
      rcases iteS h with ⟨b54_e0, h⟩ | ⟨b54_e0, h⟩
      · refine At.step hm ht ⟨[], [true], [], [1], [0]⟩ 10 ⟨[(1, oc (.ptr 0 0))], [], [(0, [zi f_0, zi f_1, .d (.sl (.pair (.int .i64) (.pair (.int .i64) .wood)) f_2)])], 1⟩ [((f_0 : Int) == 2) = true] (by kernel_rfl) ⟨b54_e0, trivial⟩ ?_
        rcases iteS h with ⟨b55_3, h⟩ | ⟨b55_3, h⟩
        · have h := Option.some.inj h
          subst h
          have hk : o = f88_broughamref35_own_out true := hk
          subst hk
          exact At.fin hm ht ⟨[(3, .b true)], [], [], [2], []⟩ [((f_1 : Int) == 1) = true] (by kernel_rfl) ⟨b55_3, trivial⟩
        · rcases iteS h with ⟨b55_8, h⟩ | ⟨b55_8, h⟩
          · have h := Option.some.inj h
            subst h
            have hk : o = f88_broughamref35_own_out true := hk
            subst hk
            exact At.fin hm ht ⟨[(3, .b false), (8, .b true)], [], [], [2], []⟩ [((f_1 : Int) == 1) = false, ((f_1 : Int) == 2) = true] (by kernel_rfl) ⟨b55_3, b55_8, trivial⟩
          · have h := Option.some.inj h
            subst h
            have hk : o = f88_broughamref35_own_out ((f_1 : Int) == 4) := hk
            subst hk
            exact At.fin hm ht ⟨[(3, .b false), (8, .b false)], [], [], [2], []⟩ [((f_1 : Int) == 1) = false, ((f_1 : Int) == 2) = false] (by kernel_rfl) ⟨b55_3, b55_8, trivial⟩
      · refine At.step hm ht ⟨[], [false], [], [1, 21], [0]⟩ 11 ⟨[(1, oc (.ptr 0 0)), (21, oc (zi f_0))], [], [(0, [zi f_0, zi f_1, .d (.sl (.pair (.int .i64) (.pair (.int .i64) .wood)) f_2)])], 1⟩ [((f_0 : Int) == 2) = false] (by kernel_rfl) ⟨b54_e0, trivial⟩ ?_
        rcases iteS h with ⟨b56_e0, h⟩ | ⟨b56_e0, h⟩
        · rcases iteS h with ⟨b56_e1, h⟩ | ⟨b56_e1, h⟩
          · refine At.step hm ht ⟨[], [true, true], [], [1], [0]⟩ 14 ⟨[(1, oc (.ptr 0 0))], [], [(0, [zi f_0, zi f_1, .d (.sl (.pair (.int .i64) (.pair (.int .i64) .wood)) f_2)])], 1⟩ [((f_0 : Int) == 3) = true, ((f_0 : Int) == 3) = true] (by kernel_rfl) ⟨b56_e0, b56_e1, trivial⟩ ?_
            rcases iteS h with ⟨b57_3, h⟩ | ⟨b57_3, h⟩
            · have h := Option.some.inj h
              subst h
              have hk : o = f88_broughamref35_own_out (decide ((f_1 : Int) ≤ 65535)) := hk
              subst hk
              exact At.fin hm ht ⟨[(3, .b true)], [], [], [2], []⟩ [(decide ((f_1 : Int) ≥ 0)) = true] (by kernel_rfl) ⟨b57_3, trivial⟩
            · have h := Option.some.inj h
              subst h
              have hk : o = f88_broughamref35_own_out false := hk
              subst hk
              exact At.fin hm ht ⟨[(3, .b false)], [], [], [2], []⟩ [(decide ((f_1 : Int) ≥ 0)) = false] (by kernel_rfl) ⟨b57_3, trivial⟩
          · refine At.step hm ht ⟨[], [true, false], [], [1, 21], [0]⟩ 15 ⟨[(1, oc (.ptr 0 0)), (21, oc (zi f_0))], [], [(0, [zi f_0, zi f_1, .d (.sl (.pair (.int .i64) (.pair (.int .i64) .wood)) f_2)])], 1⟩ [((f_0 : Int) == 3) = true, ((f_0 : Int) == 3) = false] (by kernel_rfl) ⟨b56_e0, b56_e1, trivial⟩ ?_
            obtain ⟨w63, cw63, h⟩ := bindS h
            refine f88_broughamref35_own_L15_ok n f_0 f_0 f_1 f_2 w63 cw63 _ ?_
            have h := Option.some.inj h
            subst h
            exact hk
        · refine At.step hm ht ⟨[], [false], [], [1, 21], [0]⟩ 12 ⟨[(1, oc (.ptr 0 0)), (21, oc (zi f_0))], [], [(0, [zi f_0, zi f_1, .d (.sl (.pair (.int .i64) (.pair (.int .i64) .wood)) f_2)])], 1⟩ [((f_0 : Int) == 3) = false] (by kernel_rfl) ⟨b56_e0, trivial⟩ ?_
          rcases iteS h with ⟨b65_e0, h⟩ | ⟨b65_e0, h⟩
          · rcases iteS h with ⟨b65_e1, h⟩ | ⟨b65_e1, h⟩
            · refine At.step hm ht ⟨[], [true, true], [], [1], [0]⟩ 14 ⟨[(1, oc (.ptr 0 0))], [], [(0, [zi f_0, zi f_1, .d (.sl (.pair (.int .i64) (.pair (.int .i64) .wood)) f_2)])], 1⟩ [((f_0 : Int) == 4) = true, ((f_0 : Int) == 4) = true] (by kernel_rfl) ⟨b65_e0, b65_e1, trivial⟩ ?_
              rcases iteS h with ⟨b66_3, h⟩ | ⟨b66_3, h⟩
              · have h := Option.some.inj h
                subst h
                have hk : o = f88_broughamref35_own_out (decide ((f_1 : Int) ≤ 65535)) := hk
                subst hk
                exact At.fin hm ht ⟨[(3, .b true)], [], [], [2], []⟩ [(decide ((f_1 : Int) ≥ 0)) = true] (by kernel_rfl) ⟨b66_3, trivial⟩
              · have h := Option.some.inj h
                subst h
                have hk : o = f88_broughamref35_own_out false := hk
                subst hk
                exact At.fin hm ht ⟨[(3, .b false)], [], [], [2], []⟩ [(decide ((f_1 : Int) ≥ 0)) = false] (by kernel_rfl) ⟨b66_3, trivial⟩
            · refine At.step hm ht ⟨[], [true, false], [], [1, 21], [0]⟩ 15 ⟨[(1, oc (.ptr 0 0)), (21, oc (zi f_0))], [], [(0, [zi f_0, zi f_1, .d (.sl (.pair (.int .i64) (.pair (.int .i64) .wood)) f_2)])], 1⟩ [((f_0 : Int) == 4) = true, ((f_0 : Int) == 4) = false] (by kernel_rfl) ⟨b65_e0, b65_e1, trivial⟩ ?_
              obtain ⟨w67, cw67, h⟩ := bindS h
              refine f88_broughamref35_own_L15_ok n f_0 f_0 f_1 f_2 w67 cw67 _ ?_
              have h := Option.some.inj h
              subst h
              exact hk
          · refine At.step hm ht ⟨[], [false], [], [1, 21], [0]⟩ 13 ⟨[(1, oc (.ptr 0 0)), (21, oc (zi f_0))], [], [(0, [zi f_0, zi f_1, .d (.sl (.pair (.int .i64) (.pair (.int .i64) .wood)) f_2)])], 1⟩ [((f_0 : Int) == 4) = false] (by kernel_rfl) ⟨b65_e0, trivial⟩ ?_
            rcases iteS h with ⟨b69_e0, h⟩ | ⟨b69_e0, h⟩
            · refine At.step hm ht ⟨[], [true], [], [1], [0]⟩ 14 ⟨[(1, oc (.ptr 0 0))], [], [(0, [zi f_0, zi f_1, .d (.sl (.pair (.int .i64) (.pair (.int .i64) .wood)) f_2)])], 1⟩ [((f_0 : Int) == 5) = true] (by kernel_rfl) ⟨b69_e0, trivial⟩ ?_
              rcases iteS h with ⟨b70_3, h⟩ | ⟨b70_3, h⟩
              · have h := Option.some.inj h
                subst h
                have hk : o = f88_broughamref35_own_out (decide ((f_1 : Int) ≤ 65535)) := hk
                subst hk
                exact At.fin hm ht ⟨[(3, .b true)], [], [], [2], []⟩ [(decide ((f_1 : Int) ≥ 0)) = true] (by kernel_rfl) ⟨b70_3, trivial⟩
              · have h := Option.some.inj h
                subst h
                have hk : o = f88_broughamref35_own_out false := hk
                subst hk
                exact At.fin hm ht ⟨[(3, .b false)], [], [], [2], []⟩ [(decide ((f_1 : Int) ≥ 0)) = false] (by kernel_rfl) ⟨b70_3, trivial⟩
            · refine At.step hm ht ⟨[], [false], [], [1, 21], [0]⟩ 15 ⟨[(1, oc (.ptr 0 0)), (21, oc (zi f_0))], [], [(0, [zi f_0, zi f_1, .d (.sl (.pair (.int .i64) (.pair (.int .i64) .wood)) f_2)])], 1⟩ [((f_0 : Int) == 5) = false] (by kernel_rfl) ⟨b69_e0, trivial⟩ ?_
              obtain ⟨w71, cw71, h⟩ := bindS h
              refine f88_broughamref35_own_L15_ok n f_0 f_0 f_1 f_2 w71 cw71 _ ?_
              have h := Option.some.inj h
              subst h
              exact hk
def f88_broughamref35_own (n : Nat) (f_0 : Int) (f_1 : Int) (f_2 : List (Int × Int × List FT)) : Option (Bool) :=
  if ((f_0 : Int) == 8) = true then
    if ((f_0 : Int) == 9) = true then
      (f88_broughamref35_own_L6 n 2 f_0 f_1 f_2).bind fun w73 =>
      some w73
    else
      if ((f_0 : Int) == 10) = true then
        (f88_broughamref35_own_L6 n 2 f_0 f_1 f_2).bind fun w76 =>
        some w76
      else
        (f88_broughamref35_own_L6 n 1 f_0 f_1 f_2).bind fun w78 =>
        some w78
  else
    if ((f_0 : Int) == 9) = true then
      (f88_broughamref35_own_L6 n 2 f_0 f_1 f_2).bind fun w82 =>
      some w82
    else
      if ((f_0 : Int) == 10) = true then
        (f88_broughamref35_own_L6 n 2 f_0 f_1 f_2).bind fun w85 =>
        some w85
      else
        (f88_broughamref35_own_L6 n 0 f_0 f_1 f_2).bind fun w87 =>
        some w87
theorem f88_broughamref35_own_ok (n : Nat) (f_0 : Int) (f_1 : Int) (f_2 : List (Int × Int × List FT)) (r : Bool) (h : f88_broughamref35_own n f_0 f_1 f_2 = some r) : FnOK Tryd.prog 88 (f88_broughamref35_own_in f_0 f_1 f_2) (f88_broughamref35_own_out r) := by
  unfold f88_broughamref35_own at h
  refine At.fn (r := 0) Tryd.func88 rfl (by kernel_rfl) rfl rfl (by kernel_rfl) ?_
  show At Tryd.prog Tryd.f88 0 0 ⟨[(0, .one (.agg [zi f_0, zi f_1, .d (.sl (.pair (.int .i64) (.pair (.int .i64) .wood)) f_2)]))], [], [], 0⟩ _
  refine At.step hm ht ⟨[], [], [], [1], [0]⟩ 1 ⟨[(1, oc (.ptr 0 0))], [], [(0, [zi f_0, zi f_1, .d (.sl (.pair (.int .i64) (.pair (.int .i64) .wood)) f_2)])], 1⟩ [] (by kernel_rfl) trivial ?_
  refine At.step hm ht ⟨[], [], [], [1, 3], [0]⟩ 2 ⟨[(1, oc (.ptr 0 0)), (3, oc (zi 0))], [], [(0, [zi f_0, zi f_1, .d (.sl (.pair (.int .i64) (.pair (.int .i64) .wood)) f_2)])], 1⟩ [] (by kernel_rfl) trivial ?_
  rcases iteS h with ⟨b47_e0, h⟩ | ⟨b47_e0, h⟩
  · refine At.step hm ht ⟨[], [true], [], [1], [0]⟩ 3 ⟨[(1, oc (.ptr 0 0))], [], [(0, [zi f_0, zi f_1, .d (.sl (.pair (.int .i64) (.pair (.int .i64) .wood)) f_2)])], 1⟩ [((f_0 : Int) == 8) = true] (by kernel_rfl) ⟨b47_e0, trivial⟩ ?_
    refine At.step hm ht ⟨[], [], [], [1, 3], [0]⟩ 4 ⟨[(1, oc (.ptr 0 0)), (3, oc (zi 1))], [], [(0, [zi f_0, zi f_1, .d (.sl (.pair (.int .i64) (.pair (.int .i64) .wood)) f_2)])], 1⟩ [] (by kernel_rfl) trivial ?_
    rcases iteS h with ⟨b49_3, h⟩ | ⟨b49_3, h⟩
    · refine At.step hm ht ⟨[(3, .b true)], [true], [], [1], [0]⟩ 5 ⟨[(1, oc (.ptr 0 0))], [], [(0, [zi f_0, zi f_1, .d (.sl (.pair (.int .i64) (.pair (.int .i64) .wood)) f_2)])], 1⟩ [((f_0 : Int) == 9) = true, true = true] (by kernel_rfl) ⟨b49_3, rfl, trivial⟩ ?_
      refine At.step hm ht ⟨[], [], [], [1, 3], [0]⟩ 6 ⟨[(1, oc (.ptr 0 0)), (3, oc (zi 2))], [], [(0, [zi f_0, zi f_1, .d (.sl (.pair (.int .i64) (.pair (.int .i64) .wood)) f_2)])], 1⟩ [] (by kernel_rfl) trivial ?_
      obtain ⟨w73, cw73, h⟩ := bindS h
      refine f88_broughamref35_own_L6_ok n 2 f_0 f_1 f_2 w73 cw73 _ ?_
      have h := Option.some.inj h
      subst h
      rfl
    · rcases iteS h with ⟨b49_e0, h⟩ | ⟨b49_e0, h⟩
      · refine At.step hm ht ⟨[(3, .b false)], [true], [], [1], [0]⟩ 5 ⟨[(1, oc (.ptr 0 0))], [], [(0, [zi f_0, zi f_1, .d (.sl (.pair (.int .i64) (.pair (.int .i64) .wood)) f_2)])], 1⟩ [((f_0 : Int) == 9) = false, ((f_0 : Int) == 10) = true] (by kernel_rfl) ⟨b49_3, b49_e0, trivial⟩ ?_
        refine At.step hm ht ⟨[], [], [], [1, 3], [0]⟩ 6 ⟨[(1, oc (.ptr 0 0)), (3, oc (zi 2))], [], [(0, [zi f_0, zi f_1, .d (.sl (.pair (.int .i64) (.pair (.int .i64) .wood)) f_2)])], 1⟩ [] (by kernel_rfl) trivial ?_
        obtain ⟨w76, cw76, h⟩ := bindS h
        refine f88_broughamref35_own_L6_ok n 2 f_0 f_1 f_2 w76 cw76 _ ?_
        have h := Option.some.inj h
        subst h
        rfl
      · refine At.step hm ht ⟨[(3, .b false)], [false], [], [1, 3], [0]⟩ 6 ⟨[(1, oc (.ptr 0 0)), (3, oc (zi 1))], [], [(0, [zi f_0, zi f_1, .d (.sl (.pair (.int .i64) (.pair (.int .i64) .wood)) f_2)])], 1⟩ [((f_0 : Int) == 9) = false, ((f_0 : Int) == 10) = false] (by kernel_rfl) ⟨b49_3, b49_e0, trivial⟩ ?_
        obtain ⟨w78, cw78, h⟩ := bindS h
        refine f88_broughamref35_own_L6_ok n 1 f_0 f_1 f_2 w78 cw78 _ ?_
        have h := Option.some.inj h
        subst h
        rfl
  · refine At.step hm ht ⟨[], [false], [], [1, 3], [0]⟩ 4 ⟨[(1, oc (.ptr 0 0)), (3, oc (zi 0))], [], [(0, [zi f_0, zi f_1, .d (.sl (.pair (.int .i64) (.pair (.int .i64) .wood)) f_2)])], 1⟩ [((f_0 : Int) == 8) = false] (by kernel_rfl) ⟨b47_e0, trivial⟩ ?_
    rcases iteS h with ⟨b80_3, h⟩ | ⟨b80_3, h⟩
    · refine At.step hm ht ⟨[(3, .b true)], [true], [], [1], [0]⟩ 5 ⟨[(1, oc (.ptr 0 0))], [], [(0, [zi f_0, zi f_1, .d (.sl (.pair (.int .i64) (.pair (.int .i64) .wood)) f_2)])], 1⟩ [((f_0 : Int) == 9) = true, true = true] (by kernel_rfl) ⟨b80_3, rfl, trivial⟩ ?_
      refine At.step hm ht ⟨[], [], [], [1, 3], [0]⟩ 6 ⟨[(1, oc (.ptr 0 0)), (3, oc (zi 2))], [], [(0, [zi f_0, zi f_1, .d (.sl (.pair (.int .i64) (.pair (.int .i64) .wood)) f_2)])], 1⟩ [] (by kernel_rfl) trivial ?_
      obtain ⟨w82, cw82, h⟩ := bindS h
      refine f88_broughamref35_own_L6_ok n 2 f_0 f_1 f_2 w82 cw82 _ ?_
      have h := Option.some.inj h
      subst h
      rfl
    · rcases iteS h with ⟨b80_e0, h⟩ | ⟨b80_e0, h⟩
      · refine At.step hm ht ⟨[(3, .b false)], [true], [], [1], [0]⟩ 5 ⟨[(1, oc (.ptr 0 0))], [], [(0, [zi f_0, zi f_1, .d (.sl (.pair (.int .i64) (.pair (.int .i64) .wood)) f_2)])], 1⟩ [((f_0 : Int) == 9) = false, ((f_0 : Int) == 10) = true] (by kernel_rfl) ⟨b80_3, b80_e0, trivial⟩ ?_
        refine At.step hm ht ⟨[], [], [], [1, 3], [0]⟩ 6 ⟨[(1, oc (.ptr 0 0)), (3, oc (zi 2))], [], [(0, [zi f_0, zi f_1, .d (.sl (.pair (.int .i64) (.pair (.int .i64) .wood)) f_2)])], 1⟩ [] (by kernel_rfl) trivial ?_
        obtain ⟨w85, cw85, h⟩ := bindS h
        refine f88_broughamref35_own_L6_ok n 2 f_0 f_1 f_2 w85 cw85 _ ?_
        have h := Option.some.inj h
        subst h
        rfl
      · refine At.step hm ht ⟨[(3, .b false)], [false], [], [1, 3], [0]⟩ 6 ⟨[(1, oc (.ptr 0 0)), (3, oc (zi 0))], [], [(0, [zi f_0, zi f_1, .d (.sl (.pair (.int .i64) (.pair (.int .i64) .wood)) f_2)])], 1⟩ [((f_0 : Int) == 9) = false, ((f_0 : Int) == 10) = false] (by kernel_rfl) ⟨b80_3, b80_e0, trivial⟩ ?_
        obtain ⟨w87, cw87, h⟩ := bindS h
        refine f88_broughamref35_own_L6_ok n 0 f_0 f_1 f_2 w87 cw87 _ ?_
        have h := Option.some.inj h
        subst h
        rfl
/-! brougham/broughamref35.all -/
def f58_broughamref35_all_in (f_0 : Int) (f_1 : Int) (f_2 : List (Int × Int × List FT)) : Inn := ⟨[.agg [zi f_0, zi f_1, .d (.sl (.pair (.int .i64) (.pair (.int .i64) .wood)) f_2)]], [], [], 0⟩
def f58_broughamref35_all_out (r : Bool) : Out := ⟨oc (.d (.bool r)), [], [], 0⟩
def f58_broughamref35_all_L2 (rc_f58_broughamref35_all : Int → Int → (List (Int × Int × List FT)) → Option (Bool)) : Nat → Int → Int → Int → (List (Int × Int × List FT)) → Option ((Bool) ⊕ (Int × Int × List (Int × Int × List FT)))
  | 0, _, _, _, _ => none
  | n + 1, i, f_0, f_1, f_2 =>
    if (decide ((i : Int) < ((f_2.length : Nat) : Int))) = true then
      if (0 : Int) ≤ i ∧ i < (((f_2).length : Nat) : Int) then
      (rc_f58_broughamref35_all ((f_2.getD i.toNat (0, (0, []))).1) (((f_2.getD i.toNat (0, (0, []))).2).1) ((((f_2.getD i.toNat (0, (0, []))).2).2).map FT.un)).bind fun r92_1 =>
      if (!r92_1) = true then
        some (.inl false)
      else
        f58_broughamref35_all_L2 rc_f58_broughamref35_all n (IntKind.wrap .i64 (i + 1)) f_0 f_1 f_2
      else none
    else
      some (.inr ((f_0, f_1, f_2)))
def f58_broughamref35_all_L2_k (w : (Bool) ⊕ (Int × Int × List (Int × Int × List FT))) (o : Out) : Prop := match w with
  | .inl e => o = f58_broughamref35_all_out e
  | .inr e => At Tryd.prog Tryd.f58 0 6 ⟨[(1, oc (.ptr 0 0))], [], [(0, [zi e.1, zi e.2.1, .d (.sl (.pair (.int .i64) (.pair (.int .i64) .wood)) e.2.2)])], 1⟩ o
theorem f58_broughamref35_all_L2_ok (rc_f58_broughamref35_all : Int → Int → (List (Int × Int × List FT)) → Option (Bool)) (hrc_f58_broughamref35_all : ∀ (f_0 : Int) (f_1 : Int) (f_2 : List (Int × Int × List FT)) (r : Bool) (h : rc_f58_broughamref35_all f_0 f_1 f_2 = some r), FnOK Tryd.prog 58 (f58_broughamref35_all_in f_0 f_1 f_2) (f58_broughamref35_all_out r)) (n : Nat) : ∀ (i : Int) (f_0 : Int) (f_1 : Int) (f_2 : List (Int × Int × List FT)) (w : (Bool) ⊕ (Int × Int × List (Int × Int × List FT))) (h : f58_broughamref35_all_L2 rc_f58_broughamref35_all n i f_0 f_1 f_2 = some w) (o : Out) (hk : f58_broughamref35_all_L2_k w o), At Tryd.prog Tryd.f58 0 2 ⟨[(1, oc (.ptr 0 0)), (3, oc (zi i))], [], [(0, [zi f_0, zi f_1, .d (.sl (.pair (.int .i64) (.pair (.int .i64) .wood)) f_2)])], 1⟩ o := by
  induction n with
  | zero => intro i f_0 f_1 f_2 w h; rw [f58_broughamref35_all_L2] at h; cases h
  | succ n ih =>
    intro i f_0 f_1 f_2 w h o hk
    rw [f58_broughamref35_all_L2] at h
    rcases iteS h with ⟨b91_e0, h⟩ | ⟨b91_e0, h⟩
    · refine At.step hm ht ⟨[], [true], [], [1, 3], [0]⟩ 4 ⟨[(1, oc (.ptr 0 0)), (3, oc (zi i))], [], [(0, [zi f_0, zi f_1, .d (.sl (.pair (.int .i64) (.pair (.int .i64) .wood)) f_2)])], 1⟩ [(decide ((i : Int) < ((f_2.length : Nat) : Int))) = true] (by kernel_rfl) ⟨b91_e0, trivial⟩ ?_
      obtain ⟨g92_0, h⟩ := ifS h
      obtain ⟨r92_1, cr92_1, h⟩ := bindS h
      rcases iteS h with ⟨b92_e0, h⟩ | ⟨b92_e0, h⟩
      · refine At.step hm ht ⟨[(5, .call [] [] (f58_broughamref35_all_out r92_1))], [true], [], [], []⟩ 5 ⟨[], [], [], 0⟩ [(0 : Int) ≤ i ∧ i < (((f_2).length : Nat) : Int), FnOK Tryd.prog 58 (f58_broughamref35_all_in ((f_2.getD i.toNat (0, (0, []))).1) (((f_2.getD i.toNat (0, (0, []))).2).1) ((((f_2.getD i.toNat (0, (0, []))).2).2).map FT.un)) (f58_broughamref35_all_out r92_1), (!r92_1) = true] (by kernel_rfl) ⟨g92_0, (hrc_f58_broughamref35_all ((f_2.getD i.toNat (0, (0, []))).1) (((f_2.getD i.toNat (0, (0, []))).2).1) ((((f_2.getD i.toNat (0, (0, []))).2).2).map FT.un) r92_1 cr92_1), b92_e0, trivial⟩ ?_
        have h := Option.some.inj h
        subst h
        have hk : o = f58_broughamref35_all_out false := hk
        subst hk
        exact At.fin hm ht ⟨[], [], [], [2], []⟩ [] (by kernel_rfl) trivial
      · refine At.step hm ht ⟨[(5, .call [] [] (f58_broughamref35_all_out r92_1))], [false], [], [1, 3], [0]⟩ 3 ⟨[(1, oc (.ptr 0 0)), (3, oc (zi i))], [], [(0, [zi f_0, zi f_1, .d (.sl (.pair (.int .i64) (.pair (.int .i64) .wood)) f_2)])], 1⟩ [(0 : Int) ≤ i ∧ i < (((f_2).length : Nat) : Int), FnOK Tryd.prog 58 (f58_broughamref35_all_in ((f_2.getD i.toNat (0, (0, []))).1) (((f_2.getD i.toNat (0, (0, []))).2).1) ((((f_2.getD i.toNat (0, (0, []))).2).2).map FT.un)) (f58_broughamref35_all_out r92_1), (!r92_1) = false] (by kernel_rfl) ⟨g92_0, (hrc_f58_broughamref35_all ((f_2.getD i.toNat (0, (0, []))).1) (((f_2.getD i.toNat (0, (0, []))).2).1) ((((f_2.getD i.toNat (0, (0, []))).2).2).map FT.un) r92_1 cr92_1), b92_e0, trivial⟩ ?_
        refine At.step hm ht ⟨[], [], [], [1, 3], [0]⟩ 2 ⟨[(1, oc (.ptr 0 0)), (3, oc (zi (IntKind.wrap .i64 (i + 1))))], [], [(0, [zi f_0, zi f_1, .d (.sl (.pair (.int .i64) (.pair (.int .i64) .wood)) f_2)])], 1⟩ [] (by kernel_rfl) trivial ?_
        exact ih (IntKind.wrap .i64 (i + 1)) f_0 f_1 f_2 w h o hk
    · refine At.step hm ht ⟨[], [false], [], [1], [0]⟩ 6 ⟨[(1, oc (.ptr 0 0))], [], [(0, [zi f_0, zi f_1, .d (.sl (.pair (.int .i64) (.pair (.int .i64) .wood)) f_2)])], 1⟩ [(decide ((i : Int) < ((f_2.length : Nat) : Int))) = false] (by kernel_rfl) ⟨b91_e0, trivial⟩ ?_
      have h := Option.some.inj h
      subst h
      exact hk
def f58_broughamref35_all : Nat → Int → Int → (List (Int × Int × List FT)) → Option (Bool)
  | 0, _, _, _ => none
  | n + 1, f_0, f_1, f_2 =>
    (f58_broughamref35_all_L2 (f58_broughamref35_all n) n 0 f_0 f_1 f_2).bind fun w95 =>
    match w95 with
    | .inl e96 =>
      some e96
    | .inr e97 =>
      (f88_broughamref35_own n e97.1 e97.2.1 e97.2.2).bind fun r98_0 =>
      some r98_0
theorem f58_broughamref35_all_ok (n : Nat) : ∀ (f_0 : Int) (f_1 : Int) (f_2 : List (Int × Int × List FT)) (r : Bool) (h : f58_broughamref35_all n f_0 f_1 f_2 = some r), FnOK Tryd.prog 58 (f58_broughamref35_all_in f_0 f_1 f_2) (f58_broughamref35_all_out r) := by
  induction n with
  | zero => intro f_0 f_1 f_2 r h; rw [f58_broughamref35_all] at h; cases h
  | succ n ih =>
    intro f_0 f_1 f_2 r h
    rw [f58_broughamref35_all] at h
    refine At.fn (r := 0) Tryd.func58 rfl (by kernel_rfl) rfl rfl (by kernel_rfl) ?_
    show At Tryd.prog Tryd.f58 0 0 ⟨[(0, .one (.agg [zi f_0, zi f_1, .d (.sl (.pair (.int .i64) (.pair (.int .i64) .wood)) f_2)]))], [], [], 0⟩ _
    refine At.step hm ht ⟨[], [], [], [1], [0]⟩ 1 ⟨[(1, oc (.ptr 0 0))], [], [(0, [zi f_0, zi f_1, .d (.sl (.pair (.int .i64) (.pair (.int .i64) .wood)) f_2)])], 1⟩ [] (by kernel_rfl) trivial ?_
    refine At.step hm ht ⟨[], [], [], [1, 3], [0]⟩ 2 ⟨[(1, oc (.ptr 0 0)), (3, oc (zi 0))], [], [(0, [zi f_0, zi f_1, .d (.sl (.pair (.int .i64) (.pair (.int .i64) .wood)) f_2)])], 1⟩ [] (by kernel_rfl) trivial ?_
    obtain ⟨w95, cw95, h⟩ := bindS h
    refine f58_broughamref35_all_L2_ok (f58_broughamref35_all n) ih n 0 f_0 f_1 f_2 w95 cw95 _ ?_
    rcases w95 with e96 | e97
    · have h := Option.some.inj h
      subst h
      rfl
    · show At Tryd.prog Tryd.f58 0 6 ⟨[(1, oc (.ptr 0 0))], [], [(0, [zi e97.1, zi e97.2.1, .d (.sl (.pair (.int .i64) (.pair (.int .i64) .wood)) e97.2.2)])], 1⟩ _
      obtain ⟨r98_0, cr98_0, h⟩ := bindS h
      have h := Option.some.inj h
      subst h
      exact At.fin hm ht ⟨[(1, .call [] [] (f88_broughamref35_own_out r98_0))], [], [], [2], []⟩ [FnOK Tryd.prog 88 (f88_broughamref35_own_in e97.1 e97.2.1 e97.2.2) (f88_broughamref35_own_out r98_0)] (by kernel_rfl) ⟨(f88_broughamref35_own_ok n e97.1 e97.2.1 e97.2.2 r98_0 cr98_0), trivial⟩
/-! brougham/broughamref35.Right -/
def f30_broughamref35_Right_in (f_0 : Int) (f_1 : Int) (f_2 : List (Int × Int × List FT)) : Inn := ⟨[.agg [zi f_0, zi f_1, .d (.sl (.pair (.int .i64) (.pair (.int .i64) .wood)) f_2)]], [], [], 0⟩
def f30_broughamref35_Right_out (r : Bool) : Out := ⟨oc (.d (.bool r)), [], [], 0⟩
def f30_broughamref35_Right (n : Nat) (f_0 : Int) (f_1 : Int) (f_2 : List (Int × Int × List FT)) : Option (Bool) :=
  (f57_broughamref35_depth n f_0 f_1 f_2).bind fun r17_0 =>
  if (decide ((r17_0 : Int) ≤ 16)) = true then
    (f58_broughamref35_all n f_0 f_1 f_2).bind fun r17_1 =>
    some r17_1
  else
    some false
theorem f30_broughamref35_Right_ok (n : Nat) (f_0 : Int) (f_1 : Int) (f_2 : List (Int × Int × List FT)) (r : Bool) (h : f30_broughamref35_Right n f_0 f_1 f_2 = some r) : FnOK Tryd.prog 30 (f30_broughamref35_Right_in f_0 f_1 f_2) (f30_broughamref35_Right_out r) := by
  unfold f30_broughamref35_Right at h
  refine At.fn (r := 0) Tryd.func30 rfl (by kernel_rfl) rfl rfl (by kernel_rfl) ?_
  show At Tryd.prog Tryd.f30 0 0 ⟨[(0, .one (.agg [zi f_0, zi f_1, .d (.sl (.pair (.int .i64) (.pair (.int .i64) .wood)) f_2)]))], [], [], 0⟩ _
  refine At.step hm ht ⟨[], [], [], [1], [0]⟩ 1 ⟨[(1, oc (.ptr 0 0))], [], [(0, [zi f_0, zi f_1, .d (.sl (.pair (.int .i64) (.pair (.int .i64) .wood)) f_2)])], 1⟩ [] (by kernel_rfl) trivial ?_
  obtain ⟨r17_0, cr17_0, h⟩ := bindS h
  rcases iteS h with ⟨b17_3, h⟩ | ⟨b17_3, h⟩
  · obtain ⟨r17_1, cr17_1, h⟩ := bindS h
    have h := Option.some.inj h
    subst h
    exact At.fin hm ht ⟨[(1, .call [] [] (f57_broughamref35_depth_out r17_0)), (3, .b true), (5, .call [] [] (f58_broughamref35_all_out r17_1))], [], [], [2], []⟩ [FnOK Tryd.prog 57 (f57_broughamref35_depth_in f_0 f_1 f_2) (f57_broughamref35_depth_out r17_0), (decide ((r17_0 : Int) ≤ 16)) = true, FnOK Tryd.prog 58 (f58_broughamref35_all_in f_0 f_1 f_2) (f58_broughamref35_all_out r17_1)] (by kernel_rfl) ⟨(f57_broughamref35_depth_ok n f_0 f_1 f_2 r17_0 cr17_0), b17_3, (f58_broughamref35_all_ok n f_0 f_1 f_2 r17_1 cr17_1), trivial⟩
  · have h := Option.some.inj h
    subst h
    exact At.fin hm ht ⟨[(1, .call [] [] (f57_broughamref35_depth_out r17_0)), (3, .b false)], [], [], [2], []⟩ [FnOK Tryd.prog 57 (f57_broughamref35_depth_in f_0 f_1 f_2) (f57_broughamref35_depth_out r17_0), (decide ((r17_0 : Int) ≤ 16)) = false] (by kernel_rfl) ⟨(f57_broughamref35_depth_ok n f_0 f_1 f_2 r17_0 cr17_0), b17_3, trivial⟩
/-! brougham/broughamlaw07.Great -/
def f29_broughamlaw07_Great_in (s_0 : Int) (s_1 : Int) (s_2 : Int) (s_3 : Int) (s_4 : Int) (s_5 : List (Int × List Int)) (s_6 : List Int) : Inn := ⟨[.agg [.d (.int .u16 s_0), .d (.int .u16 s_1), .d (.int .u32 s_2), .d (.int .u32 s_3), .d (.int .u8 s_4), .d (.sl (.pair (.int .u8) (.slice (.int .u8))) s_5), .d (.sl (.int .u8) s_6)]], [], [], 0⟩
def f29_broughamlaw07_Great_out (r : Bool) : Out := ⟨oc (.d (.bool r)), [], [], 0⟩
def f29_broughamlaw07_Great_L4 : Nat → Int → Int → Int → Int → Int → Int → (List (Int × List Int)) → (List Int) → Option ((Bool) ⊕ (Unit))
  | 0, _, _, _, _, _, _, _, _ => none
  | n + 1, i, s_0, s_1, s_2, s_3, s_4, s_5, s_6 =>
    if (decide ((i : Int) < ((s_5.length : Nat) : Int))) = true then
      if (0 : Int) ≤ i ∧ i < (((s_5).length : Nat) : Int) then
      if (decide ((((((s_5.getD i.toNat (0, [])).2).length : Nat) : Int) : Int) > 400)) = true then
        some (.inl true)
      else
        f29_broughamlaw07_Great_L4 n (IntKind.wrap .i64 (i + 1)) s_0 s_1 s_2 s_3 s_4 s_5 s_6
      else none
    else
      some (.inr ())
def f29_broughamlaw07_Great_L4_k (w : (Bool) ⊕ (Unit)) (o : Out) : Prop := match w with
  | .inl e => o = f29_broughamlaw07_Great_out e
  | .inr e => At Tryd.prog Tryd.f29 0 8 ⟨[], [], [], 0⟩ o
theorem f29_broughamlaw07_Great_L4_ok (n : Nat) : ∀ (i : Int) (s_0 : Int) (s_1 : Int) (s_2 : Int) (s_3 : Int) (s_4 : Int) (s_5 : List (Int × List Int)) (s_6 : List Int) (w : (Bool) ⊕ (Unit)) (h : f29_broughamlaw07_Great_L4 n i s_0 s_1 s_2 s_3 s_4 s_5 s_6 = some w) (o : Out) (hk : f29_broughamlaw07_Great_L4_k w o), At Tryd.prog Tryd.f29 0 4 ⟨[(1, oc (.ptr 0 0)), (3, oc (zi i))], [], [(0, [.d (.int .u16 s_0), .d (.int .u16 s_1), .d (.int .u32 s_2), .d (.int .u32 s_3), .d (.int .u8 s_4), .d (.sl (.pair (.int .u8) (.slice (.int .u8))) s_5), .d (.sl (.int .u8) s_6)])], 1⟩ o := by
  induction n with
  | zero => intro i s_0 s_1 s_2 s_3 s_4 s_5 s_6 w h; rw [f29_broughamlaw07_Great_L4] at h; cases h
  | succ n ih =>
    intro i s_0 s_1 s_2 s_3 s_4 s_5 s_6 w h o hk
    rw [f29_broughamlaw07_Great_L4] at h
    rcases iteS h with ⟨b106_e0, h⟩ | ⟨b106_e0, h⟩
    · refine At.step hm ht ⟨[], [true], [], [1, 3], [0]⟩ 6 ⟨[(1, oc (.ptr 0 0)), (3, oc (zi i))], [], [(0, [.d (.int .u16 s_0), .d (.int .u16 s_1), .d (.int .u32 s_2), .d (.int .u32 s_3), .d (.int .u8 s_4), .d (.sl (.pair (.int .u8) (.slice (.int .u8))) s_5), .d (.sl (.int .u8) s_6)])], 1⟩ [(decide ((i : Int) < ((s_5.length : Nat) : Int))) = true] (by kernel_rfl) ⟨b106_e0, trivial⟩ ?_
      obtain ⟨g107_0, h⟩ := ifS h
      rcases iteS h with ⟨b107_e0, h⟩ | ⟨b107_e0, h⟩
      · refine At.step hm ht ⟨[], [true], [], [], []⟩ 7 ⟨[], [], [], 0⟩ [(0 : Int) ≤ i ∧ i < (((s_5).length : Nat) : Int), (decide ((((((s_5.getD i.toNat (0, [])).2).length : Nat) : Int) : Int) > 400)) = true] (by kernel_rfl) ⟨g107_0, b107_e0, trivial⟩ ?_
        have h := Option.some.inj h
        subst h
        have hk : o = f29_broughamlaw07_Great_out true := hk
        subst hk
        exact At.fin hm ht ⟨[], [], [], [2], []⟩ [] (by kernel_rfl) trivial
      · refine At.step hm ht ⟨[], [false], [], [1, 3], [0]⟩ 5 ⟨[(1, oc (.ptr 0 0)), (3, oc (zi i))], [], [(0, [.d (.int .u16 s_0), .d (.int .u16 s_1), .d (.int .u32 s_2), .d (.int .u32 s_3), .d (.int .u8 s_4), .d (.sl (.pair (.int .u8) (.slice (.int .u8))) s_5), .d (.sl (.int .u8) s_6)])], 1⟩ [(0 : Int) ≤ i ∧ i < (((s_5).length : Nat) : Int), (decide ((((((s_5.getD i.toNat (0, [])).2).length : Nat) : Int) : Int) > 400)) = false] (by kernel_rfl) ⟨g107_0, b107_e0, trivial⟩ ?_
        refine At.step hm ht ⟨[], [], [], [1, 3], [0]⟩ 4 ⟨[(1, oc (.ptr 0 0)), (3, oc (zi (IntKind.wrap .i64 (i + 1))))], [], [(0, [.d (.int .u16 s_0), .d (.int .u16 s_1), .d (.int .u32 s_2), .d (.int .u32 s_3), .d (.int .u8 s_4), .d (.sl (.pair (.int .u8) (.slice (.int .u8))) s_5), .d (.sl (.int .u8) s_6)])], 1⟩ [] (by kernel_rfl) trivial ?_
        exact ih (IntKind.wrap .i64 (i + 1)) s_0 s_1 s_2 s_3 s_4 s_5 s_6 w h o hk
    · refine At.step hm ht ⟨[], [false], [], [], []⟩ 8 ⟨[], [], [], 0⟩ [(decide ((i : Int) < ((s_5.length : Nat) : Int))) = false] (by kernel_rfl) ⟨b106_e0, trivial⟩ ?_
      have h := Option.some.inj h
      subst h
      exact hk
def f29_broughamlaw07_Great (n : Nat) (s_0 : Int) (s_1 : Int) (s_2 : Int) (s_3 : Int) (s_4 : Int) (s_5 : List (Int × List Int)) (s_6 : List Int) : Option (Bool) :=
  if (decide ((((s_5.length : Nat) : Int) : Int) > 120)) = true then
    some true
  else
    if (decide ((((s_6.length : Nat) : Int) : Int) > 2000)) = true then
      some true
    else
      (f29_broughamlaw07_Great_L4 n 0 s_0 s_1 s_2 s_3 s_4 s_5 s_6).bind fun w110 =>
      match w110 with
      | .inl e111 =>
        some e111
      | .inr e112 =>
        some false
theorem f29_broughamlaw07_Great_ok (n : Nat) (s_0 : Int) (s_1 : Int) (s_2 : Int) (s_3 : Int) (s_4 : Int) (s_5 : List (Int × List Int)) (s_6 : List Int) (r : Bool) (h : f29_broughamlaw07_Great n s_0 s_1 s_2 s_3 s_4 s_5 s_6 = some r) : FnOK Tryd.prog 29 (f29_broughamlaw07_Great_in s_0 s_1 s_2 s_3 s_4 s_5 s_6) (f29_broughamlaw07_Great_out r) := by
  unfold f29_broughamlaw07_Great at h
  refine At.fn (r := 0) Tryd.func29 rfl (by kernel_rfl) rfl rfl (by kernel_rfl) ?_
  show At Tryd.prog Tryd.f29 0 0 ⟨[(0, .one (.agg [.d (.int .u16 s_0), .d (.int .u16 s_1), .d (.int .u32 s_2), .d (.int .u32 s_3), .d (.int .u8 s_4), .d (.sl (.pair (.int .u8) (.slice (.int .u8))) s_5), .d (.sl (.int .u8) s_6)]))], [], [], 0⟩ _
  refine At.step hm ht ⟨[], [], [], [1], [0]⟩ 1 ⟨[(1, oc (.ptr 0 0))], [], [(0, [.d (.int .u16 s_0), .d (.int .u16 s_1), .d (.int .u32 s_2), .d (.int .u32 s_3), .d (.int .u8 s_4), .d (.sl (.pair (.int .u8) (.slice (.int .u8))) s_5), .d (.sl (.int .u8) s_6)])], 1⟩ [] (by kernel_rfl) trivial ?_
  rcases iteS h with ⟨b102_4, h⟩ | ⟨b102_4, h⟩
  · refine At.step hm ht ⟨[(4, .b true)], [true], [], [], []⟩ 2 ⟨[], [], [], 0⟩ [(decide ((((s_5.length : Nat) : Int) : Int) > 120)) = true, true = true] (by kernel_rfl) ⟨b102_4, rfl, trivial⟩ ?_
    have h := Option.some.inj h
    subst h
    exact At.fin hm ht ⟨[], [], [], [2], []⟩ [] (by kernel_rfl) trivial
  · rcases iteS h with ⟨b102_e0, h⟩ | ⟨b102_e0, h⟩
    · refine At.step hm ht ⟨[(4, .b false)], [true], [], [], []⟩ 2 ⟨[], [], [], 0⟩ [(decide ((((s_5.length : Nat) : Int) : Int) > 120)) = false, (decide ((((s_6.length : Nat) : Int) : Int) > 2000)) = true] (by kernel_rfl) ⟨b102_4, b102_e0, trivial⟩ ?_
      have h := Option.some.inj h
      subst h
      exact At.fin hm ht ⟨[], [], [], [2], []⟩ [] (by kernel_rfl) trivial
    · refine At.step hm ht ⟨[(4, .b false)], [false], [], [1], [0]⟩ 3 ⟨[(1, oc (.ptr 0 0))], [], [(0, [.d (.int .u16 s_0), .d (.int .u16 s_1), .d (.int .u32 s_2), .d (.int .u32 s_3), .d (.int .u8 s_4), .d (.sl (.pair (.int .u8) (.slice (.int .u8))) s_5), .d (.sl (.int .u8) s_6)])], 1⟩ [(decide ((((s_5.length : Nat) : Int) : Int) > 120)) = false, (decide ((((s_6.length : Nat) : Int) : Int) > 2000)) = false] (by kernel_rfl) ⟨b102_4, b102_e0, trivial⟩ ?_
      refine At.step hm ht ⟨[], [], [], [1, 3], [0]⟩ 4 ⟨[(1, oc (.ptr 0 0)), (3, oc (zi 0))], [], [(0, [.d (.int .u16 s_0), .d (.int .u16 s_1), .d (.int .u32 s_2), .d (.int .u32 s_3), .d (.int .u8 s_4), .d (.sl (.pair (.int .u8) (.slice (.int .u8))) s_5), .d (.sl (.int .u8) s_6)])], 1⟩ [] (by kernel_rfl) trivial ?_
      obtain ⟨w110, cw110, h⟩ := bindS h
      refine f29_broughamlaw07_Great_L4_ok n 0 s_0 s_1 s_2 s_3 s_4 s_5 s_6 w110 cw110 _ ?_
      rcases w110 with e111 | e112
      · have h := Option.some.inj h
        subst h
        rfl
      · show At Tryd.prog Tryd.f29 0 8 ⟨[], [], [], 0⟩ _
        have h := Option.some.inj h
        subst h
        exact At.fin hm ht ⟨[], [], [], [2], []⟩ [] (by kernel_rfl) trivial
/-! brougham/broughamlaw35.Made -/
def f28_broughamlaw35_Made_in (f_0 : Int) (f_1 : Int) (f_2 : List (Int × Int × List FT)) : Inn := ⟨[.agg [zi f_0, zi f_1, .d (.sl (.pair (.int .i64) (.pair (.int .i64) .wood)) f_2)]], [], [], 0⟩
def f28_broughamlaw35_Made_out (r : PT) : Out := ⟨oc (.d (.pt r)), [], [], 0⟩
def f28_broughamlaw35_Made : Nat → Int → Int → (List (Int × Int × List FT)) → Option (PT)
  | 0, _, _, _ => none
  | n + 1, f_0, f_1, f_2 =>
    if (decide ((((f_2.length : Nat) : Int) : Int) > 0)) = true then
      if (0 : Int) ≤ 0 ∧ 0 < (((f_2).length : Nat) : Int) then
      ((f28_broughamlaw35_Made n) ((f_2.getD 0 (0, (0, []))).1) (((f_2.getD 0 (0, (0, []))).2).1) ((((f_2.getD 0 (0, (0, []))).2).2).map FT.un)).bind fun r126_1 =>
      if (decide ((((f_2.length : Nat) : Int) : Int) > 1)) = true then
        if (0 : Int) ≤ 1 ∧ 1 < (((f_2).length : Nat) : Int) then
        ((f28_broughamlaw35_Made n) ((f_2.getD 1 (0, (0, []))).1) (((f_2.getD 1 (0, (0, []))).2).1) ((((f_2.getD 1 (0, (0, []))).2).2).map FT.un)).bind fun r128_1 =>
        some (PT.node f_0 f_1 r126_1 r128_1)
        else none
      else
        some (PT.node f_0 f_1 r126_1 PT.nil)
      else none
    else
      if (decide ((((f_2.length : Nat) : Int) : Int) > 1)) = true then
        if (0 : Int) ≤ 1 ∧ 1 < (((f_2).length : Nat) : Int) then
        ((f28_broughamlaw35_Made n) ((f_2.getD 1 (0, (0, []))).1) (((f_2.getD 1 (0, (0, []))).2).1) ((((f_2.getD 1 (0, (0, []))).2).2).map FT.un)).bind fun r132_1 =>
        some (PT.node f_0 f_1 PT.nil r132_1)
        else none
      else
        some (PT.node f_0 f_1 PT.nil PT.nil)
theorem f28_broughamlaw35_Made_ok (n : Nat) : ∀ (f_0 : Int) (f_1 : Int) (f_2 : List (Int × Int × List FT)) (r : PT) (h : f28_broughamlaw35_Made n f_0 f_1 f_2 = some r), FnOK Tryd.prog 28 (f28_broughamlaw35_Made_in f_0 f_1 f_2) (f28_broughamlaw35_Made_out r) := by
  induction n with
  | zero => intro f_0 f_1 f_2 r h; rw [f28_broughamlaw35_Made] at h; cases h
  | succ n ih =>
    intro f_0 f_1 f_2 r h
    rw [f28_broughamlaw35_Made] at h
    refine At.fn (r := 0) Tryd.func28 rfl (by kernel_rfl) rfl rfl (by kernel_rfl) ?_
    show At Tryd.prog Tryd.f28 0 0 ⟨[(0, .one (.agg [zi f_0, zi f_1, .d (.sl (.pair (.int .i64) (.pair (.int .i64) .wood)) f_2)]))], [], [], 0⟩ _
    refine At.step hm ht ⟨[], [], [.nilpt 2], [1], [0]⟩ 1 ⟨[(1, oc (.ptr 0 0))], [], [(0, [zi f_0, zi f_1, .d (.sl (.pair (.int .i64) (.pair (.int .i64) .wood)) f_2)])], 1⟩ [] (by kernel_rfl) trivial ?_
    refine At.step hm ht ⟨[], [], [], [1, 3], [0, 6]⟩ 2 ⟨[(1, oc (.ptr 0 0)), (3, oc (.ptr 1 0))], [], [(0, [zi f_0, zi f_1, .d (.sl (.pair (.int .i64) (.pair (.int .i64) .wood)) f_2)]), (1, [zi f_0, zi f_1, .d (.nilP), .d (.nilP)])], 2⟩ [] (by kernel_rfl) trivial ?_
    rcases iteS h with ⟨b125_e0, h⟩ | ⟨b125_e0, h⟩
    · refine At.step hm ht ⟨[], [true], [], [1, 3], [0, 1]⟩ 3 ⟨[(1, oc (.ptr 0 0)), (3, oc (.ptr 1 0))], [], [(0, [zi f_0, zi f_1, .d (.sl (.pair (.int .i64) (.pair (.int .i64) .wood)) f_2)]), (1, [zi f_0, zi f_1, .d (.nilP), .d (.nilP)])], 2⟩ [(decide ((((f_2.length : Nat) : Int) : Int) > 0)) = true] (by kernel_rfl) ⟨b125_e0, trivial⟩ ?_
      obtain ⟨g126_0, h⟩ := ifS h
      obtain ⟨r126_1, cr126_1, h⟩ := bindS h
      refine At.step hm ht ⟨[(5, .call [] [] (f28_broughamlaw35_Made_out r126_1))], [], [], [1, 3], [0, 1]⟩ 4 ⟨[(1, oc (.ptr 0 0)), (3, oc (.ptr 1 0))], [], [(0, [zi f_0, zi f_1, .d (.sl (.pair (.int .i64) (.pair (.int .i64) .wood)) f_2)]), (1, [zi f_0, zi f_1, .d (.pt r126_1), .d (.nilP)])], 2⟩ [(0 : Int) ≤ 0 ∧ 0 < (((f_2).length : Nat) : Int), FnOK Tryd.prog 28 (f28_broughamlaw35_Made_in ((f_2.getD 0 (0, (0, []))).1) (((f_2.getD 0 (0, (0, []))).2).1) ((((f_2.getD 0 (0, (0, []))).2).2).map FT.un)) (f28_broughamlaw35_Made_out r126_1), 2 + 1 ≤ 4] (by kernel_rfl) ⟨g126_0, (ih ((f_2.getD 0 (0, (0, []))).1) (((f_2.getD 0 (0, (0, []))).2).1) ((((f_2.getD 0 (0, (0, []))).2).2).map FT.un) r126_1 cr126_1), (by decide), trivial⟩ ?_
      rcases iteS h with ⟨b127_e0, h⟩ | ⟨b127_e0, h⟩
      · refine At.step hm ht ⟨[], [true], [], [1, 3], [0, 1]⟩ 5 ⟨[(1, oc (.ptr 0 0)), (3, oc (.ptr 1 0))], [], [(0, [zi f_0, zi f_1, .d (.sl (.pair (.int .i64) (.pair (.int .i64) .wood)) f_2)]), (1, [zi f_0, zi f_1, .d (.pt r126_1), .d (.nilP)])], 2⟩ [(decide ((((f_2.length : Nat) : Int) : Int) > 1)) = true] (by kernel_rfl) ⟨b127_e0, trivial⟩ ?_
        obtain ⟨g128_0, h⟩ := ifS h
        obtain ⟨r128_1, cr128_1, h⟩ := bindS h
        refine At.step hm ht ⟨[(5, .call [] [] (f28_broughamlaw35_Made_out r128_1))], [], [], [3], [1]⟩ 6 ⟨[(3, oc (.ptr 0 0))], [], [(0, [zi f_0, zi f_1, .d (.pt r126_1), .d (.pt r128_1)])], 1⟩ [(0 : Int) ≤ 1 ∧ 1 < (((f_2).length : Nat) : Int), FnOK Tryd.prog 28 (f28_broughamlaw35_Made_in ((f_2.getD 1 (0, (0, []))).1) (((f_2.getD 1 (0, (0, []))).2).1) ((((f_2.getD 1 (0, (0, []))).2).2).map FT.un)) (f28_broughamlaw35_Made_out r128_1), 3 + 1 ≤ 4] (by kernel_rfl) ⟨g128_0, (ih ((f_2.getD 1 (0, (0, []))).1) (((f_2.getD 1 (0, (0, []))).2).1) ((((f_2.getD 1 (0, (0, []))).2).2).map FT.un) r128_1 cr128_1), (by decide), trivial⟩ ?_
        have h := Option.some.inj h
        subst h
        exact At.fin hm ht ⟨[], [], [.tree 0], [2], []⟩ [] (by kernel_rfl) trivial
      · refine At.step hm ht ⟨[], [false], [], [3], [1]⟩ 6 ⟨[(3, oc (.ptr 0 0))], [], [(0, [zi f_0, zi f_1, .d (.pt r126_1), .d (.nilP)])], 1⟩ [(decide ((((f_2.length : Nat) : Int) : Int) > 1)) = false] (by kernel_rfl) ⟨b127_e0, trivial⟩ ?_
        have h := Option.some.inj h
        subst h
        exact At.fin hm ht ⟨[], [], [.tree 0], [2], []⟩ [] (by kernel_rfl) trivial
    · refine At.step hm ht ⟨[], [false], [], [1, 3], [0, 1]⟩ 4 ⟨[(1, oc (.ptr 0 0)), (3, oc (.ptr 1 0))], [], [(0, [zi f_0, zi f_1, .d (.sl (.pair (.int .i64) (.pair (.int .i64) .wood)) f_2)]), (1, [zi f_0, zi f_1, .d (.nilP), .d (.nilP)])], 2⟩ [(decide ((((f_2.length : Nat) : Int) : Int) > 0)) = false] (by kernel_rfl) ⟨b125_e0, trivial⟩ ?_
      rcases iteS h with ⟨b131_e0, h⟩ | ⟨b131_e0, h⟩
      · refine At.step hm ht ⟨[], [true], [], [1, 3], [0, 1]⟩ 5 ⟨[(1, oc (.ptr 0 0)), (3, oc (.ptr 1 0))], [], [(0, [zi f_0, zi f_1, .d (.sl (.pair (.int .i64) (.pair (.int .i64) .wood)) f_2)]), (1, [zi f_0, zi f_1, .d (.nilP), .d (.nilP)])], 2⟩ [(decide ((((f_2.length : Nat) : Int) : Int) > 1)) = true] (by kernel_rfl) ⟨b131_e0, trivial⟩ ?_
        obtain ⟨g132_0, h⟩ := ifS h
        obtain ⟨r132_1, cr132_1, h⟩ := bindS h
        refine At.step hm ht ⟨[(5, .call [] [] (f28_broughamlaw35_Made_out r132_1))], [], [], [3], [1]⟩ 6 ⟨[(3, oc (.ptr 0 0))], [], [(0, [zi f_0, zi f_1, .d (.nilP), .d (.pt r132_1)])], 1⟩ [(0 : Int) ≤ 1 ∧ 1 < (((f_2).length : Nat) : Int), FnOK Tryd.prog 28 (f28_broughamlaw35_Made_in ((f_2.getD 1 (0, (0, []))).1) (((f_2.getD 1 (0, (0, []))).2).1) ((((f_2.getD 1 (0, (0, []))).2).2).map FT.un)) (f28_broughamlaw35_Made_out r132_1), 3 + 1 ≤ 4] (by kernel_rfl) ⟨g132_0, (ih ((f_2.getD 1 (0, (0, []))).1) (((f_2.getD 1 (0, (0, []))).2).1) ((((f_2.getD 1 (0, (0, []))).2).2).map FT.un) r132_1 cr132_1), (by decide), trivial⟩ ?_
        have h := Option.some.inj h
        subst h
        exact At.fin hm ht ⟨[], [], [.tree 0], [2], []⟩ [] (by kernel_rfl) trivial
      · refine At.step hm ht ⟨[], [false], [], [3], [1]⟩ 6 ⟨[(3, oc (.ptr 0 0))], [], [(0, [zi f_0, zi f_1, .d (.nilP), .d (.nilP)])], 1⟩ [(decide ((((f_2.length : Nat) : Int) : Int) > 1)) = false] (by kernel_rfl) ⟨b131_e0, trivial⟩ ?_
        have h := Option.some.inj h
        subst h
        exact At.fin hm ht ⟨[], [], [.tree 0], [2], []⟩ [] (by kernel_rfl) trivial
/-! brougham/filter.right -/
def f59_filter_right_in (f : PT) (left : Int) : Inn := ⟨[.c (.d (.pt f)), .c (zi left)], [], [], 0⟩
def f59_filter_right_out (r : Bool) : Out := ⟨oc (.d (.bool r)), [], [], 0⟩
def f59_filter_right_L13 (rc_f59_filter_right : PT → Int → Option (Bool)) : Nat → PT → Int → Int → Option (Bool)
  | 0, _, _, _ => none
  | n + 1, f, left, t14 =>
    if ((t14 : Int) == 6) = true then
      if PT.isNil f = false then
      if (decide (((PT.num f) : Int) ≥ 1)) = true then
        if PT.isNil f = false then
        if (decide (((PT.num f) : Int) ≤ 255)) = true then
          if PT.isNil f = false then
          if (PT.isNil (PT.fst f)) = true then
            if PT.isNil f = false then
            some ((PT.isNil (PT.snd f)))
            else none
          else
            some (false)
          else none
        else
          some (false)
        else none
      else
        some (false)
      else none
    else
      if ((t14 : Int) == 7) = true then
        if PT.isNil f = false then
        if (decide (((PT.num f) : Int) ≥ 0)) = true then
          if PT.isNil f = false then
          if (decide (((PT.num f) : Int) < 2147483648)) = true then
            if PT.isNil f = false then
            if (PT.isNil (PT.fst f)) = true then
              if PT.isNil f = false then
              some ((PT.isNil (PT.snd f)))
              else none
            else
              some (false)
            else none
          else
            some (false)
          else none
        else
          some (false)
        else none
      else
        if ((t14 : Int) == 8) = true then
          if PT.isNil f = false then
          if (((PT.num f) : Int) == 0) = true then
            if PT.isNil f = false then
            (rc_f59_filter_right (PT.fst f) (IntKind.wrap .i64 (left - 1))).bind fun r156_2 =>
            if r156_2 = true then
              if PT.isNil f = false then
              some ((PT.isNil (PT.snd f)))
              else none
            else
              some (false)
            else none
          else
            some (false)
          else none
        else
          if ((t14 : Int) == 9) = true then
            if ((t14 : Int) == 9) = true then
              if PT.isNil f = false then
              if (((PT.num f) : Int) == 0) = true then
                if PT.isNil f = false then
                (rc_f59_filter_right (PT.fst f) (IntKind.wrap .i64 (left - 1))).bind fun r158_2 =>
                if r158_2 = true then
                  if PT.isNil f = false then
                  (rc_f59_filter_right (PT.snd f) (IntKind.wrap .i64 (left - 1))).bind fun r158_4 =>
                  some (r158_4)
                  else none
                else
                  some (false)
                else none
              else
                some (false)
              else none
            else
              some (false)
          else
            if ((t14 : Int) == 10) = true then
              if PT.isNil f = false then
              if (((PT.num f) : Int) == 0) = true then
                if PT.isNil f = false then
                (rc_f59_filter_right (PT.fst f) (IntKind.wrap .i64 (left - 1))).bind fun r161_2 =>
                if r161_2 = true then
                  if PT.isNil f = false then
                  (rc_f59_filter_right (PT.snd f) (IntKind.wrap .i64 (left - 1))).bind fun r161_4 =>
                  some (r161_4)
                  else none
                else
                  some (false)
                else none
              else
                some (false)
              else none
            else
              some (false)
def f59_filter_right_L13_k (e : Bool) (o : Out) : Prop := o = f59_filter_right_out e
theorem f59_filter_right_L13_ok (rc_f59_filter_right : PT → Int → Option (Bool)) (hrc_f59_filter_right : ∀ (f : PT) (left : Int) (r : Bool) (h : rc_f59_filter_right f left = some r), FnOK Tryd.prog 59 (f59_filter_right_in f left) (f59_filter_right_out r)) (n : Nat) : ∀ (f : PT) (left : Int) (t14 : Int) (w : Bool) (h : f59_filter_right_L13 rc_f59_filter_right n f left t14 = some w) (o : Out) (hk : f59_filter_right_L13_k w o), At Tryd.prog Tryd.f59 0 13 ⟨[(0, oc (.d (.pt f))), (1, oc (zi left)), (14, oc (zi t14))], [], [], 0⟩ o := by
  induction n with
  | zero => intro f left t14 w h; rw [f59_filter_right_L13] at h; cases h
  | succ n ih =>
    intro f left t14 w h o hk
    rw [f59_filter_right_L13] at h
    rcases iteS h with ⟨b151_e0, h⟩ | ⟨b151_e0, h⟩
    · refine At.step hm ht ⟨[], [true], [], [0], []⟩ 14 ⟨[(0, oc (.d (.pt f)))], [], [], 0⟩ [((t14 : Int) == 6) = true] (by kernel_rfl) ⟨b151_e0, trivial⟩ ?_
      obtain ⟨g152_0, h⟩ := ifS h
      rcases iteS h with ⟨b152_5, h⟩ | ⟨b152_5, h⟩
      · obtain ⟨g152_1, h⟩ := ifS h
        rcases iteS h with ⟨b152_12, h⟩ | ⟨b152_12, h⟩
        · obtain ⟨g152_2, h⟩ := ifS h
          rcases iteS h with ⟨b152_19, h⟩ | ⟨b152_19, h⟩
          · obtain ⟨g152_3, h⟩ := ifS h
            have h := Option.some.inj h
            subst h
            have hk : o = f59_filter_right_out (PT.isNil (PT.snd f)) := hk
            subst hk
            exact At.fin hm ht ⟨[(5, .b true), (12, .b true), (19, .b true)], [], [], [4], []⟩ [PT.isNil f = false, (decide (((PT.num f) : Int) ≥ 1)) = true, PT.isNil f = false, (decide (((PT.num f) : Int) ≤ 255)) = true, PT.isNil f = false, (PT.isNil (PT.fst f)) = true, PT.isNil f = false] (by kernel_rfl) ⟨g152_0, b152_5, g152_1, b152_12, g152_2, b152_19, g152_3, trivial⟩
          · have h := Option.some.inj h
            subst h
            have hk : o = f59_filter_right_out false := hk
            subst hk
            exact At.fin hm ht ⟨[(5, .b true), (12, .b true), (19, .b false)], [], [], [4], []⟩ [PT.isNil f = false, (decide (((PT.num f) : Int) ≥ 1)) = true, PT.isNil f = false, (decide (((PT.num f) : Int) ≤ 255)) = true, PT.isNil f = false, (PT.isNil (PT.fst f)) = false] (by kernel_rfl) ⟨g152_0, b152_5, g152_1, b152_12, g152_2, b152_19, trivial⟩
        · have h := Option.some.inj h
          subst h
          have hk : o = f59_filter_right_out false := hk
          subst hk
          exact At.fin hm ht ⟨[(5, .b true), (12, .b false)], [], [], [4], []⟩ [PT.isNil f = false, (decide (((PT.num f) : Int) ≥ 1)) = true, PT.isNil f = false, (decide (((PT.num f) : Int) ≤ 255)) = false] (by kernel_rfl) ⟨g152_0, b152_5, g152_1, b152_12, trivial⟩
      · have h := Option.some.inj h
        subst h
        have hk : o = f59_filter_right_out false := hk
        subst hk
        exact At.fin hm ht ⟨[(5, .b false)], [], [], [4], []⟩ [PT.isNil f = false, (decide (((PT.num f) : Int) ≥ 1)) = false] (by kernel_rfl) ⟨g152_0, b152_5, trivial⟩
    · refine At.step hm ht ⟨[], [false], [], [0, 1, 14], []⟩ 15 ⟨[(0, oc (.d (.pt f))), (1, oc (zi left)), (14, oc (zi t14))], [], [], 0⟩ [((t14 : Int) == 6) = false] (by kernel_rfl) ⟨b151_e0, trivial⟩ ?_
      rcases iteS h with ⟨b153_e0, h⟩ | ⟨b153_e0, h⟩
      · refine At.step hm ht ⟨[], [true], [], [0], []⟩ 16 ⟨[(0, oc (.d (.pt f)))], [], [], 0⟩ [((t14 : Int) == 7) = true] (by kernel_rfl) ⟨b153_e0, trivial⟩ ?_
        obtain ⟨g154_0, h⟩ := ifS h
        rcases iteS h with ⟨b154_5, h⟩ | ⟨b154_5, h⟩
        · obtain ⟨g154_1, h⟩ := ifS h
          rcases iteS h with ⟨b154_12, h⟩ | ⟨b154_12, h⟩
          · obtain ⟨g154_2, h⟩ := ifS h
            rcases iteS h with ⟨b154_19, h⟩ | ⟨b154_19, h⟩
            · obtain ⟨g154_3, h⟩ := ifS h
              have h := Option.some.inj h
              subst h
              have hk : o = f59_filter_right_out (PT.isNil (PT.snd f)) := hk
              subst hk
              exact At.fin hm ht ⟨[(5, .b true), (12, .b true), (19, .b true)], [], [], [4], []⟩ [PT.isNil f = false, (decide (((PT.num f) : Int) ≥ 0)) = true, PT.isNil f = false, (decide (((PT.num f) : Int) < 2147483648)) = true, PT.isNil f = false, (PT.isNil (PT.fst f)) = true, PT.isNil f = false] (by kernel_rfl) ⟨g154_0, b154_5, g154_1, b154_12, g154_2, b154_19, g154_3, trivial⟩
            · have h := Option.some.inj h
              subst h
              have hk : o = f59_filter_right_out false := hk
              subst hk
              exact At.fin hm ht ⟨[(5, .b true), (12, .b true), (19, .b false)], [], [], [4], []⟩ [PT.isNil f = false, (decide (((PT.num f) : Int) ≥ 0)) = true, PT.isNil f = false, (decide (((PT.num f) : Int) < 2147483648)) = true, PT.isNil f = false, (PT.isNil (PT.fst f)) = false] (by kernel_rfl) ⟨g154_0, b154_5, g154_1, b154_12, g154_2, b154_19, trivial⟩
          · have h := Option.some.inj h
            subst h
            have hk : o = f59_filter_right_out false := hk
            subst hk
            exact At.fin hm ht ⟨[(5, .b true), (12, .b false)], [], [], [4], []⟩ [PT.isNil f = false, (decide (((PT.num f) : Int) ≥ 0)) = true, PT.isNil f = false, (decide (((PT.num f) : Int) < 2147483648)) = false] (by kernel_rfl) ⟨g154_0, b154_5, g154_1, b154_12, trivial⟩
        · have h := Option.some.inj h
          subst h
          have hk : o = f59_filter_right_out false := hk
          subst hk
          exact At.fin hm ht ⟨[(5, .b false)], [], [], [4], []⟩ [PT.isNil f = false, (decide (((PT.num f) : Int) ≥ 0)) = false] (by kernel_rfl) ⟨g154_0, b154_5, trivial⟩
      · refine At.step hm ht ⟨[], [false], [], [0, 1, 14], []⟩ 17 ⟨[(0, oc (.d (.pt f))), (1, oc (zi left)), (14, oc (zi t14))], [], [], 0⟩ [((t14 : Int) == 7) = false] (by kernel_rfl) ⟨b153_e0, trivial⟩ ?_
        rcases iteS h with ⟨b155_e0, h⟩ | ⟨b155_e0, h⟩
        · refine At.step hm ht ⟨[], [true], [], [0, 1], []⟩ 18 ⟨[(0, oc (.d (.pt f))), (1, oc (zi left))], [], [], 0⟩ [((t14 : Int) == 8) = true] (by kernel_rfl) ⟨b155_e0, trivial⟩ ?_
          obtain ⟨g156_0, h⟩ := ifS h
          rcases iteS h with ⟨b156_5, h⟩ | ⟨b156_5, h⟩
          · obtain ⟨g156_1, h⟩ := ifS h
            obtain ⟨r156_2, cr156_2, h⟩ := bindS h
            rcases iteS h with ⟨b156_14, h⟩ | ⟨b156_14, h⟩
            · obtain ⟨g156_3, h⟩ := ifS h
              have h := Option.some.inj h
              subst h
              have hk : o = f59_filter_right_out (PT.isNil (PT.snd f)) := hk
              subst hk
              exact At.fin hm ht ⟨[(5, .b true), (12, .call [] [] (f59_filter_right_out r156_2)), (14, .b true)], [], [], [4], []⟩ [PT.isNil f = false, (((PT.num f) : Int) == 0) = true, PT.isNil f = false, FnOK Tryd.prog 59 (f59_filter_right_in (PT.fst f) (IntKind.wrap .i64 (left - 1))) (f59_filter_right_out r156_2), r156_2 = true, PT.isNil f = false] (by kernel_rfl) ⟨g156_0, b156_5, g156_1, (hrc_f59_filter_right (PT.fst f) (IntKind.wrap .i64 (left - 1)) r156_2 cr156_2), b156_14, g156_3, trivial⟩
            · have h := Option.some.inj h
              subst h
              have hk : o = f59_filter_right_out false := hk
              subst hk
              exact At.fin hm ht ⟨[(5, .b true), (12, .call [] [] (f59_filter_right_out r156_2)), (14, .b false)], [], [], [4], []⟩ [PT.isNil f = false, (((PT.num f) : Int) == 0) = true, PT.isNil f = false, FnOK Tryd.prog 59 (f59_filter_right_in (PT.fst f) (IntKind.wrap .i64 (left - 1))) (f59_filter_right_out r156_2), r156_2 = false] (by kernel_rfl) ⟨g156_0, b156_5, g156_1, (hrc_f59_filter_right (PT.fst f) (IntKind.wrap .i64 (left - 1)) r156_2 cr156_2), b156_14, trivial⟩
          · have h := Option.some.inj h
            subst h
            have hk : o = f59_filter_right_out false := hk
            subst hk
            exact At.fin hm ht ⟨[(5, .b false)], [], [], [4], []⟩ [PT.isNil f = false, (((PT.num f) : Int) == 0) = false] (by kernel_rfl) ⟨g156_0, b156_5, trivial⟩
        · refine At.step hm ht ⟨[], [false], [], [0, 1, 14], []⟩ 19 ⟨[(0, oc (.d (.pt f))), (1, oc (zi left)), (14, oc (zi t14))], [], [], 0⟩ [((t14 : Int) == 8) = false] (by kernel_rfl) ⟨b155_e0, trivial⟩ ?_
          rcases iteS h with ⟨b157_e0, h⟩ | ⟨b157_e0, h⟩
          · rcases iteS h with ⟨b157_e1, h⟩ | ⟨b157_e1, h⟩
            · refine At.step hm ht ⟨[], [true, true], [], [0, 1], []⟩ 21 ⟨[(0, oc (.d (.pt f))), (1, oc (zi left))], [], [], 0⟩ [((t14 : Int) == 9) = true, ((t14 : Int) == 9) = true] (by kernel_rfl) ⟨b157_e0, b157_e1, trivial⟩ ?_
              obtain ⟨g158_0, h⟩ := ifS h
              rcases iteS h with ⟨b158_5, h⟩ | ⟨b158_5, h⟩
              · obtain ⟨g158_1, h⟩ := ifS h
                obtain ⟨r158_2, cr158_2, h⟩ := bindS h
                rcases iteS h with ⟨b158_14, h⟩ | ⟨b158_14, h⟩
                · obtain ⟨g158_3, h⟩ := ifS h
                  obtain ⟨r158_4, cr158_4, h⟩ := bindS h
                  have h := Option.some.inj h
                  subst h
                  have hk : o = f59_filter_right_out r158_4 := hk
                  subst hk
                  exact At.fin hm ht ⟨[(5, .b true), (12, .call [] [] (f59_filter_right_out r158_2)), (14, .b true), (21, .call [] [] (f59_filter_right_out r158_4))], [], [], [4], []⟩ [PT.isNil f = false, (((PT.num f) : Int) == 0) = true, PT.isNil f = false, FnOK Tryd.prog 59 (f59_filter_right_in (PT.fst f) (IntKind.wrap .i64 (left - 1))) (f59_filter_right_out r158_2), r158_2 = true, PT.isNil f = false, FnOK Tryd.prog 59 (f59_filter_right_in (PT.snd f) (IntKind.wrap .i64 (left - 1))) (f59_filter_right_out r158_4)] (by kernel_rfl) ⟨g158_0, b158_5, g158_1, (hrc_f59_filter_right (PT.fst f) (IntKind.wrap .i64 (left - 1)) r158_2 cr158_2), b158_14, g158_3, (hrc_f59_filter_right (PT.snd f) (IntKind.wrap .i64 (left - 1)) r158_4 cr158_4), trivial⟩
                · have h := Option.some.inj h
                  subst h
                  have hk : o = f59_filter_right_out false := hk
                  subst hk
                  exact At.fin hm ht ⟨[(5, .b true), (12, .call [] [] (f59_filter_right_out r158_2)), (14, .b false)], [], [], [4], []⟩ [PT.isNil f = false, (((PT.num f) : Int) == 0) = true, PT.isNil f = false, FnOK Tryd.prog 59 (f59_filter_right_in (PT.fst f) (IntKind.wrap .i64 (left - 1))) (f59_filter_right_out r158_2), r158_2 = false] (by kernel_rfl) ⟨g158_0, b158_5, g158_1, (hrc_f59_filter_right (PT.fst f) (IntKind.wrap .i64 (left - 1)) r158_2 cr158_2), b158_14, trivial⟩
              · have h := Option.some.inj h
                subst h
                have hk : o = f59_filter_right_out false := hk
                subst hk
                exact At.fin hm ht ⟨[(5, .b false)], [], [], [4], []⟩ [PT.isNil f = false, (((PT.num f) : Int) == 0) = false] (by kernel_rfl) ⟨g158_0, b158_5, trivial⟩
            · refine At.step hm ht ⟨[], [true, false], [], [], []⟩ 22 ⟨[], [], [], 0⟩ [((t14 : Int) == 9) = true, ((t14 : Int) == 9) = false] (by kernel_rfl) ⟨b157_e0, b157_e1, trivial⟩ ?_
              have h := Option.some.inj h
              subst h
              have hk : o = f59_filter_right_out false := hk
              subst hk
              exact At.fin hm ht ⟨[], [], [], [4], []⟩ [] (by kernel_rfl) trivial
          · refine At.step hm ht ⟨[], [false], [], [0, 1, 14], []⟩ 20 ⟨[(0, oc (.d (.pt f))), (1, oc (zi left)), (14, oc (zi t14))], [], [], 0⟩ [((t14 : Int) == 9) = false] (by kernel_rfl) ⟨b157_e0, trivial⟩ ?_
            rcases iteS h with ⟨b160_e0, h⟩ | ⟨b160_e0, h⟩
            · refine At.step hm ht ⟨[], [true], [], [0, 1], []⟩ 21 ⟨[(0, oc (.d (.pt f))), (1, oc (zi left))], [], [], 0⟩ [((t14 : Int) == 10) = true] (by kernel_rfl) ⟨b160_e0, trivial⟩ ?_
              obtain ⟨g161_0, h⟩ := ifS h
              rcases iteS h with ⟨b161_5, h⟩ | ⟨b161_5, h⟩
              · obtain ⟨g161_1, h⟩ := ifS h
                obtain ⟨r161_2, cr161_2, h⟩ := bindS h
                rcases iteS h with ⟨b161_14, h⟩ | ⟨b161_14, h⟩
                · obtain ⟨g161_3, h⟩ := ifS h
                  obtain ⟨r161_4, cr161_4, h⟩ := bindS h
                  have h := Option.some.inj h
                  subst h
                  have hk : o = f59_filter_right_out r161_4 := hk
                  subst hk
                  exact At.fin hm ht ⟨[(5, .b true), (12, .call [] [] (f59_filter_right_out r161_2)), (14, .b true), (21, .call [] [] (f59_filter_right_out r161_4))], [], [], [4], []⟩ [PT.isNil f = false, (((PT.num f) : Int) == 0) = true, PT.isNil f = false, FnOK Tryd.prog 59 (f59_filter_right_in (PT.fst f) (IntKind.wrap .i64 (left - 1))) (f59_filter_right_out r161_2), r161_2 = true, PT.isNil f = false, FnOK Tryd.prog 59 (f59_filter_right_in (PT.snd f) (IntKind.wrap .i64 (left - 1))) (f59_filter_right_out r161_4)] (by kernel_rfl) ⟨g161_0, b161_5, g161_1, (hrc_f59_filter_right (PT.fst f) (IntKind.wrap .i64 (left - 1)) r161_2 cr161_2), b161_14, g161_3, (hrc_f59_filter_right (PT.snd f) (IntKind.wrap .i64 (left - 1)) r161_4 cr161_4), trivial⟩
                · have h := Option.some.inj h
                  subst h
                  have hk : o = f59_filter_right_out false := hk
                  subst hk
                  exact At.fin hm ht ⟨[(5, .b true), (12, .call [] [] (f59_filter_right_out r161_2)), (14, .b false)], [], [], [4], []⟩ [PT.isNil f = false, (((PT.num f) : Int) == 0) = true, PT.isNil f = false, FnOK Tryd.prog 59 (f59_filter_right_in (PT.fst f) (IntKind.wrap .i64 (left - 1))) (f59_filter_right_out r161_2), r161_2 = false] (by kernel_rfl) ⟨g161_0, b161_5, g161_1, (hrc_f59_filter_right (PT.fst f) (IntKind.wrap .i64 (left - 1)) r161_2 cr161_2), b161_14, trivial⟩
              · have h := Option.some.inj h
                subst h
                have hk : o = f59_filter_right_out false := hk
                subst hk
                exact At.fin hm ht ⟨[(5, .b false)], [], [], [4], []⟩ [PT.isNil f = false, (((PT.num f) : Int) == 0) = false] (by kernel_rfl) ⟨g161_0, b161_5, trivial⟩
            · refine At.step hm ht ⟨[], [false], [], [], []⟩ 22 ⟨[], [], [], 0⟩ [((t14 : Int) == 10) = false] (by kernel_rfl) ⟨b160_e0, trivial⟩ ?_
              have h := Option.some.inj h
              subst h
              have hk : o = f59_filter_right_out false := hk
              subst hk
              exact At.fin hm ht ⟨[], [], [], [4], []⟩ [] (by kernel_rfl) trivial
def f59_filter_right_L7 (rc_f59_filter_right : PT → Int → Option (Bool)) : Nat → PT → Int → Int → Option (Bool)
  | 0, _, _, _ => none
  | n + 1, f, left, t14 =>
    if ((t14 : Int) == 2) = true then
      if PT.isNil f = false then
      if (((PT.num f) : Int) == 1) = true then
        if PT.isNil f = false then
        if (PT.isNil (PT.fst f)) = true then
          if PT.isNil f = false then
          some ((PT.isNil (PT.snd f)))
          else none
        else
          some (false)
        else none
      else
        if PT.isNil f = false then
        if (((PT.num f) : Int) == 2) = true then
          if PT.isNil f = false then
          if (PT.isNil (PT.fst f)) = true then
            if PT.isNil f = false then
            some ((PT.isNil (PT.snd f)))
            else none
          else
            some (false)
          else none
        else
          if PT.isNil f = false then
          if (((PT.num f) : Int) == 4) = true then
            if PT.isNil f = false then
            if (PT.isNil (PT.fst f)) = true then
              if PT.isNil f = false then
              some ((PT.isNil (PT.snd f)))
              else none
            else
              some (false)
            else none
          else
            some (false)
          else none
        else none
      else none
    else
      if ((t14 : Int) == 3) = true then
        if ((t14 : Int) == 3) = true then
          if PT.isNil f = false then
          if (decide (((PT.num f) : Int) ≥ 0)) = true then
            if PT.isNil f = false then
            if (decide (((PT.num f) : Int) ≤ 65535)) = true then
              if PT.isNil f = false then
              if (PT.isNil (PT.fst f)) = true then
                if PT.isNil f = false then
                some ((PT.isNil (PT.snd f)))
                else none
              else
                some (false)
              else none
            else
              some (false)
            else none
          else
            some (false)
          else none
        else
          (f59_filter_right_L13 rc_f59_filter_right n f left t14).bind fun w163 =>
          some (w163)
      else
        if ((t14 : Int) == 4) = true then
          if ((t14 : Int) == 4) = true then
            if PT.isNil f = false then
            if (decide (((PT.num f) : Int) ≥ 0)) = true then
              if PT.isNil f = false then
              if (decide (((PT.num f) : Int) ≤ 65535)) = true then
                if PT.isNil f = false then
                if (PT.isNil (PT.fst f)) = true then
                  if PT.isNil f = false then
                  some ((PT.isNil (PT.snd f)))
                  else none
                else
                  some (false)
                else none
              else
                some (false)
              else none
            else
              some (false)
            else none
          else
            (f59_filter_right_L13 rc_f59_filter_right n f left t14).bind fun w167 =>
            some (w167)
        else
          if ((t14 : Int) == 5) = true then
            if PT.isNil f = false then
            if (decide (((PT.num f) : Int) ≥ 0)) = true then
              if PT.isNil f = false then
              if (decide (((PT.num f) : Int) ≤ 65535)) = true then
                if PT.isNil f = false then
                if (PT.isNil (PT.fst f)) = true then
                  if PT.isNil f = false then
                  some ((PT.isNil (PT.snd f)))
                  else none
                else
                  some (false)
                else none
              else
                some (false)
              else none
            else
              some (false)
            else none
          else
            (f59_filter_right_L13 rc_f59_filter_right n f left t14).bind fun w171 =>
            some (w171)
def f59_filter_right_L7_k (e : Bool) (o : Out) : Prop := o = f59_filter_right_out e
theorem f59_filter_right_L7_ok (rc_f59_filter_right : PT → Int → Option (Bool)) (hrc_f59_filter_right : ∀ (f : PT) (left : Int) (r : Bool) (h : rc_f59_filter_right f left = some r), FnOK Tryd.prog 59 (f59_filter_right_in f left) (f59_filter_right_out r)) (n : Nat) : ∀ (f : PT) (left : Int) (t14 : Int) (w : Bool) (h : f59_filter_right_L7 rc_f59_filter_right n f left t14 = some w) (o : Out) (hk : f59_filter_right_L7_k w o), At Tryd.prog Tryd.f59 0 7 ⟨[(0, oc (.d (.pt f))), (1, oc (zi left)), (14, oc (zi t14))], [], [], 0⟩ o := by
  induction n with
  | zero => intro f left t14 w h; rw [f59_filter_right_L7] at h; cases h
  | succ n ih =>
    intro f left t14 w h o hk
    rw [f59_filter_right_L7] at h
    rcases iteS h with ⟨b147_e0, h⟩ | ⟨b147_e0, h⟩
    · refine At.step hm ht ⟨[], [true], [], [0], []⟩ 8 ⟨[(0, oc (.d (.pt f)))], [], [], 0⟩ [((t14 : Int) == 2) = true] (by kernel_rfl) ⟨b147_e0, trivial⟩ ?_
      obtain ⟨g148_0, h⟩ := ifS h
      rcases iteS h with ⟨b148_5, h⟩ | ⟨b148_5, h⟩
      · obtain ⟨g148_1, h⟩ := ifS h
        rcases iteS h with ⟨b148_26, h⟩ | ⟨b148_26, h⟩
        · obtain ⟨g148_2, h⟩ := ifS h
          have h := Option.some.inj h
          subst h
          have hk : o = f59_filter_right_out (PT.isNil (PT.snd f)) := hk
          subst hk
          exact At.fin hm ht ⟨[(5, .b true), (26, .b true)], [], [], [4], []⟩ [PT.isNil f = false, (((PT.num f) : Int) == 1) = true, PT.isNil f = false, (PT.isNil (PT.fst f)) = true, PT.isNil f = false] (by kernel_rfl) ⟨g148_0, b148_5, g148_1, b148_26, g148_2, trivial⟩
        · have h := Option.some.inj h
          subst h
          have hk : o = f59_filter_right_out false := hk
          subst hk
          exact At.fin hm ht ⟨[(5, .b true), (26, .b false)], [], [], [4], []⟩ [PT.isNil f = false, (((PT.num f) : Int) == 1) = true, PT.isNil f = false, (PT.isNil (PT.fst f)) = false] (by kernel_rfl) ⟨g148_0, b148_5, g148_1, b148_26, trivial⟩
      · obtain ⟨g148_1, h⟩ := ifS h
        rcases iteS h with ⟨b148_12, h⟩ | ⟨b148_12, h⟩
        · obtain ⟨g148_2, h⟩ := ifS h
          rcases iteS h with ⟨b148_26, h⟩ | ⟨b148_26, h⟩
          · obtain ⟨g148_3, h⟩ := ifS h
            have h := Option.some.inj h
            subst h
            have hk : o = f59_filter_right_out (PT.isNil (PT.snd f)) := hk
            subst hk
            exact At.fin hm ht ⟨[(5, .b false), (12, .b true), (26, .b true)], [], [], [4], []⟩ [PT.isNil f = false, (((PT.num f) : Int) == 1) = false, PT.isNil f = false, (((PT.num f) : Int) == 2) = true, PT.isNil f = false, (PT.isNil (PT.fst f)) = true, PT.isNil f = false] (by kernel_rfl) ⟨g148_0, b148_5, g148_1, b148_12, g148_2, b148_26, g148_3, trivial⟩
          · have h := Option.some.inj h
            subst h
            have hk : o = f59_filter_right_out false := hk
            subst hk
            exact At.fin hm ht ⟨[(5, .b false), (12, .b true), (26, .b false)], [], [], [4], []⟩ [PT.isNil f = false, (((PT.num f) : Int) == 1) = false, PT.isNil f = false, (((PT.num f) : Int) == 2) = true, PT.isNil f = false, (PT.isNil (PT.fst f)) = false] (by kernel_rfl) ⟨g148_0, b148_5, g148_1, b148_12, g148_2, b148_26, trivial⟩
        · obtain ⟨g148_2, h⟩ := ifS h
          rcases iteS h with ⟨b148_19, h⟩ | ⟨b148_19, h⟩
          · obtain ⟨g148_3, h⟩ := ifS h
            rcases iteS h with ⟨b148_26, h⟩ | ⟨b148_26, h⟩
            · obtain ⟨g148_4, h⟩ := ifS h
              have h := Option.some.inj h
              subst h
              have hk : o = f59_filter_right_out (PT.isNil (PT.snd f)) := hk
              subst hk
              exact At.fin hm ht ⟨[(5, .b false), (12, .b false), (19, .b true), (26, .b true)], [], [], [4], []⟩ [PT.isNil f = false, (((PT.num f) : Int) == 1) = false, PT.isNil f = false, (((PT.num f) : Int) == 2) = false, PT.isNil f = false, (((PT.num f) : Int) == 4) = true, PT.isNil f = false, (PT.isNil (PT.fst f)) = true, PT.isNil f = false] (by kernel_rfl) ⟨g148_0, b148_5, g148_1, b148_12, g148_2, b148_19, g148_3, b148_26, g148_4, trivial⟩
            · have h := Option.some.inj h
              subst h
              have hk : o = f59_filter_right_out false := hk
              subst hk
              exact At.fin hm ht ⟨[(5, .b false), (12, .b false), (19, .b true), (26, .b false)], [], [], [4], []⟩ [PT.isNil f = false, (((PT.num f) : Int) == 1) = false, PT.isNil f = false, (((PT.num f) : Int) == 2) = false, PT.isNil f = false, (((PT.num f) : Int) == 4) = true, PT.isNil f = false, (PT.isNil (PT.fst f)) = false] (by kernel_rfl) ⟨g148_0, b148_5, g148_1, b148_12, g148_2, b148_19, g148_3, b148_26, trivial⟩
          · have h := Option.some.inj h
            subst h
            have hk : o = f59_filter_right_out false := hk
            subst hk
            exact At.fin hm ht ⟨[(5, .b false), (12, .b false), (19, .b false)], [], [], [4], []⟩ [PT.isNil f = false, (((PT.num f) : Int) == 1) = false, PT.isNil f = false, (((PT.num f) : Int) == 2) = false, PT.isNil f = false, (((PT.num f) : Int) == 4) = false] (by kernel_rfl) ⟨g148_0, b148_5, g148_1, b148_12, g148_2, b148_19, trivial⟩
    · refine At.step hm ht ⟨[], [false], [], [0, 1, 14], []⟩ 9 ⟨[(0, oc (.d (.pt f))), (1, oc (zi left)), (14, oc (zi t14))], [], [], 0⟩ [((t14 : Int) == 2) = false] (by kernel_rfl) ⟨b147_e0, trivial⟩ ?_
      rcases iteS h with ⟨b149_e0, h⟩ | ⟨b149_e0, h⟩
      · rcases iteS h with ⟨b149_e1, h⟩ | ⟨b149_e1, h⟩
        · refine At.step hm ht ⟨[], [true, true], [], [0], []⟩ 12 ⟨[(0, oc (.d (.pt f)))], [], [], 0⟩ [((t14 : Int) == 3) = true, ((t14 : Int) == 3) = true] (by kernel_rfl) ⟨b149_e0, b149_e1, trivial⟩ ?_
          obtain ⟨g150_0, h⟩ := ifS h
          rcases iteS h with ⟨b150_5, h⟩ | ⟨b150_5, h⟩
          · obtain ⟨g150_1, h⟩ := ifS h
            rcases iteS h with ⟨b150_12, h⟩ | ⟨b150_12, h⟩
            · obtain ⟨g150_2, h⟩ := ifS h
              rcases iteS h with ⟨b150_19, h⟩ | ⟨b150_19, h⟩
              · obtain ⟨g150_3, h⟩ := ifS h
                have h := Option.some.inj h
                subst h
                have hk : o = f59_filter_right_out (PT.isNil (PT.snd f)) := hk
                subst hk
                exact At.fin hm ht ⟨[(5, .b true), (12, .b true), (19, .b true)], [], [], [4], []⟩ [PT.isNil f = false, (decide (((PT.num f) : Int) ≥ 0)) = true, PT.isNil f = false, (decide (((PT.num f) : Int) ≤ 65535)) = true, PT.isNil f = false, (PT.isNil (PT.fst f)) = true, PT.isNil f = false] (by kernel_rfl) ⟨g150_0, b150_5, g150_1, b150_12, g150_2, b150_19, g150_3, trivial⟩
              · have h := Option.some.inj h
                subst h
                have hk : o = f59_filter_right_out false := hk
                subst hk
                exact At.fin hm ht ⟨[(5, .b true), (12, .b true), (19, .b false)], [], [], [4], []⟩ [PT.isNil f = false, (decide (((PT.num f) : Int) ≥ 0)) = true, PT.isNil f = false, (decide (((PT.num f) : Int) ≤ 65535)) = true, PT.isNil f = false, (PT.isNil (PT.fst f)) = false] (by kernel_rfl) ⟨g150_0, b150_5, g150_1, b150_12, g150_2, b150_19, trivial⟩
            · have h := Option.some.inj h
              subst h
              have hk : o = f59_filter_right_out false := hk
              subst hk
              exact At.fin hm ht ⟨[(5, .b true), (12, .b false)], [], [], [4], []⟩ [PT.isNil f = false, (decide (((PT.num f) : Int) ≥ 0)) = true, PT.isNil f = false, (decide (((PT.num f) : Int) ≤ 65535)) = false] (by kernel_rfl) ⟨g150_0, b150_5, g150_1, b150_12, trivial⟩
          · have h := Option.some.inj h
            subst h
            have hk : o = f59_filter_right_out false := hk
            subst hk
            exact At.fin hm ht ⟨[(5, .b false)], [], [], [4], []⟩ [PT.isNil f = false, (decide (((PT.num f) : Int) ≥ 0)) = false] (by kernel_rfl) ⟨g150_0, b150_5, trivial⟩
        · refine At.step hm ht ⟨[], [true, false], [], [0, 1, 14], []⟩ 13 ⟨[(0, oc (.d (.pt f))), (1, oc (zi left)), (14, oc (zi t14))], [], [], 0⟩ [((t14 : Int) == 3) = true, ((t14 : Int) == 3) = false] (by kernel_rfl) ⟨b149_e0, b149_e1, trivial⟩ ?_
          obtain ⟨w163, cw163, h⟩ := bindS h
          refine f59_filter_right_L13_ok rc_f59_filter_right hrc_f59_filter_right n f left t14 w163 cw163 _ ?_
          have h := Option.some.inj h
          subst h
          exact hk
      · refine At.step hm ht ⟨[], [false], [], [0, 1, 14], []⟩ 10 ⟨[(0, oc (.d (.pt f))), (1, oc (zi left)), (14, oc (zi t14))], [], [], 0⟩ [((t14 : Int) == 3) = false] (by kernel_rfl) ⟨b149_e0, trivial⟩ ?_
        rcases iteS h with ⟨b165_e0, h⟩ | ⟨b165_e0, h⟩
        · rcases iteS h with ⟨b165_e1, h⟩ | ⟨b165_e1, h⟩
          · refine At.step hm ht ⟨[], [true, true], [], [0], []⟩ 12 ⟨[(0, oc (.d (.pt f)))], [], [], 0⟩ [((t14 : Int) == 4) = true, ((t14 : Int) == 4) = true] (by kernel_rfl) ⟨b165_e0, b165_e1, trivial⟩ ?_
            obtain ⟨g166_0, h⟩ := ifS h
            rcases iteS h with ⟨b166_5, h⟩ | ⟨b166_5, h⟩
            · obtain ⟨g166_1, h⟩ := ifS h
              rcases iteS h with ⟨b166_12, h⟩ | ⟨b166_12, h⟩
              · obtain ⟨g166_2, h⟩ := ifS h
                rcases iteS h with ⟨b166_19, h⟩ | ⟨b166_19, h⟩
                · obtain ⟨g166_3, h⟩ := ifS h
                  have h := Option.some.inj h
                  subst h
                  have hk : o = f59_filter_right_out (PT.isNil (PT.snd f)) := hk
                  subst hk
                  exact At.fin hm ht ⟨[(5, .b true), (12, .b true), (19, .b true)], [], [], [4], []⟩ [PT.isNil f = false, (decide (((PT.num f) : Int) ≥ 0)) = true, PT.isNil f = false, (decide (((PT.num f) : Int) ≤ 65535)) = true, PT.isNil f = false, (PT.isNil (PT.fst f)) = true, PT.isNil f = false] (by kernel_rfl) ⟨g166_0, b166_5, g166_1, b166_12, g166_2, b166_19, g166_3, trivial⟩
                · have h := Option.some.inj h
                  subst h
                  have hk : o = f59_filter_right_out false := hk
                  subst hk
                  exact At.fin hm ht ⟨[(5, .b true), (12, .b true), (19, .b false)], [], [], [4], []⟩ [PT.isNil f = false, (decide (((PT.num f) : Int) ≥ 0)) = true, PT.isNil f = false, (decide (((PT.num f) : Int) ≤ 65535)) = true, PT.isNil f = false, (PT.isNil (PT.fst f)) = false] (by kernel_rfl) ⟨g166_0, b166_5, g166_1, b166_12, g166_2, b166_19, trivial⟩
              · have h := Option.some.inj h
                subst h
                have hk : o = f59_filter_right_out false := hk
                subst hk
                exact At.fin hm ht ⟨[(5, .b true), (12, .b false)], [], [], [4], []⟩ [PT.isNil f = false, (decide (((PT.num f) : Int) ≥ 0)) = true, PT.isNil f = false, (decide (((PT.num f) : Int) ≤ 65535)) = false] (by kernel_rfl) ⟨g166_0, b166_5, g166_1, b166_12, trivial⟩
            · have h := Option.some.inj h
              subst h
              have hk : o = f59_filter_right_out false := hk
              subst hk
              exact At.fin hm ht ⟨[(5, .b false)], [], [], [4], []⟩ [PT.isNil f = false, (decide (((PT.num f) : Int) ≥ 0)) = false] (by kernel_rfl) ⟨g166_0, b166_5, trivial⟩
          · refine At.step hm ht ⟨[], [true, false], [], [0, 1, 14], []⟩ 13 ⟨[(0, oc (.d (.pt f))), (1, oc (zi left)), (14, oc (zi t14))], [], [], 0⟩ [((t14 : Int) == 4) = true, ((t14 : Int) == 4) = false] (by kernel_rfl) ⟨b165_e0, b165_e1, trivial⟩ ?_
            obtain ⟨w167, cw167, h⟩ := bindS h
            refine f59_filter_right_L13_ok rc_f59_filter_right hrc_f59_filter_right n f left t14 w167 cw167 _ ?_
            have h := Option.some.inj h
            subst h
            exact hk
        · refine At.step hm ht ⟨[], [false], [], [0, 1, 14], []⟩ 11 ⟨[(0, oc (.d (.pt f))), (1, oc (zi left)), (14, oc (zi t14))], [], [], 0⟩ [((t14 : Int) == 4) = false] (by kernel_rfl) ⟨b165_e0, trivial⟩ ?_
          rcases iteS h with ⟨b169_e0, h⟩ | ⟨b169_e0, h⟩
          · refine At.step hm ht ⟨[], [true], [], [0], []⟩ 12 ⟨[(0, oc (.d (.pt f)))], [], [], 0⟩ [((t14 : Int) == 5) = true] (by kernel_rfl) ⟨b169_e0, trivial⟩ ?_
            obtain ⟨g170_0, h⟩ := ifS h
            rcases iteS h with ⟨b170_5, h⟩ | ⟨b170_5, h⟩
            · obtain ⟨g170_1, h⟩ := ifS h
              rcases iteS h with ⟨b170_12, h⟩ | ⟨b170_12, h⟩
              · obtain ⟨g170_2, h⟩ := ifS h
                rcases iteS h with ⟨b170_19, h⟩ | ⟨b170_19, h⟩
                · obtain ⟨g170_3, h⟩ := ifS h
                  have h := Option.some.inj h
                  subst h
                  have hk : o = f59_filter_right_out (PT.isNil (PT.snd f)) := hk
                  subst hk
                  exact At.fin hm ht ⟨[(5, .b true), (12, .b true), (19, .b true)], [], [], [4], []⟩ [PT.isNil f = false, (decide (((PT.num f) : Int) ≥ 0)) = true, PT.isNil f = false, (decide (((PT.num f) : Int) ≤ 65535)) = true, PT.isNil f = false, (PT.isNil (PT.fst f)) = true, PT.isNil f = false] (by kernel_rfl) ⟨g170_0, b170_5, g170_1, b170_12, g170_2, b170_19, g170_3, trivial⟩
                · have h := Option.some.inj h
                  subst h
                  have hk : o = f59_filter_right_out false := hk
                  subst hk
                  exact At.fin hm ht ⟨[(5, .b true), (12, .b true), (19, .b false)], [], [], [4], []⟩ [PT.isNil f = false, (decide (((PT.num f) : Int) ≥ 0)) = true, PT.isNil f = false, (decide (((PT.num f) : Int) ≤ 65535)) = true, PT.isNil f = false, (PT.isNil (PT.fst f)) = false] (by kernel_rfl) ⟨g170_0, b170_5, g170_1, b170_12, g170_2, b170_19, trivial⟩
              · have h := Option.some.inj h
                subst h
                have hk : o = f59_filter_right_out false := hk
                subst hk
                exact At.fin hm ht ⟨[(5, .b true), (12, .b false)], [], [], [4], []⟩ [PT.isNil f = false, (decide (((PT.num f) : Int) ≥ 0)) = true, PT.isNil f = false, (decide (((PT.num f) : Int) ≤ 65535)) = false] (by kernel_rfl) ⟨g170_0, b170_5, g170_1, b170_12, trivial⟩
            · have h := Option.some.inj h
              subst h
              have hk : o = f59_filter_right_out false := hk
              subst hk
              exact At.fin hm ht ⟨[(5, .b false)], [], [], [4], []⟩ [PT.isNil f = false, (decide (((PT.num f) : Int) ≥ 0)) = false] (by kernel_rfl) ⟨g170_0, b170_5, trivial⟩
          · refine At.step hm ht ⟨[], [false], [], [0, 1, 14], []⟩ 13 ⟨[(0, oc (.d (.pt f))), (1, oc (zi left)), (14, oc (zi t14))], [], [], 0⟩ [((t14 : Int) == 5) = false] (by kernel_rfl) ⟨b169_e0, trivial⟩ ?_
            obtain ⟨w171, cw171, h⟩ := bindS h
            refine f59_filter_right_L13_ok rc_f59_filter_right hrc_f59_filter_right n f left t14 w171 cw171 _ ?_
            have h := Option.some.inj h
            subst h
            exact hk
def f59_filter_right : Nat → PT → Int → Option (Bool)
  | 0, _, _ => none
  | n + 1, f, left =>
    if (PT.isNil f) = true then
      some false
    else
      if ((left : Int) == 0) = true then
        some false
      else
        if PT.isNil f = false then
        if (((PT.op f) : Int) == 1) = true then
          if (((PT.op f) : Int) == 1) = true then
            if PT.isNil f = false then
            if (((PT.num f) : Int) == 0) = true then
              if PT.isNil f = false then
              if (PT.isNil (PT.fst f)) = true then
                if PT.isNil f = false then
                some (PT.isNil (PT.snd f))
                else none
              else
                some false
              else none
            else
              some false
            else none
          else
            (f59_filter_right_L7 (f59_filter_right n) n f left (PT.op f)).bind fun w173 =>
            some w173
        else
          if (((PT.op f) : Int) == 11) = true then
            if PT.isNil f = false then
            if (((PT.num f) : Int) == 0) = true then
              if PT.isNil f = false then
              if (PT.isNil (PT.fst f)) = true then
                if PT.isNil f = false then
                some (PT.isNil (PT.snd f))
                else none
              else
                some false
              else none
            else
              some false
            else none
          else
            (f59_filter_right_L7 (f59_filter_right n) n f left (PT.op f)).bind fun w177 =>
            some w177
        else none
theorem f59_filter_right_ok (n : Nat) : ∀ (f : PT) (left : Int) (r : Bool) (h : f59_filter_right n f left = some r), FnOK Tryd.prog 59 (f59_filter_right_in f left) (f59_filter_right_out r) := by
  induction n with
  | zero => intro f left r h; rw [f59_filter_right] at h; cases h
  | succ n ih =>
    intro f left r h
    rw [f59_filter_right] at h
    refine At.fn (r := 0) Tryd.func59 rfl (by kernel_rfl) rfl rfl (by kernel_rfl) ?_
    show At Tryd.prog Tryd.f59 0 0 ⟨[(0, oc (.d (.pt f))), (1, oc (zi left))], [], [], 0⟩ _
    refine At.step hm ht ⟨[], [], [], [0, 1], []⟩ 1 ⟨[(0, oc (.d (.pt f))), (1, oc (zi left))], [], [], 0⟩ [] (by kernel_rfl) trivial ?_
    rcases iteS h with ⟨b141_2, h⟩ | ⟨b141_2, h⟩
    · refine At.step hm ht ⟨[(2, .b true)], [true], [], [], []⟩ 2 ⟨[], [], [], 0⟩ [(PT.isNil f) = true, true = true] (by kernel_rfl) ⟨b141_2, rfl, trivial⟩ ?_
      have h := Option.some.inj h
      subst h
      exact At.fin hm ht ⟨[], [], [], [4], []⟩ [] (by kernel_rfl) trivial
    · rcases iteS h with ⟨b141_e0, h⟩ | ⟨b141_e0, h⟩
      · refine At.step hm ht ⟨[(2, .b false)], [true], [], [], []⟩ 2 ⟨[], [], [], 0⟩ [(PT.isNil f) = false, ((left : Int) == 0) = true] (by kernel_rfl) ⟨b141_2, b141_e0, trivial⟩ ?_
        have h := Option.some.inj h
        subst h
        exact At.fin hm ht ⟨[], [], [], [4], []⟩ [] (by kernel_rfl) trivial
      · refine At.step hm ht ⟨[(2, .b false)], [false], [], [0, 1], []⟩ 3 ⟨[(0, oc (.d (.pt f))), (1, oc (zi left))], [], [], 0⟩ [(PT.isNil f) = false, ((left : Int) == 0) = false] (by kernel_rfl) ⟨b141_2, b141_e0, trivial⟩ ?_
        obtain ⟨g144_0, h⟩ := ifS h
        refine At.step hm ht ⟨[], [], [], [0, 1, 14], []⟩ 4 ⟨[(0, oc (.d (.pt f))), (1, oc (zi left)), (14, oc (zi (PT.op f)))], [], [], 0⟩ [PT.isNil f = false] (by kernel_rfl) ⟨g144_0, trivial⟩ ?_
        rcases iteS h with ⟨b145_e0, h⟩ | ⟨b145_e0, h⟩
        · rcases iteS h with ⟨b145_e1, h⟩ | ⟨b145_e1, h⟩
          · refine At.step hm ht ⟨[], [true, true], [], [0], []⟩ 6 ⟨[(0, oc (.d (.pt f)))], [], [], 0⟩ [(((PT.op f) : Int) == 1) = true, (((PT.op f) : Int) == 1) = true] (by kernel_rfl) ⟨b145_e0, b145_e1, trivial⟩ ?_
            obtain ⟨g146_0, h⟩ := ifS h
            rcases iteS h with ⟨b146_5, h⟩ | ⟨b146_5, h⟩
            · obtain ⟨g146_1, h⟩ := ifS h
              rcases iteS h with ⟨b146_12, h⟩ | ⟨b146_12, h⟩
              · obtain ⟨g146_2, h⟩ := ifS h
                have h := Option.some.inj h
                subst h
                exact At.fin hm ht ⟨[(5, .b true), (12, .b true)], [], [], [4], []⟩ [PT.isNil f = false, (((PT.num f) : Int) == 0) = true, PT.isNil f = false, (PT.isNil (PT.fst f)) = true, PT.isNil f = false] (by kernel_rfl) ⟨g146_0, b146_5, g146_1, b146_12, g146_2, trivial⟩
              · have h := Option.some.inj h
                subst h
                exact At.fin hm ht ⟨[(5, .b true), (12, .b false)], [], [], [4], []⟩ [PT.isNil f = false, (((PT.num f) : Int) == 0) = true, PT.isNil f = false, (PT.isNil (PT.fst f)) = false] (by kernel_rfl) ⟨g146_0, b146_5, g146_1, b146_12, trivial⟩
            · have h := Option.some.inj h
              subst h
              exact At.fin hm ht ⟨[(5, .b false)], [], [], [4], []⟩ [PT.isNil f = false, (((PT.num f) : Int) == 0) = false] (by kernel_rfl) ⟨g146_0, b146_5, trivial⟩
          · refine At.step hm ht ⟨[], [true, false], [], [0, 1, 14], []⟩ 7 ⟨[(0, oc (.d (.pt f))), (1, oc (zi left)), (14, oc (zi (PT.op f)))], [], [], 0⟩ [(((PT.op f) : Int) == 1) = true, (((PT.op f) : Int) == 1) = false] (by kernel_rfl) ⟨b145_e0, b145_e1, trivial⟩ ?_
            obtain ⟨w173, cw173, h⟩ := bindS h
            refine f59_filter_right_L7_ok (f59_filter_right n) ih n f left (PT.op f) w173 cw173 _ ?_
            have h := Option.some.inj h
            subst h
            rfl
        · refine At.step hm ht ⟨[], [false], [], [0, 1, 14], []⟩ 5 ⟨[(0, oc (.d (.pt f))), (1, oc (zi left)), (14, oc (zi (PT.op f)))], [], [], 0⟩ [(((PT.op f) : Int) == 1) = false] (by kernel_rfl) ⟨b145_e0, trivial⟩ ?_
          rcases iteS h with ⟨b175_e0, h⟩ | ⟨b175_e0, h⟩
          · refine At.step hm ht ⟨[], [true], [], [0], []⟩ 6 ⟨[(0, oc (.d (.pt f)))], [], [], 0⟩ [(((PT.op f) : Int) == 11) = true] (by kernel_rfl) ⟨b175_e0, trivial⟩ ?_
            obtain ⟨g176_0, h⟩ := ifS h
            rcases iteS h with ⟨b176_5, h⟩ | ⟨b176_5, h⟩
            · obtain ⟨g176_1, h⟩ := ifS h
              rcases iteS h with ⟨b176_12, h⟩ | ⟨b176_12, h⟩
              · obtain ⟨g176_2, h⟩ := ifS h
                have h := Option.some.inj h
                subst h
                exact At.fin hm ht ⟨[(5, .b true), (12, .b true)], [], [], [4], []⟩ [PT.isNil f = false, (((PT.num f) : Int) == 0) = true, PT.isNil f = false, (PT.isNil (PT.fst f)) = true, PT.isNil f = false] (by kernel_rfl) ⟨g176_0, b176_5, g176_1, b176_12, g176_2, trivial⟩
              · have h := Option.some.inj h
                subst h
                exact At.fin hm ht ⟨[(5, .b true), (12, .b false)], [], [], [4], []⟩ [PT.isNil f = false, (((PT.num f) : Int) == 0) = true, PT.isNil f = false, (PT.isNil (PT.fst f)) = false] (by kernel_rfl) ⟨g176_0, b176_5, g176_1, b176_12, trivial⟩
            · have h := Option.some.inj h
              subst h
              exact At.fin hm ht ⟨[(5, .b false)], [], [], [4], []⟩ [PT.isNil f = false, (((PT.num f) : Int) == 0) = false] (by kernel_rfl) ⟨g176_0, b176_5, trivial⟩
          · refine At.step hm ht ⟨[], [false], [], [0, 1, 14], []⟩ 7 ⟨[(0, oc (.d (.pt f))), (1, oc (zi left)), (14, oc (zi (PT.op f)))], [], [], 0⟩ [(((PT.op f) : Int) == 11) = false] (by kernel_rfl) ⟨b175_e0, trivial⟩ ?_
            obtain ⟨w177, cw177, h⟩ := bindS h
            refine f59_filter_right_L7_ok (f59_filter_right n) ih n f left (PT.op f) w177 cw177 _ ?_
            have h := Option.some.inj h
            subst h
            rfl
/-! brougham/filter.Right -/
def f31_filter_Right_in (f : PT) : Inn := ⟨[.c (.d (.pt f))], [], [], 0⟩
def f31_filter_Right_out (r : Bool) : Out := ⟨oc (.d (.bool r)), [], [], 0⟩
def f31_filter_Right (n : Nat) (f : PT) : Option (Bool) :=
  (f59_filter_right n f 16).bind fun r139_0 =>
  some r139_0
theorem f31_filter_Right_ok (n : Nat) (f : PT) (r : Bool) (h : f31_filter_Right n f = some r) : FnOK Tryd.prog 31 (f31_filter_Right_in f) (f31_filter_Right_out r) := by
  unfold f31_filter_Right at h
  refine At.fn (r := 0) Tryd.func31 rfl (by kernel_rfl) rfl rfl (by kernel_rfl) ?_
  show At Tryd.prog Tryd.f31 0 0 ⟨[(0, oc (.d (.pt f)))], [], [], 0⟩ _
  refine At.step hm ht ⟨[], [], [], [0], []⟩ 1 ⟨[(0, oc (.d (.pt f)))], [], [], 0⟩ [] (by kernel_rfl) trivial ?_
  obtain ⟨r139_0, cr139_0, h⟩ := bindS h
  have h := Option.some.inj h
  subst h
  exact At.fin hm ht ⟨[(1, .call [] [] (f59_filter_right_out r139_0))], [], [], [2], []⟩ [FnOK Tryd.prog 59 (f59_filter_right_in f 16) (f59_filter_right_out r139_0)] (by kernel_rfl) ⟨(f59_filter_right_ok n f 16 r139_0 cr139_0), trivial⟩
/-! brougham/seg.First -/
def f89_seg_First_in (s_0 : Int) (s_1 : Int) (s_2 : Int) (s_3 : Int) (s_4 : Int) (s_5 : List (Int × List Int)) (s_6 : List Int) (kind : Int) : Inn := ⟨[.agg [.d (.int .u16 s_0), .d (.int .u16 s_1), .d (.int .u32 s_2), .d (.int .u32 s_3), .d (.int .u8 s_4), .d (.sl (.pair (.int .u8) (.slice (.int .u8))) s_5), .d (.sl (.int .u8) s_6)], .c (.d (.int .u8 kind))], [], [], 0⟩
def f89_seg_First_out (r : Bool × Int × List Int) : Out := ⟨.tup [.agg [.d (.int .u8 r.2.1), .d (.sl (.int .u8) r.2.2)], .c (.d (.bool r.1))], [], [(0, [.d (.int .u8 r.2.1), .d (.sl (.int .u8) r.2.2)])], 1⟩
def f89_seg_First_L2 : Nat → Int → (List (Int × List Int)) → Int → Int → Int → Option ((Bool × Int × List Int) ⊕ (Int))
  | 0, _, _, _, _, _ => none
  | n + 1, kind, t9, t10, t11, t4_0 =>
    if (decide ((t11 : Int) < t10)) = true then
      if (0 : Int) ≤ t11 ∧ t11 < (((t9).length : Nat) : Int) then
      if ((((t9.getD t11.toNat (0, [])).1) : Int) == kind) = true then
        some (.inl (true, (t9.getD t11.toNat (0, [])).1, (t9.getD t11.toNat (0, [])).2))
      else
        f89_seg_First_L2 n kind t9 t10 (IntKind.wrap .i64 (t11 + 1)) t4_0
      else none
    else
      some (.inr t4_0)
def f89_seg_First_L2_k (w : (Bool × Int × List Int) ⊕ (Int)) (o : Out) : Prop := match w with
  | .inl e => o = f89_seg_First_out e
  | .inr e => At Tryd.prog Tryd.f89 0 7 ⟨[(4, oc (.ptr 0 0))], [], [(0, [.d (.int .u8 e), .d (.sl .unit [])])], 1⟩ o
theorem f89_seg_First_L2_ok (n : Nat) : ∀ (kind : Int) (t9 : List (Int × List Int)) (t10 : Int) (t11 : Int) (t4_0 : Int) (w : (Bool × Int × List Int) ⊕ (Int)) (h : f89_seg_First_L2 n kind t9 t10 t11 t4_0 = some w) (o : Out) (hk : f89_seg_First_L2_k w o), At Tryd.prog Tryd.f89 0 2 ⟨[(1, oc (.d (.int .u8 kind))), (4, oc (.ptr 0 0)), (9, oc (.d (.sl (.pair (.int .u8) (.slice (.int .u8))) t9))), (10, oc (zi t10)), (11, oc (zi t11))], [], [(0, [.d (.int .u8 t4_0), .d (.sl .unit [])])], 1⟩ o := by
  induction n with
  | zero => intro kind t9 t10 t11 t4_0 w h; rw [f89_seg_First_L2] at h; cases h
  | succ n ih =>
    intro kind t9 t10 t11 t4_0 w h o hk
    rw [f89_seg_First_L2] at h
    rcases iteS h with ⟨b195_e0, h⟩ | ⟨b195_e0, h⟩
    · refine At.step hm ht ⟨[], [true], [], [1, 4, 9, 10, 11], [0]⟩ 3 ⟨[(1, oc (.d (.int .u8 kind))), (4, oc (.ptr 0 0)), (9, oc (.d (.sl (.pair (.int .u8) (.slice (.int .u8))) t9))), (10, oc (zi t10)), (11, oc (zi t11))], [], [(0, [.d (.int .u8 t4_0), .d (.sl .unit [])])], 1⟩ [(decide ((t11 : Int) < t10)) = true] (by kernel_rfl) ⟨b195_e0, trivial⟩ ?_
      obtain ⟨g196_0, h⟩ := ifS h
      refine At.step hm ht ⟨[], [], [], [1, 4, 7, 9, 10, 11], [0, 3]⟩ 4 ⟨[(1, oc (.d (.int .u8 kind))), (4, oc (.ptr 0 0)), (7, oc (.ptr 1 0)), (9, oc (.d (.sl (.pair (.int .u8) (.slice (.int .u8))) t9))), (10, oc (zi t10)), (11, oc (zi t11))], [], [(0, [.d (.int .u8 t4_0), .d (.sl .unit [])]), (1, [.d (.int .u8 ((t9.getD t11.toNat (0, [])).1)), .d (.sl (.int .u8) ((t9.getD t11.toNat (0, [])).2))])], 2⟩ [(0 : Int) ≤ t11 ∧ t11 < (((t9).length : Nat) : Int), 0 + 2 ≤ 2] (by kernel_rfl) ⟨g196_0, (by decide), trivial⟩ ?_
      rcases iteS h with ⟨b197_e0, h⟩ | ⟨b197_e0, h⟩
      · refine At.step hm ht ⟨[], [true], [], [4, 7], [0, 1]⟩ 5 ⟨[(4, oc (.ptr 0 0)), (7, oc (.ptr 1 0))], [], [(0, [.d (.int .u8 t4_0), .d (.sl .unit [])]), (1, [.d (.int .u8 ((t9.getD t11.toNat (0, [])).1)), .d (.sl (.int .u8) ((t9.getD t11.toNat (0, [])).2))])], 2⟩ [((((t9.getD t11.toNat (0, [])).1) : Int) == kind) = true] (by kernel_rfl) ⟨b197_e0, trivial⟩ ?_
        have h := Option.some.inj h
        subst h
        have hk : o = f89_seg_First_out (true, (t9.getD t11.toNat (0, [])).1, (t9.getD t11.toNat (0, [])).2) := hk
        subst hk
        exact At.fin hm ht ⟨[], [], [], [4, 5], [0]⟩ [0 + 2 ≤ 2] (by kernel_rfl) ⟨(by decide), trivial⟩
      · refine At.step hm ht ⟨[], [false], [], [1, 4, 9, 10, 11], [0]⟩ 6 ⟨[(1, oc (.d (.int .u8 kind))), (4, oc (.ptr 0 0)), (9, oc (.d (.sl (.pair (.int .u8) (.slice (.int .u8))) t9))), (10, oc (zi t10)), (11, oc (zi t11))], [], [(0, [.d (.int .u8 t4_0), .d (.sl .unit [])])], 1⟩ [((((t9.getD t11.toNat (0, [])).1) : Int) == kind) = false] (by kernel_rfl) ⟨b197_e0, trivial⟩ ?_
        refine At.step hm ht ⟨[], [], [], [1, 4, 9, 10, 11], [0]⟩ 2 ⟨[(1, oc (.d (.int .u8 kind))), (4, oc (.ptr 0 0)), (9, oc (.d (.sl (.pair (.int .u8) (.slice (.int .u8))) t9))), (10, oc (zi t10)), (11, oc (zi (IntKind.wrap .i64 (t11 + 1))))], [], [(0, [.d (.int .u8 t4_0), .d (.sl .unit [])])], 1⟩ [] (by kernel_rfl) trivial ?_
        exact ih kind t9 t10 (IntKind.wrap .i64 (t11 + 1)) t4_0 w h o hk
    · refine At.step hm ht ⟨[], [false], [], [4], [0]⟩ 7 ⟨[(4, oc (.ptr 0 0))], [], [(0, [.d (.int .u8 t4_0), .d (.sl .unit [])])], 1⟩ [(decide ((t11 : Int) < t10)) = false] (by kernel_rfl) ⟨b195_e0, trivial⟩ ?_
      have h := Option.some.inj h
      subst h
      exact hk
def f89_seg_First (n : Nat) (s_0 : Int) (s_1 : Int) (s_2 : Int) (s_3 : Int) (s_4 : Int) (s_5 : List (Int × List Int)) (s_6 : List Int) (kind : Int) : Option (Bool × Int × List Int) :=
  (f89_seg_First_L2 n kind s_5 ((s_5.length : Nat) : Int) 0 0).bind fun w200 =>
  match w200 with
  | .inl e201 =>
    some (e201.1, e201.2.1, e201.2.2)
  | .inr e202 =>
    some (false, 0, [])
theorem f89_seg_First_ok (n : Nat) (s_0 : Int) (s_1 : Int) (s_2 : Int) (s_3 : Int) (s_4 : Int) (s_5 : List (Int × List Int)) (s_6 : List Int) (kind : Int) (r : Bool × Int × List Int) (h : f89_seg_First n s_0 s_1 s_2 s_3 s_4 s_5 s_6 kind = some r) : FnOK Tryd.prog 89 (f89_seg_First_in s_0 s_1 s_2 s_3 s_4 s_5 s_6 kind) (f89_seg_First_out r) := by
  unfold f89_seg_First at h
  refine At.fn (r := 0) Tryd.func89 rfl (by kernel_rfl) rfl rfl (by kernel_rfl) ?_
  show At Tryd.prog Tryd.f89 0 0 ⟨[(0, .one (.agg [.d (.int .u16 s_0), .d (.int .u16 s_1), .d (.int .u32 s_2), .d (.int .u32 s_3), .d (.int .u8 s_4), .d (.sl (.pair (.int .u8) (.slice (.int .u8))) s_5), .d (.sl (.int .u8) s_6)])), (1, oc (.d (.int .u8 kind)))], [], [], 0⟩ _
  refine At.step hm ht ⟨[], [], [], [1, 2, 4], [0, 1]⟩ 1 ⟨[(1, oc (.d (.int .u8 kind))), (2, oc (.ptr 0 0)), (4, oc (.ptr 1 0))], [], [(0, [.d (.int .u16 s_0), .d (.int .u16 s_1), .d (.int .u32 s_2), .d (.int .u32 s_3), .d (.int .u8 s_4), .d (.sl (.pair (.int .u8) (.slice (.int .u8))) s_5), .d (.sl (.int .u8) s_6)]), (1, [.d (.int .u8 0), .d (.sl .unit [])])], 2⟩ [] (by kernel_rfl) trivial ?_
  refine At.step hm ht ⟨[], [], [], [1, 4, 9, 10, 11], [1]⟩ 2 ⟨[(1, oc (.d (.int .u8 kind))), (4, oc (.ptr 0 0)), (9, oc (.d (.sl (.pair (.int .u8) (.slice (.int .u8))) s_5))), (10, oc (zi ((s_5.length : Nat) : Int))), (11, oc (zi 0))], [], [(0, [.d (.int .u8 0), .d (.sl .unit [])])], 1⟩ [] (by kernel_rfl) trivial ?_
  obtain ⟨w200, cw200, h⟩ := bindS h
  refine f89_seg_First_L2_ok n kind s_5 ((s_5.length : Nat) : Int) 0 0 w200 cw200 _ ?_
  rcases w200 with e201 | e202
  · have h := Option.some.inj h
    subst h
    rfl
  · show At Tryd.prog Tryd.f89 0 7 ⟨[(4, oc (.ptr 0 0))], [], [(0, [.d (.int .u8 e202), .d (.sl .unit [])])], 1⟩ _
    have h := Option.some.inj h
    subst h
    exact At.fin hm ht ⟨[], [], [.nil true 0 1 (.int .u8) none], [4, 5], [0]⟩ [0 + 2 ≤ 2] (by kernel_rfl) ⟨(by decide), trivial⟩
/-! brougham/filter.match -/
def f60_filter_match_in (f : PT) (s_0 : Int) (s_1 : Int) (s_2 : Int) (s_3 : Int) (s_4 : Int) (s_5 : List (Int × List Int)) (s_6 : List Int) : Inn := ⟨[.c (.d (.pt f)), .agg [.d (.int .u16 s_0), .d (.int .u16 s_1), .d (.int .u32 s_2), .d (.int .u32 s_3), .d (.int .u8 s_4), .d (.sl (.pair (.int .u8) (.slice (.int .u8))) s_5), .d (.sl (.int .u8) s_6)]], [], [], 0⟩
def f60_filter_match_out (r : Bool) : Out := ⟨oc (.d (.bool r)), [], [], 0⟩
def f60_filter_match : Nat → PT → Int → Int → Int → Int → Int → (List (Int × List Int)) → (List Int) → Option (Bool)
  | 0, _, _, _, _, _, _, _, _ => none
  | n + 1, f, s_0, s_1, s_2, s_3, s_4, s_5, s_6 =>
    if PT.isNil f = false then
    if (((PT.op f) : Int) == 1) = true then
      some true
    else
      if (((PT.op f) : Int) == 2) = true then
        if PT.isNil f = false then
        some (((bits .and .i64 (IntKind.wrap .i64 s_4) (PT.num f)) : Int) != 0)
        else none
      else
        if (((PT.op f) : Int) == 3) = true then
          if PT.isNil f = false then
          if (((IntKind.wrap .i64 s_0) : Int) == (PT.num f)) = true then
            some true
          else
            if PT.isNil f = false then
            some (((IntKind.wrap .i64 s_1) : Int) == (PT.num f))
            else none
          else none
        else
          if (((PT.op f) : Int) == 4) = true then
            if PT.isNil f = false then
            some (((IntKind.wrap .i64 s_0) : Int) == (PT.num f))
            else none
          else
            if (((PT.op f) : Int) == 5) = true then
              if PT.isNil f = false then
              some (((IntKind.wrap .i64 s_1) : Int) == (PT.num f))
              else none
            else
              if (((PT.op f) : Int) == 6) = true then
                if PT.isNil f = false then
                (f89_seg_First n s_0 s_1 s_2 s_3 s_4 s_5 s_6 (IntKind.wrap .u8 (PT.num f))).bind fun r192_1 =>
                some r192_1.1
                else none
              else
                if (((PT.op f) : Int) == 7) = true then
                  if PT.isNil f = false then
                  some (decide ((((s_6.length : Nat) : Int) : Int) ≥ (PT.num f)))
                  else none
                else
                  if (((PT.op f) : Int) == 11) = true then
                    some ((((s_6.length : Nat) : Int) : Int) == 0)
                  else
                    if (((PT.op f) : Int) == 8) = true then
                      if PT.isNil f = false then
                      ((f60_filter_match n) (PT.fst f) s_0 s_1 s_2 s_3 s_4 s_5 s_6).bind fun r210_1 =>
                      some (!r210_1)
                      else none
                    else
                      if (((PT.op f) : Int) == 9) = true then
                        if PT.isNil f = false then
                        ((f60_filter_match n) (PT.fst f) s_0 s_1 s_2 s_3 s_4 s_5 s_6).bind fun r212_1 =>
                        if r212_1 = true then
                          if PT.isNil f = false then
                          ((f60_filter_match n) (PT.snd f) s_0 s_1 s_2 s_3 s_4 s_5 s_6).bind fun r212_3 =>
                          some r212_3
                          else none
                        else
                          some false
                        else none
                      else
                        if PT.isNil f = false then
                        ((f60_filter_match n) (PT.fst f) s_0 s_1 s_2 s_3 s_4 s_5 s_6).bind fun r213_1 =>
                        if r213_1 = true then
                          some true
                        else
                          if PT.isNil f = false then
                          ((f60_filter_match n) (PT.snd f) s_0 s_1 s_2 s_3 s_4 s_5 s_6).bind fun r213_3 =>
                          some r213_3
                          else none
                        else none
    else none
theorem f60_filter_match_ok (n : Nat) : ∀ (f : PT) (s_0 : Int) (s_1 : Int) (s_2 : Int) (s_3 : Int) (s_4 : Int) (s_5 : List (Int × List Int)) (s_6 : List Int) (r : Bool) (h : f60_filter_match n f s_0 s_1 s_2 s_3 s_4 s_5 s_6 = some r), FnOK Tryd.prog 60 (f60_filter_match_in f s_0 s_1 s_2 s_3 s_4 s_5 s_6) (f60_filter_match_out r) := by
  induction n with
  | zero => intro f s_0 s_1 s_2 s_3 s_4 s_5 s_6 r h; rw [f60_filter_match] at h; cases h
  | succ n ih =>
    intro f s_0 s_1 s_2 s_3 s_4 s_5 s_6 r h
    rw [f60_filter_match] at h
    refine At.fn (r := 0) Tryd.func60 rfl (by kernel_rfl) rfl rfl (by kernel_rfl) ?_
    show At Tryd.prog Tryd.f60 0 0 ⟨[(0, oc (.d (.pt f))), (1, .one (.agg [.d (.int .u16 s_0), .d (.int .u16 s_1), .d (.int .u32 s_2), .d (.int .u32 s_3), .d (.int .u8 s_4), .d (.sl (.pair (.int .u8) (.slice (.int .u8))) s_5), .d (.sl (.int .u8) s_6)]))], [], [], 0⟩ _
    refine At.step hm ht ⟨[], [], [], [0, 3], [0]⟩ 1 ⟨[(0, oc (.d (.pt f))), (3, oc (.ptr 0 0))], [], [(0, [.d (.int .u16 s_0), .d (.int .u16 s_1), .d (.int .u32 s_2), .d (.int .u32 s_3), .d (.int .u8 s_4), .d (.sl (.pair (.int .u8) (.slice (.int .u8))) s_5), .d (.sl (.int .u8) s_6)])], 1⟩ [] (by kernel_rfl) trivial ?_
    obtain ⟨g180_0, h⟩ := ifS h
    refine At.step hm ht ⟨[], [], [], [0, 3, 10], [0]⟩ 2 ⟨[(0, oc (.d (.pt f))), (3, oc (.ptr 0 0)), (10, oc (zi (PT.op f)))], [], [(0, [.d (.int .u16 s_0), .d (.int .u16 s_1), .d (.int .u32 s_2), .d (.int .u32 s_3), .d (.int .u8 s_4), .d (.sl (.pair (.int .u8) (.slice (.int .u8))) s_5), .d (.sl (.int .u8) s_6)])], 1⟩ [PT.isNil f = false] (by kernel_rfl) ⟨g180_0, trivial⟩ ?_
    rcases iteS h with ⟨b181_e0, h⟩ | ⟨b181_e0, h⟩
    · refine At.step hm ht ⟨[], [true], [], [], []⟩ 3 ⟨[], [], [], 0⟩ [(((PT.op f) : Int) == 1) = true] (by kernel_rfl) ⟨b181_e0, trivial⟩ ?_
      have h := Option.some.inj h
      subst h
      exact At.fin hm ht ⟨[], [], [], [4], []⟩ [] (by kernel_rfl) trivial
    · refine At.step hm ht ⟨[], [false], [], [0, 3, 10], [0]⟩ 4 ⟨[(0, oc (.d (.pt f))), (3, oc (.ptr 0 0)), (10, oc (zi (PT.op f)))], [], [(0, [.d (.int .u16 s_0), .d (.int .u16 s_1), .d (.int .u32 s_2), .d (.int .u32 s_3), .d (.int .u8 s_4), .d (.sl (.pair (.int .u8) (.slice (.int .u8))) s_5), .d (.sl (.int .u8) s_6)])], 1⟩ [(((PT.op f) : Int) == 1) = false] (by kernel_rfl) ⟨b181_e0, trivial⟩ ?_
      rcases iteS h with ⟨b183_e0, h⟩ | ⟨b183_e0, h⟩
      · refine At.step hm ht ⟨[], [true], [], [0, 3], [0]⟩ 5 ⟨[(0, oc (.d (.pt f))), (3, oc (.ptr 0 0))], [], [(0, [.d (.int .u16 s_0), .d (.int .u16 s_1), .d (.int .u32 s_2), .d (.int .u32 s_3), .d (.int .u8 s_4), .d (.sl (.pair (.int .u8) (.slice (.int .u8))) s_5), .d (.sl (.int .u8) s_6)])], 1⟩ [(((PT.op f) : Int) == 2) = true] (by kernel_rfl) ⟨b183_e0, trivial⟩ ?_
        obtain ⟨g184_0, h⟩ := ifS h
        have h := Option.some.inj h
        subst h
        exact At.fin hm ht ⟨[], [], [], [4], []⟩ [PT.isNil f = false] (by kernel_rfl) ⟨g184_0, trivial⟩
      · refine At.step hm ht ⟨[], [false], [], [0, 3, 10], [0]⟩ 6 ⟨[(0, oc (.d (.pt f))), (3, oc (.ptr 0 0)), (10, oc (zi (PT.op f)))], [], [(0, [.d (.int .u16 s_0), .d (.int .u16 s_1), .d (.int .u32 s_2), .d (.int .u32 s_3), .d (.int .u8 s_4), .d (.sl (.pair (.int .u8) (.slice (.int .u8))) s_5), .d (.sl (.int .u8) s_6)])], 1⟩ [(((PT.op f) : Int) == 2) = false] (by kernel_rfl) ⟨b183_e0, trivial⟩ ?_
        rcases iteS h with ⟨b185_e0, h⟩ | ⟨b185_e0, h⟩
        · refine At.step hm ht ⟨[], [true], [], [0, 3], [0]⟩ 7 ⟨[(0, oc (.d (.pt f))), (3, oc (.ptr 0 0))], [], [(0, [.d (.int .u16 s_0), .d (.int .u16 s_1), .d (.int .u32 s_2), .d (.int .u32 s_3), .d (.int .u8 s_4), .d (.sl (.pair (.int .u8) (.slice (.int .u8))) s_5), .d (.sl (.int .u8) s_6)])], 1⟩ [(((PT.op f) : Int) == 3) = true] (by kernel_rfl) ⟨b185_e0, trivial⟩ ?_
          obtain ⟨g186_0, h⟩ := ifS h
          rcases iteS h with ⟨b186_8, h⟩ | ⟨b186_8, h⟩
          · have h := Option.some.inj h
            subst h
            exact At.fin hm ht ⟨[(8, .b true)], [], [], [4], []⟩ [PT.isNil f = false, (((IntKind.wrap .i64 s_0) : Int) == (PT.num f)) = true] (by kernel_rfl) ⟨g186_0, b186_8, trivial⟩
          · obtain ⟨g186_1, h⟩ := ifS h
            have h := Option.some.inj h
            subst h
            exact At.fin hm ht ⟨[(8, .b false)], [], [], [4], []⟩ [PT.isNil f = false, (((IntKind.wrap .i64 s_0) : Int) == (PT.num f)) = false, PT.isNil f = false] (by kernel_rfl) ⟨g186_0, b186_8, g186_1, trivial⟩
        · refine At.step hm ht ⟨[], [false], [], [0, 3, 10], [0]⟩ 8 ⟨[(0, oc (.d (.pt f))), (3, oc (.ptr 0 0)), (10, oc (zi (PT.op f)))], [], [(0, [.d (.int .u16 s_0), .d (.int .u16 s_1), .d (.int .u32 s_2), .d (.int .u32 s_3), .d (.int .u8 s_4), .d (.sl (.pair (.int .u8) (.slice (.int .u8))) s_5), .d (.sl (.int .u8) s_6)])], 1⟩ [(((PT.op f) : Int) == 3) = false] (by kernel_rfl) ⟨b185_e0, trivial⟩ ?_
          rcases iteS h with ⟨b187_e0, h⟩ | ⟨b187_e0, h⟩
          · refine At.step hm ht ⟨[], [true], [], [0, 3], [0]⟩ 9 ⟨[(0, oc (.d (.pt f))), (3, oc (.ptr 0 0))], [], [(0, [.d (.int .u16 s_0), .d (.int .u16 s_1), .d (.int .u32 s_2), .d (.int .u32 s_3), .d (.int .u8 s_4), .d (.sl (.pair (.int .u8) (.slice (.int .u8))) s_5), .d (.sl (.int .u8) s_6)])], 1⟩ [(((PT.op f) : Int) == 4) = true] (by kernel_rfl) ⟨b187_e0, trivial⟩ ?_
            obtain ⟨g188_0, h⟩ := ifS h
            have h := Option.some.inj h
            subst h
            exact At.fin hm ht ⟨[], [], [], [4], []⟩ [PT.isNil f = false] (by kernel_rfl) ⟨g188_0, trivial⟩
          · refine At.step hm ht ⟨[], [false], [], [0, 3, 10], [0]⟩ 10 ⟨[(0, oc (.d (.pt f))), (3, oc (.ptr 0 0)), (10, oc (zi (PT.op f)))], [], [(0, [.d (.int .u16 s_0), .d (.int .u16 s_1), .d (.int .u32 s_2), .d (.int .u32 s_3), .d (.int .u8 s_4), .d (.sl (.pair (.int .u8) (.slice (.int .u8))) s_5), .d (.sl (.int .u8) s_6)])], 1⟩ [(((PT.op f) : Int) == 4) = false] (by kernel_rfl) ⟨b187_e0, trivial⟩ ?_
            rcases iteS h with ⟨b189_e0, h⟩ | ⟨b189_e0, h⟩
            · refine At.step hm ht ⟨[], [true], [], [0, 3], [0]⟩ 11 ⟨[(0, oc (.d (.pt f))), (3, oc (.ptr 0 0))], [], [(0, [.d (.int .u16 s_0), .d (.int .u16 s_1), .d (.int .u32 s_2), .d (.int .u32 s_3), .d (.int .u8 s_4), .d (.sl (.pair (.int .u8) (.slice (.int .u8))) s_5), .d (.sl (.int .u8) s_6)])], 1⟩ [(((PT.op f) : Int) == 5) = true] (by kernel_rfl) ⟨b189_e0, trivial⟩ ?_
              obtain ⟨g190_0, h⟩ := ifS h
              have h := Option.some.inj h
              subst h
              exact At.fin hm ht ⟨[], [], [], [4], []⟩ [PT.isNil f = false] (by kernel_rfl) ⟨g190_0, trivial⟩
            · refine At.step hm ht ⟨[], [false], [], [0, 3, 10], [0]⟩ 12 ⟨[(0, oc (.d (.pt f))), (3, oc (.ptr 0 0)), (10, oc (zi (PT.op f)))], [], [(0, [.d (.int .u16 s_0), .d (.int .u16 s_1), .d (.int .u32 s_2), .d (.int .u32 s_3), .d (.int .u8 s_4), .d (.sl (.pair (.int .u8) (.slice (.int .u8))) s_5), .d (.sl (.int .u8) s_6)])], 1⟩ [(((PT.op f) : Int) == 5) = false] (by kernel_rfl) ⟨b189_e0, trivial⟩ ?_
              rcases iteS h with ⟨b191_e0, h⟩ | ⟨b191_e0, h⟩
              · refine At.step hm ht ⟨[], [true], [], [0, 3], [0]⟩ 13 ⟨[(0, oc (.d (.pt f))), (3, oc (.ptr 0 0))], [], [(0, [.d (.int .u16 s_0), .d (.int .u16 s_1), .d (.int .u32 s_2), .d (.int .u32 s_3), .d (.int .u8 s_4), .d (.sl (.pair (.int .u8) (.slice (.int .u8))) s_5), .d (.sl (.int .u8) s_6)])], 1⟩ [(((PT.op f) : Int) == 6) = true] (by kernel_rfl) ⟨b191_e0, trivial⟩ ?_
                obtain ⟨g192_0, h⟩ := ifS h
                obtain ⟨r192_1, cr192_1, h⟩ := bindS h
                refine At.step hm ht ⟨[(6, .call [] [] (f89_seg_First_out r192_1))], [], [], [6], []⟩ 14 ⟨[(6, oc (.d (.bool r192_1.1)))], [], [], 0⟩ [PT.isNil f = false, FnOK Tryd.prog 89 (f89_seg_First_in s_0 s_1 s_2 s_3 s_4 s_5 s_6 (IntKind.wrap .u8 (PT.num f))) (f89_seg_First_out r192_1), 0 + 2 ≤ 2] (by kernel_rfl) ⟨g192_0, (f89_seg_First_ok n s_0 s_1 s_2 s_3 s_4 s_5 s_6 (IntKind.wrap .u8 (PT.num f)) r192_1 cr192_1), (by decide), trivial⟩ ?_
                have h := Option.some.inj h
                subst h
                exact At.fin hm ht ⟨[], [], [], [4], []⟩ [] (by kernel_rfl) trivial
              · refine At.step hm ht ⟨[], [false], [], [0, 3, 10], [0]⟩ 15 ⟨[(0, oc (.d (.pt f))), (3, oc (.ptr 0 0)), (10, oc (zi (PT.op f)))], [], [(0, [.d (.int .u16 s_0), .d (.int .u16 s_1), .d (.int .u32 s_2), .d (.int .u32 s_3), .d (.int .u8 s_4), .d (.sl (.pair (.int .u8) (.slice (.int .u8))) s_5), .d (.sl (.int .u8) s_6)])], 1⟩ [(((PT.op f) : Int) == 6) = false] (by kernel_rfl) ⟨b191_e0, trivial⟩ ?_
                rcases iteS h with ⟨b205_e0, h⟩ | ⟨b205_e0, h⟩
                · refine At.step hm ht ⟨[], [true], [], [0, 3], [0]⟩ 16 ⟨[(0, oc (.d (.pt f))), (3, oc (.ptr 0 0))], [], [(0, [.d (.int .u16 s_0), .d (.int .u16 s_1), .d (.int .u32 s_2), .d (.int .u32 s_3), .d (.int .u8 s_4), .d (.sl (.pair (.int .u8) (.slice (.int .u8))) s_5), .d (.sl (.int .u8) s_6)])], 1⟩ [(((PT.op f) : Int) == 7) = true] (by kernel_rfl) ⟨b205_e0, trivial⟩ ?_
                  obtain ⟨g206_0, h⟩ := ifS h
                  have h := Option.some.inj h
                  subst h
                  exact At.fin hm ht ⟨[], [], [], [4], []⟩ [PT.isNil f = false] (by kernel_rfl) ⟨g206_0, trivial⟩
                · refine At.step hm ht ⟨[], [false], [], [0, 3, 10], [0]⟩ 17 ⟨[(0, oc (.d (.pt f))), (3, oc (.ptr 0 0)), (10, oc (zi (PT.op f)))], [], [(0, [.d (.int .u16 s_0), .d (.int .u16 s_1), .d (.int .u32 s_2), .d (.int .u32 s_3), .d (.int .u8 s_4), .d (.sl (.pair (.int .u8) (.slice (.int .u8))) s_5), .d (.sl (.int .u8) s_6)])], 1⟩ [(((PT.op f) : Int) == 7) = false] (by kernel_rfl) ⟨b205_e0, trivial⟩ ?_
                  rcases iteS h with ⟨b207_e0, h⟩ | ⟨b207_e0, h⟩
                  · refine At.step hm ht ⟨[], [true], [], [3], [0]⟩ 18 ⟨[(3, oc (.ptr 0 0))], [], [(0, [.d (.int .u16 s_0), .d (.int .u16 s_1), .d (.int .u32 s_2), .d (.int .u32 s_3), .d (.int .u8 s_4), .d (.sl (.pair (.int .u8) (.slice (.int .u8))) s_5), .d (.sl (.int .u8) s_6)])], 1⟩ [(((PT.op f) : Int) == 11) = true] (by kernel_rfl) ⟨b207_e0, trivial⟩ ?_
                    have h := Option.some.inj h
                    subst h
                    exact At.fin hm ht ⟨[], [], [], [4], []⟩ [] (by kernel_rfl) trivial
                  · refine At.step hm ht ⟨[], [false], [], [0, 3, 10], [0]⟩ 19 ⟨[(0, oc (.d (.pt f))), (3, oc (.ptr 0 0)), (10, oc (zi (PT.op f)))], [], [(0, [.d (.int .u16 s_0), .d (.int .u16 s_1), .d (.int .u32 s_2), .d (.int .u32 s_3), .d (.int .u8 s_4), .d (.sl (.pair (.int .u8) (.slice (.int .u8))) s_5), .d (.sl (.int .u8) s_6)])], 1⟩ [(((PT.op f) : Int) == 11) = false] (by kernel_rfl) ⟨b207_e0, trivial⟩ ?_
                    rcases iteS h with ⟨b209_e0, h⟩ | ⟨b209_e0, h⟩
                    · refine At.step hm ht ⟨[], [true], [], [0, 3], [0]⟩ 20 ⟨[(0, oc (.d (.pt f))), (3, oc (.ptr 0 0))], [], [(0, [.d (.int .u16 s_0), .d (.int .u16 s_1), .d (.int .u32 s_2), .d (.int .u32 s_3), .d (.int .u8 s_4), .d (.sl (.pair (.int .u8) (.slice (.int .u8))) s_5), .d (.sl (.int .u8) s_6)])], 1⟩ [(((PT.op f) : Int) == 8) = true] (by kernel_rfl) ⟨b209_e0, trivial⟩ ?_
                      obtain ⟨g210_0, h⟩ := ifS h
                      obtain ⟨r210_1, cr210_1, h⟩ := bindS h
                      have h := Option.some.inj h
                      subst h
                      exact At.fin hm ht ⟨[(5, .call [] [] (f60_filter_match_out r210_1))], [], [], [4], []⟩ [PT.isNil f = false, FnOK Tryd.prog 60 (f60_filter_match_in (PT.fst f) s_0 s_1 s_2 s_3 s_4 s_5 s_6) (f60_filter_match_out r210_1)] (by kernel_rfl) ⟨g210_0, (ih (PT.fst f) s_0 s_1 s_2 s_3 s_4 s_5 s_6 r210_1 cr210_1), trivial⟩
                    · refine At.step hm ht ⟨[], [false], [], [0, 3, 10], [0]⟩ 21 ⟨[(0, oc (.d (.pt f))), (3, oc (.ptr 0 0)), (10, oc (zi (PT.op f)))], [], [(0, [.d (.int .u16 s_0), .d (.int .u16 s_1), .d (.int .u32 s_2), .d (.int .u32 s_3), .d (.int .u8 s_4), .d (.sl (.pair (.int .u8) (.slice (.int .u8))) s_5), .d (.sl (.int .u8) s_6)])], 1⟩ [(((PT.op f) : Int) == 8) = false] (by kernel_rfl) ⟨b209_e0, trivial⟩ ?_
                      rcases iteS h with ⟨b211_e0, h⟩ | ⟨b211_e0, h⟩
                      · refine At.step hm ht ⟨[], [true], [], [0, 3], [0]⟩ 22 ⟨[(0, oc (.d (.pt f))), (3, oc (.ptr 0 0))], [], [(0, [.d (.int .u16 s_0), .d (.int .u16 s_1), .d (.int .u32 s_2), .d (.int .u32 s_3), .d (.int .u8 s_4), .d (.sl (.pair (.int .u8) (.slice (.int .u8))) s_5), .d (.sl (.int .u8) s_6)])], 1⟩ [(((PT.op f) : Int) == 9) = true] (by kernel_rfl) ⟨b211_e0, trivial⟩ ?_
                        obtain ⟨g212_0, h⟩ := ifS h
                        obtain ⟨r212_1, cr212_1, h⟩ := bindS h
                        rcases iteS h with ⟨b212_6, h⟩ | ⟨b212_6, h⟩
                        · obtain ⟨g212_2, h⟩ := ifS h
                          obtain ⟨r212_3, cr212_3, h⟩ := bindS h
                          have h := Option.some.inj h
                          subst h
                          exact At.fin hm ht ⟨[(5, .call [] [] (f60_filter_match_out r212_1)), (6, .b true), (12, .call [] [] (f60_filter_match_out r212_3))], [], [], [4], []⟩ [PT.isNil f = false, FnOK Tryd.prog 60 (f60_filter_match_in (PT.fst f) s_0 s_1 s_2 s_3 s_4 s_5 s_6) (f60_filter_match_out r212_1), r212_1 = true, PT.isNil f = false, FnOK Tryd.prog 60 (f60_filter_match_in (PT.snd f) s_0 s_1 s_2 s_3 s_4 s_5 s_6) (f60_filter_match_out r212_3)] (by kernel_rfl) ⟨g212_0, (ih (PT.fst f) s_0 s_1 s_2 s_3 s_4 s_5 s_6 r212_1 cr212_1), b212_6, g212_2, (ih (PT.snd f) s_0 s_1 s_2 s_3 s_4 s_5 s_6 r212_3 cr212_3), trivial⟩
                        · have h := Option.some.inj h
                          subst h
                          exact At.fin hm ht ⟨[(5, .call [] [] (f60_filter_match_out r212_1)), (6, .b false)], [], [], [4], []⟩ [PT.isNil f = false, FnOK Tryd.prog 60 (f60_filter_match_in (PT.fst f) s_0 s_1 s_2 s_3 s_4 s_5 s_6) (f60_filter_match_out r212_1), r212_1 = false] (by kernel_rfl) ⟨g212_0, (ih (PT.fst f) s_0 s_1 s_2 s_3 s_4 s_5 s_6 r212_1 cr212_1), b212_6, trivial⟩
                      · refine At.step hm ht ⟨[], [false], [], [0, 3], [0]⟩ 23 ⟨[(0, oc (.d (.pt f))), (3, oc (.ptr 0 0))], [], [(0, [.d (.int .u16 s_0), .d (.int .u16 s_1), .d (.int .u32 s_2), .d (.int .u32 s_3), .d (.int .u8 s_4), .d (.sl (.pair (.int .u8) (.slice (.int .u8))) s_5), .d (.sl (.int .u8) s_6)])], 1⟩ [(((PT.op f) : Int) == 9) = false] (by kernel_rfl) ⟨b211_e0, trivial⟩ ?_
                        obtain ⟨g213_0, h⟩ := ifS h
                        obtain ⟨r213_1, cr213_1, h⟩ := bindS h
                        rcases iteS h with ⟨b213_6, h⟩ | ⟨b213_6, h⟩
                        · have h := Option.some.inj h
                          subst h
                          exact At.fin hm ht ⟨[(5, .call [] [] (f60_filter_match_out r213_1)), (6, .b true)], [], [], [4], []⟩ [PT.isNil f = false, FnOK Tryd.prog 60 (f60_filter_match_in (PT.fst f) s_0 s_1 s_2 s_3 s_4 s_5 s_6) (f60_filter_match_out r213_1), r213_1 = true] (by kernel_rfl) ⟨g213_0, (ih (PT.fst f) s_0 s_1 s_2 s_3 s_4 s_5 s_6 r213_1 cr213_1), b213_6, trivial⟩
                        · obtain ⟨g213_2, h⟩ := ifS h
                          obtain ⟨r213_3, cr213_3, h⟩ := bindS h
                          have h := Option.some.inj h
                          subst h
                          exact At.fin hm ht ⟨[(5, .call [] [] (f60_filter_match_out r213_1)), (6, .b false), (12, .call [] [] (f60_filter_match_out r213_3))], [], [], [4], []⟩ [PT.isNil f = false, FnOK Tryd.prog 60 (f60_filter_match_in (PT.fst f) s_0 s_1 s_2 s_3 s_4 s_5 s_6) (f60_filter_match_out r213_1), r213_1 = false, PT.isNil f = false, FnOK Tryd.prog 60 (f60_filter_match_in (PT.snd f) s_0 s_1 s_2 s_3 s_4 s_5 s_6) (f60_filter_match_out r213_3)] (by kernel_rfl) ⟨g213_0, (ih (PT.fst f) s_0 s_1 s_2 s_3 s_4 s_5 s_6 r213_1 cr213_1), b213_6, g213_2, (ih (PT.snd f) s_0 s_1 s_2 s_3 s_4 s_5 s_6 r213_3 cr213_3), trivial⟩
/-! brougham/filter.Match -/
def f32_filter_Match_in (f : PT) (s_0 : Int) (s_1 : Int) (s_2 : Int) (s_3 : Int) (s_4 : Int) (s_5 : List (Int × List Int)) (s_6 : List Int) : Inn := ⟨[.c (.d (.pt f)), .agg [.d (.int .u16 s_0), .d (.int .u16 s_1), .d (.int .u32 s_2), .d (.int .u32 s_3), .d (.int .u8 s_4), .d (.sl (.pair (.int .u8) (.slice (.int .u8))) s_5), .d (.sl (.int .u8) s_6)]], [], [], 0⟩
def f32_filter_Match_out (r : Bool) : Out := ⟨oc (.d (.bool r)), [], [], 0⟩
def f32_filter_Match (n : Nat) (f : PT) (s_0 : Int) (s_1 : Int) (s_2 : Int) (s_3 : Int) (s_4 : Int) (s_5 : List (Int × List Int)) (s_6 : List Int) : Option (Bool) :=
  (f31_filter_Right n f).bind fun r137_0 =>
  if r137_0 = true then
    (f60_filter_match n f s_0 s_1 s_2 s_3 s_4 s_5 s_6).bind fun r137_1 =>
    some r137_1
  else
    some false
theorem f32_filter_Match_ok (n : Nat) (f : PT) (s_0 : Int) (s_1 : Int) (s_2 : Int) (s_3 : Int) (s_4 : Int) (s_5 : List (Int × List Int)) (s_6 : List Int) (r : Bool) (h : f32_filter_Match n f s_0 s_1 s_2 s_3 s_4 s_5 s_6 = some r) : FnOK Tryd.prog 32 (f32_filter_Match_in f s_0 s_1 s_2 s_3 s_4 s_5 s_6) (f32_filter_Match_out r) := by
  unfold f32_filter_Match at h
  refine At.fn (r := 0) Tryd.func32 rfl (by kernel_rfl) rfl rfl (by kernel_rfl) ?_
  show At Tryd.prog Tryd.f32 0 0 ⟨[(0, oc (.d (.pt f))), (1, .one (.agg [.d (.int .u16 s_0), .d (.int .u16 s_1), .d (.int .u32 s_2), .d (.int .u32 s_3), .d (.int .u8 s_4), .d (.sl (.pair (.int .u8) (.slice (.int .u8))) s_5), .d (.sl (.int .u8) s_6)]))], [], [], 0⟩ _
  refine At.step hm ht ⟨[], [], [], [0, 3], [0]⟩ 1 ⟨[(0, oc (.d (.pt f))), (3, oc (.ptr 0 0))], [], [(0, [.d (.int .u16 s_0), .d (.int .u16 s_1), .d (.int .u32 s_2), .d (.int .u32 s_3), .d (.int .u8 s_4), .d (.sl (.pair (.int .u8) (.slice (.int .u8))) s_5), .d (.sl (.int .u8) s_6)])], 1⟩ [] (by kernel_rfl) trivial ?_
  obtain ⟨r137_0, cr137_0, h⟩ := bindS h
  rcases iteS h with ⟨b137_2, h⟩ | ⟨b137_2, h⟩
  · obtain ⟨r137_1, cr137_1, h⟩ := bindS h
    have h := Option.some.inj h
    subst h
    exact At.fin hm ht ⟨[(1, .call [] [] (f31_filter_Right_out r137_0)), (2, .b true), (5, .call [] [] (f60_filter_match_out r137_1))], [], [], [4], []⟩ [FnOK Tryd.prog 31 (f31_filter_Right_in f) (f31_filter_Right_out r137_0), r137_0 = true, FnOK Tryd.prog 60 (f60_filter_match_in f s_0 s_1 s_2 s_3 s_4 s_5 s_6) (f60_filter_match_out r137_1)] (by kernel_rfl) ⟨(f31_filter_Right_ok n f r137_0 cr137_0), b137_2, (f60_filter_match_ok n f s_0 s_1 s_2 s_3 s_4 s_5 s_6 r137_1 cr137_1), trivial⟩
  · have h := Option.some.inj h
    subst h
    exact At.fin hm ht ⟨[(1, .call [] [] (f31_filter_Right_out r137_0)), (2, .b false)], [], [], [4], []⟩ [FnOK Tryd.prog 31 (f31_filter_Right_in f) (f31_filter_Right_out r137_0), r137_0 = false] (by kernel_rfl) ⟨(f31_filter_Right_ok n f r137_0 cr137_0), b137_2, trivial⟩
/-! brougham/filter.Both -/
def f38_filter_Both_in (l : List PT) : Inn := ⟨[.c (.d (.sl .tree l))], [], [], 0⟩
def f38_filter_Both_out (r : PT) : Out := ⟨oc (.d (.pt r)), [], [], 0⟩
def f38_filter_Both_L5 : Nat → PT → (List PT) → Int → Int → Option (PT)
  | 0, _, _, _, _ => none
  | n + 1, f, t15, t16, t17 =>
    if (decide ((t17 : Int) < t16)) = true then
      if (0 : Int) ≤ t17 ∧ t17 < (((t15).length : Nat) : Int) then
      f38_filter_Both_L5 n (PT.node 9 0 f (t15.getD t17.toNat PT.nil)) t15 t16 (IntKind.wrap .i64 (t17 + 1))
      else none
    else
      some (f)
def f38_filter_Both_L5_k (e : PT) (o : Out) : Prop := At Tryd.prog Tryd.f38 0 9 ⟨[(3, oc (.d (.pt e)))], [], [], 0⟩ o
theorem f38_filter_Both_L5_ok (n : Nat) : ∀ (f : PT) (t15 : List PT) (t16 : Int) (t17 : Int) (w : PT) (h : f38_filter_Both_L5 n f t15 t16 t17 = some w) (o : Out) (hk : f38_filter_Both_L5_k w o), At Tryd.prog Tryd.f38 0 5 ⟨[(3, oc (.d (.pt f))), (15, oc (.d (.sl .tree t15))), (16, oc (zi t16)), (17, oc (zi t17))], [], [], 0⟩ o := by
  induction n with
  | zero => intro f t15 t16 t17 w h; rw [f38_filter_Both_L5] at h; cases h
  | succ n ih =>
    intro f t15 t16 t17 w h o hk
    rw [f38_filter_Both_L5] at h
    rcases iteS h with ⟨b222_e0, h⟩ | ⟨b222_e0, h⟩
    · refine At.step hm ht ⟨[], [true], [], [3, 15, 16, 17], []⟩ 6 ⟨[(3, oc (.d (.pt f))), (15, oc (.d (.sl .tree t15))), (16, oc (zi t16)), (17, oc (zi t17))], [], [], 0⟩ [(decide ((t17 : Int) < t16)) = true] (by kernel_rfl) ⟨b222_e0, trivial⟩ ?_
      obtain ⟨g223_0, h⟩ := ifS h
      refine At.step hm ht ⟨[], [], [], [3, 5, 15, 16, 17], []⟩ 7 ⟨[(3, oc (.d (.pt f))), (5, oc (.d (.pt (t15.getD t17.toNat PT.nil)))), (15, oc (.d (.sl .tree t15))), (16, oc (zi t16)), (17, oc (zi t17))], [], [], 0⟩ [(0 : Int) ≤ t17 ∧ t17 < (((t15).length : Nat) : Int)] (by kernel_rfl) ⟨g223_0, trivial⟩ ?_
      refine At.step hm ht ⟨[], [], [.tree 3], [3, 15, 16, 17], []⟩ 8 ⟨[(3, oc (.d (.pt (PT.node 9 0 f (t15.getD t17.toNat PT.nil))))), (15, oc (.d (.sl .tree t15))), (16, oc (zi t16)), (17, oc (zi t17))], [], [], 0⟩ [] (by kernel_rfl) trivial ?_
      refine At.step hm ht ⟨[], [], [], [3, 15, 16, 17], []⟩ 5 ⟨[(3, oc (.d (.pt (PT.node 9 0 f (t15.getD t17.toNat PT.nil))))), (15, oc (.d (.sl .tree t15))), (16, oc (zi t16)), (17, oc (zi (IntKind.wrap .i64 (t17 + 1))))], [], [], 0⟩ [] (by kernel_rfl) trivial ?_
      exact ih (PT.node 9 0 f (t15.getD t17.toNat PT.nil)) t15 t16 (IntKind.wrap .i64 (t17 + 1)) w h o hk
    · refine At.step hm ht ⟨[], [false], [], [3], []⟩ 9 ⟨[(3, oc (.d (.pt f)))], [], [], 0⟩ [(decide ((t17 : Int) < t16)) = false] (by kernel_rfl) ⟨b222_e0, trivial⟩ ?_
      have h := Option.some.inj h
      subst h
      exact hk
def f38_filter_Both (n : Nat) (l : List PT) : Option (PT) :=
  if ((((l.length : Nat) : Int) : Int) == 0) = true then
    some (PT.node 1 0 PT.nil PT.nil)
  else
    if (0 : Int) ≤ 0 ∧ 0 < (((l).length : Nat) : Int) then
    if cutOk l.length (some 1) none none then
    (f38_filter_Both_L5 n (l.getD 0 PT.nil) ((l.take l.length).drop 1) ((((l.take l.length).drop 1).length : Nat) : Int) 0).bind fun w226 =>
    some w226
    else none
    else none
theorem f38_filter_Both_ok (n : Nat) (l : List PT) (r : PT) (h : f38_filter_Both n l = some r) : FnOK Tryd.prog 38 (f38_filter_Both_in l) (f38_filter_Both_out r) := by
  unfold f38_filter_Both at h
  refine At.fn (r := 0) Tryd.func38 rfl (by kernel_rfl) rfl rfl (by kernel_rfl) ?_
  show At Tryd.prog Tryd.f38 0 0 ⟨[(0, oc (.d (.sl .tree l)))], [], [], 0⟩ _
  refine At.step hm ht ⟨[], [], [.nilpt 2], [0], []⟩ 1 ⟨[(0, oc (.d (.sl .tree l)))], [], [], 0⟩ [] (by kernel_rfl) trivial ?_
  rcases iteS h with ⟨b218_e0, h⟩ | ⟨b218_e0, h⟩
  · refine At.step hm ht ⟨[], [true], [], [], []⟩ 2 ⟨[], [], [], 0⟩ [((((l.length : Nat) : Int) : Int) == 0) = true] (by kernel_rfl) ⟨b218_e0, trivial⟩ ?_
    have h := Option.some.inj h
    subst h
    exact At.fin hm ht ⟨[], [], [.tree 1], [2], []⟩ [] (by kernel_rfl) trivial
  · refine At.step hm ht ⟨[], [false], [], [0], []⟩ 3 ⟨[(0, oc (.d (.sl .tree l)))], [], [], 0⟩ [((((l.length : Nat) : Int) : Int) == 0) = false] (by kernel_rfl) ⟨b218_e0, trivial⟩ ?_
    obtain ⟨g220_0, h⟩ := ifS h
    refine At.step hm ht ⟨[], [], [], [0, 3], []⟩ 4 ⟨[(0, oc (.d (.sl .tree l))), (3, oc (.d (.pt (l.getD 0 PT.nil))))], [], [], 0⟩ [(0 : Int) ≤ 0 ∧ 0 < (((l).length : Nat) : Int)] (by kernel_rfl) ⟨g220_0, trivial⟩ ?_
    obtain ⟨g221_0, h⟩ := ifS h
    refine At.step hm ht ⟨[], [], [], [3, 15, 16, 17], []⟩ 5 ⟨[(3, oc (.d (.pt (l.getD 0 PT.nil)))), (15, oc (.d (.sl .tree ((l.take l.length).drop 1)))), (16, oc (zi ((((l.take l.length).drop 1).length : Nat) : Int))), (17, oc (zi 0))], [], [], 0⟩ [cutOk l.length (some 1) none none] (by kernel_rfl) ⟨g221_0, trivial⟩ ?_
    obtain ⟨w226, cw226, h⟩ := bindS h
    refine f38_filter_Both_L5_ok n (l.getD 0 PT.nil) ((l.take l.length).drop 1) ((((l.take l.length).drop 1).length : Nat) : Int) 0 w226 cw226 _ ?_
    show At Tryd.prog Tryd.f38 0 9 ⟨[(3, oc (.d (.pt w226)))], [], [], 0⟩ _
    have h := Option.some.inj h
    subst h
    exact At.fin hm ht ⟨[], [], [], [2], []⟩ [] (by kernel_rfl) trivial
/-! brougham/broughamlaw35.Plain -/
def f25_broughamlaw35_Plain_in (f : PT) (levels : Int) : Inn := ⟨[.c (.d (.pt f)), .c (zi levels)], [], [], 0⟩
def f25_broughamlaw35_Plain_out (r : Int × Int × List (Int × Int × List FT)) : Out := ⟨.one (.agg [zi r.1, zi r.2.1, .own 1 (.pair (.int .i64) (.pair (.int .i64) .wood)) r.2.2]), [(1, ⟨42, 0⟩)], [(0, [zi r.1, zi r.2.1, .own 1 (.pair (.int .i64) (.pair (.int .i64) .wood)) r.2.2])], 2⟩
def f25_broughamlaw35_Plain : Nat → PT → Int → Option (Int × Int × List (Int × Int × List FT))
  | 0, _, _ => none
  | n + 1, f, levels =>
    if (PT.isNil f) = true then
      some (0, 0, [])
    else
      if ((levels : Int) == 0) = true then
        some (0, 0, [])
      else
        if PT.isNil f = false then
        if PT.isNil f = false then
        if PT.isNil f = false then
        if (!(PT.isNil (PT.fst f))) = true then
          if PT.isNil f = false then
          ((f25_broughamlaw35_Plain n) (PT.fst f) (IntKind.wrap .i64 (levels - 1))).bind fun r247_1 =>
          if [(r247_1.1, (r247_1.2.1, (r247_1.2.2.map FT.of)))].length ≤ maxLen ∧ [(r247_1.1, (r247_1.2.1, (r247_1.2.2.map FT.of)))].length * 40 ≤ 140737488355328 then
          if PT.isNil f = false then
          if (!(PT.isNil (PT.snd f))) = true then
            if PT.isNil f = false then
            ((f25_broughamlaw35_Plain n) (PT.snd f) (IntKind.wrap .i64 (levels - 1))).bind fun r249_1 =>
            if [(r247_1.1, (r247_1.2.1, (r247_1.2.2.map FT.of)))].length + [(r249_1.1, (r249_1.2.1, (r249_1.2.2.map FT.of)))].length ≤ maxLen ∧ ([(r247_1.1, (r247_1.2.1, (r247_1.2.2.map FT.of)))].length + [(r249_1.1, (r249_1.2.1, (r249_1.2.2.map FT.of)))].length) * 40 ≤ 140737488355328 then
            some ((PT.op f), (PT.num f), ([(r247_1.1, (r247_1.2.1, (r247_1.2.2.map FT.of)))] ++ [(r249_1.1, (r249_1.2.1, (r249_1.2.2.map FT.of)))]))
            else none
            else none
          else
            some ((PT.op f), (PT.num f), [(r247_1.1, (r247_1.2.1, (r247_1.2.2.map FT.of)))])
          else none
          else none
          else none
        else
          if PT.isNil f = false then
          if (!(PT.isNil (PT.snd f))) = true then
            if PT.isNil f = false then
            ((f25_broughamlaw35_Plain n) (PT.snd f) (IntKind.wrap .i64 (levels - 1))).bind fun r253_1 =>
            if [(r253_1.1, (r253_1.2.1, (r253_1.2.2.map FT.of)))].length ≤ maxLen ∧ [(r253_1.1, (r253_1.2.1, (r253_1.2.2.map FT.of)))].length * 40 ≤ 140737488355328 then
            some ((PT.op f), (PT.num f), [(r253_1.1, (r253_1.2.1, (r253_1.2.2.map FT.of)))])
            else none
            else none
          else
            some ((PT.op f), (PT.num f), [])
          else none
        else none
        else none
        else none
theorem f25_broughamlaw35_Plain_ok (n : Nat) : ∀ (f : PT) (levels : Int) (r : Int × Int × List (Int × Int × List FT)) (h : f25_broughamlaw35_Plain n f levels = some r), FnOK Tryd.prog 25 (f25_broughamlaw35_Plain_in f levels) (f25_broughamlaw35_Plain_out r) := by
  induction n with
  | zero => intro f levels r h; rw [f25_broughamlaw35_Plain] at h; cases h
  | succ n ih =>
    intro f levels r h
    rw [f25_broughamlaw35_Plain] at h
    refine At.fn (r := 0) Tryd.func25 rfl (by kernel_rfl) rfl rfl (by kernel_rfl) ?_
    show At Tryd.prog Tryd.f25 0 0 ⟨[(0, oc (.d (.pt f))), (1, oc (zi levels))], [], [], 0⟩ _
    refine At.step hm ht ⟨[], [], [], [0, 1, 4], [0]⟩ 1 ⟨[(0, oc (.d (.pt f))), (1, oc (zi levels)), (4, oc (.ptr 0 0))], [], [(0, [zi 0, zi 0, .d (.sl .unit [])])], 1⟩ [] (by kernel_rfl) trivial ?_
    rcases iteS h with ⟨b242_2, h⟩ | ⟨b242_2, h⟩
    · refine At.step hm ht ⟨[(2, .b true)], [true], [], [4], [0]⟩ 2 ⟨[(4, oc (.ptr 0 0))], [], [(0, [zi 0, zi 0, .d (.sl .unit [])])], 1⟩ [(PT.isNil f) = true, true = true] (by kernel_rfl) ⟨b242_2, rfl, trivial⟩ ?_
      have h := Option.some.inj h
      subst h
      exact At.fin hm ht ⟨[], [], [.nil true 0 2 (.pair (.int .i64) (.pair (.int .i64) .wood)) (some 42)], [4], [0, 3]⟩ [0 + 3 ≤ 3] (by kernel_rfl) ⟨(by decide), trivial⟩
    · rcases iteS h with ⟨b242_e0, h⟩ | ⟨b242_e0, h⟩
      · refine At.step hm ht ⟨[(2, .b false)], [true], [], [4], [0]⟩ 2 ⟨[(4, oc (.ptr 0 0))], [], [(0, [zi 0, zi 0, .d (.sl .unit [])])], 1⟩ [(PT.isNil f) = false, ((levels : Int) == 0) = true] (by kernel_rfl) ⟨b242_2, b242_e0, trivial⟩ ?_
        have h := Option.some.inj h
        subst h
        exact At.fin hm ht ⟨[], [], [.nil true 0 2 (.pair (.int .i64) (.pair (.int .i64) .wood)) (some 42)], [4], [0, 3]⟩ [0 + 3 ≤ 3] (by kernel_rfl) ⟨(by decide), trivial⟩
      · refine At.step hm ht ⟨[(2, .b false)], [false], [], [0, 1, 4], [0]⟩ 3 ⟨[(0, oc (.d (.pt f))), (1, oc (zi levels)), (4, oc (.ptr 0 0))], [], [(0, [zi 0, zi 0, .d (.sl .unit [])])], 1⟩ [(PT.isNil f) = false, ((levels : Int) == 0) = false] (by kernel_rfl) ⟨b242_2, b242_e0, trivial⟩ ?_
        obtain ⟨g245_0, h⟩ := ifS h
        obtain ⟨g245_1, h⟩ := ifS h
        refine At.step hm ht ⟨[], [], [], [0, 1, 4, 5], [0, 10]⟩ 4 ⟨[(0, oc (.d (.pt f))), (1, oc (zi levels)), (4, oc (.ptr 0 0)), (5, oc (.ptr 1 0))], [], [(0, [zi 0, zi 0, .d (.sl .unit [])]), (1, [zi (PT.op f), zi (PT.num f), .d (.sl .unit [])])], 2⟩ [PT.isNil f = false, PT.isNil f = false, 0 + 3 ≤ 3] (by kernel_rfl) ⟨g245_0, g245_1, (by decide), trivial⟩ ?_
        obtain ⟨g246_0, h⟩ := ifS h
        rcases iteS h with ⟨b246_e0, h⟩ | ⟨b246_e0, h⟩
        · refine At.step hm ht ⟨[], [true], [], [0, 1, 4, 5], [0, 1]⟩ 5 ⟨[(0, oc (.d (.pt f))), (1, oc (zi levels)), (4, oc (.ptr 0 0)), (5, oc (.ptr 1 0))], [], [(0, [zi 0, zi 0, .d (.sl .unit [])]), (1, [zi (PT.op f), zi (PT.num f), .d (.sl .unit [])])], 2⟩ [PT.isNil f = false, (!(PT.isNil (PT.fst f))) = true] (by kernel_rfl) ⟨g246_0, b246_e0, trivial⟩ ?_
          obtain ⟨g247_0, h⟩ := ifS h
          obtain ⟨r247_1, cr247_1, h⟩ := bindS h
          obtain ⟨g247_2, h⟩ := ifS h
          refine At.step hm ht ⟨[(8, .call [] [] (f25_broughamlaw35_Plain_out r247_1))], [], [], [0, 1, 4, 5], [0, 1, 13]⟩ 6 ⟨[(0, oc (.d (.pt f))), (1, oc (zi levels)), (4, oc (.ptr 0 0)), (5, oc (.ptr 1 0))], [(2, some ⟨42, 0⟩)], [(0, [zi 0, zi 0, .d (.sl .unit [])]), (1, [zi (PT.op f), zi (PT.num f), .own 2 (.pair (.int .i64) (.pair (.int .i64) .wood)) ([(r247_1.1, (r247_1.2.1, (r247_1.2.2.map FT.of)))] : List (Int × Int × List FT))])], 3⟩ [PT.isNil f = false, FnOK Tryd.prog 25 (f25_broughamlaw35_Plain_in (PT.fst f) (IntKind.wrap .i64 (levels - 1))) (f25_broughamlaw35_Plain_out r247_1), [(r247_1.1, (r247_1.2.1, (r247_1.2.2.map FT.of)))].length ≤ maxLen ∧ [(r247_1.1, (r247_1.2.1, (r247_1.2.2.map FT.of)))].length * 40 ≤ 140737488355328, 2 + 1 ≤ 3] (by kernel_rfl) ⟨g247_0, (ih (PT.fst f) (IntKind.wrap .i64 (levels - 1)) r247_1 cr247_1), g247_2, (by decide), trivial⟩ ?_
          obtain ⟨g248_0, h⟩ := ifS h
          rcases iteS h with ⟨b248_e0, h⟩ | ⟨b248_e0, h⟩
          · refine At.step hm ht ⟨[], [true], [], [0, 1, 4, 5], [0, 1, 2]⟩ 7 ⟨[(0, oc (.d (.pt f))), (1, oc (zi levels)), (4, oc (.ptr 0 0)), (5, oc (.ptr 1 0))], [(2, some ⟨42, 0⟩)], [(0, [zi 0, zi 0, .d (.sl .unit [])]), (1, [zi (PT.op f), zi (PT.num f), .own 2 (.pair (.int .i64) (.pair (.int .i64) .wood)) ([(r247_1.1, (r247_1.2.1, (r247_1.2.2.map FT.of)))] : List (Int × Int × List FT))])], 3⟩ [PT.isNil f = false, (!(PT.isNil (PT.snd f))) = true] (by kernel_rfl) ⟨g248_0, b248_e0, trivial⟩ ?_
            obtain ⟨g249_0, h⟩ := ifS h
            obtain ⟨r249_1, cr249_1, h⟩ := bindS h
            obtain ⟨g249_2, h⟩ := ifS h
            refine At.step hm ht ⟨[(8, .call [] [] (f25_broughamlaw35_Plain_out r249_1))], [], [], [4, 5], [0, 1, 14]⟩ 8 ⟨[(4, oc (.ptr 0 0)), (5, oc (.ptr 1 0))], [(2, some ⟨42, 0⟩)], [(0, [zi 0, zi 0, .d (.sl .unit [])]), (1, [zi (PT.op f), zi (PT.num f), .own 2 (.pair (.int .i64) (.pair (.int .i64) .wood)) ([(r247_1.1, (r247_1.2.1, (r247_1.2.2.map FT.of)))] ++ [(r249_1.1, (r249_1.2.1, (r249_1.2.2.map FT.of)))])])], 3⟩ [PT.isNil f = false, FnOK Tryd.prog 25 (f25_broughamlaw35_Plain_in (PT.snd f) (IntKind.wrap .i64 (levels - 1))) (f25_broughamlaw35_Plain_out r249_1), [(r247_1.1, (r247_1.2.1, (r247_1.2.2.map FT.of)))].length + [(r249_1.1, (r249_1.2.1, (r249_1.2.2.map FT.of)))].length ≤ maxLen ∧ ([(r247_1.1, (r247_1.2.1, (r247_1.2.2.map FT.of)))].length + [(r249_1.1, (r249_1.2.1, (r249_1.2.2.map FT.of)))].length) * 40 ≤ 140737488355328, 2 + 1 ≤ 3] (by kernel_rfl) ⟨g249_0, (ih (PT.snd f) (IntKind.wrap .i64 (levels - 1)) r249_1 cr249_1), g249_2, (by decide), trivial⟩ ?_
            have h := Option.some.inj h
            subst h
            exact At.fin hm ht ⟨[], [], [], [4], [0, 2]⟩ [0 + 3 ≤ 3] (by kernel_rfl) ⟨(by decide), trivial⟩
          · refine At.step hm ht ⟨[], [false], [], [4, 5], [0, 1, 2]⟩ 8 ⟨[(4, oc (.ptr 0 0)), (5, oc (.ptr 1 0))], [(2, some ⟨42, 0⟩)], [(0, [zi 0, zi 0, .d (.sl .unit [])]), (1, [zi (PT.op f), zi (PT.num f), .own 2 (.pair (.int .i64) (.pair (.int .i64) .wood)) ([(r247_1.1, (r247_1.2.1, (r247_1.2.2.map FT.of)))] : List (Int × Int × List FT))])], 3⟩ [PT.isNil f = false, (!(PT.isNil (PT.snd f))) = false] (by kernel_rfl) ⟨g248_0, b248_e0, trivial⟩ ?_
            have h := Option.some.inj h
            subst h
            exact At.fin hm ht ⟨[], [], [], [4], [0, 2]⟩ [0 + 3 ≤ 3] (by kernel_rfl) ⟨(by decide), trivial⟩
        · refine At.step hm ht ⟨[], [false], [], [0, 1, 4, 5], [0, 1]⟩ 6 ⟨[(0, oc (.d (.pt f))), (1, oc (zi levels)), (4, oc (.ptr 0 0)), (5, oc (.ptr 1 0))], [], [(0, [zi 0, zi 0, .d (.sl .unit [])]), (1, [zi (PT.op f), zi (PT.num f), .d (.sl .unit [])])], 2⟩ [PT.isNil f = false, (!(PT.isNil (PT.fst f))) = false] (by kernel_rfl) ⟨g246_0, b246_e0, trivial⟩ ?_
          obtain ⟨g252_0, h⟩ := ifS h
          rcases iteS h with ⟨b252_e0, h⟩ | ⟨b252_e0, h⟩
          · refine At.step hm ht ⟨[], [true], [], [0, 1, 4, 5], [0, 1]⟩ 7 ⟨[(0, oc (.d (.pt f))), (1, oc (zi levels)), (4, oc (.ptr 0 0)), (5, oc (.ptr 1 0))], [], [(0, [zi 0, zi 0, .d (.sl .unit [])]), (1, [zi (PT.op f), zi (PT.num f), .d (.sl .unit [])])], 2⟩ [PT.isNil f = false, (!(PT.isNil (PT.snd f))) = true] (by kernel_rfl) ⟨g252_0, b252_e0, trivial⟩ ?_
            obtain ⟨g253_0, h⟩ := ifS h
            obtain ⟨r253_1, cr253_1, h⟩ := bindS h
            obtain ⟨g253_2, h⟩ := ifS h
            refine At.step hm ht ⟨[(8, .call [] [] (f25_broughamlaw35_Plain_out r253_1))], [], [], [4, 5], [0, 1, 13]⟩ 8 ⟨[(4, oc (.ptr 0 0)), (5, oc (.ptr 1 0))], [(2, some ⟨42, 0⟩)], [(0, [zi 0, zi 0, .d (.sl .unit [])]), (1, [zi (PT.op f), zi (PT.num f), .own 2 (.pair (.int .i64) (.pair (.int .i64) .wood)) ([(r253_1.1, (r253_1.2.1, (r253_1.2.2.map FT.of)))] : List (Int × Int × List FT))])], 3⟩ [PT.isNil f = false, FnOK Tryd.prog 25 (f25_broughamlaw35_Plain_in (PT.snd f) (IntKind.wrap .i64 (levels - 1))) (f25_broughamlaw35_Plain_out r253_1), [(r253_1.1, (r253_1.2.1, (r253_1.2.2.map FT.of)))].length ≤ maxLen ∧ [(r253_1.1, (r253_1.2.1, (r253_1.2.2.map FT.of)))].length * 40 ≤ 140737488355328, 2 + 1 ≤ 3] (by kernel_rfl) ⟨g253_0, (ih (PT.snd f) (IntKind.wrap .i64 (levels - 1)) r253_1 cr253_1), g253_2, (by decide), trivial⟩ ?_
            have h := Option.some.inj h
            subst h
            exact At.fin hm ht ⟨[], [], [], [4], [0, 2]⟩ [0 + 3 ≤ 3] (by kernel_rfl) ⟨(by decide), trivial⟩
          · refine At.step hm ht ⟨[], [false], [], [4, 5], [0, 1]⟩ 8 ⟨[(4, oc (.ptr 0 0)), (5, oc (.ptr 1 0))], [], [(0, [zi 0, zi 0, .d (.sl .unit [])]), (1, [zi (PT.op f), zi (PT.num f), .d (.sl .unit [])])], 2⟩ [PT.isNil f = false, (!(PT.isNil (PT.snd f))) = false] (by kernel_rfl) ⟨g252_0, b252_e0, trivial⟩ ?_
            have h := Option.some.inj h
            subst h
            exact At.fin hm ht ⟨[], [], [.nil true 0 2 (.pair (.int .i64) (.pair (.int .i64) .wood)) (some 42)], [4], [0, 4]⟩ [0 + 3 ≤ 3] (by kernel_rfl) ⟨(by decide), trivial⟩
/-! brougham/broughamref35.Same -/
def f24_broughamref35_Same_in (a_0 : Int) (a_1 : Int) (a_2 : List (Int × Int × List FT)) (b_0 : Int) (b_1 : Int) (b_2 : List (Int × Int × List FT)) : Inn := ⟨[.agg [zi a_0, zi a_1, .d (.sl (.pair (.int .i64) (.pair (.int .i64) .wood)) a_2)], .agg [zi b_0, zi b_1, .d (.sl (.pair (.int .i64) (.pair (.int .i64) .wood)) b_2)]], [], [], 0⟩
def f24_broughamref35_Same_out (r : Bool) : Out := ⟨oc (.d (.bool r)), [], [], 0⟩
def f24_broughamref35_Same_L4 (rc_f24_broughamref35_Same : Int → Int → (List (Int × Int × List FT)) → Int → Int → (List (Int × Int × List FT)) → Option (Bool)) : Nat → Int → Int → Int → (List (Int × Int × List FT)) → Int → Int → (List (Int × Int × List FT)) → Option ((Bool) ⊕ (Unit))
  | 0, _, _, _, _, _, _, _ => none
  | n + 1, i, a_0, a_1, a_2, b_0, b_1, b_2 =>
    if (decide ((i : Int) < ((a_2.length : Nat) : Int))) = true then
      if (0 : Int) ≤ i ∧ i < (((a_2).length : Nat) : Int) then
      if (0 : Int) ≤ i ∧ i < (((b_2).length : Nat) : Int) then
      (rc_f24_broughamref35_Same ((a_2.getD i.toNat (0, (0, []))).1) (((a_2.getD i.toNat (0, (0, []))).2).1) ((((a_2.getD i.toNat (0, (0, []))).2).2).map FT.un) ((b_2.getD i.toNat (0, (0, []))).1) (((b_2.getD i.toNat (0, (0, []))).2).1) ((((b_2.getD i.toNat (0, (0, []))).2).2).map FT.un)).bind fun r263_2 =>
      if (!r263_2) = true then
        some (.inl false)
      else
        f24_broughamref35_Same_L4 rc_f24_broughamref35_Same n (IntKind.wrap .i64 (i + 1)) a_0 a_1 a_2 b_0 b_1 b_2
      else none
      else none
    else
      some (.inr ())
def f24_broughamref35_Same_L4_k (w : (Bool) ⊕ (Unit)) (o : Out) : Prop := match w with
  | .inl e => o = f24_broughamref35_Same_out e
  | .inr e => At Tryd.prog Tryd.f24 0 8 ⟨[], [], [], 0⟩ o
theorem f24_broughamref35_Same_L4_ok (rc_f24_broughamref35_Same : Int → Int → (List (Int × Int × List FT)) → Int → Int → (List (Int × Int × List FT)) → Option (Bool)) (hrc_f24_broughamref35_Same : ∀ (a_0 : Int) (a_1 : Int) (a_2 : List (Int × Int × List FT)) (b_0 : Int) (b_1 : Int) (b_2 : List (Int × Int × List FT)) (r : Bool) (h : rc_f24_broughamref35_Same a_0 a_1 a_2 b_0 b_1 b_2 = some r), FnOK Tryd.prog 24 (f24_broughamref35_Same_in a_0 a_1 a_2 b_0 b_1 b_2) (f24_broughamref35_Same_out r)) (n : Nat) : ∀ (i : Int) (a_0 : Int) (a_1 : Int) (a_2 : List (Int × Int × List FT)) (b_0 : Int) (b_1 : Int) (b_2 : List (Int × Int × List FT)) (w : (Bool) ⊕ (Unit)) (h : f24_broughamref35_Same_L4 rc_f24_broughamref35_Same n i a_0 a_1 a_2 b_0 b_1 b_2 = some w) (o : Out) (hk : f24_broughamref35_Same_L4_k w o), At Tryd.prog Tryd.f24 0 4 ⟨[(2, oc (.ptr 0 0)), (3, oc (.ptr 1 0)), (5, oc (zi i))], [], [(0, [zi a_0, zi a_1, .d (.sl (.pair (.int .i64) (.pair (.int .i64) .wood)) a_2)]), (1, [zi b_0, zi b_1, .d (.sl (.pair (.int .i64) (.pair (.int .i64) .wood)) b_2)])], 2⟩ o := by
  induction n with
  | zero => intro i a_0 a_1 a_2 b_0 b_1 b_2 w h; rw [f24_broughamref35_Same_L4] at h; cases h
  | succ n ih =>
    intro i a_0 a_1 a_2 b_0 b_1 b_2 w h o hk
    rw [f24_broughamref35_Same_L4] at h
    rcases iteS h with ⟨b262_e0, h⟩ | ⟨b262_e0, h⟩
    · refine At.step hm ht ⟨[], [true], [], [2, 3, 5], [0, 1]⟩ 6 ⟨[(2, oc (.ptr 0 0)), (3, oc (.ptr 1 0)), (5, oc (zi i))], [], [(0, [zi a_0, zi a_1, .d (.sl (.pair (.int .i64) (.pair (.int .i64) .wood)) a_2)]), (1, [zi b_0, zi b_1, .d (.sl (.pair (.int .i64) (.pair (.int .i64) .wood)) b_2)])], 2⟩ [(decide ((i : Int) < ((a_2.length : Nat) : Int))) = true] (by kernel_rfl) ⟨b262_e0, trivial⟩ ?_
      obtain ⟨g263_0, h⟩ := ifS h
      obtain ⟨g263_1, h⟩ := ifS h
      obtain ⟨r263_2, cr263_2, h⟩ := bindS h
      rcases iteS h with ⟨b263_e0, h⟩ | ⟨b263_e0, h⟩
      · refine At.step hm ht ⟨[(10, .call [] [] (f24_broughamref35_Same_out r263_2))], [true], [], [], []⟩ 7 ⟨[], [], [], 0⟩ [(0 : Int) ≤ i ∧ i < (((a_2).length : Nat) : Int), (0 : Int) ≤ i ∧ i < (((b_2).length : Nat) : Int), FnOK Tryd.prog 24 (f24_broughamref35_Same_in ((a_2.getD i.toNat (0, (0, []))).1) (((a_2.getD i.toNat (0, (0, []))).2).1) ((((a_2.getD i.toNat (0, (0, []))).2).2).map FT.un) ((b_2.getD i.toNat (0, (0, []))).1) (((b_2.getD i.toNat (0, (0, []))).2).1) ((((b_2.getD i.toNat (0, (0, []))).2).2).map FT.un)) (f24_broughamref35_Same_out r263_2), (!r263_2) = true] (by kernel_rfl) ⟨g263_0, g263_1, (hrc_f24_broughamref35_Same ((a_2.getD i.toNat (0, (0, []))).1) (((a_2.getD i.toNat (0, (0, []))).2).1) ((((a_2.getD i.toNat (0, (0, []))).2).2).map FT.un) ((b_2.getD i.toNat (0, (0, []))).1) (((b_2.getD i.toNat (0, (0, []))).2).1) ((((b_2.getD i.toNat (0, (0, []))).2).2).map FT.un) r263_2 cr263_2), b263_e0, trivial⟩ ?_
        have h := Option.some.inj h
        subst h
        have hk : o = f24_broughamref35_Same_out false := hk
        subst hk
        exact At.fin hm ht ⟨[], [], [], [4], []⟩ [] (by kernel_rfl) trivial
      · refine At.step hm ht ⟨[(10, .call [] [] (f24_broughamref35_Same_out r263_2))], [false], [], [2, 3, 5], [0, 1]⟩ 5 ⟨[(2, oc (.ptr 0 0)), (3, oc (.ptr 1 0)), (5, oc (zi i))], [], [(0, [zi a_0, zi a_1, .d (.sl (.pair (.int .i64) (.pair (.int .i64) .wood)) a_2)]), (1, [zi b_0, zi b_1, .d (.sl (.pair (.int .i64) (.pair (.int .i64) .wood)) b_2)])], 2⟩ [(0 : Int) ≤ i ∧ i < (((a_2).length : Nat) : Int), (0 : Int) ≤ i ∧ i < (((b_2).length : Nat) : Int), FnOK Tryd.prog 24 (f24_broughamref35_Same_in ((a_2.getD i.toNat (0, (0, []))).1) (((a_2.getD i.toNat (0, (0, []))).2).1) ((((a_2.getD i.toNat (0, (0, []))).2).2).map FT.un) ((b_2.getD i.toNat (0, (0, []))).1) (((b_2.getD i.toNat (0, (0, []))).2).1) ((((b_2.getD i.toNat (0, (0, []))).2).2).map FT.un)) (f24_broughamref35_Same_out r263_2), (!r263_2) = false] (by kernel_rfl) ⟨g263_0, g263_1, (hrc_f24_broughamref35_Same ((a_2.getD i.toNat (0, (0, []))).1) (((a_2.getD i.toNat (0, (0, []))).2).1) ((((a_2.getD i.toNat (0, (0, []))).2).2).map FT.un) ((b_2.getD i.toNat (0, (0, []))).1) (((b_2.getD i.toNat (0, (0, []))).2).1) ((((b_2.getD i.toNat (0, (0, []))).2).2).map FT.un) r263_2 cr263_2), b263_e0, trivial⟩ ?_
        refine At.step hm ht ⟨[], [], [], [2, 3, 5], [0, 1]⟩ 4 ⟨[(2, oc (.ptr 0 0)), (3, oc (.ptr 1 0)), (5, oc (zi (IntKind.wrap .i64 (i + 1))))], [], [(0, [zi a_0, zi a_1, .d (.sl (.pair (.int .i64) (.pair (.int .i64) .wood)) a_2)]), (1, [zi b_0, zi b_1, .d (.sl (.pair (.int .i64) (.pair (.int .i64) .wood)) b_2)])], 2⟩ [] (by kernel_rfl) trivial ?_
        exact ih (IntKind.wrap .i64 (i + 1)) a_0 a_1 a_2 b_0 b_1 b_2 w h o hk
    · refine At.step hm ht ⟨[], [false], [], [], []⟩ 8 ⟨[], [], [], 0⟩ [(decide ((i : Int) < ((a_2.length : Nat) : Int))) = false] (by kernel_rfl) ⟨b262_e0, trivial⟩ ?_
      have h := Option.some.inj h
      subst h
      exact hk
def f24_broughamref35_Same : Nat → Int → Int → (List (Int × Int × List FT)) → Int → Int → (List (Int × Int × List FT)) → Option (Bool)
  | 0, _, _, _, _, _, _ => none
  | n + 1, a_0, a_1, a_2, b_0, b_1, b_2 =>
    if ((a_0 : Int) != b_0) = true then
      some false
    else
      if ((a_1 : Int) != b_1) = true then
        some false
      else
        if ((((a_2.length : Nat) : Int) : Int) != ((b_2.length : Nat) : Int)) = true then
          some false
        else
          (f24_broughamref35_Same_L4 (f24_broughamref35_Same n) n 0 a_0 a_1 a_2 b_0 b_1 b_2).bind fun w266 =>
          match w266 with
          | .inl e267 =>
            some e267
          | .inr e268 =>
            some true
theorem f24_broughamref35_Same_ok (n : Nat) : ∀ (a_0 : Int) (a_1 : Int) (a_2 : List (Int × Int × List FT)) (b_0 : Int) (b_1 : Int) (b_2 : List (Int × Int × List FT)) (r : Bool) (h : f24_broughamref35_Same n a_0 a_1 a_2 b_0 b_1 b_2 = some r), FnOK Tryd.prog 24 (f24_broughamref35_Same_in a_0 a_1 a_2 b_0 b_1 b_2) (f24_broughamref35_Same_out r) := by
  induction n with
  | zero => intro a_0 a_1 a_2 b_0 b_1 b_2 r h; rw [f24_broughamref35_Same] at h; cases h
  | succ n ih =>
    intro a_0 a_1 a_2 b_0 b_1 b_2 r h
    rw [f24_broughamref35_Same] at h
    refine At.fn (r := 0) Tryd.func24 rfl (by kernel_rfl) rfl rfl (by kernel_rfl) ?_
    show At Tryd.prog Tryd.f24 0 0 ⟨[(0, .one (.agg [zi a_0, zi a_1, .d (.sl (.pair (.int .i64) (.pair (.int .i64) .wood)) a_2)])), (1, .one (.agg [zi b_0, zi b_1, .d (.sl (.pair (.int .i64) (.pair (.int .i64) .wood)) b_2)]))], [], [], 0⟩ _
    refine At.step hm ht ⟨[], [], [], [2, 3], [0, 1]⟩ 1 ⟨[(2, oc (.ptr 0 0)), (3, oc (.ptr 1 0))], [], [(0, [zi a_0, zi a_1, .d (.sl (.pair (.int .i64) (.pair (.int .i64) .wood)) a_2)]), (1, [zi b_0, zi b_1, .d (.sl (.pair (.int .i64) (.pair (.int .i64) .wood)) b_2)])], 2⟩ [] (by kernel_rfl) trivial ?_
    rcases iteS h with ⟨b257_5, h⟩ | ⟨b257_5, h⟩
    · refine At.step hm ht ⟨[(5, .b true)], [true], [], [], []⟩ 2 ⟨[], [], [], 0⟩ [((a_0 : Int) != b_0) = true, true = true] (by kernel_rfl) ⟨b257_5, rfl, trivial⟩ ?_
      have h := Option.some.inj h
      subst h
      exact At.fin hm ht ⟨[], [], [], [4], []⟩ [] (by kernel_rfl) trivial
    · rcases iteS h with ⟨b257_12, h⟩ | ⟨b257_12, h⟩
      · refine At.step hm ht ⟨[(5, .b false), (12, .b true)], [true], [], [], []⟩ 2 ⟨[], [], [], 0⟩ [((a_0 : Int) != b_0) = false, ((a_1 : Int) != b_1) = true, true = true] (by kernel_rfl) ⟨b257_5, b257_12, rfl, trivial⟩ ?_
        have h := Option.some.inj h
        subst h
        exact At.fin hm ht ⟨[], [], [], [4], []⟩ [] (by kernel_rfl) trivial
      · rcases iteS h with ⟨b257_e0, h⟩ | ⟨b257_e0, h⟩
        · refine At.step hm ht ⟨[(5, .b false), (12, .b false)], [true], [], [], []⟩ 2 ⟨[], [], [], 0⟩ [((a_0 : Int) != b_0) = false, ((a_1 : Int) != b_1) = false, ((((a_2.length : Nat) : Int) : Int) != ((b_2.length : Nat) : Int)) = true] (by kernel_rfl) ⟨b257_5, b257_12, b257_e0, trivial⟩ ?_
          have h := Option.some.inj h
          subst h
          exact At.fin hm ht ⟨[], [], [], [4], []⟩ [] (by kernel_rfl) trivial
        · refine At.step hm ht ⟨[(5, .b false), (12, .b false)], [false], [], [2, 3], [0, 1]⟩ 3 ⟨[(2, oc (.ptr 0 0)), (3, oc (.ptr 1 0))], [], [(0, [zi a_0, zi a_1, .d (.sl (.pair (.int .i64) (.pair (.int .i64) .wood)) a_2)]), (1, [zi b_0, zi b_1, .d (.sl (.pair (.int .i64) (.pair (.int .i64) .wood)) b_2)])], 2⟩ [((a_0 : Int) != b_0) = false, ((a_1 : Int) != b_1) = false, ((((a_2.length : Nat) : Int) : Int) != ((b_2.length : Nat) : Int)) = false] (by kernel_rfl) ⟨b257_5, b257_12, b257_e0, trivial⟩ ?_
          refine At.step hm ht ⟨[], [], [], [2, 3, 5], [0, 1]⟩ 4 ⟨[(2, oc (.ptr 0 0)), (3, oc (.ptr 1 0)), (5, oc (zi 0))], [], [(0, [zi a_0, zi a_1, .d (.sl (.pair (.int .i64) (.pair (.int .i64) .wood)) a_2)]), (1, [zi b_0, zi b_1, .d (.sl (.pair (.int .i64) (.pair (.int .i64) .wood)) b_2)])], 2⟩ [] (by kernel_rfl) trivial ?_
          obtain ⟨w266, cw266, h⟩ := bindS h
          refine f24_broughamref35_Same_L4_ok (f24_broughamref35_Same n) ih n 0 a_0 a_1 a_2 b_0 b_1 b_2 w266 cw266 _ ?_
          rcases w266 with e267 | e268
          · have h := Option.some.inj h
            subst h
            rfl
          · show At Tryd.prog Tryd.f24 0 8 ⟨[], [], [], 0⟩ _
            have h := Option.some.inj h
            subst h
            exact At.fin hm ht ⟨[], [], [], [4], []⟩ [] (by kernel_rfl) trivial
/-! brougham/num.Pieces -/
def f15_num_Pieces_in (s : ByteArray) : Inn := ⟨[.c (.d (.str s))], [], [], 0⟩
def f15_num_Pieces_out (r : List ByteArray) : Out := ⟨oc (.d (.sl .str r)), [], [], 0⟩
def f15_num_Pieces_L4 : Nat → (List ByteArray) → (List ByteArray) → Int → Int → Option (List ByteArray)
  | 0, _, _, _, _ => none
  | n + 1, out, t13, t14, t15 =>
    if (decide ((t15 : Int) < t14)) = true then
      if (0 : Int) ≤ t15 ∧ t15 < (((t13).length : Nat) : Int) then
      if (!((t13.getD t15.toNat ByteArray.empty).toList == (⟨#[]⟩ : ByteArray).toList)) = true then
        if out.length + [(t13.getD t15.toNat ByteArray.empty)].length ≤ maxLen ∧ (out.length + [(t13.getD t15.toNat ByteArray.empty)].length) * 16 ≤ 140737488355328 then
        f15_num_Pieces_L4 n (out ++ [(t13.getD t15.toNat ByteArray.empty)]) t13 t14 (IntKind.wrap .i64 (t15 + 1))
        else none
      else
        f15_num_Pieces_L4 n out t13 t14 (IntKind.wrap .i64 (t15 + 1))
      else none
    else
      some (out)
def f15_num_Pieces_L4_k (e : List ByteArray) (o : Out) : Prop := At Tryd.prog Tryd.f15 0 9 ⟨[(3, oc (.own 0 .str e))], [(0, some ⟨9, 0⟩)], [], 1⟩ o
theorem f15_num_Pieces_L4_ok (n : Nat) : ∀ (out : List ByteArray) (t13 : List ByteArray) (t14 : Int) (t15 : Int) (w : List ByteArray) (h : f15_num_Pieces_L4 n out t13 t14 t15 = some w) (o : Out) (hk : f15_num_Pieces_L4_k w o), At Tryd.prog Tryd.f15 0 4 ⟨[(3, oc (.own 0 .str out)), (13, oc (.d (.sl .str t13))), (14, oc (zi t14)), (15, oc (zi t15))], [(0, some ⟨9, 0⟩)], [], 1⟩ o := by
  induction n with
  | zero => intro out t13 t14 t15 w h; rw [f15_num_Pieces_L4] at h; cases h
  | succ n ih =>
    intro out t13 t14 t15 w h o hk
    rw [f15_num_Pieces_L4] at h
    rcases iteS h with ⟨b289_e0, h⟩ | ⟨b289_e0, h⟩
    · refine At.step hm ht ⟨[], [true], [], [3, 13, 14, 15], [0]⟩ 5 ⟨[(3, oc (.own 0 .str out)), (13, oc (.d (.sl .str t13))), (14, oc (zi t14)), (15, oc (zi t15))], [(0, some ⟨9, 0⟩)], [], 1⟩ [(decide ((t15 : Int) < t14)) = true] (by kernel_rfl) ⟨b289_e0, trivial⟩ ?_
      obtain ⟨g290_0, h⟩ := ifS h
      refine At.step hm ht ⟨[], [], [], [3, 5, 13, 14, 15], [0]⟩ 6 ⟨[(3, oc (.own 0 .str out)), (5, oc (.d (.str (t13.getD t15.toNat ByteArray.empty)))), (13, oc (.d (.sl .str t13))), (14, oc (zi t14)), (15, oc (zi t15))], [(0, some ⟨9, 0⟩)], [], 1⟩ [(0 : Int) ≤ t15 ∧ t15 < (((t13).length : Nat) : Int)] (by kernel_rfl) ⟨g290_0, trivial⟩ ?_
      rcases iteS h with ⟨b291_e0, h⟩ | ⟨b291_e0, h⟩
      · refine At.step hm ht ⟨[], [true], [], [3, 5, 13, 14, 15], [0]⟩ 7 ⟨[(3, oc (.own 0 .str out)), (5, oc (.d (.str (t13.getD t15.toNat ByteArray.empty)))), (13, oc (.d (.sl .str t13))), (14, oc (zi t14)), (15, oc (zi t15))], [(0, some ⟨9, 0⟩)], [], 1⟩ [(!((t13.getD t15.toNat ByteArray.empty).toList == (⟨#[]⟩ : ByteArray).toList)) = true] (by kernel_rfl) ⟨b291_e0, trivial⟩ ?_
        obtain ⟨g292_0, h⟩ := ifS h
        refine At.step hm ht ⟨[], [], [], [3, 13, 14, 15], [4]⟩ 8 ⟨[(3, oc (.own 0 .str (out ++ [(t13.getD t15.toNat ByteArray.empty)]))), (13, oc (.d (.sl .str t13))), (14, oc (zi t14)), (15, oc (zi t15))], [(0, some ⟨9, 0⟩)], [], 1⟩ [out.length + [(t13.getD t15.toNat ByteArray.empty)].length ≤ maxLen ∧ (out.length + [(t13.getD t15.toNat ByteArray.empty)].length) * 16 ≤ 140737488355328] (by kernel_rfl) ⟨g292_0, trivial⟩ ?_
        refine At.step hm ht ⟨[], [], [], [3, 13, 14, 15], [0]⟩ 4 ⟨[(3, oc (.own 0 .str (out ++ [(t13.getD t15.toNat ByteArray.empty)]))), (13, oc (.d (.sl .str t13))), (14, oc (zi t14)), (15, oc (zi (IntKind.wrap .i64 (t15 + 1))))], [(0, some ⟨9, 0⟩)], [], 1⟩ [] (by kernel_rfl) trivial ?_
        exact ih (out ++ [(t13.getD t15.toNat ByteArray.empty)]) t13 t14 (IntKind.wrap .i64 (t15 + 1)) w h o hk
      · refine At.step hm ht ⟨[], [false], [], [3, 13, 14, 15], [0]⟩ 8 ⟨[(3, oc (.own 0 .str out)), (13, oc (.d (.sl .str t13))), (14, oc (zi t14)), (15, oc (zi t15))], [(0, some ⟨9, 0⟩)], [], 1⟩ [(!((t13.getD t15.toNat ByteArray.empty).toList == (⟨#[]⟩ : ByteArray).toList)) = false] (by kernel_rfl) ⟨b291_e0, trivial⟩ ?_
        refine At.step hm ht ⟨[], [], [], [3, 13, 14, 15], [0]⟩ 4 ⟨[(3, oc (.own 0 .str out)), (13, oc (.d (.sl .str t13))), (14, oc (zi t14)), (15, oc (zi (IntKind.wrap .i64 (t15 + 1))))], [(0, some ⟨9, 0⟩)], [], 1⟩ [] (by kernel_rfl) trivial ?_
        exact ih out t13 t14 (IntKind.wrap .i64 (t15 + 1)) w h o hk
    · refine At.step hm ht ⟨[], [false], [], [3], [0]⟩ 9 ⟨[(3, oc (.own 0 .str out))], [(0, some ⟨9, 0⟩)], [], 1⟩ [(decide ((t15 : Int) < t14)) = false] (by kernel_rfl) ⟨b289_e0, trivial⟩ ?_
      have h := Option.some.inj h
      subst h
      exact hk
def f15_num_Pieces (n : Nat) (s : ByteArray) : Option (List ByteArray) :=
  (f49_strings_Cut s (⟨#[35]⟩ : ByteArray)).bind fun r286_0 =>
  (f45_strings_Split r286_0.1 (⟨#[32]⟩ : ByteArray)).bind fun r288_0 =>
  (f15_num_Pieces_L4 n [] r288_0 ((r288_0.length : Nat) : Int) 0).bind fun w295 =>
  some w295
theorem f15_num_Pieces_ok (n : Nat) (s : ByteArray) (r : List ByteArray) (h : f15_num_Pieces n s = some r) : FnOK Tryd.prog 15 (f15_num_Pieces_in s) (f15_num_Pieces_out r) := by
  unfold f15_num_Pieces at h
  refine At.fn (r := 0) Tryd.func15 rfl (by kernel_rfl) rfl rfl (by kernel_rfl) ?_
  show At Tryd.prog Tryd.f15 0 0 ⟨[(0, oc (.d (.str s)))], [], [], 0⟩ _
  refine At.step hm ht ⟨[], [], [], [0], []⟩ 1 ⟨[(0, oc (.d (.str s)))], [], [], 0⟩ [] (by kernel_rfl) trivial ?_
  obtain ⟨r286_0, cr286_0, h⟩ := bindS h
  refine At.step hm ht ⟨[(1, .call [] [] (f49_strings_Cut_out r286_0))], [], [], [0], []⟩ 2 ⟨[(0, oc (.d (.str r286_0.1)))], [], [], 0⟩ [FnOK Tryd.prog 49 (f49_strings_Cut_in s (⟨#[35]⟩ : ByteArray)) (f49_strings_Cut_out r286_0)] (by kernel_rfl) ⟨(f49_strings_Cut_ok s (⟨#[35]⟩ : ByteArray) r286_0 cr286_0), trivial⟩ ?_
  refine At.step hm ht ⟨[], [], [], [0, 3], []⟩ 3 ⟨[(0, oc (.d (.str r286_0.1))), (3, oc (.d (.sl .unit [])))], [], [], 0⟩ [] (by kernel_rfl) trivial ?_
  obtain ⟨r288_0, cr288_0, h⟩ := bindS h
  refine At.step hm ht ⟨[(1, .call [] [] (f45_strings_Split_out r288_0))], [], [.nil false 3 0 .str (some 9)], [3, 13, 14, 15], [3]⟩ 4 ⟨[(3, oc (.own 0 .str [])), (13, oc (.d (.sl .str r288_0))), (14, oc (zi ((r288_0.length : Nat) : Int))), (15, oc (zi 0))], [(0, some ⟨9, 0⟩)], [], 1⟩ [FnOK Tryd.prog 45 (f45_strings_Split_in r286_0.1 (⟨#[32]⟩ : ByteArray)) (f45_strings_Split_out r288_0)] (by kernel_rfl) ⟨(f45_strings_Split_ok r286_0.1 (⟨#[32]⟩ : ByteArray) r288_0 cr288_0), trivial⟩ ?_
  obtain ⟨w295, cw295, h⟩ := bindS h
  refine f15_num_Pieces_L4_ok n [] r288_0 ((r288_0.length : Nat) : Int) 0 w295 cw295 _ ?_
  show At Tryd.prog Tryd.f15 0 9 ⟨[(3, oc (.own 0 .str w295))], [(0, some ⟨9, 0⟩)], [], 1⟩ _
  have h := Option.some.inj h
  subst h
  exact At.fin hm ht ⟨[], [], [], [2], []⟩ [] (by kernel_rfl) trivial
/-! (*brougham/filter.reader).took -/
def f84_filter_reader_took_in (s : ByteArray) (r__0 : List ByteArray) (r__1 : Int) (r__2 : Bool) : Inn := ⟨[.c (.ptr 0 0), .c (.d (.str s))], [], [(0, [.d (.sl .str r__0), zi r__1, .d (.bool r__2)])], 1⟩
def f84_filter_reader_took_out (r : Bool × List ByteArray × Int × Bool) : Out := ⟨oc (.d (.bool r.1)), [], [(0, [.d (.sl .str r.2.1), zi r.2.2.1, .d (.bool r.2.2.2)])], 1⟩
def f84_filter_reader_took (s : ByteArray) (r__0 : List ByteArray) (r__1 : Int) (r__2 : Bool) : Option (Bool × List ByteArray × Int × Bool) :=
  if ((((r__0.length : Nat) : Int) : Int) == 0) = true then
    some (false, r__0, r__1, r__2)
  else
    if (0 : Int) ≤ 0 ∧ 0 < (((r__0).length : Nat) : Int) then
    if (!((r__0.getD 0 ByteArray.empty).toList == s.toList)) = true then
      some (false, r__0, r__1, r__2)
    else
      if cutOk r__0.length (some 1) none none then
      some (true, ((r__0.take r__0.length).drop 1), r__1, r__2)
      else none
    else none
theorem f84_filter_reader_took_ok (s : ByteArray) (r__0 : List ByteArray) (r__1 : Int) (r__2 : Bool) (r : Bool × List ByteArray × Int × Bool) (h : f84_filter_reader_took s r__0 r__1 r__2 = some r) : FnOK Tryd.prog 84 (f84_filter_reader_took_in s r__0 r__1 r__2) (f84_filter_reader_took_out r) := by
  unfold f84_filter_reader_took at h
  refine At.fn (r := 0) Tryd.func84 rfl (by kernel_rfl) rfl rfl (by kernel_rfl) ?_
  show At Tryd.prog Tryd.f84 1 0 ⟨[(0, oc (.ptr 0 0)), (1, oc (.d (.str s)))], [], [(0, [.d (.sl .str r__0), zi r__1, .d (.bool r__2)])], 1⟩ _
  refine At.step hm ht ⟨[], [], [], [0, 1], [0]⟩ 1 ⟨[(0, oc (.ptr 0 0)), (1, oc (.d (.str s)))], [], [(0, [.d (.sl .str r__0), zi r__1, .d (.bool r__2)])], 1⟩ [] (by kernel_rfl) trivial ?_
  rcases iteS h with ⟨b310_6, h⟩ | ⟨b310_6, h⟩
  · refine At.step hm ht ⟨[(6, .b true)], [true], [], [], [0]⟩ 2 ⟨[], [], [(0, [.d (.sl .str r__0), zi r__1, .d (.bool r__2)])], 1⟩ [((((r__0.length : Nat) : Int) : Int) == 0) = true, true = true] (by kernel_rfl) ⟨b310_6, rfl, trivial⟩ ?_
    have h := Option.some.inj h
    subst h
    exact At.fin hm ht ⟨[], [], [], [4], [0]⟩ [] (by kernel_rfl) trivial
  · obtain ⟨g310_0, h⟩ := ifS h
    rcases iteS h with ⟨b310_e0, h⟩ | ⟨b310_e0, h⟩
    · refine At.step hm ht ⟨[(6, .b false)], [true], [], [], [0]⟩ 2 ⟨[], [], [(0, [.d (.sl .str r__0), zi r__1, .d (.bool r__2)])], 1⟩ [((((r__0.length : Nat) : Int) : Int) == 0) = false, (0 : Int) ≤ 0 ∧ 0 < (((r__0).length : Nat) : Int), (!((r__0.getD 0 ByteArray.empty).toList == s.toList)) = true] (by kernel_rfl) ⟨b310_6, g310_0, b310_e0, trivial⟩ ?_
      have h := Option.some.inj h
      subst h
      exact At.fin hm ht ⟨[], [], [], [4], [0]⟩ [] (by kernel_rfl) trivial
    · refine At.step hm ht ⟨[(6, .b false)], [false], [], [0], [0]⟩ 3 ⟨[(0, oc (.ptr 0 0))], [], [(0, [.d (.sl .str r__0), zi r__1, .d (.bool r__2)])], 1⟩ [((((r__0.length : Nat) : Int) : Int) == 0) = false, (0 : Int) ≤ 0 ∧ 0 < (((r__0).length : Nat) : Int), (!((r__0.getD 0 ByteArray.empty).toList == s.toList)) = false] (by kernel_rfl) ⟨b310_6, g310_0, b310_e0, trivial⟩ ?_
      obtain ⟨g313_0, h⟩ := ifS h
      refine At.step hm ht ⟨[], [], [], [], [0]⟩ 4 ⟨[], [], [(0, [.d (.sl .str ((r__0.take r__0.length).drop 1)), zi r__1, .d (.bool r__2)])], 1⟩ [cutOk r__0.length (some 1) none none, 0 + 1 ≤ 3] (by kernel_rfl) ⟨g313_0, (by decide), trivial⟩ ?_
      have h := Option.some.inj h
      subst h
      exact At.fin hm ht ⟨[], [], [], [4], [0]⟩ [] (by kernel_rfl) trivial
/-! (*brougham/filter.reader).number -/
def f115_filter_reader_number_in (op : Int) (r__0 : List ByteArray) (r__1 : Int) (r__2 : Bool) : Inn := ⟨[.c (.ptr 0 0), .c (zi op)], [], [(0, [.d (.sl .str r__0), zi r__1, .d (.bool r__2)])], 1⟩
def f115_filter_reader_number_out (r : PT × List ByteArray × Int × Bool) : Out := ⟨oc (.d (.pt r.1)), [], [(0, [.d (.sl .str r.2.1), zi r.2.2.1, .d (.bool r.2.2.2)])], 1⟩
def f115_filter_reader_number (op : Int) (r__0 : List ByteArray) (r__1 : Int) (r__2 : Bool) : Option (PT × List ByteArray × Int × Bool) :=
  if ((((r__0.length : Nat) : Int) : Int) == 0) = true then
    some (PT.nil, r__0, r__1, true)
  else
    if (0 : Int) ≤ 0 ∧ 0 < (((r__0).length : Nat) : Int) then
    (f51_num_Parse (r__0.getD 0 ByteArray.empty)).bind fun r336_1 =>
    if cutOk r__0.length (some 1) none none then
    if r__2 = true then
      some ((PT.node op r336_1.1 PT.nil PT.nil), ((r__0.take r__0.length).drop 1), r__1, true)
    else
      some ((PT.node op r336_1.1 PT.nil PT.nil), ((r__0.take r__0.length).drop 1), r__1, ((r336_1.2 : Int) != 0))
    else none
    else none
theorem f115_filter_reader_number_ok (op : Int) (r__0 : List ByteArray) (r__1 : Int) (r__2 : Bool) (r : PT × List ByteArray × Int × Bool) (h : f115_filter_reader_number op r__0 r__1 r__2 = some r) : FnOK Tryd.prog 115 (f115_filter_reader_number_in op r__0 r__1 r__2) (f115_filter_reader_number_out r) := by
  unfold f115_filter_reader_number at h
  refine At.fn (r := 0) Tryd.func115 rfl (by kernel_rfl) rfl rfl (by kernel_rfl) ?_
  show At Tryd.prog Tryd.f115 1 0 ⟨[(0, oc (.ptr 0 0)), (1, oc (zi op))], [], [(0, [.d (.sl .str r__0), zi r__1, .d (.bool r__2)])], 1⟩ _
  refine At.step hm ht ⟨[], [], [.nilpt 4], [0, 1], [0]⟩ 1 ⟨[(0, oc (.ptr 0 0)), (1, oc (zi op))], [], [(0, [.d (.sl .str r__0), zi r__1, .d (.bool r__2)])], 1⟩ [] (by kernel_rfl) trivial ?_
  rcases iteS h with ⟨b333_e0, h⟩ | ⟨b333_e0, h⟩
  · refine At.step hm ht ⟨[], [true], [], [0], [0]⟩ 2 ⟨[(0, oc (.ptr 0 0))], [], [(0, [.d (.sl .str r__0), zi r__1, .d (.bool r__2)])], 1⟩ [((((r__0.length : Nat) : Int) : Int) == 0) = true] (by kernel_rfl) ⟨b333_e0, trivial⟩ ?_
    refine At.step hm ht ⟨[], [], [], [], [0]⟩ 3 ⟨[], [], [(0, [.d (.sl .str r__0), zi r__1, .d (.bool true)])], 1⟩ [2 + 1 ≤ 3] (by kernel_rfl) ⟨(by decide), trivial⟩ ?_
    have h := Option.some.inj h
    subst h
    exact At.fin hm ht ⟨[], [], [.nilpt 4], [4], [0]⟩ [] (by kernel_rfl) trivial
  · refine At.step hm ht ⟨[], [false], [], [0, 1], [0]⟩ 4 ⟨[(0, oc (.ptr 0 0)), (1, oc (zi op))], [], [(0, [.d (.sl .str r__0), zi r__1, .d (.bool r__2)])], 1⟩ [((((r__0.length : Nat) : Int) : Int) == 0) = false] (by kernel_rfl) ⟨b333_e0, trivial⟩ ?_
    obtain ⟨g336_0, h⟩ := ifS h
    obtain ⟨r336_1, cr336_1, h⟩ := bindS h
    refine At.step hm ht ⟨[(6, .call [] [] (f51_num_Parse_out r336_1))], [], [], [0, 1, 5, 6], [0]⟩ 5 ⟨[(0, oc (.ptr 0 0)), (1, oc (zi op)), (5, oc (zi r336_1.1)), (6, oc (zi r336_1.2))], [], [(0, [.d (.sl .str r__0), zi r__1, .d (.bool r__2)])], 1⟩ [(0 : Int) ≤ 0 ∧ 0 < (((r__0).length : Nat) : Int), FnOK Tryd.prog 51 (f51_num_Parse_in (r__0.getD 0 ByteArray.empty)) (f51_num_Parse_out r336_1)] (by kernel_rfl) ⟨g336_0, (f51_num_Parse_ok (r__0.getD 0 ByteArray.empty) r336_1 cr336_1), trivial⟩ ?_
    obtain ⟨g337_0, h⟩ := ifS h
    refine At.step hm ht ⟨[], [], [], [0, 1, 5, 6], [0]⟩ 6 ⟨[(0, oc (.ptr 0 0)), (1, oc (zi op)), (5, oc (zi r336_1.1)), (6, oc (zi r336_1.2))], [], [(0, [.d (.sl .str ((r__0.take r__0.length).drop 1)), zi r__1, .d (.bool r__2)])], 1⟩ [cutOk r__0.length (some 1) none none, 0 + 1 ≤ 3] (by kernel_rfl) ⟨g337_0, (by decide), trivial⟩ ?_
    rcases iteS h with ⟨b338_5, h⟩ | ⟨b338_5, h⟩
    · refine At.step hm ht ⟨[(5, .b true)], [], [], [1, 5], [0]⟩ 7 ⟨[(1, oc (zi op)), (5, oc (zi r336_1.1))], [], [(0, [.d (.sl .str ((r__0.take r__0.length).drop 1)), zi r__1, .d (.bool true)])], 1⟩ [r__2 = true, 2 + 1 ≤ 3] (by kernel_rfl) ⟨b338_5, (by decide), trivial⟩ ?_
      have h := Option.some.inj h
      subst h
      exact At.fin hm ht ⟨[], [], [.tree 4], [4], [0]⟩ [] (by kernel_rfl) trivial
    · refine At.step hm ht ⟨[(5, .b false)], [], [], [1, 5], [0]⟩ 7 ⟨[(1, oc (zi op)), (5, oc (zi r336_1.1))], [], [(0, [.d (.sl .str ((r__0.take r__0.length).drop 1)), zi r__1, .d (.bool ((r336_1.2 : Int) != 0))])], 1⟩ [r__2 = false, 2 + 1 ≤ 3] (by kernel_rfl) ⟨b338_5, (by decide), trivial⟩ ?_
      have h := Option.some.inj h
      subst h
      exact At.fin hm ht ⟨[], [], [.tree 4], [4], [0]⟩ [] (by kernel_rfl) trivial
/-! (*brougham/filter.reader).plain -/
def f112_filter_reader_plain_in (r__0 : List ByteArray) (r__1 : Int) (r__2 : Bool) : Inn := ⟨[.c (.ptr 0 0)], [], [(0, [.d (.sl .str r__0), zi r__1, .d (.bool r__2)])], 1⟩
def f112_filter_reader_plain_out (r : PT × List ByteArray × Int × Bool) : Out := ⟨oc (.d (.pt r.1)), [], [(0, [.d (.sl .str r.2.1), zi r.2.2.1, .d (.bool r.2.2.2)])], 1⟩
def f112_filter_reader_plain (r__0 : List ByteArray) (r__1 : Int) (r__2 : Bool) : Option (PT × List ByteArray × Int × Bool) :=
  (f84_filter_reader_took (⟨#[97, 108, 108]⟩ : ByteArray) r__0 r__1 r__2).bind fun r320_0 =>
  if r320_0.1 = true then
    some ((PT.node 1 0 PT.nil PT.nil), r320_0.2.1, r320_0.2.2.1, r320_0.2.2.2)
  else
    (f84_filter_reader_took (⟨#[101, 109, 112, 116, 121]⟩ : ByteArray) r320_0.2.1 r320_0.2.2.1 r320_0.2.2.2).bind fun r322_0 =>
    if r322_0.1 = true then
      some ((PT.node 11 0 PT.nil PT.nil), r322_0.2.1, r322_0.2.2.1, r322_0.2.2.2)
    else
      (f84_filter_reader_took (⟨#[115, 121, 110]⟩ : ByteArray) r322_0.2.1 r322_0.2.2.1 r322_0.2.2.2).bind fun r324_0 =>
      if r324_0.1 = true then
        some ((PT.node 2 1 PT.nil PT.nil), r324_0.2.1, r324_0.2.2.1, r324_0.2.2.2)
      else
        (f84_filter_reader_took (⟨#[97, 99, 107]⟩ : ByteArray) r324_0.2.1 r324_0.2.2.1 r324_0.2.2.2).bind fun r326_0 =>
        if r326_0.1 = true then
          some ((PT.node 2 2 PT.nil PT.nil), r326_0.2.1, r326_0.2.2.1, r326_0.2.2.2)
        else
          (f84_filter_reader_took (⟨#[114, 115, 116]⟩ : ByteArray) r326_0.2.1 r326_0.2.2.1 r326_0.2.2.2).bind fun r328_0 =>
          if r328_0.1 = true then
            some ((PT.node 2 4 PT.nil PT.nil), r328_0.2.1, r328_0.2.2.1, r328_0.2.2.2)
          else
            (f84_filter_reader_took (⟨#[112, 111, 114, 116]⟩ : ByteArray) r328_0.2.1 r328_0.2.2.1 r328_0.2.2.2).bind fun r330_0 =>
            if r330_0.1 = true then
              (f115_filter_reader_number 3 r330_0.2.1 r330_0.2.2.1 r330_0.2.2.2).bind fun r331_0 =>
              some (r331_0.1, r331_0.2.1, r331_0.2.2.1, r331_0.2.2.2)
            else
              (f84_filter_reader_took (⟨#[115, 114, 99]⟩ : ByteArray) r330_0.2.1 r330_0.2.2.1 r330_0.2.2.2).bind fun r341_0 =>
              if r341_0.1 = true then
                (f115_filter_reader_number 4 r341_0.2.1 r341_0.2.2.1 r341_0.2.2.2).bind fun r342_0 =>
                some (r342_0.1, r342_0.2.1, r342_0.2.2.1, r342_0.2.2.2)
              else
                (f84_filter_reader_took (⟨#[100, 115, 116]⟩ : ByteArray) r341_0.2.1 r341_0.2.2.1 r341_0.2.2.2).bind fun r343_0 =>
                if r343_0.1 = true then
                  (f115_filter_reader_number 5 r343_0.2.1 r343_0.2.2.1 r343_0.2.2.2).bind fun r344_0 =>
                  some (r344_0.1, r344_0.2.1, r344_0.2.2.1, r344_0.2.2.2)
                else
                  (f84_filter_reader_took (⟨#[104, 97, 115]⟩ : ByteArray) r343_0.2.1 r343_0.2.2.1 r343_0.2.2.2).bind fun r345_0 =>
                  if r345_0.1 = true then
                    (f115_filter_reader_number 6 r345_0.2.1 r345_0.2.2.1 r345_0.2.2.2).bind fun r346_0 =>
                    some (r346_0.1, r346_0.2.1, r346_0.2.2.1, r346_0.2.2.2)
                  else
                    (f84_filter_reader_took (⟨#[108, 111, 110, 103]⟩ : ByteArray) r345_0.2.1 r345_0.2.2.1 r345_0.2.2.2).bind fun r347_0 =>
                    if r347_0.1 = true then
                      (f115_filter_reader_number 7 r347_0.2.1 r347_0.2.2.1 r347_0.2.2.2).bind fun r348_0 =>
                      some (r348_0.1, r348_0.2.1, r348_0.2.2.1, r348_0.2.2.2)
                    else
                      some (PT.nil, r347_0.2.1, r347_0.2.2.1, true)
theorem f112_filter_reader_plain_ok (r__0 : List ByteArray) (r__1 : Int) (r__2 : Bool) (r : PT × List ByteArray × Int × Bool) (h : f112_filter_reader_plain r__0 r__1 r__2 = some r) : FnOK Tryd.prog 112 (f112_filter_reader_plain_in r__0 r__1 r__2) (f112_filter_reader_plain_out r) := by
  unfold f112_filter_reader_plain at h
  refine At.fn (r := 0) Tryd.func112 rfl (by kernel_rfl) rfl rfl (by kernel_rfl) ?_
  show At Tryd.prog Tryd.f112 1 0 ⟨[(0, oc (.ptr 0 0))], [], [(0, [.d (.sl .str r__0), zi r__1, .d (.bool r__2)])], 1⟩ _
  refine At.step hm ht ⟨[], [], [.nilpt 2], [0], [0]⟩ 1 ⟨[(0, oc (.ptr 0 0))], [], [(0, [.d (.sl .str r__0), zi r__1, .d (.bool r__2)])], 1⟩ [] (by kernel_rfl) trivial ?_
  obtain ⟨r320_0, cr320_0, h⟩ := bindS h
  rcases iteS h with ⟨b320_e0, h⟩ | ⟨b320_e0, h⟩
  · refine At.step hm ht ⟨[(1, .call [0] [] (f84_filter_reader_took_out r320_0))], [true], [], [], [0]⟩ 2 ⟨[], [], [(0, [.d (.sl .str r320_0.2.1), zi r320_0.2.2.1, .d (.bool r320_0.2.2.2)])], 1⟩ [FnOK Tryd.prog 84 (f84_filter_reader_took_in (⟨#[97, 108, 108]⟩ : ByteArray) r__0 r__1 r__2) (f84_filter_reader_took_out r320_0), r320_0.1 = true] (by kernel_rfl) ⟨(f84_filter_reader_took_ok (⟨#[97, 108, 108]⟩ : ByteArray) r__0 r__1 r__2 r320_0 cr320_0), b320_e0, trivial⟩ ?_
    have h := Option.some.inj h
    subst h
    exact At.fin hm ht ⟨[], [], [.tree 2], [2], [0]⟩ [] (by kernel_rfl) trivial
  · refine At.step hm ht ⟨[(1, .call [0] [] (f84_filter_reader_took_out r320_0))], [false], [], [0], [0]⟩ 3 ⟨[(0, oc (.ptr 0 0))], [], [(0, [.d (.sl .str r320_0.2.1), zi r320_0.2.2.1, .d (.bool r320_0.2.2.2)])], 1⟩ [FnOK Tryd.prog 84 (f84_filter_reader_took_in (⟨#[97, 108, 108]⟩ : ByteArray) r__0 r__1 r__2) (f84_filter_reader_took_out r320_0), r320_0.1 = false] (by kernel_rfl) ⟨(f84_filter_reader_took_ok (⟨#[97, 108, 108]⟩ : ByteArray) r__0 r__1 r__2 r320_0 cr320_0), b320_e0, trivial⟩ ?_
    obtain ⟨r322_0, cr322_0, h⟩ := bindS h
    rcases iteS h with ⟨b322_e0, h⟩ | ⟨b322_e0, h⟩
    · refine At.step hm ht ⟨[(1, .call [0] [] (f84_filter_reader_took_out r322_0))], [true], [], [], [0]⟩ 4 ⟨[], [], [(0, [.d (.sl .str r322_0.2.1), zi r322_0.2.2.1, .d (.bool r322_0.2.2.2)])], 1⟩ [FnOK Tryd.prog 84 (f84_filter_reader_took_in (⟨#[101, 109, 112, 116, 121]⟩ : ByteArray) r320_0.2.1 r320_0.2.2.1 r320_0.2.2.2) (f84_filter_reader_took_out r322_0), r322_0.1 = true] (by kernel_rfl) ⟨(f84_filter_reader_took_ok (⟨#[101, 109, 112, 116, 121]⟩ : ByteArray) r320_0.2.1 r320_0.2.2.1 r320_0.2.2.2 r322_0 cr322_0), b322_e0, trivial⟩ ?_
      have h := Option.some.inj h
      subst h
      exact At.fin hm ht ⟨[], [], [.tree 2], [2], [0]⟩ [] (by kernel_rfl) trivial
    · refine At.step hm ht ⟨[(1, .call [0] [] (f84_filter_reader_took_out r322_0))], [false], [], [0], [0]⟩ 5 ⟨[(0, oc (.ptr 0 0))], [], [(0, [.d (.sl .str r322_0.2.1), zi r322_0.2.2.1, .d (.bool r322_0.2.2.2)])], 1⟩ [FnOK Tryd.prog 84 (f84_filter_reader_took_in (⟨#[101, 109, 112, 116, 121]⟩ : ByteArray) r320_0.2.1 r320_0.2.2.1 r320_0.2.2.2) (f84_filter_reader_took_out r322_0), r322_0.1 = false] (by kernel_rfl) ⟨(f84_filter_reader_took_ok (⟨#[101, 109, 112, 116, 121]⟩ : ByteArray) r320_0.2.1 r320_0.2.2.1 r320_0.2.2.2 r322_0 cr322_0), b322_e0, trivial⟩ ?_
      obtain ⟨r324_0, cr324_0, h⟩ := bindS h
      rcases iteS h with ⟨b324_e0, h⟩ | ⟨b324_e0, h⟩
      · refine At.step hm ht ⟨[(1, .call [0] [] (f84_filter_reader_took_out r324_0))], [true], [], [], [0]⟩ 6 ⟨[], [], [(0, [.d (.sl .str r324_0.2.1), zi r324_0.2.2.1, .d (.bool r324_0.2.2.2)])], 1⟩ [FnOK Tryd.prog 84 (f84_filter_reader_took_in (⟨#[115, 121, 110]⟩ : ByteArray) r322_0.2.1 r322_0.2.2.1 r322_0.2.2.2) (f84_filter_reader_took_out r324_0), r324_0.1 = true] (by kernel_rfl) ⟨(f84_filter_reader_took_ok (⟨#[115, 121, 110]⟩ : ByteArray) r322_0.2.1 r322_0.2.2.1 r322_0.2.2.2 r324_0 cr324_0), b324_e0, trivial⟩ ?_
        have h := Option.some.inj h
        subst h
        exact At.fin hm ht ⟨[], [], [.tree 2], [2], [0]⟩ [] (by kernel_rfl) trivial
      · refine At.step hm ht ⟨[(1, .call [0] [] (f84_filter_reader_took_out r324_0))], [false], [], [0], [0]⟩ 7 ⟨[(0, oc (.ptr 0 0))], [], [(0, [.d (.sl .str r324_0.2.1), zi r324_0.2.2.1, .d (.bool r324_0.2.2.2)])], 1⟩ [FnOK Tryd.prog 84 (f84_filter_reader_took_in (⟨#[115, 121, 110]⟩ : ByteArray) r322_0.2.1 r322_0.2.2.1 r322_0.2.2.2) (f84_filter_reader_took_out r324_0), r324_0.1 = false] (by kernel_rfl) ⟨(f84_filter_reader_took_ok (⟨#[115, 121, 110]⟩ : ByteArray) r322_0.2.1 r322_0.2.2.1 r322_0.2.2.2 r324_0 cr324_0), b324_e0, trivial⟩ ?_
        obtain ⟨r326_0, cr326_0, h⟩ := bindS h
        rcases iteS h with ⟨b326_e0, h⟩ | ⟨b326_e0, h⟩
        · refine At.step hm ht ⟨[(1, .call [0] [] (f84_filter_reader_took_out r326_0))], [true], [], [], [0]⟩ 8 ⟨[], [], [(0, [.d (.sl .str r326_0.2.1), zi r326_0.2.2.1, .d (.bool r326_0.2.2.2)])], 1⟩ [FnOK Tryd.prog 84 (f84_filter_reader_took_in (⟨#[97, 99, 107]⟩ : ByteArray) r324_0.2.1 r324_0.2.2.1 r324_0.2.2.2) (f84_filter_reader_took_out r326_0), r326_0.1 = true] (by kernel_rfl) ⟨(f84_filter_reader_took_ok (⟨#[97, 99, 107]⟩ : ByteArray) r324_0.2.1 r324_0.2.2.1 r324_0.2.2.2 r326_0 cr326_0), b326_e0, trivial⟩ ?_
          have h := Option.some.inj h
          subst h
          exact At.fin hm ht ⟨[], [], [.tree 2], [2], [0]⟩ [] (by kernel_rfl) trivial
        · refine At.step hm ht ⟨[(1, .call [0] [] (f84_filter_reader_took_out r326_0))], [false], [], [0], [0]⟩ 9 ⟨[(0, oc (.ptr 0 0))], [], [(0, [.d (.sl .str r326_0.2.1), zi r326_0.2.2.1, .d (.bool r326_0.2.2.2)])], 1⟩ [FnOK Tryd.prog 84 (f84_filter_reader_took_in (⟨#[97, 99, 107]⟩ : ByteArray) r324_0.2.1 r324_0.2.2.1 r324_0.2.2.2) (f84_filter_reader_took_out r326_0), r326_0.1 = false] (by kernel_rfl) ⟨(f84_filter_reader_took_ok (⟨#[97, 99, 107]⟩ : ByteArray) r324_0.2.1 r324_0.2.2.1 r324_0.2.2.2 r326_0 cr326_0), b326_e0, trivial⟩ ?_
          obtain ⟨r328_0, cr328_0, h⟩ := bindS h
          rcases iteS h with ⟨b328_e0, h⟩ | ⟨b328_e0, h⟩
          · refine At.step hm ht ⟨[(1, .call [0] [] (f84_filter_reader_took_out r328_0))], [true], [], [], [0]⟩ 10 ⟨[], [], [(0, [.d (.sl .str r328_0.2.1), zi r328_0.2.2.1, .d (.bool r328_0.2.2.2)])], 1⟩ [FnOK Tryd.prog 84 (f84_filter_reader_took_in (⟨#[114, 115, 116]⟩ : ByteArray) r326_0.2.1 r326_0.2.2.1 r326_0.2.2.2) (f84_filter_reader_took_out r328_0), r328_0.1 = true] (by kernel_rfl) ⟨(f84_filter_reader_took_ok (⟨#[114, 115, 116]⟩ : ByteArray) r326_0.2.1 r326_0.2.2.1 r326_0.2.2.2 r328_0 cr328_0), b328_e0, trivial⟩ ?_
            have h := Option.some.inj h
            subst h
            exact At.fin hm ht ⟨[], [], [.tree 2], [2], [0]⟩ [] (by kernel_rfl) trivial
          · refine At.step hm ht ⟨[(1, .call [0] [] (f84_filter_reader_took_out r328_0))], [false], [], [0], [0]⟩ 11 ⟨[(0, oc (.ptr 0 0))], [], [(0, [.d (.sl .str r328_0.2.1), zi r328_0.2.2.1, .d (.bool r328_0.2.2.2)])], 1⟩ [FnOK Tryd.prog 84 (f84_filter_reader_took_in (⟨#[114, 115, 116]⟩ : ByteArray) r326_0.2.1 r326_0.2.2.1 r326_0.2.2.2) (f84_filter_reader_took_out r328_0), r328_0.1 = false] (by kernel_rfl) ⟨(f84_filter_reader_took_ok (⟨#[114, 115, 116]⟩ : ByteArray) r326_0.2.1 r326_0.2.2.1 r326_0.2.2.2 r328_0 cr328_0), b328_e0, trivial⟩ ?_
            obtain ⟨r330_0, cr330_0, h⟩ := bindS h
            rcases iteS h with ⟨b330_e0, h⟩ | ⟨b330_e0, h⟩
            · refine At.step hm ht ⟨[(1, .call [0] [] (f84_filter_reader_took_out r330_0))], [true], [], [0], [0]⟩ 12 ⟨[(0, oc (.ptr 0 0))], [], [(0, [.d (.sl .str r330_0.2.1), zi r330_0.2.2.1, .d (.bool r330_0.2.2.2)])], 1⟩ [FnOK Tryd.prog 84 (f84_filter_reader_took_in (⟨#[112, 111, 114, 116]⟩ : ByteArray) r328_0.2.1 r328_0.2.2.1 r328_0.2.2.2) (f84_filter_reader_took_out r330_0), r330_0.1 = true] (by kernel_rfl) ⟨(f84_filter_reader_took_ok (⟨#[112, 111, 114, 116]⟩ : ByteArray) r328_0.2.1 r328_0.2.2.1 r328_0.2.2.2 r330_0 cr330_0), b330_e0, trivial⟩ ?_
              obtain ⟨r331_0, cr331_0, h⟩ := bindS h
              have h := Option.some.inj h
              subst h
              exact At.fin hm ht ⟨[(1, .call [0] [] (f115_filter_reader_number_out r331_0))], [], [], [2], [0]⟩ [FnOK Tryd.prog 115 (f115_filter_reader_number_in 3 r330_0.2.1 r330_0.2.2.1 r330_0.2.2.2) (f115_filter_reader_number_out r331_0)] (by kernel_rfl) ⟨(f115_filter_reader_number_ok 3 r330_0.2.1 r330_0.2.2.1 r330_0.2.2.2 r331_0 cr331_0), trivial⟩
            · refine At.step hm ht ⟨[(1, .call [0] [] (f84_filter_reader_took_out r330_0))], [false], [], [0], [0]⟩ 13 ⟨[(0, oc (.ptr 0 0))], [], [(0, [.d (.sl .str r330_0.2.1), zi r330_0.2.2.1, .d (.bool r330_0.2.2.2)])], 1⟩ [FnOK Tryd.prog 84 (f84_filter_reader_took_in (⟨#[112, 111, 114, 116]⟩ : ByteArray) r328_0.2.1 r328_0.2.2.1 r328_0.2.2.2) (f84_filter_reader_took_out r330_0), r330_0.1 = false] (by kernel_rfl) ⟨(f84_filter_reader_took_ok (⟨#[112, 111, 114, 116]⟩ : ByteArray) r328_0.2.1 r328_0.2.2.1 r328_0.2.2.2 r330_0 cr330_0), b330_e0, trivial⟩ ?_
              obtain ⟨r341_0, cr341_0, h⟩ := bindS h
              rcases iteS h with ⟨b341_e0, h⟩ | ⟨b341_e0, h⟩
              · refine At.step hm ht ⟨[(1, .call [0] [] (f84_filter_reader_took_out r341_0))], [true], [], [0], [0]⟩ 14 ⟨[(0, oc (.ptr 0 0))], [], [(0, [.d (.sl .str r341_0.2.1), zi r341_0.2.2.1, .d (.bool r341_0.2.2.2)])], 1⟩ [FnOK Tryd.prog 84 (f84_filter_reader_took_in (⟨#[115, 114, 99]⟩ : ByteArray) r330_0.2.1 r330_0.2.2.1 r330_0.2.2.2) (f84_filter_reader_took_out r341_0), r341_0.1 = true] (by kernel_rfl) ⟨(f84_filter_reader_took_ok (⟨#[115, 114, 99]⟩ : ByteArray) r330_0.2.1 r330_0.2.2.1 r330_0.2.2.2 r341_0 cr341_0), b341_e0, trivial⟩ ?_
                obtain ⟨r342_0, cr342_0, h⟩ := bindS h
                have h := Option.some.inj h
                subst h
                exact At.fin hm ht ⟨[(1, .call [0] [] (f115_filter_reader_number_out r342_0))], [], [], [2], [0]⟩ [FnOK Tryd.prog 115 (f115_filter_reader_number_in 4 r341_0.2.1 r341_0.2.2.1 r341_0.2.2.2) (f115_filter_reader_number_out r342_0)] (by kernel_rfl) ⟨(f115_filter_reader_number_ok 4 r341_0.2.1 r341_0.2.2.1 r341_0.2.2.2 r342_0 cr342_0), trivial⟩
              · refine At.step hm ht ⟨[(1, .call [0] [] (f84_filter_reader_took_out r341_0))], [false], [], [0], [0]⟩ 15 ⟨[(0, oc (.ptr 0 0))], [], [(0, [.d (.sl .str r341_0.2.1), zi r341_0.2.2.1, .d (.bool r341_0.2.2.2)])], 1⟩ [FnOK Tryd.prog 84 (f84_filter_reader_took_in (⟨#[115, 114, 99]⟩ : ByteArray) r330_0.2.1 r330_0.2.2.1 r330_0.2.2.2) (f84_filter_reader_took_out r341_0), r341_0.1 = false] (by kernel_rfl) ⟨(f84_filter_reader_took_ok (⟨#[115, 114, 99]⟩ : ByteArray) r330_0.2.1 r330_0.2.2.1 r330_0.2.2.2 r341_0 cr341_0), b341_e0, trivial⟩ ?_
                obtain ⟨r343_0, cr343_0, h⟩ := bindS h
                rcases iteS h with ⟨b343_e0, h⟩ | ⟨b343_e0, h⟩
                · refine At.step hm ht ⟨[(1, .call [0] [] (f84_filter_reader_took_out r343_0))], [true], [], [0], [0]⟩ 16 ⟨[(0, oc (.ptr 0 0))], [], [(0, [.d (.sl .str r343_0.2.1), zi r343_0.2.2.1, .d (.bool r343_0.2.2.2)])], 1⟩ [FnOK Tryd.prog 84 (f84_filter_reader_took_in (⟨#[100, 115, 116]⟩ : ByteArray) r341_0.2.1 r341_0.2.2.1 r341_0.2.2.2) (f84_filter_reader_took_out r343_0), r343_0.1 = true] (by kernel_rfl) ⟨(f84_filter_reader_took_ok (⟨#[100, 115, 116]⟩ : ByteArray) r341_0.2.1 r341_0.2.2.1 r341_0.2.2.2 r343_0 cr343_0), b343_e0, trivial⟩ ?_
                  obtain ⟨r344_0, cr344_0, h⟩ := bindS h
                  have h := Option.some.inj h
                  subst h
                  exact At.fin hm ht ⟨[(1, .call [0] [] (f115_filter_reader_number_out r344_0))], [], [], [2], [0]⟩ [FnOK Tryd.prog 115 (f115_filter_reader_number_in 5 r343_0.2.1 r343_0.2.2.1 r343_0.2.2.2) (f115_filter_reader_number_out r344_0)] (by kernel_rfl) ⟨(f115_filter_reader_number_ok 5 r343_0.2.1 r343_0.2.2.1 r343_0.2.2.2 r344_0 cr344_0), trivial⟩
                · refine At.step hm ht ⟨[(1, .call [0] [] (f84_filter_reader_took_out r343_0))], [false], [], [0], [0]⟩ 17 ⟨[(0, oc (.ptr 0 0))], [], [(0, [.d (.sl .str r343_0.2.1), zi r343_0.2.2.1, .d (.bool r343_0.2.2.2)])], 1⟩ [FnOK Tryd.prog 84 (f84_filter_reader_took_in (⟨#[100, 115, 116]⟩ : ByteArray) r341_0.2.1 r341_0.2.2.1 r341_0.2.2.2) (f84_filter_reader_took_out r343_0), r343_0.1 = false] (by kernel_rfl) ⟨(f84_filter_reader_took_ok (⟨#[100, 115, 116]⟩ : ByteArray) r341_0.2.1 r341_0.2.2.1 r341_0.2.2.2 r343_0 cr343_0), b343_e0, trivial⟩ ?_
                  obtain ⟨r345_0, cr345_0, h⟩ := bindS h
                  rcases iteS h with ⟨b345_e0, h⟩ | ⟨b345_e0, h⟩
                  · refine At.step hm ht ⟨[(1, .call [0] [] (f84_filter_reader_took_out r345_0))], [true], [], [0], [0]⟩ 18 ⟨[(0, oc (.ptr 0 0))], [], [(0, [.d (.sl .str r345_0.2.1), zi r345_0.2.2.1, .d (.bool r345_0.2.2.2)])], 1⟩ [FnOK Tryd.prog 84 (f84_filter_reader_took_in (⟨#[104, 97, 115]⟩ : ByteArray) r343_0.2.1 r343_0.2.2.1 r343_0.2.2.2) (f84_filter_reader_took_out r345_0), r345_0.1 = true] (by kernel_rfl) ⟨(f84_filter_reader_took_ok (⟨#[104, 97, 115]⟩ : ByteArray) r343_0.2.1 r343_0.2.2.1 r343_0.2.2.2 r345_0 cr345_0), b345_e0, trivial⟩ ?_
                    obtain ⟨r346_0, cr346_0, h⟩ := bindS h
                    have h := Option.some.inj h
                    subst h
                    exact At.fin hm ht ⟨[(1, .call [0] [] (f115_filter_reader_number_out r346_0))], [], [], [2], [0]⟩ [FnOK Tryd.prog 115 (f115_filter_reader_number_in 6 r345_0.2.1 r345_0.2.2.1 r345_0.2.2.2) (f115_filter_reader_number_out r346_0)] (by kernel_rfl) ⟨(f115_filter_reader_number_ok 6 r345_0.2.1 r345_0.2.2.1 r345_0.2.2.2 r346_0 cr346_0), trivial⟩
                  · refine At.step hm ht ⟨[(1, .call [0] [] (f84_filter_reader_took_out r345_0))], [false], [], [0], [0]⟩ 19 ⟨[(0, oc (.ptr 0 0))], [], [(0, [.d (.sl .str r345_0.2.1), zi r345_0.2.2.1, .d (.bool r345_0.2.2.2)])], 1⟩ [FnOK Tryd.prog 84 (f84_filter_reader_took_in (⟨#[104, 97, 115]⟩ : ByteArray) r343_0.2.1 r343_0.2.2.1 r343_0.2.2.2) (f84_filter_reader_took_out r345_0), r345_0.1 = false] (by kernel_rfl) ⟨(f84_filter_reader_took_ok (⟨#[104, 97, 115]⟩ : ByteArray) r343_0.2.1 r343_0.2.2.1 r343_0.2.2.2 r345_0 cr345_0), b345_e0, trivial⟩ ?_
                    obtain ⟨r347_0, cr347_0, h⟩ := bindS h
                    rcases iteS h with ⟨b347_e0, h⟩ | ⟨b347_e0, h⟩
                    · refine At.step hm ht ⟨[(1, .call [0] [] (f84_filter_reader_took_out r347_0))], [true], [], [0], [0]⟩ 20 ⟨[(0, oc (.ptr 0 0))], [], [(0, [.d (.sl .str r347_0.2.1), zi r347_0.2.2.1, .d (.bool r347_0.2.2.2)])], 1⟩ [FnOK Tryd.prog 84 (f84_filter_reader_took_in (⟨#[108, 111, 110, 103]⟩ : ByteArray) r345_0.2.1 r345_0.2.2.1 r345_0.2.2.2) (f84_filter_reader_took_out r347_0), r347_0.1 = true] (by kernel_rfl) ⟨(f84_filter_reader_took_ok (⟨#[108, 111, 110, 103]⟩ : ByteArray) r345_0.2.1 r345_0.2.2.1 r345_0.2.2.2 r347_0 cr347_0), b347_e0, trivial⟩ ?_
                      obtain ⟨r348_0, cr348_0, h⟩ := bindS h
                      have h := Option.some.inj h
                      subst h
                      exact At.fin hm ht ⟨[(1, .call [0] [] (f115_filter_reader_number_out r348_0))], [], [], [2], [0]⟩ [FnOK Tryd.prog 115 (f115_filter_reader_number_in 7 r347_0.2.1 r347_0.2.2.1 r347_0.2.2.2) (f115_filter_reader_number_out r348_0)] (by kernel_rfl) ⟨(f115_filter_reader_number_ok 7 r347_0.2.1 r347_0.2.2.1 r347_0.2.2.2 r348_0 cr348_0), trivial⟩
                    · refine At.step hm ht ⟨[(1, .call [0] [] (f84_filter_reader_took_out r347_0))], [false], [], [0], [0]⟩ 21 ⟨[(0, oc (.ptr 0 0))], [], [(0, [.d (.sl .str r347_0.2.1), zi r347_0.2.2.1, .d (.bool r347_0.2.2.2)])], 1⟩ [FnOK Tryd.prog 84 (f84_filter_reader_took_in (⟨#[108, 111, 110, 103]⟩ : ByteArray) r345_0.2.1 r345_0.2.2.1 r345_0.2.2.2) (f84_filter_reader_took_out r347_0), r347_0.1 = false] (by kernel_rfl) ⟨(f84_filter_reader_took_ok (⟨#[108, 111, 110, 103]⟩ : ByteArray) r345_0.2.1 r345_0.2.2.1 r345_0.2.2.2 r347_0 cr347_0), b347_e0, trivial⟩ ?_
                      refine At.step hm ht ⟨[], [], [], [], [0]⟩ 22 ⟨[], [], [(0, [.d (.sl .str r347_0.2.1), zi r347_0.2.2.1, .d (.bool true)])], 1⟩ [2 + 1 ≤ 3] (by kernel_rfl) ⟨(by decide), trivial⟩ ?_
                      have h := Option.some.inj h
                      subst h
                      exact At.fin hm ht ⟨[], [], [.nilpt 2], [2], [0]⟩ [] (by kernel_rfl) trivial
/-! (*brougham/filter.reader).one -/
def f99_filter_reader_one_in (r__0 : List ByteArray) (r__1 : Int) (r__2 : Bool) : Inn := ⟨[.c (.ptr 0 0)], [], [(0, [.d (.sl .str r__0), zi r__1, .d (.bool r__2)])], 1⟩
def f99_filter_reader_one_out (r : PT × List ByteArray × Int × Bool) : Out := ⟨oc (.d (.pt r.1)), [], [(0, [.d (.sl .str r.2.1), zi r.2.2.1, .d (.bool r.2.2.2)])], 1⟩
/-! (*brougham/filter.reader).or -/
def f54_filter_reader_or_in (r__0 : List ByteArray) (r__1 : Int) (r__2 : Bool) : Inn := ⟨[.c (.ptr 0 0)], [], [(0, [.d (.sl .str r__0), zi r__1, .d (.bool r__2)])], 1⟩
def f54_filter_reader_or_out (r : PT × List ByteArray × Int × Bool) : Out := ⟨oc (.d (.pt r.1)), [], [(0, [.d (.sl .str r.2.1), zi r.2.2.1, .d (.bool r.2.2.2)])], 1⟩
/-! (*brougham/filter.reader).one -/
def f99_filter_reader_one_D5_in (b0_0 : List ByteArray) (b0_1 : Int) (b0_2 : Bool) : Inn := ⟨[.c (.ptr 1 0)], [], [(0, [.d (.sl .str b0_0), zi b0_1, .d (.bool b0_2)]), (1, [.ptr 0 0])], 2⟩
def f99_filter_reader_one_D5_out (r : PT × List ByteArray × Int × Bool) : Out := ⟨oc (.d (.pt r.1)), [], [(0, [.d (.sl .str r.2.1), zi r.2.2.1, .d (.bool r.2.2.2)]), (1, [.ptr 0 0])], 2⟩
def f99_filter_reader_one_D5 (rc_f54_filter_reader_or : (List ByteArray) → Int → Bool → Option (PT × List ByteArray × Int × Bool)) (rc_f99_filter_reader_one : (List ByteArray) → Int → Bool → Option (PT × List ByteArray × Int × Bool)) (n : Nat) (b0_0 : List ByteArray) (b0_1 : Int) (b0_2 : Bool) : Option (PT × List ByteArray × Int × Bool) :=
  (f84_filter_reader_took (⟨#[110, 111, 116]⟩ : ByteArray) b0_0 b0_1 b0_2).bind fun r411_0 =>
  if r411_0.1 = true then
    (rc_f99_filter_reader_one r411_0.2.1 r411_0.2.2.1 r411_0.2.2.2).bind fun r412_0 =>
    some ((PT.node 8 0 r412_0.1 PT.nil), r412_0.2.1, r412_0.2.2.1, r412_0.2.2.2)
  else
    (f84_filter_reader_took (⟨#[40]⟩ : ByteArray) r411_0.2.1 r411_0.2.2.1 r411_0.2.2.2).bind fun r413_0 =>
    if r413_0.1 = true then
      (rc_f54_filter_reader_or r413_0.2.1 r413_0.2.2.1 r413_0.2.2.2).bind fun r414_0 =>
      (f84_filter_reader_took (⟨#[41]⟩ : ByteArray) r414_0.2.1 r414_0.2.2.1 r414_0.2.2.2).bind fun r415_0 =>
      if (!r415_0.1) = true then
        some (r414_0.1, r415_0.2.1, r415_0.2.2.1, true)
      else
        some (r414_0.1, r415_0.2.1, r415_0.2.2.1, r415_0.2.2.2)
    else
      (f112_filter_reader_plain r413_0.2.1 r413_0.2.2.1 r413_0.2.2.2).bind fun r418_0 =>
      some (r418_0.1, r418_0.2.1, r418_0.2.2.1, r418_0.2.2.2)
theorem f99_filter_reader_one_D5_ok (rc_f54_filter_reader_or : (List ByteArray) → Int → Bool → Option (PT × List ByteArray × Int × Bool)) (hrc_f54_filter_reader_or : ∀ (r__0 : List ByteArray) (r__1 : Int) (r__2 : Bool) (r : PT × List ByteArray × Int × Bool) (h : rc_f54_filter_reader_or r__0 r__1 r__2 = some r), FnOK Tryd.prog 54 (f54_filter_reader_or_in r__0 r__1 r__2) (f54_filter_reader_or_out r)) (rc_f99_filter_reader_one : (List ByteArray) → Int → Bool → Option (PT × List ByteArray × Int × Bool)) (hrc_f99_filter_reader_one : ∀ (r__0 : List ByteArray) (r__1 : Int) (r__2 : Bool) (r : PT × List ByteArray × Int × Bool) (h : rc_f99_filter_reader_one r__0 r__1 r__2 = some r), FnOK Tryd.prog 99 (f99_filter_reader_one_in r__0 r__1 r__2) (f99_filter_reader_one_out r)) (n : Nat) (b0_0 : List ByteArray) (b0_1 : Int) (b0_2 : Bool) (r : PT × List ByteArray × Int × Bool) (h : f99_filter_reader_one_D5 rc_f54_filter_reader_or rc_f99_filter_reader_one n b0_0 b0_1 b0_2 = some r) : At Tryd.prog Tryd.f99 2 6 ⟨[(1, oc (.ptr 1 0))], [], [(0, [.d (.sl .str b0_0), zi b0_1, .d (.bool b0_2)]), (1, [.ptr 0 0])], 2⟩ (f99_filter_reader_one_D5_out r) := by
  unfold f99_filter_reader_one_D5 at h
  obtain ⟨r411_0, cr411_0, h⟩ := bindS h
  rcases iteS h with ⟨b411_e0, h⟩ | ⟨b411_e0, h⟩
  · refine At.step hm ht ⟨[(1, .call [0] [] (f84_filter_reader_took_out r411_0))], [true], [], [1], [0, 1]⟩ 7 ⟨[(1, oc (.ptr 1 0))], [], [(0, [.d (.sl .str r411_0.2.1), zi r411_0.2.2.1, .d (.bool r411_0.2.2.2)]), (1, [.ptr 0 0])], 2⟩ [FnOK Tryd.prog 84 (f84_filter_reader_took_in (⟨#[110, 111, 116]⟩ : ByteArray) b0_0 b0_1 b0_2) (f84_filter_reader_took_out r411_0), r411_0.1 = true] (by kernel_rfl) ⟨(f84_filter_reader_took_ok (⟨#[110, 111, 116]⟩ : ByteArray) b0_0 b0_1 b0_2 r411_0 cr411_0), b411_e0, trivial⟩ ?_
    obtain ⟨r412_0, cr412_0, h⟩ := bindS h
    have h := Option.some.inj h
    subst h
    exact At.fin hm ht ⟨[(1, .call [0] [] (f99_filter_reader_one_out r412_0))], [], [.tree 5], [2], [0, 1]⟩ [FnOK Tryd.prog 99 (f99_filter_reader_one_in r411_0.2.1 r411_0.2.2.1 r411_0.2.2.2) (f99_filter_reader_one_out r412_0)] (by kernel_rfl) ⟨(hrc_f99_filter_reader_one r411_0.2.1 r411_0.2.2.1 r411_0.2.2.2 r412_0 cr412_0), trivial⟩
  · refine At.step hm ht ⟨[(1, .call [0] [] (f84_filter_reader_took_out r411_0))], [false], [], [1], [0, 1]⟩ 8 ⟨[(1, oc (.ptr 1 0))], [], [(0, [.d (.sl .str r411_0.2.1), zi r411_0.2.2.1, .d (.bool r411_0.2.2.2)]), (1, [.ptr 0 0])], 2⟩ [FnOK Tryd.prog 84 (f84_filter_reader_took_in (⟨#[110, 111, 116]⟩ : ByteArray) b0_0 b0_1 b0_2) (f84_filter_reader_took_out r411_0), r411_0.1 = false] (by kernel_rfl) ⟨(f84_filter_reader_took_ok (⟨#[110, 111, 116]⟩ : ByteArray) b0_0 b0_1 b0_2 r411_0 cr411_0), b411_e0, trivial⟩ ?_
    obtain ⟨r413_0, cr413_0, h⟩ := bindS h
    rcases iteS h with ⟨b413_e0, h⟩ | ⟨b413_e0, h⟩
    · refine At.step hm ht ⟨[(1, .call [0] [] (f84_filter_reader_took_out r413_0))], [true], [], [1], [0, 1]⟩ 9 ⟨[(1, oc (.ptr 1 0))], [], [(0, [.d (.sl .str r413_0.2.1), zi r413_0.2.2.1, .d (.bool r413_0.2.2.2)]), (1, [.ptr 0 0])], 2⟩ [FnOK Tryd.prog 84 (f84_filter_reader_took_in (⟨#[40]⟩ : ByteArray) r411_0.2.1 r411_0.2.2.1 r411_0.2.2.2) (f84_filter_reader_took_out r413_0), r413_0.1 = true] (by kernel_rfl) ⟨(f84_filter_reader_took_ok (⟨#[40]⟩ : ByteArray) r411_0.2.1 r411_0.2.2.1 r411_0.2.2.2 r413_0 cr413_0), b413_e0, trivial⟩ ?_
      obtain ⟨r414_0, cr414_0, h⟩ := bindS h
      refine At.step hm ht ⟨[(1, .call [0] [] (f54_filter_reader_or_out r414_0))], [], [], [1, 3], [0, 1]⟩ 10 ⟨[(1, oc (.ptr 1 0)), (3, oc (.d (.pt r414_0.1)))], [], [(0, [.d (.sl .str r414_0.2.1), zi r414_0.2.2.1, .d (.bool r414_0.2.2.2)]), (1, [.ptr 0 0])], 2⟩ [FnOK Tryd.prog 54 (f54_filter_reader_or_in r413_0.2.1 r413_0.2.2.1 r413_0.2.2.2) (f54_filter_reader_or_out r414_0)] (by kernel_rfl) ⟨(hrc_f54_filter_reader_or r413_0.2.1 r413_0.2.2.1 r413_0.2.2.2 r414_0 cr414_0), trivial⟩ ?_
      obtain ⟨r415_0, cr415_0, h⟩ := bindS h
      rcases iteS h with ⟨b415_4, h⟩ | ⟨b415_4, h⟩
      · refine At.step hm ht ⟨[(2, .call [0] [] (f84_filter_reader_took_out r415_0)), (4, .b true)], [], [], [3], [0, 1]⟩ 11 ⟨[(3, oc (.d (.pt r414_0.1)))], [], [(0, [.d (.sl .str r415_0.2.1), zi r415_0.2.2.1, .d (.bool true)]), (1, [.ptr 0 0])], 2⟩ [FnOK Tryd.prog 84 (f84_filter_reader_took_in (⟨#[41]⟩ : ByteArray) r414_0.2.1 r414_0.2.2.1 r414_0.2.2.2) (f84_filter_reader_took_out r415_0), (!r415_0.1) = true, 2 + 1 ≤ 3] (by kernel_rfl) ⟨(f84_filter_reader_took_ok (⟨#[41]⟩ : ByteArray) r414_0.2.1 r414_0.2.2.1 r414_0.2.2.2 r415_0 cr415_0), b415_4, (by decide), trivial⟩ ?_
        have h := Option.some.inj h
        subst h
        exact At.fin hm ht ⟨[], [], [], [2], [0, 1]⟩ [] (by kernel_rfl) trivial
      · refine At.step hm ht ⟨[(2, .call [0] [] (f84_filter_reader_took_out r415_0)), (4, .b false)], [], [], [3], [0, 1]⟩ 11 ⟨[(3, oc (.d (.pt r414_0.1)))], [], [(0, [.d (.sl .str r415_0.2.1), zi r415_0.2.2.1, .d (.bool r415_0.2.2.2)]), (1, [.ptr 0 0])], 2⟩ [FnOK Tryd.prog 84 (f84_filter_reader_took_in (⟨#[41]⟩ : ByteArray) r414_0.2.1 r414_0.2.2.1 r414_0.2.2.2) (f84_filter_reader_took_out r415_0), (!r415_0.1) = false, 2 + 1 ≤ 3] (by kernel_rfl) ⟨(f84_filter_reader_took_ok (⟨#[41]⟩ : ByteArray) r414_0.2.1 r414_0.2.2.1 r414_0.2.2.2 r415_0 cr415_0), b415_4, (by decide), trivial⟩ ?_
        have h := Option.some.inj h
        subst h
        exact At.fin hm ht ⟨[], [], [], [2], [0, 1]⟩ [] (by kernel_rfl) trivial
    · refine At.step hm ht ⟨[(1, .call [0] [] (f84_filter_reader_took_out r413_0))], [false], [], [1], [0, 1]⟩ 12 ⟨[(1, oc (.ptr 1 0))], [], [(0, [.d (.sl .str r413_0.2.1), zi r413_0.2.2.1, .d (.bool r413_0.2.2.2)]), (1, [.ptr 0 0])], 2⟩ [FnOK Tryd.prog 84 (f84_filter_reader_took_in (⟨#[40]⟩ : ByteArray) r411_0.2.1 r411_0.2.2.1 r411_0.2.2.2) (f84_filter_reader_took_out r413_0), r413_0.1 = false] (by kernel_rfl) ⟨(f84_filter_reader_took_ok (⟨#[40]⟩ : ByteArray) r411_0.2.1 r411_0.2.2.1 r411_0.2.2.2 r413_0 cr413_0), b413_e0, trivial⟩ ?_
      obtain ⟨r418_0, cr418_0, h⟩ := bindS h
      have h := Option.some.inj h
      subst h
      exact At.fin hm ht ⟨[(1, .call [0] [] (f112_filter_reader_plain_out r418_0))], [], [], [2], [0, 1]⟩ [FnOK Tryd.prog 112 (f112_filter_reader_plain_in r413_0.2.1 r413_0.2.2.1 r413_0.2.2.2) (f112_filter_reader_plain_out r418_0)] (by kernel_rfl) ⟨(f112_filter_reader_plain_ok r413_0.2.1 r413_0.2.2.1 r413_0.2.2.2 r418_0 cr418_0), trivial⟩
def f99_filter_reader_one (rc_f54_filter_reader_or : (List ByteArray) → Int → Bool → Option (PT × List ByteArray × Int × Bool)) : Nat → (List ByteArray) → Int → Bool → Option (PT × List ByteArray × Int × Bool)
  | 0, _, _, _ => none
  | n + 1, r__0, r__1, r__2 =>
    if (decide (((IntKind.wrap .i64 (r__1 - 1)) : Int) < 0)) = true then
      some (PT.nil, r__0, (IntKind.wrap .i64 (r__1 - 1)), true)
    else
      (f99_filter_reader_one_D5 rc_f54_filter_reader_or (f99_filter_reader_one rc_f54_filter_reader_or n) n r__0 (IntKind.wrap .i64 (r__1 - 1)) r__2).bind fun r419 =>
      some (r419.1, r419.2.1, (IntKind.wrap .i64 (r419.2.2.1 + 1)), r419.2.2.2)
theorem f99_filter_reader_one_ok (rc_f54_filter_reader_or : (List ByteArray) → Int → Bool → Option (PT × List ByteArray × Int × Bool)) (hrc_f54_filter_reader_or : ∀ (r__0 : List ByteArray) (r__1 : Int) (r__2 : Bool) (r : PT × List ByteArray × Int × Bool) (h : rc_f54_filter_reader_or r__0 r__1 r__2 = some r), FnOK Tryd.prog 54 (f54_filter_reader_or_in r__0 r__1 r__2) (f54_filter_reader_or_out r)) (n : Nat) : ∀ (r__0 : List ByteArray) (r__1 : Int) (r__2 : Bool) (r : PT × List ByteArray × Int × Bool) (h : f99_filter_reader_one rc_f54_filter_reader_or n r__0 r__1 r__2 = some r), FnOK Tryd.prog 99 (f99_filter_reader_one_in r__0 r__1 r__2) (f99_filter_reader_one_out r) := by
  induction n with
  | zero => intro r__0 r__1 r__2 r h; rw [f99_filter_reader_one] at h; cases h
  | succ n ih =>
    intro r__0 r__1 r__2 r h
    rw [f99_filter_reader_one] at h
    refine At0.fn (r := 0) Tryd.func99 rfl (by kernel_rfl) rfl rfl (by kernel_rfl) ?_
    show At0 Tryd.prog Tryd.f99 1 0 ⟨[(0, oc (.ptr 0 0))], [], [(0, [.d (.sl .str r__0), zi r__1, .d (.bool r__2)])], 1⟩ _
    refine At0.step hm ht ⟨[], [], [.nilpt 2], [1], [0, 1]⟩ 1 ⟨[(1, oc (.ptr 1 0))], [], [(0, [.d (.sl .str r__0), zi r__1, .d (.bool r__2)]), (1, [.ptr 0 0])], 2⟩ [] (by kernel_rfl) trivial ?_
    refine At0.step hm ht ⟨[], [], [], [1], [0, 1]⟩ 2 ⟨[(1, oc (.ptr 1 0))], [], [(0, [.d (.sl .str r__0), zi (IntKind.wrap .i64 (r__1 - 1)), .d (.bool r__2)]), (1, [.ptr 0 0])], 2⟩ [1 + 1 ≤ 3] (by kernel_rfl) ⟨(by decide), trivial⟩ ?_
    rcases iteS h with ⟨b408_e0, h⟩ | ⟨b408_e0, h⟩
    · refine At0.step hm ht ⟨[], [true], [], [1], [0, 1]⟩ 3 ⟨[(1, oc (.ptr 1 0))], [], [(0, [.d (.sl .str r__0), zi (IntKind.wrap .i64 (r__1 - 1)), .d (.bool r__2)]), (1, [.ptr 0 0])], 2⟩ [(decide (((IntKind.wrap .i64 (r__1 - 1)) : Int) < 0)) = true] (by kernel_rfl) ⟨b408_e0, trivial⟩ ?_
      refine At0.step hm ht ⟨[], [], [], [], [0]⟩ 4 ⟨[], [], [(0, [.d (.sl .str r__0), zi (IntKind.wrap .i64 (r__1 - 1)), .d (.bool true)])], 1⟩ [2 + 1 ≤ 3] (by kernel_rfl) ⟨(by decide), trivial⟩ ?_
      have h := Option.some.inj h
      subst h
      exact At.zero (At.fin hm ht ⟨[], [], [.nilpt 2], [2], [0]⟩ [] (by kernel_rfl) trivial)
    · refine At0.step hm ht ⟨[], [false], [], [1], [0, 1]⟩ 5 ⟨[(1, oc (.ptr 1 0))], [], [(0, [.d (.sl .str r__0), zi (IntKind.wrap .i64 (r__1 - 1)), .d (.bool r__2)]), (1, [.ptr 0 0])], 2⟩ [(decide (((IntKind.wrap .i64 (r__1 - 1)) : Int) < 0)) = false] (by kernel_rfl) ⟨b408_e0, trivial⟩ ?_
      obtain ⟨r419, cr419, h⟩ := bindS h
      have h := Option.some.inj h
      subst h
      have q := Go.Proofs.YtakamchmiakicaaDoorDfr.dfr rfl rfl rfl (f99_filter_reader_one_D5_ok rc_f54_filter_reader_or hrc_f54_filter_reader_or (f99_filter_reader_one rc_f54_filter_reader_or n) ih n r__0 (IntKind.wrap .i64 (r__1 - 1)) r__2 r419 cr419)
      exact q
/-! (*brougham/filter.reader).and -/
def f83_filter_reader_and_in (r__0 : List ByteArray) (r__1 : Int) (r__2 : Bool) : Inn := ⟨[.c (.ptr 0 0)], [], [(0, [.d (.sl .str r__0), zi r__1, .d (.bool r__2)])], 1⟩
def f83_filter_reader_and_out (r : PT × List ByteArray × Int × Bool) : Out := ⟨oc (.d (.pt r.1)), [], [(0, [.d (.sl .str r.2.1), zi r.2.2.1, .d (.bool r.2.2.2)])], 1⟩
def f83_filter_reader_and_L2 (rc_f54_filter_reader_or : (List ByteArray) → Int → Bool → Option (PT × List ByteArray × Int × Bool)) : Nat → PT → (List ByteArray) → Int → Bool → Option (PT × List ByteArray × Int × Bool)
  | 0, _, _, _, _ => none
  | n + 1, f, r__0, r__1, r__2 =>
    if (!r__2) = true then
      (f84_filter_reader_took (⟨#[97, 110, 100]⟩ : ByteArray) r__0 r__1 r__2).bind fun r420_0 =>
      if r420_0.1 = true then
        (f99_filter_reader_one rc_f54_filter_reader_or n r420_0.2.1 r420_0.2.2.1 r420_0.2.2.2).bind fun r421_0 =>
        f83_filter_reader_and_L2 rc_f54_filter_reader_or n (PT.node 9 0 f r421_0.1) r421_0.2.1 r421_0.2.2.1 r421_0.2.2.2
      else
        some ((f, r420_0.2.1, r420_0.2.2.1, r420_0.2.2.2))
    else
      some ((f, r__0, r__1, r__2))
def f83_filter_reader_and_L2_k (e : PT × List ByteArray × Int × Bool) (o : Out) : Prop := At Tryd.prog Tryd.f83 1 4 ⟨[(3, oc (.d (.pt e.1)))], [], [(0, [.d (.sl .str e.2.1), zi e.2.2.1, .d (.bool e.2.2.2)])], 1⟩ o
theorem f83_filter_reader_and_L2_ok (rc_f54_filter_reader_or : (List ByteArray) → Int → Bool → Option (PT × List ByteArray × Int × Bool)) (hrc_f54_filter_reader_or : ∀ (r__0 : List ByteArray) (r__1 : Int) (r__2 : Bool) (r : PT × List ByteArray × Int × Bool) (h : rc_f54_filter_reader_or r__0 r__1 r__2 = some r), FnOK Tryd.prog 54 (f54_filter_reader_or_in r__0 r__1 r__2) (f54_filter_reader_or_out r)) (n : Nat) : ∀ (f : PT) (r__0 : List ByteArray) (r__1 : Int) (r__2 : Bool) (w : PT × List ByteArray × Int × Bool) (h : f83_filter_reader_and_L2 rc_f54_filter_reader_or n f r__0 r__1 r__2 = some w) (o : Out) (hk : f83_filter_reader_and_L2_k w o), At Tryd.prog Tryd.f83 1 2 ⟨[(0, oc (.ptr 0 0)), (3, oc (.d (.pt f)))], [], [(0, [.d (.sl .str r__0), zi r__1, .d (.bool r__2)])], 1⟩ o := by
  induction n with
  | zero => intro f r__0 r__1 r__2 w h; rw [f83_filter_reader_and_L2] at h; cases h
  | succ n ih =>
    intro f r__0 r__1 r__2 w h o hk
    rw [f83_filter_reader_and_L2] at h
    rcases iteS h with ⟨b420_5, h⟩ | ⟨b420_5, h⟩
    · obtain ⟨r420_0, cr420_0, h⟩ := bindS h
      rcases iteS h with ⟨b420_e0, h⟩ | ⟨b420_e0, h⟩
      · refine At.step hm ht ⟨[(5, .b true), (7, .call [0] [] (f84_filter_reader_took_out r420_0))], [true], [], [0, 3], [0]⟩ 3 ⟨[(0, oc (.ptr 0 0)), (3, oc (.d (.pt f)))], [], [(0, [.d (.sl .str r420_0.2.1), zi r420_0.2.2.1, .d (.bool r420_0.2.2.2)])], 1⟩ [(!r__2) = true, FnOK Tryd.prog 84 (f84_filter_reader_took_in (⟨#[97, 110, 100]⟩ : ByteArray) r__0 r__1 r__2) (f84_filter_reader_took_out r420_0), r420_0.1 = true] (by kernel_rfl) ⟨b420_5, (f84_filter_reader_took_ok (⟨#[97, 110, 100]⟩ : ByteArray) r__0 r__1 r__2 r420_0 cr420_0), b420_e0, trivial⟩ ?_
        obtain ⟨r421_0, cr421_0, h⟩ := bindS h
        refine At.step hm ht ⟨[(2, .call [0] [] (f99_filter_reader_one_out r421_0))], [], [.tree 5], [0, 3], [0]⟩ 2 ⟨[(0, oc (.ptr 0 0)), (3, oc (.d (.pt (PT.node 9 0 f r421_0.1))))], [], [(0, [.d (.sl .str r421_0.2.1), zi r421_0.2.2.1, .d (.bool r421_0.2.2.2)])], 1⟩ [FnOK Tryd.prog 99 (f99_filter_reader_one_in r420_0.2.1 r420_0.2.2.1 r420_0.2.2.2) (f99_filter_reader_one_out r421_0)] (by kernel_rfl) ⟨(f99_filter_reader_one_ok rc_f54_filter_reader_or hrc_f54_filter_reader_or n r420_0.2.1 r420_0.2.2.1 r420_0.2.2.2 r421_0 cr421_0), trivial⟩ ?_
        exact ih (PT.node 9 0 f r421_0.1) r421_0.2.1 r421_0.2.2.1 r421_0.2.2.2 w h o hk
      · refine At.step hm ht ⟨[(5, .b true), (7, .call [0] [] (f84_filter_reader_took_out r420_0))], [false], [], [3], [0]⟩ 4 ⟨[(3, oc (.d (.pt f)))], [], [(0, [.d (.sl .str r420_0.2.1), zi r420_0.2.2.1, .d (.bool r420_0.2.2.2)])], 1⟩ [(!r__2) = true, FnOK Tryd.prog 84 (f84_filter_reader_took_in (⟨#[97, 110, 100]⟩ : ByteArray) r__0 r__1 r__2) (f84_filter_reader_took_out r420_0), r420_0.1 = false] (by kernel_rfl) ⟨b420_5, (f84_filter_reader_took_ok (⟨#[97, 110, 100]⟩ : ByteArray) r__0 r__1 r__2 r420_0 cr420_0), b420_e0, trivial⟩ ?_
        have h := Option.some.inj h
        subst h
        exact hk
    · refine At.step hm ht ⟨[(5, .b false)], [false], [], [3], [0]⟩ 4 ⟨[(3, oc (.d (.pt f)))], [], [(0, [.d (.sl .str r__0), zi r__1, .d (.bool r__2)])], 1⟩ [(!r__2) = false, false = false] (by kernel_rfl) ⟨b420_5, rfl, trivial⟩ ?_
      have h := Option.some.inj h
      subst h
      exact hk
def f83_filter_reader_and (rc_f54_filter_reader_or : (List ByteArray) → Int → Bool → Option (PT × List ByteArray × Int × Bool)) (n : Nat) (r__0 : List ByteArray) (r__1 : Int) (r__2 : Bool) : Option (PT × List ByteArray × Int × Bool) :=
  (f99_filter_reader_one rc_f54_filter_reader_or n r__0 r__1 r__2).bind fun r405_0 =>
  (f83_filter_reader_and_L2 rc_f54_filter_reader_or n r405_0.1 r405_0.2.1 r405_0.2.2.1 r405_0.2.2.2).bind fun w422 =>
  some (w422.1, w422.2.1, w422.2.2.1, w422.2.2.2)
theorem f83_filter_reader_and_ok (rc_f54_filter_reader_or : (List ByteArray) → Int → Bool → Option (PT × List ByteArray × Int × Bool)) (hrc_f54_filter_reader_or : ∀ (r__0 : List ByteArray) (r__1 : Int) (r__2 : Bool) (r : PT × List ByteArray × Int × Bool) (h : rc_f54_filter_reader_or r__0 r__1 r__2 = some r), FnOK Tryd.prog 54 (f54_filter_reader_or_in r__0 r__1 r__2) (f54_filter_reader_or_out r)) (n : Nat) (r__0 : List ByteArray) (r__1 : Int) (r__2 : Bool) (r : PT × List ByteArray × Int × Bool) (h : f83_filter_reader_and rc_f54_filter_reader_or n r__0 r__1 r__2 = some r) : FnOK Tryd.prog 83 (f83_filter_reader_and_in r__0 r__1 r__2) (f83_filter_reader_and_out r) := by
  unfold f83_filter_reader_and at h
  refine At.fn (r := 0) Tryd.func83 rfl (by kernel_rfl) rfl rfl (by kernel_rfl) ?_
  show At Tryd.prog Tryd.f83 1 0 ⟨[(0, oc (.ptr 0 0))], [], [(0, [.d (.sl .str r__0), zi r__1, .d (.bool r__2)])], 1⟩ _
  refine At.step hm ht ⟨[], [], [.nilpt 2], [0], [0]⟩ 1 ⟨[(0, oc (.ptr 0 0))], [], [(0, [.d (.sl .str r__0), zi r__1, .d (.bool r__2)])], 1⟩ [] (by kernel_rfl) trivial ?_
  obtain ⟨r405_0, cr405_0, h⟩ := bindS h
  refine At.step hm ht ⟨[(1, .call [0] [] (f99_filter_reader_one_out r405_0))], [], [], [0, 3], [0]⟩ 2 ⟨[(0, oc (.ptr 0 0)), (3, oc (.d (.pt r405_0.1)))], [], [(0, [.d (.sl .str r405_0.2.1), zi r405_0.2.2.1, .d (.bool r405_0.2.2.2)])], 1⟩ [FnOK Tryd.prog 99 (f99_filter_reader_one_in r__0 r__1 r__2) (f99_filter_reader_one_out r405_0)] (by kernel_rfl) ⟨(f99_filter_reader_one_ok rc_f54_filter_reader_or hrc_f54_filter_reader_or n r__0 r__1 r__2 r405_0 cr405_0), trivial⟩ ?_
  obtain ⟨w422, cw422, h⟩ := bindS h
  refine f83_filter_reader_and_L2_ok rc_f54_filter_reader_or hrc_f54_filter_reader_or n r405_0.1 r405_0.2.1 r405_0.2.2.1 r405_0.2.2.2 w422 cw422 _ ?_
  show At Tryd.prog Tryd.f83 1 4 ⟨[(3, oc (.d (.pt w422.1)))], [], [(0, [.d (.sl .str w422.2.1), zi w422.2.2.1, .d (.bool w422.2.2.2)])], 1⟩ _
  have h := Option.some.inj h
  subst h
  exact At.fin hm ht ⟨[], [], [], [2], [0]⟩ [] (by kernel_rfl) trivial
def f54_filter_reader_or_L2 (rc_f54_filter_reader_or : (List ByteArray) → Int → Bool → Option (PT × List ByteArray × Int × Bool)) : Nat → PT → (List ByteArray) → Int → Bool → Option (PT × List ByteArray × Int × Bool)
  | 0, _, _, _, _ => none
  | n + 1, f, r__0, r__1, r__2 =>
    if (!r__2) = true then
      (f84_filter_reader_took (⟨#[111, 114]⟩ : ByteArray) r__0 r__1 r__2).bind fun r425_0 =>
      if r425_0.1 = true then
        (f83_filter_reader_and rc_f54_filter_reader_or n r425_0.2.1 r425_0.2.2.1 r425_0.2.2.2).bind fun r426_0 =>
        f54_filter_reader_or_L2 rc_f54_filter_reader_or n (PT.node 10 0 f r426_0.1) r426_0.2.1 r426_0.2.2.1 r426_0.2.2.2
      else
        some ((f, r425_0.2.1, r425_0.2.2.1, r425_0.2.2.2))
    else
      some ((f, r__0, r__1, r__2))
def f54_filter_reader_or_L2_k (e : PT × List ByteArray × Int × Bool) (o : Out) : Prop := At Tryd.prog Tryd.f54 1 4 ⟨[(3, oc (.d (.pt e.1)))], [], [(0, [.d (.sl .str e.2.1), zi e.2.2.1, .d (.bool e.2.2.2)])], 1⟩ o
theorem f54_filter_reader_or_L2_ok (rc_f54_filter_reader_or : (List ByteArray) → Int → Bool → Option (PT × List ByteArray × Int × Bool)) (hrc_f54_filter_reader_or : ∀ (r__0 : List ByteArray) (r__1 : Int) (r__2 : Bool) (r : PT × List ByteArray × Int × Bool) (h : rc_f54_filter_reader_or r__0 r__1 r__2 = some r), FnOK Tryd.prog 54 (f54_filter_reader_or_in r__0 r__1 r__2) (f54_filter_reader_or_out r)) (n : Nat) : ∀ (f : PT) (r__0 : List ByteArray) (r__1 : Int) (r__2 : Bool) (w : PT × List ByteArray × Int × Bool) (h : f54_filter_reader_or_L2 rc_f54_filter_reader_or n f r__0 r__1 r__2 = some w) (o : Out) (hk : f54_filter_reader_or_L2_k w o), At Tryd.prog Tryd.f54 1 2 ⟨[(0, oc (.ptr 0 0)), (3, oc (.d (.pt f)))], [], [(0, [.d (.sl .str r__0), zi r__1, .d (.bool r__2)])], 1⟩ o := by
  induction n with
  | zero => intro f r__0 r__1 r__2 w h; rw [f54_filter_reader_or_L2] at h; cases h
  | succ n ih =>
    intro f r__0 r__1 r__2 w h o hk
    rw [f54_filter_reader_or_L2] at h
    rcases iteS h with ⟨b425_5, h⟩ | ⟨b425_5, h⟩
    · obtain ⟨r425_0, cr425_0, h⟩ := bindS h
      rcases iteS h with ⟨b425_e0, h⟩ | ⟨b425_e0, h⟩
      · refine At.step hm ht ⟨[(5, .b true), (7, .call [0] [] (f84_filter_reader_took_out r425_0))], [true], [], [0, 3], [0]⟩ 3 ⟨[(0, oc (.ptr 0 0)), (3, oc (.d (.pt f)))], [], [(0, [.d (.sl .str r425_0.2.1), zi r425_0.2.2.1, .d (.bool r425_0.2.2.2)])], 1⟩ [(!r__2) = true, FnOK Tryd.prog 84 (f84_filter_reader_took_in (⟨#[111, 114]⟩ : ByteArray) r__0 r__1 r__2) (f84_filter_reader_took_out r425_0), r425_0.1 = true] (by kernel_rfl) ⟨b425_5, (f84_filter_reader_took_ok (⟨#[111, 114]⟩ : ByteArray) r__0 r__1 r__2 r425_0 cr425_0), b425_e0, trivial⟩ ?_
        obtain ⟨r426_0, cr426_0, h⟩ := bindS h
        refine At.step hm ht ⟨[(2, .call [0] [] (f83_filter_reader_and_out r426_0))], [], [.tree 5], [0, 3], [0]⟩ 2 ⟨[(0, oc (.ptr 0 0)), (3, oc (.d (.pt (PT.node 10 0 f r426_0.1))))], [], [(0, [.d (.sl .str r426_0.2.1), zi r426_0.2.2.1, .d (.bool r426_0.2.2.2)])], 1⟩ [FnOK Tryd.prog 83 (f83_filter_reader_and_in r425_0.2.1 r425_0.2.2.1 r425_0.2.2.2) (f83_filter_reader_and_out r426_0)] (by kernel_rfl) ⟨(f83_filter_reader_and_ok rc_f54_filter_reader_or hrc_f54_filter_reader_or n r425_0.2.1 r425_0.2.2.1 r425_0.2.2.2 r426_0 cr426_0), trivial⟩ ?_
        exact ih (PT.node 10 0 f r426_0.1) r426_0.2.1 r426_0.2.2.1 r426_0.2.2.2 w h o hk
      · refine At.step hm ht ⟨[(5, .b true), (7, .call [0] [] (f84_filter_reader_took_out r425_0))], [false], [], [3], [0]⟩ 4 ⟨[(3, oc (.d (.pt f)))], [], [(0, [.d (.sl .str r425_0.2.1), zi r425_0.2.2.1, .d (.bool r425_0.2.2.2)])], 1⟩ [(!r__2) = true, FnOK Tryd.prog 84 (f84_filter_reader_took_in (⟨#[111, 114]⟩ : ByteArray) r__0 r__1 r__2) (f84_filter_reader_took_out r425_0), r425_0.1 = false] (by kernel_rfl) ⟨b425_5, (f84_filter_reader_took_ok (⟨#[111, 114]⟩ : ByteArray) r__0 r__1 r__2 r425_0 cr425_0), b425_e0, trivial⟩ ?_
        have h := Option.some.inj h
        subst h
        exact hk
    · refine At.step hm ht ⟨[(5, .b false)], [false], [], [3], [0]⟩ 4 ⟨[(3, oc (.d (.pt f)))], [], [(0, [.d (.sl .str r__0), zi r__1, .d (.bool r__2)])], 1⟩ [(!r__2) = false, false = false] (by kernel_rfl) ⟨b425_5, rfl, trivial⟩ ?_
      have h := Option.some.inj h
      subst h
      exact hk
def f54_filter_reader_or : Nat → (List ByteArray) → Int → Bool → Option (PT × List ByteArray × Int × Bool)
  | 0, _, _, _ => none
  | n + 1, r__0, r__1, r__2 =>
    (f83_filter_reader_and (f54_filter_reader_or n) n r__0 r__1 r__2).bind fun r403_0 =>
    (f54_filter_reader_or_L2 (f54_filter_reader_or n) n r403_0.1 r403_0.2.1 r403_0.2.2.1 r403_0.2.2.2).bind fun w427 =>
    some (w427.1, w427.2.1, w427.2.2.1, w427.2.2.2)
theorem f54_filter_reader_or_ok (n : Nat) : ∀ (r__0 : List ByteArray) (r__1 : Int) (r__2 : Bool) (r : PT × List ByteArray × Int × Bool) (h : f54_filter_reader_or n r__0 r__1 r__2 = some r), FnOK Tryd.prog 54 (f54_filter_reader_or_in r__0 r__1 r__2) (f54_filter_reader_or_out r) := by
  induction n with
  | zero => intro r__0 r__1 r__2 r h; rw [f54_filter_reader_or] at h; cases h
  | succ n ih =>
    intro r__0 r__1 r__2 r h
    rw [f54_filter_reader_or] at h
    refine At.fn (r := 0) Tryd.func54 rfl (by kernel_rfl) rfl rfl (by kernel_rfl) ?_
    show At Tryd.prog Tryd.f54 1 0 ⟨[(0, oc (.ptr 0 0))], [], [(0, [.d (.sl .str r__0), zi r__1, .d (.bool r__2)])], 1⟩ _
    refine At.step hm ht ⟨[], [], [.nilpt 2], [0], [0]⟩ 1 ⟨[(0, oc (.ptr 0 0))], [], [(0, [.d (.sl .str r__0), zi r__1, .d (.bool r__2)])], 1⟩ [] (by kernel_rfl) trivial ?_
    obtain ⟨r403_0, cr403_0, h⟩ := bindS h
    refine At.step hm ht ⟨[(1, .call [0] [] (f83_filter_reader_and_out r403_0))], [], [], [0, 3], [0]⟩ 2 ⟨[(0, oc (.ptr 0 0)), (3, oc (.d (.pt r403_0.1)))], [], [(0, [.d (.sl .str r403_0.2.1), zi r403_0.2.2.1, .d (.bool r403_0.2.2.2)])], 1⟩ [FnOK Tryd.prog 83 (f83_filter_reader_and_in r__0 r__1 r__2) (f83_filter_reader_and_out r403_0)] (by kernel_rfl) ⟨(f83_filter_reader_and_ok (f54_filter_reader_or n) ih n r__0 r__1 r__2 r403_0 cr403_0), trivial⟩ ?_
    obtain ⟨w427, cw427, h⟩ := bindS h
    refine f54_filter_reader_or_L2_ok (f54_filter_reader_or n) ih n r403_0.1 r403_0.2.1 r403_0.2.2.1 r403_0.2.2.2 w427 cw427 _ ?_
    show At Tryd.prog Tryd.f54 1 4 ⟨[(3, oc (.d (.pt w427.1)))], [], [(0, [.d (.sl .str w427.2.1), zi w427.2.2.1, .d (.bool w427.2.2.2)])], 1⟩ _
    have h := Option.some.inj h
    subst h
    exact At.fin hm ht ⟨[], [], [], [2], [0]⟩ [] (by kernel_rfl) trivial
/-! brougham/filter.Parse -/
def f21_filter_Parse_in (s : ByteArray) : Inn := ⟨[.c (.d (.str s))], [], [], 0⟩
def f21_filter_Parse_out (r : PT × Bool) : Out := ⟨.tup [.c (.d (.pt r.1)), .c (.d (.bool r.2))], [], [], 0⟩
def f21_filter_Parse (n : Nat) (s : ByteArray) : Option (PT × Bool) :=
  if (decide ((((s.size : Nat) : Int) : Int) > 4096)) = true then
    some (PT.nil, false)
  else
    (f15_num_Pieces n s).bind fun r275_0 =>
    (f54_filter_reader_or n r275_0 64 false).bind fun r298_0 =>
    if r298_0.2.2.2 = true then
      some (PT.nil, false)
    else
      if (decide ((((r298_0.2.1.length : Nat) : Int) : Int) > 0)) = true then
        some (PT.nil, false)
      else
        (f31_filter_Right n r298_0.1).bind fun r430_0 =>
        if (!r430_0) = true then
          some (PT.nil, false)
        else
          some (r298_0.1, true)
theorem f21_filter_Parse_ok (n : Nat) (s : ByteArray) (r : PT × Bool) (h : f21_filter_Parse n s = some r) : FnOK Tryd.prog 21 (f21_filter_Parse_in s) (f21_filter_Parse_out r) := by
  unfold f21_filter_Parse at h
  refine At.fn (r := 0) Tryd.func21 rfl (by kernel_rfl) rfl rfl (by kernel_rfl) ?_
  show At Tryd.prog Tryd.f21 0 0 ⟨[(0, oc (.d (.str s)))], [], [], 0⟩ _
  refine At.step hm ht ⟨[], [], [.nilpt 2], [0], []⟩ 1 ⟨[(0, oc (.d (.str s)))], [], [], 0⟩ [] (by kernel_rfl) trivial ?_
  rcases iteS h with ⟨b273_e0, h⟩ | ⟨b273_e0, h⟩
  · refine At.step hm ht ⟨[], [true], [], [], []⟩ 2 ⟨[], [], [], 0⟩ [(decide ((((s.size : Nat) : Int) : Int) > 4096)) = true] (by kernel_rfl) ⟨b273_e0, trivial⟩ ?_
    have h := Option.some.inj h
    subst h
    exact At.fin hm ht ⟨[], [], [.nilpt 2], [2, 3], []⟩ [] (by kernel_rfl) trivial
  · refine At.step hm ht ⟨[], [false], [], [0], []⟩ 3 ⟨[(0, oc (.d (.str s)))], [], [], 0⟩ [(decide ((((s.size : Nat) : Int) : Int) > 4096)) = false] (by kernel_rfl) ⟨b273_e0, trivial⟩ ?_
    obtain ⟨r275_0, cr275_0, h⟩ := bindS h
    refine At.step hm ht ⟨[(1, .call [] [] (f15_num_Pieces_out r275_0))], [], [], [4], [2]⟩ 4 ⟨[(4, oc (.ptr 0 0))], [], [(0, [.d (.sl .str r275_0), zi 64, .d (.bool false)])], 1⟩ [FnOK Tryd.prog 15 (f15_num_Pieces_in s) (f15_num_Pieces_out r275_0)] (by kernel_rfl) ⟨(f15_num_Pieces_ok n s r275_0 cr275_0), trivial⟩ ?_
    obtain ⟨r298_0, cr298_0, h⟩ := bindS h
    refine At.step hm ht ⟨[(1, .call [0] [] (f54_filter_reader_or_out r298_0))], [], [], [4, 5], [0]⟩ 5 ⟨[(4, oc (.ptr 0 0)), (5, oc (.d (.pt r298_0.1)))], [], [(0, [.d (.sl .str r298_0.2.1), zi r298_0.2.2.1, .d (.bool r298_0.2.2.2)])], 1⟩ [FnOK Tryd.prog 54 (f54_filter_reader_or_in r275_0 64 false) (f54_filter_reader_or_out r298_0)] (by kernel_rfl) ⟨(f54_filter_reader_or_ok n r275_0 64 false r298_0 cr298_0), trivial⟩ ?_
    rcases iteS h with ⟨b430_4, h⟩ | ⟨b430_4, h⟩
    · refine At.step hm ht ⟨[(4, .b true)], [true], [], [], []⟩ 6 ⟨[], [], [], 0⟩ [r298_0.2.2.2 = true, true = true] (by kernel_rfl) ⟨b430_4, rfl, trivial⟩ ?_
      have h := Option.some.inj h
      subst h
      exact At.fin hm ht ⟨[], [], [.nilpt 2], [2, 3], []⟩ [] (by kernel_rfl) trivial
    · rcases iteS h with ⟨b430_12, h⟩ | ⟨b430_12, h⟩
      · refine At.step hm ht ⟨[(4, .b false), (12, .b true)], [true], [], [], []⟩ 6 ⟨[], [], [], 0⟩ [r298_0.2.2.2 = false, (decide ((((r298_0.2.1.length : Nat) : Int) : Int) > 0)) = true, true = true] (by kernel_rfl) ⟨b430_4, b430_12, rfl, trivial⟩ ?_
        have h := Option.some.inj h
        subst h
        exact At.fin hm ht ⟨[], [], [.nilpt 2], [2, 3], []⟩ [] (by kernel_rfl) trivial
      · obtain ⟨r430_0, cr430_0, h⟩ := bindS h
        rcases iteS h with ⟨b430_e0, h⟩ | ⟨b430_e0, h⟩
        · refine At.step hm ht ⟨[(4, .b false), (12, .b false), (14, .call [] [] (f31_filter_Right_out r430_0))], [true], [], [], []⟩ 6 ⟨[], [], [], 0⟩ [r298_0.2.2.2 = false, (decide ((((r298_0.2.1.length : Nat) : Int) : Int) > 0)) = false, FnOK Tryd.prog 31 (f31_filter_Right_in r298_0.1) (f31_filter_Right_out r430_0), (!r430_0) = true] (by kernel_rfl) ⟨b430_4, b430_12, (f31_filter_Right_ok n r298_0.1 r430_0 cr430_0), b430_e0, trivial⟩ ?_
          have h := Option.some.inj h
          subst h
          exact At.fin hm ht ⟨[], [], [.nilpt 2], [2, 3], []⟩ [] (by kernel_rfl) trivial
        · refine At.step hm ht ⟨[(4, .b false), (12, .b false), (14, .call [] [] (f31_filter_Right_out r430_0))], [false], [], [5], []⟩ 7 ⟨[(5, oc (.d (.pt r298_0.1)))], [], [], 0⟩ [r298_0.2.2.2 = false, (decide ((((r298_0.2.1.length : Nat) : Int) : Int) > 0)) = false, FnOK Tryd.prog 31 (f31_filter_Right_in r298_0.1) (f31_filter_Right_out r430_0), (!r430_0) = false] (by kernel_rfl) ⟨b430_4, b430_12, (f31_filter_Right_ok n r298_0.1 r430_0 cr430_0), b430_e0, trivial⟩ ?_
          have h := Option.some.inj h
          subst h
          exact At.fin hm ht ⟨[], [], [], [2, 3], []⟩ [] (by kernel_rfl) trivial
/-! brougham/filter.flag -/
def f87_filter_flag_in (n_ : Int) : Inn := ⟨[.c (zi n_)], [], [], 0⟩
def f87_filter_flag_out (r : ByteArray) : Out := ⟨oc (.d (.str r)), [], [], 0⟩
def f87_filter_flag (n_ : Int) : Option (ByteArray) :=
  if ((n_ : Int) == 1) = true then
    some (⟨#[115, 121, 110]⟩ : ByteArray)
  else
    if ((n_ : Int) == 2) = true then
      some (⟨#[97, 99, 107]⟩ : ByteArray)
    else
      some (⟨#[114, 115, 116]⟩ : ByteArray)
theorem f87_filter_flag_ok (n_ : Int) (r : ByteArray) (h : f87_filter_flag n_ = some r) : FnOK Tryd.prog 87 (f87_filter_flag_in n_) (f87_filter_flag_out r) := by
  unfold f87_filter_flag at h
  refine At.fn (r := 0) Tryd.func87 rfl (by kernel_rfl) rfl rfl (by kernel_rfl) ?_
  show At Tryd.prog Tryd.f87 0 0 ⟨[(0, oc (zi n_))], [], [], 0⟩ _
  refine At.step hm ht ⟨[], [], [], [0], []⟩ 1 ⟨[(0, oc (zi n_))], [], [], 0⟩ [] (by kernel_rfl) trivial ?_
  refine At.step hm ht ⟨[], [], [], [3], []⟩ 2 ⟨[(3, oc (zi n_))], [], [], 0⟩ [] (by kernel_rfl) trivial ?_
  rcases iteS h with ⟨b450_e0, h⟩ | ⟨b450_e0, h⟩
  · refine At.step hm ht ⟨[], [true], [], [], []⟩ 3 ⟨[], [], [], 0⟩ [((n_ : Int) == 1) = true] (by kernel_rfl) ⟨b450_e0, trivial⟩ ?_
    have h := Option.some.inj h
    subst h
    exact At.fin hm ht ⟨[], [], [], [2], []⟩ [] (by kernel_rfl) trivial
  · refine At.step hm ht ⟨[], [false], [], [3], []⟩ 4 ⟨[(3, oc (zi n_))], [], [], 0⟩ [((n_ : Int) == 1) = false] (by kernel_rfl) ⟨b450_e0, trivial⟩ ?_
    rcases iteS h with ⟨b452_e0, h⟩ | ⟨b452_e0, h⟩
    · refine At.step hm ht ⟨[], [true], [], [], []⟩ 5 ⟨[], [], [], 0⟩ [((n_ : Int) == 2) = true] (by kernel_rfl) ⟨b452_e0, trivial⟩ ?_
      have h := Option.some.inj h
      subst h
      exact At.fin hm ht ⟨[], [], [], [2], []⟩ [] (by kernel_rfl) trivial
    · refine At.step hm ht ⟨[], [false], [], [], []⟩ 6 ⟨[], [], [], 0⟩ [((n_ : Int) == 2) = false] (by kernel_rfl) ⟨b452_e0, trivial⟩ ?_
      have h := Option.some.inj h
      subst h
      exact At.fin hm ht ⟨[], [], [], [2], []⟩ [] (by kernel_rfl) trivial
/-! brougham/filter.text -/
def f56_filter_text_in (f : PT) : Inn := ⟨[.c (.d (.pt f))], [], [], 0⟩
def f56_filter_text_out (r : ByteArray) : Out := ⟨oc (.d (.str r)), [], [], 0⟩
def f56_filter_text : Nat → PT → Option (ByteArray)
  | 0, _ => none
  | n + 1, f =>
    if PT.isNil f = false then
    if (((PT.op f) : Int) == 1) = true then
      some (⟨#[97, 108, 108]⟩ : ByteArray)
    else
      if (((PT.op f) : Int) == 11) = true then
        some (⟨#[101, 109, 112, 116, 121]⟩ : ByteArray)
      else
        if (((PT.op f) : Int) == 2) = true then
          if PT.isNil f = false then
          (f87_filter_flag (PT.num f)).bind fun r447_1 =>
          some r447_1
          else none
        else
          if (((PT.op f) : Int) == 3) = true then
            if PT.isNil f = false then
            (f52_num_Text (PT.num f)).bind fun r456_1 =>
            if (⟨#[112, 111, 114, 116, 32]⟩ : ByteArray).size + r456_1.size ≤ 9223372036854775807 then
            some ((⟨#[112, 111, 114, 116, 32]⟩ : ByteArray) ++ r456_1)
            else none
            else none
          else
            if (((PT.op f) : Int) == 4) = true then
              if PT.isNil f = false then
              (f52_num_Text (PT.num f)).bind fun r458_1 =>
              if (⟨#[115, 114, 99, 32]⟩ : ByteArray).size + r458_1.size ≤ 9223372036854775807 then
              some ((⟨#[115, 114, 99, 32]⟩ : ByteArray) ++ r458_1)
              else none
              else none
            else
              if (((PT.op f) : Int) == 5) = true then
                if PT.isNil f = false then
                (f52_num_Text (PT.num f)).bind fun r460_1 =>
                if (⟨#[100, 115, 116, 32]⟩ : ByteArray).size + r460_1.size ≤ 9223372036854775807 then
                some ((⟨#[100, 115, 116, 32]⟩ : ByteArray) ++ r460_1)
                else none
                else none
              else
                if (((PT.op f) : Int) == 6) = true then
                  if PT.isNil f = false then
                  (f52_num_Text (PT.num f)).bind fun r462_1 =>
                  if (⟨#[104, 97, 115, 32]⟩ : ByteArray).size + r462_1.size ≤ 9223372036854775807 then
                  some ((⟨#[104, 97, 115, 32]⟩ : ByteArray) ++ r462_1)
                  else none
                  else none
                else
                  if (((PT.op f) : Int) == 7) = true then
                    if PT.isNil f = false then
                    (f52_num_Text (PT.num f)).bind fun r464_1 =>
                    if (⟨#[108, 111, 110, 103, 32]⟩ : ByteArray).size + r464_1.size ≤ 9223372036854775807 then
                    some ((⟨#[108, 111, 110, 103, 32]⟩ : ByteArray) ++ r464_1)
                    else none
                    else none
                  else
                    if (((PT.op f) : Int) == 8) = true then
                      if PT.isNil f = false then
                      ((f56_filter_text n) (PT.fst f)).bind fun r466_1 =>
                      if (⟨#[40, 32, 110, 111, 116, 32]⟩ : ByteArray).size + r466_1.size ≤ 9223372036854775807 then
                      if ((⟨#[40, 32, 110, 111, 116, 32]⟩ : ByteArray) ++ r466_1).size + (⟨#[32, 41]⟩ : ByteArray).size ≤ 9223372036854775807 then
                      some (((⟨#[40, 32, 110, 111, 116, 32]⟩ : ByteArray) ++ r466_1) ++ (⟨#[32, 41]⟩ : ByteArray))
                      else none
                      else none
                      else none
                    else
                      if (((PT.op f) : Int) == 9) = true then
                        if PT.isNil f = false then
                        ((f56_filter_text n) (PT.fst f)).bind fun r468_1 =>
                        if (⟨#[40, 32]⟩ : ByteArray).size + r468_1.size ≤ 9223372036854775807 then
                        if ((⟨#[40, 32]⟩ : ByteArray) ++ r468_1).size + (⟨#[32, 97, 110, 100, 32]⟩ : ByteArray).size ≤ 9223372036854775807 then
                        if PT.isNil f = false then
                        ((f56_filter_text n) (PT.snd f)).bind fun r468_5 =>
                        if (((⟨#[40, 32]⟩ : ByteArray) ++ r468_1) ++ (⟨#[32, 97, 110, 100, 32]⟩ : ByteArray)).size + r468_5.size ≤ 9223372036854775807 then
                        if ((((⟨#[40, 32]⟩ : ByteArray) ++ r468_1) ++ (⟨#[32, 97, 110, 100, 32]⟩ : ByteArray)) ++ r468_5).size + (⟨#[32, 41]⟩ : ByteArray).size ≤ 9223372036854775807 then
                        some (((((⟨#[40, 32]⟩ : ByteArray) ++ r468_1) ++ (⟨#[32, 97, 110, 100, 32]⟩ : ByteArray)) ++ r468_5) ++ (⟨#[32, 41]⟩ : ByteArray))
                        else none
                        else none
                        else none
                        else none
                        else none
                        else none
                      else
                        if PT.isNil f = false then
                        ((f56_filter_text n) (PT.fst f)).bind fun r469_1 =>
                        if (⟨#[40, 32]⟩ : ByteArray).size + r469_1.size ≤ 9223372036854775807 then
                        if ((⟨#[40, 32]⟩ : ByteArray) ++ r469_1).size + (⟨#[32, 111, 114, 32]⟩ : ByteArray).size ≤ 9223372036854775807 then
                        if PT.isNil f = false then
                        ((f56_filter_text n) (PT.snd f)).bind fun r469_5 =>
                        if (((⟨#[40, 32]⟩ : ByteArray) ++ r469_1) ++ (⟨#[32, 111, 114, 32]⟩ : ByteArray)).size + r469_5.size ≤ 9223372036854775807 then
                        if ((((⟨#[40, 32]⟩ : ByteArray) ++ r469_1) ++ (⟨#[32, 111, 114, 32]⟩ : ByteArray)) ++ r469_5).size + (⟨#[32, 41]⟩ : ByteArray).size ≤ 9223372036854775807 then
                        some (((((⟨#[40, 32]⟩ : ByteArray) ++ r469_1) ++ (⟨#[32, 111, 114, 32]⟩ : ByteArray)) ++ r469_5) ++ (⟨#[32, 41]⟩ : ByteArray))
                        else none
                        else none
                        else none
                        else none
                        else none
                        else none
    else none
theorem f56_filter_text_ok (n : Nat) : ∀ (f : PT) (r : ByteArray) (h : f56_filter_text n f = some r), FnOK Tryd.prog 56 (f56_filter_text_in f) (f56_filter_text_out r) := by
  induction n with
  | zero => intro f r h; rw [f56_filter_text] at h; cases h
  | succ n ih =>
    intro f r h
    rw [f56_filter_text] at h
    refine At.fn (r := 0) Tryd.func56 rfl (by kernel_rfl) rfl rfl (by kernel_rfl) ?_
    show At Tryd.prog Tryd.f56 0 0 ⟨[(0, oc (.d (.pt f)))], [], [], 0⟩ _
    refine At.step hm ht ⟨[], [], [], [0], []⟩ 1 ⟨[(0, oc (.d (.pt f)))], [], [], 0⟩ [] (by kernel_rfl) trivial ?_
    obtain ⟨g441_0, h⟩ := ifS h
    refine At.step hm ht ⟨[], [], [], [0, 6], []⟩ 2 ⟨[(0, oc (.d (.pt f))), (6, oc (zi (PT.op f)))], [], [], 0⟩ [PT.isNil f = false] (by kernel_rfl) ⟨g441_0, trivial⟩ ?_
    rcases iteS h with ⟨b442_e0, h⟩ | ⟨b442_e0, h⟩
    · refine At.step hm ht ⟨[], [true], [], [], []⟩ 3 ⟨[], [], [], 0⟩ [(((PT.op f) : Int) == 1) = true] (by kernel_rfl) ⟨b442_e0, trivial⟩ ?_
      have h := Option.some.inj h
      subst h
      exact At.fin hm ht ⟨[], [], [], [2], []⟩ [] (by kernel_rfl) trivial
    · refine At.step hm ht ⟨[], [false], [], [0, 6], []⟩ 4 ⟨[(0, oc (.d (.pt f))), (6, oc (zi (PT.op f)))], [], [], 0⟩ [(((PT.op f) : Int) == 1) = false] (by kernel_rfl) ⟨b442_e0, trivial⟩ ?_
      rcases iteS h with ⟨b444_e0, h⟩ | ⟨b444_e0, h⟩
      · refine At.step hm ht ⟨[], [true], [], [], []⟩ 5 ⟨[], [], [], 0⟩ [(((PT.op f) : Int) == 11) = true] (by kernel_rfl) ⟨b444_e0, trivial⟩ ?_
        have h := Option.some.inj h
        subst h
        exact At.fin hm ht ⟨[], [], [], [2], []⟩ [] (by kernel_rfl) trivial
      · refine At.step hm ht ⟨[], [false], [], [0, 6], []⟩ 6 ⟨[(0, oc (.d (.pt f))), (6, oc (zi (PT.op f)))], [], [], 0⟩ [(((PT.op f) : Int) == 11) = false] (by kernel_rfl) ⟨b444_e0, trivial⟩ ?_
        rcases iteS h with ⟨b446_e0, h⟩ | ⟨b446_e0, h⟩
        · refine At.step hm ht ⟨[], [true], [], [0], []⟩ 7 ⟨[(0, oc (.d (.pt f)))], [], [], 0⟩ [(((PT.op f) : Int) == 2) = true] (by kernel_rfl) ⟨b446_e0, trivial⟩ ?_
          obtain ⟨g447_0, h⟩ := ifS h
          obtain ⟨r447_1, cr447_1, h⟩ := bindS h
          have h := Option.some.inj h
          subst h
          exact At.fin hm ht ⟨[(4, .call [] [] (f87_filter_flag_out r447_1))], [], [], [2], []⟩ [PT.isNil f = false, FnOK Tryd.prog 87 (f87_filter_flag_in (PT.num f)) (f87_filter_flag_out r447_1)] (by kernel_rfl) ⟨g447_0, (f87_filter_flag_ok (PT.num f) r447_1 cr447_1), trivial⟩
        · refine At.step hm ht ⟨[], [false], [], [0, 6], []⟩ 8 ⟨[(0, oc (.d (.pt f))), (6, oc (zi (PT.op f)))], [], [], 0⟩ [(((PT.op f) : Int) == 2) = false] (by kernel_rfl) ⟨b446_e0, trivial⟩ ?_
          rcases iteS h with ⟨b455_e0, h⟩ | ⟨b455_e0, h⟩
          · refine At.step hm ht ⟨[], [true], [], [0], []⟩ 9 ⟨[(0, oc (.d (.pt f)))], [], [], 0⟩ [(((PT.op f) : Int) == 3) = true] (by kernel_rfl) ⟨b455_e0, trivial⟩ ?_
            obtain ⟨g456_0, h⟩ := ifS h
            obtain ⟨r456_1, cr456_1, h⟩ := bindS h
            obtain ⟨g456_2, h⟩ := ifS h
            have h := Option.some.inj h
            subst h
            exact At.fin hm ht ⟨[(4, .call [] [] (f52_num_Text_out r456_1))], [], [], [2], []⟩ [PT.isNil f = false, FnOK Tryd.prog 52 (f52_num_Text_in (PT.num f)) (f52_num_Text_out r456_1), (⟨#[112, 111, 114, 116, 32]⟩ : ByteArray).size + r456_1.size ≤ 9223372036854775807] (by kernel_rfl) ⟨g456_0, (f52_num_Text_ok (PT.num f) r456_1 cr456_1), g456_2, trivial⟩
          · refine At.step hm ht ⟨[], [false], [], [0, 6], []⟩ 10 ⟨[(0, oc (.d (.pt f))), (6, oc (zi (PT.op f)))], [], [], 0⟩ [(((PT.op f) : Int) == 3) = false] (by kernel_rfl) ⟨b455_e0, trivial⟩ ?_
            rcases iteS h with ⟨b457_e0, h⟩ | ⟨b457_e0, h⟩
            · refine At.step hm ht ⟨[], [true], [], [0], []⟩ 11 ⟨[(0, oc (.d (.pt f)))], [], [], 0⟩ [(((PT.op f) : Int) == 4) = true] (by kernel_rfl) ⟨b457_e0, trivial⟩ ?_
              obtain ⟨g458_0, h⟩ := ifS h
              obtain ⟨r458_1, cr458_1, h⟩ := bindS h
              obtain ⟨g458_2, h⟩ := ifS h
              have h := Option.some.inj h
              subst h
              exact At.fin hm ht ⟨[(4, .call [] [] (f52_num_Text_out r458_1))], [], [], [2], []⟩ [PT.isNil f = false, FnOK Tryd.prog 52 (f52_num_Text_in (PT.num f)) (f52_num_Text_out r458_1), (⟨#[115, 114, 99, 32]⟩ : ByteArray).size + r458_1.size ≤ 9223372036854775807] (by kernel_rfl) ⟨g458_0, (f52_num_Text_ok (PT.num f) r458_1 cr458_1), g458_2, trivial⟩
            · refine At.step hm ht ⟨[], [false], [], [0, 6], []⟩ 12 ⟨[(0, oc (.d (.pt f))), (6, oc (zi (PT.op f)))], [], [], 0⟩ [(((PT.op f) : Int) == 4) = false] (by kernel_rfl) ⟨b457_e0, trivial⟩ ?_
              rcases iteS h with ⟨b459_e0, h⟩ | ⟨b459_e0, h⟩
              · refine At.step hm ht ⟨[], [true], [], [0], []⟩ 13 ⟨[(0, oc (.d (.pt f)))], [], [], 0⟩ [(((PT.op f) : Int) == 5) = true] (by kernel_rfl) ⟨b459_e0, trivial⟩ ?_
                obtain ⟨g460_0, h⟩ := ifS h
                obtain ⟨r460_1, cr460_1, h⟩ := bindS h
                obtain ⟨g460_2, h⟩ := ifS h
                have h := Option.some.inj h
                subst h
                exact At.fin hm ht ⟨[(4, .call [] [] (f52_num_Text_out r460_1))], [], [], [2], []⟩ [PT.isNil f = false, FnOK Tryd.prog 52 (f52_num_Text_in (PT.num f)) (f52_num_Text_out r460_1), (⟨#[100, 115, 116, 32]⟩ : ByteArray).size + r460_1.size ≤ 9223372036854775807] (by kernel_rfl) ⟨g460_0, (f52_num_Text_ok (PT.num f) r460_1 cr460_1), g460_2, trivial⟩
              · refine At.step hm ht ⟨[], [false], [], [0, 6], []⟩ 14 ⟨[(0, oc (.d (.pt f))), (6, oc (zi (PT.op f)))], [], [], 0⟩ [(((PT.op f) : Int) == 5) = false] (by kernel_rfl) ⟨b459_e0, trivial⟩ ?_
                rcases iteS h with ⟨b461_e0, h⟩ | ⟨b461_e0, h⟩
                · refine At.step hm ht ⟨[], [true], [], [0], []⟩ 15 ⟨[(0, oc (.d (.pt f)))], [], [], 0⟩ [(((PT.op f) : Int) == 6) = true] (by kernel_rfl) ⟨b461_e0, trivial⟩ ?_
                  obtain ⟨g462_0, h⟩ := ifS h
                  obtain ⟨r462_1, cr462_1, h⟩ := bindS h
                  obtain ⟨g462_2, h⟩ := ifS h
                  have h := Option.some.inj h
                  subst h
                  exact At.fin hm ht ⟨[(4, .call [] [] (f52_num_Text_out r462_1))], [], [], [2], []⟩ [PT.isNil f = false, FnOK Tryd.prog 52 (f52_num_Text_in (PT.num f)) (f52_num_Text_out r462_1), (⟨#[104, 97, 115, 32]⟩ : ByteArray).size + r462_1.size ≤ 9223372036854775807] (by kernel_rfl) ⟨g462_0, (f52_num_Text_ok (PT.num f) r462_1 cr462_1), g462_2, trivial⟩
                · refine At.step hm ht ⟨[], [false], [], [0, 6], []⟩ 16 ⟨[(0, oc (.d (.pt f))), (6, oc (zi (PT.op f)))], [], [], 0⟩ [(((PT.op f) : Int) == 6) = false] (by kernel_rfl) ⟨b461_e0, trivial⟩ ?_
                  rcases iteS h with ⟨b463_e0, h⟩ | ⟨b463_e0, h⟩
                  · refine At.step hm ht ⟨[], [true], [], [0], []⟩ 17 ⟨[(0, oc (.d (.pt f)))], [], [], 0⟩ [(((PT.op f) : Int) == 7) = true] (by kernel_rfl) ⟨b463_e0, trivial⟩ ?_
                    obtain ⟨g464_0, h⟩ := ifS h
                    obtain ⟨r464_1, cr464_1, h⟩ := bindS h
                    obtain ⟨g464_2, h⟩ := ifS h
                    have h := Option.some.inj h
                    subst h
                    exact At.fin hm ht ⟨[(4, .call [] [] (f52_num_Text_out r464_1))], [], [], [2], []⟩ [PT.isNil f = false, FnOK Tryd.prog 52 (f52_num_Text_in (PT.num f)) (f52_num_Text_out r464_1), (⟨#[108, 111, 110, 103, 32]⟩ : ByteArray).size + r464_1.size ≤ 9223372036854775807] (by kernel_rfl) ⟨g464_0, (f52_num_Text_ok (PT.num f) r464_1 cr464_1), g464_2, trivial⟩
                  · refine At.step hm ht ⟨[], [false], [], [0, 6], []⟩ 18 ⟨[(0, oc (.d (.pt f))), (6, oc (zi (PT.op f)))], [], [], 0⟩ [(((PT.op f) : Int) == 7) = false] (by kernel_rfl) ⟨b463_e0, trivial⟩ ?_
                    rcases iteS h with ⟨b465_e0, h⟩ | ⟨b465_e0, h⟩
                    · refine At.step hm ht ⟨[], [true], [], [0], []⟩ 19 ⟨[(0, oc (.d (.pt f)))], [], [], 0⟩ [(((PT.op f) : Int) == 8) = true] (by kernel_rfl) ⟨b465_e0, trivial⟩ ?_
                      obtain ⟨g466_0, h⟩ := ifS h
                      obtain ⟨r466_1, cr466_1, h⟩ := bindS h
                      obtain ⟨g466_2, h⟩ := ifS h
                      obtain ⟨g466_3, h⟩ := ifS h
                      have h := Option.some.inj h
                      subst h
                      exact At.fin hm ht ⟨[(4, .call [] [] (f56_filter_text_out r466_1))], [], [], [2], []⟩ [PT.isNil f = false, FnOK Tryd.prog 56 (f56_filter_text_in (PT.fst f)) (f56_filter_text_out r466_1), (⟨#[40, 32, 110, 111, 116, 32]⟩ : ByteArray).size + r466_1.size ≤ 9223372036854775807, ((⟨#[40, 32, 110, 111, 116, 32]⟩ : ByteArray) ++ r466_1).size + (⟨#[32, 41]⟩ : ByteArray).size ≤ 9223372036854775807] (by kernel_rfl) ⟨g466_0, (ih (PT.fst f) r466_1 cr466_1), g466_2, g466_3, trivial⟩
                    · refine At.step hm ht ⟨[], [false], [], [0, 6], []⟩ 20 ⟨[(0, oc (.d (.pt f))), (6, oc (zi (PT.op f)))], [], [], 0⟩ [(((PT.op f) : Int) == 8) = false] (by kernel_rfl) ⟨b465_e0, trivial⟩ ?_
                      rcases iteS h with ⟨b467_e0, h⟩ | ⟨b467_e0, h⟩
                      · refine At.step hm ht ⟨[], [true], [], [0], []⟩ 21 ⟨[(0, oc (.d (.pt f)))], [], [], 0⟩ [(((PT.op f) : Int) == 9) = true] (by kernel_rfl) ⟨b467_e0, trivial⟩ ?_
                        obtain ⟨g468_0, h⟩ := ifS h
                        obtain ⟨r468_1, cr468_1, h⟩ := bindS h
                        obtain ⟨g468_2, h⟩ := ifS h
                        obtain ⟨g468_3, h⟩ := ifS h
                        obtain ⟨g468_4, h⟩ := ifS h
                        obtain ⟨r468_5, cr468_5, h⟩ := bindS h
                        obtain ⟨g468_6, h⟩ := ifS h
                        obtain ⟨g468_7, h⟩ := ifS h
                        have h := Option.some.inj h
                        subst h
                        exact At.fin hm ht ⟨[(4, .call [] [] (f56_filter_text_out r468_1)), (11, .call [] [] (f56_filter_text_out r468_5))], [], [], [2], []⟩ [PT.isNil f = false, FnOK Tryd.prog 56 (f56_filter_text_in (PT.fst f)) (f56_filter_text_out r468_1), (⟨#[40, 32]⟩ : ByteArray).size + r468_1.size ≤ 9223372036854775807, ((⟨#[40, 32]⟩ : ByteArray) ++ r468_1).size + (⟨#[32, 97, 110, 100, 32]⟩ : ByteArray).size ≤ 9223372036854775807, PT.isNil f = false, FnOK Tryd.prog 56 (f56_filter_text_in (PT.snd f)) (f56_filter_text_out r468_5), (((⟨#[40, 32]⟩ : ByteArray) ++ r468_1) ++ (⟨#[32, 97, 110, 100, 32]⟩ : ByteArray)).size + r468_5.size ≤ 9223372036854775807, ((((⟨#[40, 32]⟩ : ByteArray) ++ r468_1) ++ (⟨#[32, 97, 110, 100, 32]⟩ : ByteArray)) ++ r468_5).size + (⟨#[32, 41]⟩ : ByteArray).size ≤ 9223372036854775807] (by kernel_rfl) ⟨g468_0, (ih (PT.fst f) r468_1 cr468_1), g468_2, g468_3, g468_4, (ih (PT.snd f) r468_5 cr468_5), g468_6, g468_7, trivial⟩
                      · refine At.step hm ht ⟨[], [false], [], [0], []⟩ 22 ⟨[(0, oc (.d (.pt f)))], [], [], 0⟩ [(((PT.op f) : Int) == 9) = false] (by kernel_rfl) ⟨b467_e0, trivial⟩ ?_
                        obtain ⟨g469_0, h⟩ := ifS h
                        obtain ⟨r469_1, cr469_1, h⟩ := bindS h
                        obtain ⟨g469_2, h⟩ := ifS h
                        obtain ⟨g469_3, h⟩ := ifS h
                        obtain ⟨g469_4, h⟩ := ifS h
                        obtain ⟨r469_5, cr469_5, h⟩ := bindS h
                        obtain ⟨g469_6, h⟩ := ifS h
                        obtain ⟨g469_7, h⟩ := ifS h
                        have h := Option.some.inj h
                        subst h
                        exact At.fin hm ht ⟨[(4, .call [] [] (f56_filter_text_out r469_1)), (11, .call [] [] (f56_filter_text_out r469_5))], [], [], [2], []⟩ [PT.isNil f = false, FnOK Tryd.prog 56 (f56_filter_text_in (PT.fst f)) (f56_filter_text_out r469_1), (⟨#[40, 32]⟩ : ByteArray).size + r469_1.size ≤ 9223372036854775807, ((⟨#[40, 32]⟩ : ByteArray) ++ r469_1).size + (⟨#[32, 111, 114, 32]⟩ : ByteArray).size ≤ 9223372036854775807, PT.isNil f = false, FnOK Tryd.prog 56 (f56_filter_text_in (PT.snd f)) (f56_filter_text_out r469_5), (((⟨#[40, 32]⟩ : ByteArray) ++ r469_1) ++ (⟨#[32, 111, 114, 32]⟩ : ByteArray)).size + r469_5.size ≤ 9223372036854775807, ((((⟨#[40, 32]⟩ : ByteArray) ++ r469_1) ++ (⟨#[32, 111, 114, 32]⟩ : ByteArray)) ++ r469_5).size + (⟨#[32, 41]⟩ : ByteArray).size ≤ 9223372036854775807] (by kernel_rfl) ⟨g469_0, (ih (PT.fst f) r469_1 cr469_1), g469_2, g469_3, g469_4, (ih (PT.snd f) r469_5 cr469_5), g469_6, g469_7, trivial⟩
/-! brougham/filter.Text -/
def f27_filter_Text_in (f : PT) : Inn := ⟨[.c (.d (.pt f))], [], [], 0⟩
def f27_filter_Text_out (r : ByteArray) : Out := ⟨oc (.d (.str r)), [], [], 0⟩
def f27_filter_Text (n : Nat) (f : PT) : Option (ByteArray) :=
  (f31_filter_Right n f).bind fun r437_0 =>
  if (!r437_0) = true then
    some (⟨#[]⟩ : ByteArray)
  else
    (f56_filter_text n f).bind fun r439_0 =>
    some r439_0
theorem f27_filter_Text_ok (n : Nat) (f : PT) (r : ByteArray) (h : f27_filter_Text n f = some r) : FnOK Tryd.prog 27 (f27_filter_Text_in f) (f27_filter_Text_out r) := by
  unfold f27_filter_Text at h
  refine At.fn (r := 0) Tryd.func27 rfl (by kernel_rfl) rfl rfl (by kernel_rfl) ?_
  show At Tryd.prog Tryd.f27 0 0 ⟨[(0, oc (.d (.pt f)))], [], [], 0⟩ _
  refine At.step hm ht ⟨[], [], [], [0], []⟩ 1 ⟨[(0, oc (.d (.pt f)))], [], [], 0⟩ [] (by kernel_rfl) trivial ?_
  obtain ⟨r437_0, cr437_0, h⟩ := bindS h
  rcases iteS h with ⟨b437_e0, h⟩ | ⟨b437_e0, h⟩
  · refine At.step hm ht ⟨[(1, .call [] [] (f31_filter_Right_out r437_0))], [true], [], [], []⟩ 2 ⟨[], [], [], 0⟩ [FnOK Tryd.prog 31 (f31_filter_Right_in f) (f31_filter_Right_out r437_0), (!r437_0) = true] (by kernel_rfl) ⟨(f31_filter_Right_ok n f r437_0 cr437_0), b437_e0, trivial⟩ ?_
    have h := Option.some.inj h
    subst h
    exact At.fin hm ht ⟨[], [], [], [2], []⟩ [] (by kernel_rfl) trivial
  · refine At.step hm ht ⟨[(1, .call [] [] (f31_filter_Right_out r437_0))], [false], [], [0], []⟩ 3 ⟨[(0, oc (.d (.pt f)))], [], [], 0⟩ [FnOK Tryd.prog 31 (f31_filter_Right_in f) (f31_filter_Right_out r437_0), (!r437_0) = false] (by kernel_rfl) ⟨(f31_filter_Right_ok n f r437_0 cr437_0), b437_e0, trivial⟩ ?_
    obtain ⟨r439_0, cr439_0, h⟩ := bindS h
    have h := Option.some.inj h
    subst h
    exact At.fin hm ht ⟨[(1, .call [] [] (f56_filter_text_out r439_0))], [], [], [2], []⟩ [FnOK Tryd.prog 56 (f56_filter_text_in f) (f56_filter_text_out r439_0)] (by kernel_rfl) ⟨(f56_filter_text_ok n f r439_0 cr439_0), trivial⟩
end Go.Proofs.YtakamchmiakicaaDoorF35d
