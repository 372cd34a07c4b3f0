/- What the functions compute, and that they do: printed by a program of this session (zgen.py), proved by Zed. -/
import Derived.Test.YtakamchmiakicaaDoorProg
import Derived.Test.YtakamchmiakicaaDoorZedYa
import Derived.Test.YtakamchmiakicaaDoorLeaf
import Derived.Test.YtakamchmiakicaaDoorDfr
namespace Go.Proofs.YtakamchmiakicaaDoorF35c
open Go Zed Go.Proofs.YtakamchmiakicaaDoorLeaf Go.Proofs.YtakamchmiakicaaDoorDfr
set_option maxRecDepth 100000
set_option linter.unusedVariables false
def tab : Tab := [(3, ⟨.int .i64, 1, 8, [.int .i64 0], some (.int .i64), none⟩), (4, ⟨.bool, 1, 1, [.bool false], some .bool, none⟩), (5, ⟨.int .u8, 1, 1, [.int .u8 0], some (.int .u8), none⟩), (9, ⟨.str, 1, 16, [.str (⟨#[]⟩ : ByteArray)], some .str, none⟩), (23, ⟨.int .i64, 1, 8, [.int .i64 0], some (.int .i64), none⟩), (31, ⟨.slice 9, 1, 24, [.sl .unit []], some (.slice .str), none⟩), (37, ⟨.ptr 68, 1, 8, [.nilP], some .tree, none⟩), (40, ⟨.slice 42, 1, 24, [.sl .unit []], some .wood, none⟩), (42, ⟨.struct [(0, 3), (1, 3), (2, 40)], 3, 40, [.int .i64 0, .int .i64 0, .sl .unit []], some (.pair (.int .i64) (.pair (.int .i64) .wood)), some [(0, 3), (1, 3), (2, 40)]⟩), (51, ⟨.int .u16, 1, 2, [.int .u16 0], some (.int .u16), none⟩), (52, ⟨.int .u32, 1, 4, [.int .u32 0], some (.int .u32), none⟩), (53, ⟨.slice 97, 1, 24, [.sl .unit []], some (.slice (.pair (.int .u8) (.slice (.int .u8)))), none⟩), (54, ⟨.slice 5, 1, 24, [.sl .unit []], some (.slice (.int .u8)), none⟩), (56, ⟨.struct [(0, 51), (1, 51), (2, 52), (3, 52), (4, 5), (5, 53), (6, 54)], 7, 64, [.int .u16 0, .int .u16 0, .int .u32 0, .int .u32 0, .int .u8 0, .sl .unit [], .sl .unit []], some (.pair (.int .u16) (.pair (.int .u16) (.pair (.int .u32) (.pair (.int .u32) (.pair (.int .u8) (.pair (.slice (.pair (.int .u8) (.slice (.int .u8)))) (.slice (.int .u8)))))))), some [(0, 51), (1, 51), (2, 52), (3, 52), (4, 5), (5, 53), (6, 54)]⟩), (60, ⟨.slice 56, 1, 24, [.sl .unit []], some (.slice (.pair (.int .u16) (.pair (.int .u16) (.pair (.int .u32) (.pair (.int .u32) (.pair (.int .u8) (.pair (.slice (.pair (.int .u8) (.slice (.int .u8)))) (.slice (.int .u8))))))))), none⟩), (66, ⟨.int .i64, 1, 8, [.int .i64 0], some (.int .i64), none⟩), (68, ⟨.struct [(0, 66), (1, 3), (2, 37), (3, 37)], 4, 32, [.int .i64 0, .int .i64 0, .nilP, .nilP], some (.pair (.int .i64) (.pair (.int .i64) (.pair .tree .tree))), some [(0, 66), (1, 3), (2, 37), (3, 37)]⟩), (91, ⟨.ptr 93, 1, 8, [.nilP], none, none⟩), (93, ⟨.struct [(0, 31), (1, 3), (2, 4)], 3, 40, [.sl .unit [], .int .i64 0, .bool false], some (.pair (.slice .str) (.pair (.int .i64) .bool)), some [(0, 31), (1, 3), (2, 4)]⟩), (97, ⟨.struct [(0, 5), (1, 54)], 2, 32, [.int .u8 0, .sl .unit []], some (.pair (.int .u8) (.slice (.int .u8))), some [(0, 5), (1, 54)]⟩)]
theorem ht : TabOk Go.Proofs.Tryd.prog tab := tabOk_of (ts := [3, 4, 5, 9, 23, 31, 37, 40, 42, 51, 52, 53, 54, 56, 60, 66, 68, 91, 93, 97]) (by kernel_rfl)
theorem hm : Go.Proofs.Tryd.prog.follows .mixedOrders = true := by kernel_rfl
abbrev zi (n : Int) : Z1 := .d (.int .i64 n)
abbrev oc (z : Z1) : Z := .one (.c z)
/-! brougham/broughamlaw35.parts -/
def f37_broughamlaw35_parts_in (f_0 : Int) (f_1 : Int) (f_2 : List (Int × Int × List FT)) (most : Int) : Inn := ⟨[.agg [zi f_0, zi f_1, .d (.sl (.pair (.int .i64) (.pair (.int .i64) .wood)) f_2)], .c (zi most)], [], [], 0⟩
def f37_broughamlaw35_parts_out (r : Int) : Out := ⟨oc (zi r), [], [], 0⟩
def f37_broughamlaw35_parts_L5 (rc_f37_broughamlaw35_parts : Int → Int → (List (Int × Int × List FT)) → Int → Option (Int)) : Nat → Int → Int → Int → Int → Int → (List (Int × Int × List FT)) → Option (Int)
  | 0, _, _, _, _, _, _ => none
  | n + 1, most, n_, i, f_0, f_1, f_2 =>
    if (decide ((i : Int) < ((f_2.length : Nat) : Int))) = true then
      if (decide ((n_ : Int) ≤ most)) = true then
        if (0 : Int) ≤ i ∧ i < (((f_2).length : Nat) : Int) then
        (rc_f37_broughamlaw35_parts ((f_2.getD i.toNat (0, (0, []))).1) (((f_2.getD i.toNat (0, (0, []))).2).1) ((((f_2.getD i.toNat (0, (0, []))).2).2).map FT.un) most).bind fun r11_1 =>
        f37_broughamlaw35_parts_L5 rc_f37_broughamlaw35_parts n most (IntKind.wrap .i64 (n_ + r11_1)) (IntKind.wrap .i64 (i + 1)) f_0 f_1 f_2
        else none
      else
        some (n_)
    else
      some (n_)
def f37_broughamlaw35_parts_L5_k (e : Int) (o : Out) : Prop := At Tryd.prog Tryd.f37 0 8 ⟨[(5, oc (zi e))], [], [], 0⟩ o
theorem f37_broughamlaw35_parts_L5_ok (rc_f37_broughamlaw35_parts : Int → Int → (List (Int × Int × List FT)) → Int → Option (Int)) (hrc_f37_broughamlaw35_parts : ∀ (f_0 : Int) (f_1 : Int) (f_2 : List (Int × Int × List FT)) (most : Int) (r : Int) (h : rc_f37_broughamlaw35_parts f_0 f_1 f_2 most = some r), FnOK Tryd.prog 37 (f37_broughamlaw35_parts_in f_0 f_1 f_2 most) (f37_broughamlaw35_parts_out r)) (n : Nat) : ∀ (most : Int) (n_ : Int) (i : Int) (f_0 : Int) (f_1 : Int) (f_2 : List (Int × Int × List FT)) (w : Int) (h : f37_broughamlaw35_parts_L5 rc_f37_broughamlaw35_parts n most n_ i f_0 f_1 f_2 = some w) (o : Out) (hk : f37_broughamlaw35_parts_L5_k w o), At Tryd.prog Tryd.f37 0 5 ⟨[(1, oc (zi most)), (2, oc (.ptr 0 0)), (5, oc (zi n_)), (6, oc (zi i))], [], [(0, [zi f_0, zi f_1, .d (.sl (.pair (.int .i64) (.pair (.int .i64) .wood)) f_2)])], 1⟩ o := by
  induction n with
  | zero => intro most n_ i f_0 f_1 f_2 w h; rw [f37_broughamlaw35_parts_L5] at h; cases h
  | succ n ih =>
    intro most n_ i f_0 f_1 f_2 w h o hk
    rw [f37_broughamlaw35_parts_L5] at h
    rcases iteS h with ⟨b10_5, h⟩ | ⟨b10_5, h⟩
    · rcases iteS h with ⟨b10_e0, h⟩ | ⟨b10_e0, h⟩
      · refine At.step hm ht ⟨[(5, .b true)], [true], [], [1, 2, 5, 6], [0]⟩ 7 ⟨[(1, oc (zi most)), (2, oc (.ptr 0 0)), (5, oc (zi n_)), (6, oc (zi i))], [], [(0, [zi f_0, zi f_1, .d (.sl (.pair (.int .i64) (.pair (.int .i64) .wood)) f_2)])], 1⟩ [(decide ((i : Int) < ((f_2.length : Nat) : Int))) = true, (decide ((n_ : Int) ≤ most)) = true] (by kernel_rfl) ⟨b10_5, b10_e0, trivial⟩ ?_
        obtain ⟨g11_0, h⟩ := ifS h
        obtain ⟨r11_1, cr11_1, h⟩ := bindS h
        refine At.step hm ht ⟨[(7, .call [] [] (f37_broughamlaw35_parts_out r11_1))], [], [], [1, 2, 5, 6], [0]⟩ 6 ⟨[(1, oc (zi most)), (2, oc (.ptr 0 0)), (5, oc (zi (IntKind.wrap .i64 (n_ + r11_1)))), (6, oc (zi i))], [], [(0, [zi f_0, zi f_1, .d (.sl (.pair (.int .i64) (.pair (.int .i64) .wood)) f_2)])], 1⟩ [(0 : Int) ≤ i ∧ i < (((f_2).length : Nat) : Int), FnOK Tryd.prog 37 (f37_broughamlaw35_parts_in ((f_2.getD i.toNat (0, (0, []))).1) (((f_2.getD i.toNat (0, (0, []))).2).1) ((((f_2.getD i.toNat (0, (0, []))).2).2).map FT.un) most) (f37_broughamlaw35_parts_out r11_1)] (by kernel_rfl) ⟨g11_0, (hrc_f37_broughamlaw35_parts ((f_2.getD i.toNat (0, (0, []))).1) (((f_2.getD i.toNat (0, (0, []))).2).1) ((((f_2.getD i.toNat (0, (0, []))).2).2).map FT.un) most r11_1 cr11_1), trivial⟩ ?_
        refine At.step hm ht ⟨[], [], [], [1, 2, 5, 6], [0]⟩ 5 ⟨[(1, oc (zi most)), (2, oc (.ptr 0 0)), (5, oc (zi (IntKind.wrap .i64 (n_ + r11_1)))), (6, oc (zi (IntKind.wrap .i64 (i + 1))))], [], [(0, [zi f_0, zi f_1, .d (.sl (.pair (.int .i64) (.pair (.int .i64) .wood)) f_2)])], 1⟩ [] (by kernel_rfl) trivial ?_
        exact ih most (IntKind.wrap .i64 (n_ + r11_1)) (IntKind.wrap .i64 (i + 1)) f_0 f_1 f_2 w h o hk
      · refine At.step hm ht ⟨[(5, .b true)], [false], [], [5], []⟩ 8 ⟨[(5, oc (zi n_))], [], [], 0⟩ [(decide ((i : Int) < ((f_2.length : Nat) : Int))) = true, (decide ((n_ : Int) ≤ most)) = false] (by kernel_rfl) ⟨b10_5, b10_e0, trivial⟩ ?_
        have h := Option.some.inj h
        subst h
        exact hk
    · refine At.step hm ht ⟨[(5, .b false)], [false], [], [5], []⟩ 8 ⟨[(5, oc (zi n_))], [], [], 0⟩ [(decide ((i : Int) < ((f_2.length : Nat) : Int))) = false, false = false] (by kernel_rfl) ⟨b10_5, rfl, trivial⟩ ?_
      have h := Option.some.inj h
      subst h
      exact hk
def f37_broughamlaw35_parts : Nat → Int → Int → (List (Int × Int × List FT)) → Int → Option (Int)
  | 0, _, _, _, _ => none
  | n + 1, f_0, f_1, f_2, most =>
    if (decide ((((f_2.length : Nat) : Int) : Int) > 2)) = true then
      some (IntKind.wrap .i64 (most + 1))
    else
      (f37_broughamlaw35_parts_L5 (f37_broughamlaw35_parts n) n most 1 0 f_0 f_1 f_2).bind fun w13 =>
      some w13
theorem f37_broughamlaw35_parts_ok (n : Nat) : ∀ (f_0 : Int) (f_1 : Int) (f_2 : List (Int × Int × List FT)) (most : Int) (r : Int) (h : f37_broughamlaw35_parts n f_0 f_1 f_2 most = some r), FnOK Tryd.prog 37 (f37_broughamlaw35_parts_in f_0 f_1 f_2 most) (f37_broughamlaw35_parts_out r) := by
  induction n with
  | zero => intro f_0 f_1 f_2 most r h; rw [f37_broughamlaw35_parts] at h; cases h
  | succ n ih =>
    intro f_0 f_1 f_2 most r h
    rw [f37_broughamlaw35_parts] at h
    refine At.fn (r := 0) Tryd.func37 rfl (by kernel_rfl) rfl rfl (by kernel_rfl) ?_
    show At Tryd.prog Tryd.f37 0 0 ⟨[(0, .one (.agg [zi f_0, zi f_1, .d (.sl (.pair (.int .i64) (.pair (.int .i64) .wood)) f_2)])), (1, oc (zi most))], [], [], 0⟩ _
    refine At.step hm ht ⟨[], [], [], [1, 2], [0]⟩ 1 ⟨[(1, oc (zi most)), (2, oc (.ptr 0 0))], [], [(0, [zi f_0, zi f_1, .d (.sl (.pair (.int .i64) (.pair (.int .i64) .wood)) f_2)])], 1⟩ [] (by kernel_rfl) trivial ?_
    refine At.step hm ht ⟨[], [], [], [1, 2, 5], [0]⟩ 2 ⟨[(1, oc (zi most)), (2, oc (.ptr 0 0)), (5, oc (zi 1))], [], [(0, [zi f_0, zi f_1, .d (.sl (.pair (.int .i64) (.pair (.int .i64) .wood)) f_2)])], 1⟩ [] (by kernel_rfl) trivial ?_
    rcases iteS h with ⟨b7_e0, h⟩ | ⟨b7_e0, h⟩
    · refine At.step hm ht ⟨[], [true], [], [1], []⟩ 3 ⟨[(1, oc (zi most))], [], [], 0⟩ [(decide ((((f_2.length : Nat) : Int) : Int) > 2)) = true] (by kernel_rfl) ⟨b7_e0, trivial⟩ ?_
      have h := Option.some.inj h
      subst h
      exact At.fin hm ht ⟨[], [], [], [4], []⟩ [] (by kernel_rfl) trivial
    · refine At.step hm ht ⟨[], [false], [], [1, 2, 5], [0]⟩ 4 ⟨[(1, oc (zi most)), (2, oc (.ptr 0 0)), (5, oc (zi 1))], [], [(0, [zi f_0, zi f_1, .d (.sl (.pair (.int .i64) (.pair (.int .i64) .wood)) f_2)])], 1⟩ [(decide ((((f_2.length : Nat) : Int) : Int) > 2)) = false] (by kernel_rfl) ⟨b7_e0, trivial⟩ ?_
      refine At.step hm ht ⟨[], [], [], [1, 2, 5, 6], [0]⟩ 5 ⟨[(1, oc (zi most)), (2, oc (.ptr 0 0)), (5, oc (zi 1)), (6, oc (zi 0))], [], [(0, [zi f_0, zi f_1, .d (.sl (.pair (.int .i64) (.pair (.int .i64) .wood)) f_2)])], 1⟩ [] (by kernel_rfl) trivial ?_
      obtain ⟨w13, cw13, h⟩ := bindS h
      refine f37_broughamlaw35_parts_L5_ok (f37_broughamlaw35_parts n) ih n most 1 0 f_0 f_1 f_2 w13 cw13 _ ?_
      show At Tryd.prog Tryd.f37 0 8 ⟨[(5, oc (zi w13))], [], [], 0⟩ _
      have h := Option.some.inj h
      subst h
      exact At.fin hm ht ⟨[], [], [], [4], []⟩ [] (by kernel_rfl) trivial
/-! brougham/broughamlaw35.great -/
def f26_broughamlaw35_great_in (f_0 : Int) (f_1 : Int) (f_2 : List (Int × Int × List FT)) : Inn := ⟨[.agg [zi f_0, zi f_1, .d (.sl (.pair (.int .i64) (.pair (.int .i64) .wood)) f_2)]], [], [], 0⟩
def f26_broughamlaw35_great_out (r : Bool) : Out := ⟨oc (.d (.bool r)), [], [], 0⟩
def f26_broughamlaw35_great (n : Nat) (f_0 : Int) (f_1 : Int) (f_2 : List (Int × Int × List FT)) : Option (Bool) :=
  (f37_broughamlaw35_parts n f_0 f_1 f_2 200).bind fun r4_0 =>
  some (decide ((r4_0 : Int) > 200))
theorem f26_broughamlaw35_great_ok (n : Nat) (f_0 : Int) (f_1 : Int) (f_2 : List (Int × Int × List FT)) (r : Bool) (h : f26_broughamlaw35_great n f_0 f_1 f_2 = some r) : FnOK Tryd.prog 26 (f26_broughamlaw35_great_in f_0 f_1 f_2) (f26_broughamlaw35_great_out r) := by
  unfold f26_broughamlaw35_great at h
  refine At.fn (r := 0) Tryd.func26 rfl (by kernel_rfl) rfl rfl (by kernel_rfl) ?_
  show At Tryd.prog Tryd.f26 0 0 ⟨[(0, .one (.agg [zi f_0, zi f_1, .d (.sl (.pair (.int .i64) (.pair (.int .i64) .wood)) f_2)]))], [], [], 0⟩ _
  refine At.step hm ht ⟨[], [], [], [1], [0]⟩ 1 ⟨[(1, oc (.ptr 0 0))], [], [(0, [zi f_0, zi f_1, .d (.sl (.pair (.int .i64) (.pair (.int .i64) .wood)) f_2)])], 1⟩ [] (by kernel_rfl) trivial ?_
  obtain ⟨r4_0, cr4_0, h⟩ := bindS h
  have h := Option.some.inj h
  subst h
  exact At.fin hm ht ⟨[(1, .call [] [] (f37_broughamlaw35_parts_out r4_0))], [], [], [2], []⟩ [FnOK Tryd.prog 37 (f37_broughamlaw35_parts_in f_0 f_1 f_2 200) (f37_broughamlaw35_parts_out r4_0)] (by kernel_rfl) ⟨(f37_broughamlaw35_parts_ok n f_0 f_1 f_2 200 r4_0 cr4_0), trivial⟩
/-! brougham/broughamlaw07.Great -/
def f29_broughamlaw07_Great_in (s_0 : Int) (s_1 : Int) (s_2 : Int) (s_3 : Int) (s_4 : Int) (s_5 : List (Int × List Int)) (s_6 : List Int) : Inn := ⟨[.agg [.d (.int .u16 s_0), .d (.int .u16 s_1), .d (.int .u32 s_2), .d (.int .u32 s_3), .d (.int .u8 s_4), .d (.sl (.pair (.int .u8) (.slice (.int .u8))) s_5), .d (.sl (.int .u8) s_6)]], [], [], 0⟩
def f29_broughamlaw07_Great_out (r : Bool) : Out := ⟨oc (.d (.bool r)), [], [], 0⟩
def f29_broughamlaw07_Great_L4 : Nat → Int → Int → Int → Int → Int → Int → (List (Int × List Int)) → (List Int) → Option ((Bool) ⊕ (Unit))
  | 0, _, _, _, _, _, _, _, _ => none
  | n + 1, i, s_0, s_1, s_2, s_3, s_4, s_5, s_6 =>
    if (decide ((i : Int) < ((s_5.length : Nat) : Int))) = true then
      if (0 : Int) ≤ i ∧ i < (((s_5).length : Nat) : Int) then
      if (decide ((((((s_5.getD i.toNat (0, [])).2).length : Nat) : Int) : Int) > 400)) = true then
        some (.inl true)
      else
        f29_broughamlaw07_Great_L4 n (IntKind.wrap .i64 (i + 1)) s_0 s_1 s_2 s_3 s_4 s_5 s_6
      else none
    else
      some (.inr ())
def f29_broughamlaw07_Great_L4_k (w : (Bool) ⊕ (Unit)) (o : Out) : Prop := match w with
  | .inl e => o = f29_broughamlaw07_Great_out e
  | .inr e => At Tryd.prog Tryd.f29 0 8 ⟨[], [], [], 0⟩ o
theorem f29_broughamlaw07_Great_L4_ok (n : Nat) : ∀ (i : Int) (s_0 : Int) (s_1 : Int) (s_2 : Int) (s_3 : Int) (s_4 : Int) (s_5 : List (Int × List Int)) (s_6 : List Int) (w : (Bool) ⊕ (Unit)) (h : f29_broughamlaw07_Great_L4 n i s_0 s_1 s_2 s_3 s_4 s_5 s_6 = some w) (o : Out) (hk : f29_broughamlaw07_Great_L4_k w o), At Tryd.prog Tryd.f29 0 4 ⟨[(1, oc (.ptr 0 0)), (3, oc (zi i))], [], [(0, [.d (.int .u16 s_0), .d (.int .u16 s_1), .d (.int .u32 s_2), .d (.int .u32 s_3), .d (.int .u8 s_4), .d (.sl (.pair (.int .u8) (.slice (.int .u8))) s_5), .d (.sl (.int .u8) s_6)])], 1⟩ o := by
  induction n with
  | zero => intro i s_0 s_1 s_2 s_3 s_4 s_5 s_6 w h; rw [f29_broughamlaw07_Great_L4] at h; cases h
  | succ n ih =>
    intro i s_0 s_1 s_2 s_3 s_4 s_5 s_6 w h o hk
    rw [f29_broughamlaw07_Great_L4] at h
    rcases iteS h with ⟨b22_e0, h⟩ | ⟨b22_e0, h⟩
    · refine At.step hm ht ⟨[], [true], [], [1, 3], [0]⟩ 6 ⟨[(1, oc (.ptr 0 0)), (3, oc (zi i))], [], [(0, [.d (.int .u16 s_0), .d (.int .u16 s_1), .d (.int .u32 s_2), .d (.int .u32 s_3), .d (.int .u8 s_4), .d (.sl (.pair (.int .u8) (.slice (.int .u8))) s_5), .d (.sl (.int .u8) s_6)])], 1⟩ [(decide ((i : Int) < ((s_5.length : Nat) : Int))) = true] (by kernel_rfl) ⟨b22_e0, trivial⟩ ?_
      obtain ⟨g23_0, h⟩ := ifS h
      rcases iteS h with ⟨b23_e0, h⟩ | ⟨b23_e0, h⟩
      · refine At.step hm ht ⟨[], [true], [], [], []⟩ 7 ⟨[], [], [], 0⟩ [(0 : Int) ≤ i ∧ i < (((s_5).length : Nat) : Int), (decide ((((((s_5.getD i.toNat (0, [])).2).length : Nat) : Int) : Int) > 400)) = true] (by kernel_rfl) ⟨g23_0, b23_e0, trivial⟩ ?_
        have h := Option.some.inj h
        subst h
        have hk : o = f29_broughamlaw07_Great_out true := hk
        subst hk
        exact At.fin hm ht ⟨[], [], [], [2], []⟩ [] (by kernel_rfl) trivial
      · refine At.step hm ht ⟨[], [false], [], [1, 3], [0]⟩ 5 ⟨[(1, oc (.ptr 0 0)), (3, oc (zi i))], [], [(0, [.d (.int .u16 s_0), .d (.int .u16 s_1), .d (.int .u32 s_2), .d (.int .u32 s_3), .d (.int .u8 s_4), .d (.sl (.pair (.int .u8) (.slice (.int .u8))) s_5), .d (.sl (.int .u8) s_6)])], 1⟩ [(0 : Int) ≤ i ∧ i < (((s_5).length : Nat) : Int), (decide ((((((s_5.getD i.toNat (0, [])).2).length : Nat) : Int) : Int) > 400)) = false] (by kernel_rfl) ⟨g23_0, b23_e0, trivial⟩ ?_
        refine At.step hm ht ⟨[], [], [], [1, 3], [0]⟩ 4 ⟨[(1, oc (.ptr 0 0)), (3, oc (zi (IntKind.wrap .i64 (i + 1))))], [], [(0, [.d (.int .u16 s_0), .d (.int .u16 s_1), .d (.int .u32 s_2), .d (.int .u32 s_3), .d (.int .u8 s_4), .d (.sl (.pair (.int .u8) (.slice (.int .u8))) s_5), .d (.sl (.int .u8) s_6)])], 1⟩ [] (by kernel_rfl) trivial ?_
        exact ih (IntKind.wrap .i64 (i + 1)) s_0 s_1 s_2 s_3 s_4 s_5 s_6 w h o hk
    · refine At.step hm ht ⟨[], [false], [], [], []⟩ 8 ⟨[], [], [], 0⟩ [(decide ((i : Int) < ((s_5.length : Nat) : Int))) = false] (by kernel_rfl) ⟨b22_e0, trivial⟩ ?_
      have h := Option.some.inj h
      subst h
      exact hk
def f29_broughamlaw07_Great (n : Nat) (s_0 : Int) (s_1 : Int) (s_2 : Int) (s_3 : Int) (s_4 : Int) (s_5 : List (Int × List Int)) (s_6 : List Int) : Option (Bool) :=
  if (decide ((((s_5.length : Nat) : Int) : Int) > 120)) = true then
    some true
  else
    if (decide ((((s_6.length : Nat) : Int) : Int) > 2000)) = true then
      some true
    else
      (f29_broughamlaw07_Great_L4 n 0 s_0 s_1 s_2 s_3 s_4 s_5 s_6).bind fun w26 =>
      match w26 with
      | .inl e27 =>
        some e27
      | .inr e28 =>
        some false
theorem f29_broughamlaw07_Great_ok (n : Nat) (s_0 : Int) (s_1 : Int) (s_2 : Int) (s_3 : Int) (s_4 : Int) (s_5 : List (Int × List Int)) (s_6 : List Int) (r : Bool) (h : f29_broughamlaw07_Great n s_0 s_1 s_2 s_3 s_4 s_5 s_6 = some r) : FnOK Tryd.prog 29 (f29_broughamlaw07_Great_in s_0 s_1 s_2 s_3 s_4 s_5 s_6) (f29_broughamlaw07_Great_out r) := by
  unfold f29_broughamlaw07_Great at h
  refine At.fn (r := 0) Tryd.func29 rfl (by kernel_rfl) rfl rfl (by kernel_rfl) ?_
  show At Tryd.prog Tryd.f29 0 0 ⟨[(0, .one (.agg [.d (.int .u16 s_0), .d (.int .u16 s_1), .d (.int .u32 s_2), .d (.int .u32 s_3), .d (.int .u8 s_4), .d (.sl (.pair (.int .u8) (.slice (.int .u8))) s_5), .d (.sl (.int .u8) s_6)]))], [], [], 0⟩ _
  refine At.step hm ht ⟨[], [], [], [1], [0]⟩ 1 ⟨[(1, oc (.ptr 0 0))], [], [(0, [.d (.int .u16 s_0), .d (.int .u16 s_1), .d (.int .u32 s_2), .d (.int .u32 s_3), .d (.int .u8 s_4), .d (.sl (.pair (.int .u8) (.slice (.int .u8))) s_5), .d (.sl (.int .u8) s_6)])], 1⟩ [] (by kernel_rfl) trivial ?_
  rcases iteS h with ⟨b18_4, h⟩ | ⟨b18_4, h⟩
  · refine At.step hm ht ⟨[(4, .b true)], [true], [], [], []⟩ 2 ⟨[], [], [], 0⟩ [(decide ((((s_5.length : Nat) : Int) : Int) > 120)) = true, true = true] (by kernel_rfl) ⟨b18_4, rfl, trivial⟩ ?_
    have h := Option.some.inj h
    subst h
    exact At.fin hm ht ⟨[], [], [], [2], []⟩ [] (by kernel_rfl) trivial
  · rcases iteS h with ⟨b18_e0, h⟩ | ⟨b18_e0, h⟩
    · refine At.step hm ht ⟨[(4, .b false)], [true], [], [], []⟩ 2 ⟨[], [], [], 0⟩ [(decide ((((s_5.length : Nat) : Int) : Int) > 120)) = false, (decide ((((s_6.length : Nat) : Int) : Int) > 2000)) = true] (by kernel_rfl) ⟨b18_4, b18_e0, trivial⟩ ?_
      have h := Option.some.inj h
      subst h
      exact At.fin hm ht ⟨[], [], [], [2], []⟩ [] (by kernel_rfl) trivial
    · refine At.step hm ht ⟨[(4, .b false)], [false], [], [1], [0]⟩ 3 ⟨[(1, oc (.ptr 0 0))], [], [(0, [.d (.int .u16 s_0), .d (.int .u16 s_1), .d (.int .u32 s_2), .d (.int .u32 s_3), .d (.int .u8 s_4), .d (.sl (.pair (.int .u8) (.slice (.int .u8))) s_5), .d (.sl (.int .u8) s_6)])], 1⟩ [(decide ((((s_5.length : Nat) : Int) : Int) > 120)) = false, (decide ((((s_6.length : Nat) : Int) : Int) > 2000)) = false] (by kernel_rfl) ⟨b18_4, b18_e0, trivial⟩ ?_
      refine At.step hm ht ⟨[], [], [], [1, 3], [0]⟩ 4 ⟨[(1, oc (.ptr 0 0)), (3, oc (zi 0))], [], [(0, [.d (.int .u16 s_0), .d (.int .u16 s_1), .d (.int .u32 s_2), .d (.int .u32 s_3), .d (.int .u8 s_4), .d (.sl (.pair (.int .u8) (.slice (.int .u8))) s_5), .d (.sl (.int .u8) s_6)])], 1⟩ [] (by kernel_rfl) trivial ?_
      obtain ⟨w26, cw26, h⟩ := bindS h
      refine f29_broughamlaw07_Great_L4_ok n 0 s_0 s_1 s_2 s_3 s_4 s_5 s_6 w26 cw26 _ ?_
      rcases w26 with e27 | e28
      · have h := Option.some.inj h
        subst h
        rfl
      · show At Tryd.prog Tryd.f29 0 8 ⟨[], [], [], 0⟩ _
        have h := Option.some.inj h
        subst h
        exact At.fin hm ht ⟨[], [], [], [2], []⟩ [] (by kernel_rfl) trivial
/-! brougham/broughamlaw35.Made -/
def f28_broughamlaw35_Made_in (f_0 : Int) (f_1 : Int) (f_2 : List (Int × Int × List FT)) : Inn := ⟨[.agg [zi f_0, zi f_1, .d (.sl (.pair (.int .i64) (.pair (.int .i64) .wood)) f_2)]], [], [], 0⟩
def f28_broughamlaw35_Made_out (r : PT) : Out := ⟨oc (.d (.pt r)), [], [], 0⟩
def f28_broughamlaw35_Made : Nat → Int → Int → (List (Int × Int × List FT)) → Option (PT)
  | 0, _, _, _ => none
  | n + 1, f_0, f_1, f_2 =>
    if (decide ((((f_2.length : Nat) : Int) : Int) > 0)) = true then
      if (0 : Int) ≤ 0 ∧ 0 < (((f_2).length : Nat) : Int) then
      ((f28_broughamlaw35_Made n) ((f_2.getD 0 (0, (0, []))).1) (((f_2.getD 0 (0, (0, []))).2).1) ((((f_2.getD 0 (0, (0, []))).2).2).map FT.un)).bind fun r42_1 =>
      if (decide ((((f_2.length : Nat) : Int) : Int) > 1)) = true then
        if (0 : Int) ≤ 1 ∧ 1 < (((f_2).length : Nat) : Int) then
        ((f28_broughamlaw35_Made n) ((f_2.getD 1 (0, (0, []))).1) (((f_2.getD 1 (0, (0, []))).2).1) ((((f_2.getD 1 (0, (0, []))).2).2).map FT.un)).bind fun r44_1 =>
        some (PT.node f_0 f_1 r42_1 r44_1)
        else none
      else
        some (PT.node f_0 f_1 r42_1 PT.nil)
      else none
    else
      if (decide ((((f_2.length : Nat) : Int) : Int) > 1)) = true then
        if (0 : Int) ≤ 1 ∧ 1 < (((f_2).length : Nat) : Int) then
        ((f28_broughamlaw35_Made n) ((f_2.getD 1 (0, (0, []))).1) (((f_2.getD 1 (0, (0, []))).2).1) ((((f_2.getD 1 (0, (0, []))).2).2).map FT.un)).bind fun r48_1 =>
        some (PT.node f_0 f_1 PT.nil r48_1)
        else none
      else
        some (PT.node f_0 f_1 PT.nil PT.nil)
theorem f28_broughamlaw35_Made_ok (n : Nat) : ∀ (f_0 : Int) (f_1 : Int) (f_2 : List (Int × Int × List FT)) (r : PT) (h : f28_broughamlaw35_Made n f_0 f_1 f_2 = some r), FnOK Tryd.prog 28 (f28_broughamlaw35_Made_in f_0 f_1 f_2) (f28_broughamlaw35_Made_out r) := by
  induction n with
  | zero => intro f_0 f_1 f_2 r h; rw [f28_broughamlaw35_Made] at h; cases h
  | succ n ih =>
    intro f_0 f_1 f_2 r h
    rw [f28_broughamlaw35_Made] at h
    refine At.fn (r := 0) Tryd.func28 rfl (by kernel_rfl) rfl rfl (by kernel_rfl) ?_
    show At Tryd.prog Tryd.f28 0 0 ⟨[(0, .one (.agg [zi f_0, zi f_1, .d (.sl (.pair (.int .i64) (.pair (.int .i64) .wood)) f_2)]))], [], [], 0⟩ _
    refine At.step hm ht ⟨[], [], [.nilpt 2], [1], [0]⟩ 1 ⟨[(1, oc (.ptr 0 0))], [], [(0, [zi f_0, zi f_1, .d (.sl (.pair (.int .i64) (.pair (.int .i64) .wood)) f_2)])], 1⟩ [] (by kernel_rfl) trivial ?_
    refine At.step hm ht ⟨[], [], [], [1, 3], [0, 6]⟩ 2 ⟨[(1, oc (.ptr 0 0)), (3, oc (.ptr 1 0))], [], [(0, [zi f_0, zi f_1, .d (.sl (.pair (.int .i64) (.pair (.int .i64) .wood)) f_2)]), (1, [zi f_0, zi f_1, .d (.nilP), .d (.nilP)])], 2⟩ [] (by kernel_rfl) trivial ?_
    rcases iteS h with ⟨b41_e0, h⟩ | ⟨b41_e0, h⟩
    · refine At.step hm ht ⟨[], [true], [], [1, 3], [0, 1]⟩ 3 ⟨[(1, oc (.ptr 0 0)), (3, oc (.ptr 1 0))], [], [(0, [zi f_0, zi f_1, .d (.sl (.pair (.int .i64) (.pair (.int .i64) .wood)) f_2)]), (1, [zi f_0, zi f_1, .d (.nilP), .d (.nilP)])], 2⟩ [(decide ((((f_2.length : Nat) : Int) : Int) > 0)) = true] (by kernel_rfl) ⟨b41_e0, trivial⟩ ?_
      obtain ⟨g42_0, h⟩ := ifS h
      obtain ⟨r42_1, cr42_1, h⟩ := bindS h
      refine At.step hm ht ⟨[(5, .call [] [] (f28_broughamlaw35_Made_out r42_1))], [], [], [1, 3], [0, 1]⟩ 4 ⟨[(1, oc (.ptr 0 0)), (3, oc (.ptr 1 0))], [], [(0, [zi f_0, zi f_1, .d (.sl (.pair (.int .i64) (.pair (.int .i64) .wood)) f_2)]), (1, [zi f_0, zi f_1, .d (.pt r42_1), .d (.nilP)])], 2⟩ [(0 : Int) ≤ 0 ∧ 0 < (((f_2).length : Nat) : Int), FnOK Tryd.prog 28 (f28_broughamlaw35_Made_in ((f_2.getD 0 (0, (0, []))).1) (((f_2.getD 0 (0, (0, []))).2).1) ((((f_2.getD 0 (0, (0, []))).2).2).map FT.un)) (f28_broughamlaw35_Made_out r42_1), 2 + 1 ≤ 4] (by kernel_rfl) ⟨g42_0, (ih ((f_2.getD 0 (0, (0, []))).1) (((f_2.getD 0 (0, (0, []))).2).1) ((((f_2.getD 0 (0, (0, []))).2).2).map FT.un) r42_1 cr42_1), (by decide), trivial⟩ ?_
      rcases iteS h with ⟨b43_e0, h⟩ | ⟨b43_e0, h⟩
      · refine At.step hm ht ⟨[], [true], [], [1, 3], [0, 1]⟩ 5 ⟨[(1, oc (.ptr 0 0)), (3, oc (.ptr 1 0))], [], [(0, [zi f_0, zi f_1, .d (.sl (.pair (.int .i64) (.pair (.int .i64) .wood)) f_2)]), (1, [zi f_0, zi f_1, .d (.pt r42_1), .d (.nilP)])], 2⟩ [(decide ((((f_2.length : Nat) : Int) : Int) > 1)) = true] (by kernel_rfl) ⟨b43_e0, trivial⟩ ?_
        obtain ⟨g44_0, h⟩ := ifS h
        obtain ⟨r44_1, cr44_1, h⟩ := bindS h
        refine At.step hm ht ⟨[(5, .call [] [] (f28_broughamlaw35_Made_out r44_1))], [], [], [3], [1]⟩ 6 ⟨[(3, oc (.ptr 0 0))], [], [(0, [zi f_0, zi f_1, .d (.pt r42_1), .d (.pt r44_1)])], 1⟩ [(0 : Int) ≤ 1 ∧ 1 < (((f_2).length : Nat) : Int), FnOK Tryd.prog 28 (f28_broughamlaw35_Made_in ((f_2.getD 1 (0, (0, []))).1) (((f_2.getD 1 (0, (0, []))).2).1) ((((f_2.getD 1 (0, (0, []))).2).2).map FT.un)) (f28_broughamlaw35_Made_out r44_1), 3 + 1 ≤ 4] (by kernel_rfl) ⟨g44_0, (ih ((f_2.getD 1 (0, (0, []))).1) (((f_2.getD 1 (0, (0, []))).2).1) ((((f_2.getD 1 (0, (0, []))).2).2).map FT.un) r44_1 cr44_1), (by decide), trivial⟩ ?_
        have h := Option.some.inj h
        subst h
        exact At.fin hm ht ⟨[], [], [.tree 0], [2], []⟩ [] (by kernel_rfl) trivial
      · refine At.step hm ht ⟨[], [false], [], [3], [1]⟩ 6 ⟨[(3, oc (.ptr 0 0))], [], [(0, [zi f_0, zi f_1, .d (.pt r42_1), .d (.nilP)])], 1⟩ [(decide ((((f_2.length : Nat) : Int) : Int) > 1)) = false] (by kernel_rfl) ⟨b43_e0, trivial⟩ ?_
        have h := Option.some.inj h
        subst h
        exact At.fin hm ht ⟨[], [], [.tree 0], [2], []⟩ [] (by kernel_rfl) trivial
    · refine At.step hm ht ⟨[], [false], [], [1, 3], [0, 1]⟩ 4 ⟨[(1, oc (.ptr 0 0)), (3, oc (.ptr 1 0))], [], [(0, [zi f_0, zi f_1, .d (.sl (.pair (.int .i64) (.pair (.int .i64) .wood)) f_2)]), (1, [zi f_0, zi f_1, .d (.nilP), .d (.nilP)])], 2⟩ [(decide ((((f_2.length : Nat) : Int) : Int) > 0)) = false] (by kernel_rfl) ⟨b41_e0, trivial⟩ ?_
      rcases iteS h with ⟨b47_e0, h⟩ | ⟨b47_e0, h⟩
      · refine At.step hm ht ⟨[], [true], [], [1, 3], [0, 1]⟩ 5 ⟨[(1, oc (.ptr 0 0)), (3, oc (.ptr 1 0))], [], [(0, [zi f_0, zi f_1, .d (.sl (.pair (.int .i64) (.pair (.int .i64) .wood)) f_2)]), (1, [zi f_0, zi f_1, .d (.nilP), .d (.nilP)])], 2⟩ [(decide ((((f_2.length : Nat) : Int) : Int) > 1)) = true] (by kernel_rfl) ⟨b47_e0, trivial⟩ ?_
        obtain ⟨g48_0, h⟩ := ifS h
        obtain ⟨r48_1, cr48_1, h⟩ := bindS h
        refine At.step hm ht ⟨[(5, .call [] [] (f28_broughamlaw35_Made_out r48_1))], [], [], [3], [1]⟩ 6 ⟨[(3, oc (.ptr 0 0))], [], [(0, [zi f_0, zi f_1, .d (.nilP), .d (.pt r48_1)])], 1⟩ [(0 : Int) ≤ 1 ∧ 1 < (((f_2).length : Nat) : Int), FnOK Tryd.prog 28 (f28_broughamlaw35_Made_in ((f_2.getD 1 (0, (0, []))).1) (((f_2.getD 1 (0, (0, []))).2).1) ((((f_2.getD 1 (0, (0, []))).2).2).map FT.un)) (f28_broughamlaw35_Made_out r48_1), 3 + 1 ≤ 4] (by kernel_rfl) ⟨g48_0, (ih ((f_2.getD 1 (0, (0, []))).1) (((f_2.getD 1 (0, (0, []))).2).1) ((((f_2.getD 1 (0, (0, []))).2).2).map FT.un) r48_1 cr48_1), (by decide), trivial⟩ ?_
        have h := Option.some.inj h
        subst h
        exact At.fin hm ht ⟨[], [], [.tree 0], [2], []⟩ [] (by kernel_rfl) trivial
      · refine At.step hm ht ⟨[], [false], [], [3], [1]⟩ 6 ⟨[(3, oc (.ptr 0 0))], [], [(0, [zi f_0, zi f_1, .d (.nilP), .d (.nilP)])], 1⟩ [(decide ((((f_2.length : Nat) : Int) : Int) > 1)) = false] (by kernel_rfl) ⟨b47_e0, trivial⟩ ?_
        have h := Option.some.inj h
        subst h
        exact At.fin hm ht ⟨[], [], [.tree 0], [2], []⟩ [] (by kernel_rfl) trivial
/-! brougham/broughamref35.depth -/
def f57_broughamref35_depth_in (f_0 : Int) (f_1 : Int) (f_2 : List (Int × Int × List FT)) : Inn := ⟨[.agg [zi f_0, zi f_1, .d (.sl (.pair (.int .i64) (.pair (.int .i64) .wood)) f_2)]], [], [], 0⟩
def f57_broughamref35_depth_out (r : Int) : Out := ⟨oc (zi r), [], [], 0⟩
def f57_broughamref35_depth_L3 (rc_f57_broughamref35_depth : Int → Int → (List (Int × Int × List FT)) → Option (Int)) : Nat → Int → Int → Int → Int → (List (Int × Int × List FT)) → Option (Int)
  | 0, _, _, _, _, _ => none
  | n + 1, n_, i, f_0, f_1, f_2 =>
    if (decide ((i : Int) < ((f_2.length : Nat) : Int))) = true then
      if (0 : Int) ≤ i ∧ i < (((f_2).length : Nat) : Int) then
      (rc_f57_broughamref35_depth ((f_2.getD i.toNat (0, (0, []))).1) (((f_2.getD i.toNat (0, (0, []))).2).1) ((((f_2.getD i.toNat (0, (0, []))).2).2).map FT.un)).bind fun r66_1 =>
      if (decide ((r66_1 : Int) > n_)) = true then
        f57_broughamref35_depth_L3 rc_f57_broughamref35_depth n r66_1 (IntKind.wrap .i64 (i + 1)) f_0 f_1 f_2
      else
        f57_broughamref35_depth_L3 rc_f57_broughamref35_depth n n_ (IntKind.wrap .i64 (i + 1)) f_0 f_1 f_2
      else none
    else
      some (n_)
def f57_broughamref35_depth_L3_k (e : Int) (o : Out) : Prop := At Tryd.prog Tryd.f57 0 8 ⟨[(3, oc (zi e))], [], [], 0⟩ o
theorem f57_broughamref35_depth_L3_ok (rc_f57_broughamref35_depth : Int → Int → (List (Int × Int × List FT)) → Option (Int)) (hrc_f57_broughamref35_depth : ∀ (f_0 : Int) (f_1 : Int) (f_2 : List (Int × Int × List FT)) (r : Int) (h : rc_f57_broughamref35_depth f_0 f_1 f_2 = some r), FnOK Tryd.prog 57 (f57_broughamref35_depth_in f_0 f_1 f_2) (f57_broughamref35_depth_out r)) (n : Nat) : ∀ (n_ : Int) (i : Int) (f_0 : Int) (f_1 : Int) (f_2 : List (Int × Int × List FT)) (w : Int) (h : f57_broughamref35_depth_L3 rc_f57_broughamref35_depth n n_ i f_0 f_1 f_2 = some w) (o : Out) (hk : f57_broughamref35_depth_L3_k w o), At Tryd.prog Tryd.f57 0 3 ⟨[(1, oc (.ptr 0 0)), (3, oc (zi n_)), (4, oc (zi i))], [], [(0, [zi f_0, zi f_1, .d (.sl (.pair (.int .i64) (.pair (.int .i64) .wood)) f_2)])], 1⟩ o := by
  induction n with
  | zero => intro n_ i f_0 f_1 f_2 w h; rw [f57_broughamref35_depth_L3] at h; cases h
  | succ n ih =>
    intro n_ i f_0 f_1 f_2 w h o hk
    rw [f57_broughamref35_depth_L3] at h
    rcases iteS h with ⟨b65_e0, h⟩ | ⟨b65_e0, h⟩
    · refine At.step hm ht ⟨[], [true], [], [1, 3, 4], [0]⟩ 5 ⟨[(1, oc (.ptr 0 0)), (3, oc (zi n_)), (4, oc (zi i))], [], [(0, [zi f_0, zi f_1, .d (.sl (.pair (.int .i64) (.pair (.int .i64) .wood)) f_2)])], 1⟩ [(decide ((i : Int) < ((f_2.length : Nat) : Int))) = true] (by kernel_rfl) ⟨b65_e0, trivial⟩ ?_
      obtain ⟨g66_0, h⟩ := ifS h
      obtain ⟨r66_1, cr66_1, h⟩ := bindS h
      refine At.step hm ht ⟨[(5, .call [] [] (f57_broughamref35_depth_out r66_1))], [], [], [1, 3, 4, 5], [0]⟩ 6 ⟨[(1, oc (.ptr 0 0)), (3, oc (zi n_)), (4, oc (zi i)), (5, oc (zi r66_1))], [], [(0, [zi f_0, zi f_1, .d (.sl (.pair (.int .i64) (.pair (.int .i64) .wood)) f_2)])], 1⟩ [(0 : Int) ≤ i ∧ i < (((f_2).length : Nat) : Int), FnOK Tryd.prog 57 (f57_broughamref35_depth_in ((f_2.getD i.toNat (0, (0, []))).1) (((f_2.getD i.toNat (0, (0, []))).2).1) ((((f_2.getD i.toNat (0, (0, []))).2).2).map FT.un)) (f57_broughamref35_depth_out r66_1)] (by kernel_rfl) ⟨g66_0, (hrc_f57_broughamref35_depth ((f_2.getD i.toNat (0, (0, []))).1) (((f_2.getD i.toNat (0, (0, []))).2).1) ((((f_2.getD i.toNat (0, (0, []))).2).2).map FT.un) r66_1 cr66_1), trivial⟩ ?_
      rcases iteS h with ⟨b67_e0, h⟩ | ⟨b67_e0, h⟩
      · refine At.step hm ht ⟨[], [true], [], [1, 4, 5], [0]⟩ 7 ⟨[(1, oc (.ptr 0 0)), (4, oc (zi i)), (5, oc (zi r66_1))], [], [(0, [zi f_0, zi f_1, .d (.sl (.pair (.int .i64) (.pair (.int .i64) .wood)) f_2)])], 1⟩ [(decide ((r66_1 : Int) > n_)) = true] (by kernel_rfl) ⟨b67_e0, trivial⟩ ?_
        refine At.step hm ht ⟨[], [], [], [1, 3, 4], [0]⟩ 4 ⟨[(1, oc (.ptr 0 0)), (3, oc (zi r66_1)), (4, oc (zi i))], [], [(0, [zi f_0, zi f_1, .d (.sl (.pair (.int .i64) (.pair (.int .i64) .wood)) f_2)])], 1⟩ [] (by kernel_rfl) trivial ?_
        refine At.step hm ht ⟨[], [], [], [1, 3, 4], [0]⟩ 3 ⟨[(1, oc (.ptr 0 0)), (3, oc (zi r66_1)), (4, oc (zi (IntKind.wrap .i64 (i + 1))))], [], [(0, [zi f_0, zi f_1, .d (.sl (.pair (.int .i64) (.pair (.int .i64) .wood)) f_2)])], 1⟩ [] (by kernel_rfl) trivial ?_
        exact ih r66_1 (IntKind.wrap .i64 (i + 1)) f_0 f_1 f_2 w h o hk
      · refine At.step hm ht ⟨[], [false], [], [1, 3, 4], [0]⟩ 4 ⟨[(1, oc (.ptr 0 0)), (3, oc (zi n_)), (4, oc (zi i))], [], [(0, [zi f_0, zi f_1, .d (.sl (.pair (.int .i64) (.pair (.int .i64) .wood)) f_2)])], 1⟩ [(decide ((r66_1 : Int) > n_)) = false] (by kernel_rfl) ⟨b67_e0, trivial⟩ ?_
        refine At.step hm ht ⟨[], [], [], [1, 3, 4], [0]⟩ 3 ⟨[(1, oc (.ptr 0 0)), (3, oc (zi n_)), (4, oc (zi (IntKind.wrap .i64 (i + 1))))], [], [(0, [zi f_0, zi f_1, .d (.sl (.pair (.int .i64) (.pair (.int .i64) .wood)) f_2)])], 1⟩ [] (by kernel_rfl) trivial ?_
        exact ih n_ (IntKind.wrap .i64 (i + 1)) f_0 f_1 f_2 w h o hk
    · refine At.step hm ht ⟨[], [false], [], [3], []⟩ 8 ⟨[(3, oc (zi n_))], [], [], 0⟩ [(decide ((i : Int) < ((f_2.length : Nat) : Int))) = false] (by kernel_rfl) ⟨b65_e0, trivial⟩ ?_
      have h := Option.some.inj h
      subst h
      exact hk
def f57_broughamref35_depth : Nat → Int → Int → (List (Int × Int × List FT)) → Option (Int)
  | 0, _, _, _ => none
  | n + 1, f_0, f_1, f_2 =>
    (f57_broughamref35_depth_L3 (f57_broughamref35_depth n) n 0 0 f_0 f_1 f_2).bind fun w71 =>
    some (IntKind.wrap .i64 (w71 + 1))
theorem f57_broughamref35_depth_ok (n : Nat) : ∀ (f_0 : Int) (f_1 : Int) (f_2 : List (Int × Int × List FT)) (r : Int) (h : f57_broughamref35_depth n f_0 f_1 f_2 = some r), FnOK Tryd.prog 57 (f57_broughamref35_depth_in f_0 f_1 f_2) (f57_broughamref35_depth_out r) := by
  induction n with
  | zero => intro f_0 f_1 f_2 r h; rw [f57_broughamref35_depth] at h; cases h
  | succ n ih =>
    intro f_0 f_1 f_2 r h
    rw [f57_broughamref35_depth] at h
    refine At.fn (r := 0) Tryd.func57 rfl (by kernel_rfl) rfl rfl (by kernel_rfl) ?_
    show At Tryd.prog Tryd.f57 0 0 ⟨[(0, .one (.agg [zi f_0, zi f_1, .d (.sl (.pair (.int .i64) (.pair (.int .i64) .wood)) f_2)]))], [], [], 0⟩ _
    refine At.step hm ht ⟨[], [], [], [1], [0]⟩ 1 ⟨[(1, oc (.ptr 0 0))], [], [(0, [zi f_0, zi f_1, .d (.sl (.pair (.int .i64) (.pair (.int .i64) .wood)) f_2)])], 1⟩ [] (by kernel_rfl) trivial ?_
    refine At.step hm ht ⟨[], [], [], [1, 3], [0]⟩ 2 ⟨[(1, oc (.ptr 0 0)), (3, oc (zi 0))], [], [(0, [zi f_0, zi f_1, .d (.sl (.pair (.int .i64) (.pair (.int .i64) .wood)) f_2)])], 1⟩ [] (by kernel_rfl) trivial ?_
    refine At.step hm ht ⟨[], [], [], [1, 3, 4], [0]⟩ 3 ⟨[(1, oc (.ptr 0 0)), (3, oc (zi 0)), (4, oc (zi 0))], [], [(0, [zi f_0, zi f_1, .d (.sl (.pair (.int .i64) (.pair (.int .i64) .wood)) f_2)])], 1⟩ [] (by kernel_rfl) trivial ?_
    obtain ⟨w71, cw71, h⟩ := bindS h
    refine f57_broughamref35_depth_L3_ok (f57_broughamref35_depth n) ih n 0 0 f_0 f_1 f_2 w71 cw71 _ ?_
    show At Tryd.prog Tryd.f57 0 8 ⟨[(3, oc (zi w71))], [], [], 0⟩ _
    have h := Option.some.inj h
    subst h
    exact At.fin hm ht ⟨[], [], [], [2], []⟩ [] (by kernel_rfl) trivial
/-! brougham/broughamref35.own -/
def f88_broughamref35_own_in (f_0 : Int) (f_1 : Int) (f_2 : List (Int × Int × List FT)) : Inn := ⟨[.agg [zi f_0, zi f_1, .d (.sl (.pair (.int .i64) (.pair (.int .i64) .wood)) f_2)]], [], [], 0⟩
def f88_broughamref35_own_out (r : Bool) : Out := ⟨oc (.d (.bool r)), [], [], 0⟩
def f88_broughamref35_own_L15 : Nat → Int → Int → Int → (List (Int × Int × List FT)) → Option (Bool)
  | 0, _, _, _, _ => none
  | n + 1, t21, f_0, f_1, f_2 =>
    if ((t21 : Int) == 6) = true then
      if (decide ((f_1 : Int) ≥ 1)) = true then
        some ((decide ((f_1 : Int) ≤ 255)))
      else
        some (false)
    else
      if ((t21 : Int) == 7) = true then
        if (decide ((f_1 : Int) ≥ 0)) = true then
          some ((decide ((f_1 : Int) ≤ 2147483647)))
        else
          some (false)
      else
        if ((f_1 : Int) == 0) = true then
          if (decide ((f_0 : Int) ≥ 1)) = true then
            some ((decide ((f_0 : Int) ≤ 11)))
          else
            some (false)
        else
          some (false)
def f88_broughamref35_own_L15_k (e : Bool) (o : Out) : Prop := o = f88_broughamref35_own_out e
theorem f88_broughamref35_own_L15_ok (n : Nat) : ∀ (t21 : Int) (f_0 : Int) (f_1 : Int) (f_2 : List (Int × Int × List FT)) (w : Bool) (h : f88_broughamref35_own_L15 n t21 f_0 f_1 f_2 = some w) (o : Out) (hk : f88_broughamref35_own_L15_k w o), At Tryd.prog Tryd.f88 0 15 ⟨[(1, oc (.ptr 0 0)), (21, oc (zi t21))], [], [(0, [zi f_0, zi f_1, .d (.sl (.pair (.int .i64) (.pair (.int .i64) .wood)) f_2)])], 1⟩ o := by
  induction n with
  | zero => intro t21 f_0 f_1 f_2 w h; rw [f88_broughamref35_own_L15] at h; cases h
  | succ n ih =>
    intro t21 f_0 f_1 f_2 w h o hk
    rw [f88_broughamref35_own_L15] at h
    rcases iteS h with ⟨b94_e0, h⟩ | ⟨b94_e0, h⟩
    · refine At.step hm ht ⟨[], [true], [], [1], [0]⟩ 16 ⟨[(1, oc (.ptr 0 0))], [], [(0, [zi f_0, zi f_1, .d (.sl (.pair (.int .i64) (.pair (.int .i64) .wood)) f_2)])], 1⟩ [((t21 : Int) == 6) = true] (by kernel_rfl) ⟨b94_e0, trivial⟩ ?_
      rcases iteS h with ⟨b95_3, h⟩ | ⟨b95_3, h⟩
      · have h := Option.some.inj h
        subst h
        have hk : o = f88_broughamref35_own_out (decide ((f_1 : Int) ≤ 255)) := hk
        subst hk
        exact At.fin hm ht ⟨[(3, .b true)], [], [], [2], []⟩ [(decide ((f_1 : Int) ≥ 1)) = true] (by kernel_rfl) ⟨b95_3, trivial⟩
      · have h := Option.some.inj h
        subst h
        have hk : o = f88_broughamref35_own_out false := hk
        subst hk
        exact At.fin hm ht ⟨[(3, .b false)], [], [], [2], []⟩ [(decide ((f_1 : Int) ≥ 1)) = false] (by kernel_rfl) ⟨b95_3, trivial⟩
    · refine At.step hm ht ⟨[], [false], [], [1, 21], [0]⟩ 17 ⟨[(1, oc (.ptr 0 0)), (21, oc (zi t21))], [], [(0, [zi f_0, zi f_1, .d (.sl (.pair (.int .i64) (.pair (.int .i64) .wood)) f_2)])], 1⟩ [((t21 : Int) == 6) = false] (by kernel_rfl) ⟨b94_e0, trivial⟩ ?_
      rcases iteS h with ⟨b96_e0, h⟩ | ⟨b96_e0, h⟩
      · refine At.step hm ht ⟨[], [true], [], [1], [0]⟩ 18 ⟨[(1, oc (.ptr 0 0))], [], [(0, [zi f_0, zi f_1, .d (.sl (.pair (.int .i64) (.pair (.int .i64) .wood)) f_2)])], 1⟩ [((t21 : Int) == 7) = true] (by kernel_rfl) ⟨b96_e0, trivial⟩ ?_
        rcases iteS h with ⟨b97_3, h⟩ | ⟨b97_3, h⟩
        · have h := Option.some.inj h
          subst h
          have hk : o = f88_broughamref35_own_out (decide ((f_1 : Int) ≤ 2147483647)) := hk
          subst hk
          exact At.fin hm ht ⟨[(3, .b true)], [], [], [2], []⟩ [(decide ((f_1 : Int) ≥ 0)) = true] (by kernel_rfl) ⟨b97_3, trivial⟩
        · have h := Option.some.inj h
          subst h
          have hk : o = f88_broughamref35_own_out false := hk
          subst hk
          exact At.fin hm ht ⟨[(3, .b false)], [], [], [2], []⟩ [(decide ((f_1 : Int) ≥ 0)) = false] (by kernel_rfl) ⟨b97_3, trivial⟩
      · refine At.step hm ht ⟨[], [false], [], [1], [0]⟩ 19 ⟨[(1, oc (.ptr 0 0))], [], [(0, [zi f_0, zi f_1, .d (.sl (.pair (.int .i64) (.pair (.int .i64) .wood)) f_2)])], 1⟩ [((t21 : Int) == 7) = false] (by kernel_rfl) ⟨b96_e0, trivial⟩ ?_
        rcases iteS h with ⟨b98_3, h⟩ | ⟨b98_3, h⟩
        · rcases iteS h with ⟨b98_8, h⟩ | ⟨b98_8, h⟩
          · have h := Option.some.inj h
            subst h
            have hk : o = f88_broughamref35_own_out (decide ((f_0 : Int) ≤ 11)) := hk
            subst hk
            exact At.fin hm ht ⟨[(3, .b true), (8, .b true)], [], [], [2], []⟩ [((f_1 : Int) == 0) = true, (decide ((f_0 : Int) ≥ 1)) = true] (by kernel_rfl) ⟨b98_3, b98_8, trivial⟩
          · have h := Option.some.inj h
            subst h
            have hk : o = f88_broughamref35_own_out false := hk
            subst hk
            exact At.fin hm ht ⟨[(3, .b true), (8, .b false)], [], [], [2], []⟩ [((f_1 : Int) == 0) = true, (decide ((f_0 : Int) ≥ 1)) = false] (by kernel_rfl) ⟨b98_3, b98_8, trivial⟩
        · have h := Option.some.inj h
          subst h
          have hk : o = f88_broughamref35_own_out false := hk
          subst hk
          exact At.fin hm ht ⟨[(3, .b false)], [], [], [2], []⟩ [((f_1 : Int) == 0) = false] (by kernel_rfl) ⟨b98_3, trivial⟩
def f88_broughamref35_own_L6 : Nat → Int → Int → Int → (List (Int × Int × List FT)) → Option (Bool)
  | 0, _, _, _, _ => none
  | n + 1, below, f_0, f_1, f_2 =>
    if ((((f_2.length : Nat) : Int) : Int) != below) = true then
      some (false)
    else
      if ((f_0 : Int) == 2) = true then
        if ((f_1 : Int) == 1) = true then
          some (true)
        else
          if ((f_1 : Int) == 2) = true then
            some (true)
          else
            some (((f_1 : Int) == 4))
      else
        if ((f_0 : Int) == 3) = true then
          if ((f_0 : Int) == 3) = true then
            if (decide ((f_1 : Int) ≥ 0)) = true then
              some ((decide ((f_1 : Int) ≤ 65535)))
            else
              some (false)
          else
            (f88_broughamref35_own_L15 n f_0 f_0 f_1 f_2).bind fun w99 =>
            some (w99)
        else
          if ((f_0 : Int) == 4) = true then
            if ((f_0 : Int) == 4) = true then
              if (decide ((f_1 : Int) ≥ 0)) = true then
                some ((decide ((f_1 : Int) ≤ 65535)))
              else
                some (false)
            else
              (f88_broughamref35_own_L15 n f_0 f_0 f_1 f_2).bind fun w103 =>
              some (w103)
          else
            if ((f_0 : Int) == 5) = true then
              if (decide ((f_1 : Int) ≥ 0)) = true then
                some ((decide ((f_1 : Int) ≤ 65535)))
              else
                some (false)
            else
              (f88_broughamref35_own_L15 n f_0 f_0 f_1 f_2).bind fun w107 =>
              some (w107)
def f88_broughamref35_own_L6_k (e : Bool) (o : Out) : Prop := o = f88_broughamref35_own_out e
theorem f88_broughamref35_own_L6_ok (n : Nat) : ∀ (below : Int) (f_0 : Int) (f_1 : Int) (f_2 : List (Int × Int × List FT)) (w : Bool) (h : f88_broughamref35_own_L6 n below f_0 f_1 f_2 = some w) (o : Out) (hk : f88_broughamref35_own_L6_k w o), At Tryd.prog Tryd.f88 0 6 ⟨[(1, oc (.ptr 0 0)), (3, oc (zi below))], [], [(0, [zi f_0, zi f_1, .d (.sl (.pair (.int .i64) (.pair (.int .i64) .wood)) f_2)])], 1⟩ o := by
  induction n with
  | zero => intro below f_0 f_1 f_2 w h; rw [f88_broughamref35_own_L6] at h; cases h
  | succ n ih =>
    intro below f_0 f_1 f_2 w h o hk
    rw [f88_broughamref35_own_L6] at h
    rcases iteS h with ⟨b87_e0, h⟩ | ⟨b87_e0, h⟩
    · refine At.step hm ht ⟨[], [true], [], [], []⟩ 7 ⟨[], [], [], 0⟩ [((((f_2.length : Nat) : Int) : Int) != below) = true] (by kernel_rfl) ⟨b87_e0, trivial⟩ ?_
      have h := Option.some.inj h
      subst h
      have hk : o = f88_broughamref35_own_out false := hk
      subst hk
      exact At.fin hm ht ⟨[], [], [], [2], []⟩ [] (by kernel_rfl) trivial
    · refine At.step hm ht ⟨[], [false], [], [1], [0]⟩ 8 ⟨[(1, oc (.ptr 0 0))], [], [(0, [zi f_0, zi f_1, .d (.sl (.pair (.int .i64) (.pair (.int .i64) .wood)) f_2)])], 1⟩ [((((f_2.length : Nat) : Int) : Int) != below) = false] (by kernel_rfl) ⟨b87_e0, trivial⟩ ?_
      refine At.step hm ht ⟨[], [], [], [1, 21], [0]⟩ 9 ⟨[(1, oc (.ptr 0 0)), (21, oc (zi f_0))], [], [(0, [zi f_0, zi f_1, .d (.sl (.pair (.int .i64) (.pair (.int .i64) .wood)) f_2)])], 1⟩ [] (by kernel_rfl) trivial ?_
      rcases iteS h with ⟨b90_e0, h⟩ | ⟨b90_e0, h⟩
      · refine At.step hm ht ⟨[], [true], [], [1], [0]⟩ 10 ⟨[(1, oc (.ptr 0 0))], [], [(0, [zi f_0, zi f_1, .d (.sl (.pair (.int .i64) (.pair (.int .i64) .wood)) f_2)])], 1⟩ [((f_0 : Int) == 2) = true] (by kernel_rfl) ⟨b90_e0, trivial⟩ ?_
        rcases iteS h with ⟨b91_3, h⟩ | ⟨b91_3, h⟩
        · have h := Option.some.inj h
          subst h
          have hk : o = f88_broughamref35_own_out true := hk
          subst hk
          exact At.fin hm ht ⟨[(3, .b true)], [], [], [2], []⟩ [((f_1 : Int) == 1) = true] (by kernel_rfl) ⟨b91_3, trivial⟩
        · rcases iteS h with ⟨b91_8, h⟩ | ⟨b91_8, h⟩
          · have h := Option.some.inj h
            subst h
            have hk : o = f88_broughamref35_own_out true := hk
            subst hk
            exact At.fin hm ht ⟨[(3, .b false), (8, .b true)], [], [], [2], []⟩ [((f_1 : Int) == 1) = false, ((f_1 : Int) == 2) = true] (by kernel_rfl) ⟨b91_3, b91_8, trivial⟩
          · have h := Option.some.inj h
            subst h
            have hk : o = f88_broughamref35_own_out ((f_1 : Int) == 4) := hk
            subst hk
            exact At.fin hm ht ⟨[(3, .b false), (8, .b false)], [], [], [2], []⟩ [((f_1 : Int) == 1) = false, ((f_1 : Int) == 2) = false] (by kernel_rfl) ⟨b91_3, b91_8, trivial⟩
      · refine At.step hm ht ⟨[], [false], [], [1, 21], [0]⟩ 11 ⟨[(1, oc (.ptr 0 0)), (21, oc (zi f_0))], [], [(0, [zi f_0, zi f_1, .d (.sl (.pair (.int .i64) (.pair (.int .i64) .wood)) f_2)])], 1⟩ [((f_0 : Int) == 2) = false] (by kernel_rfl) ⟨b90_e0, trivial⟩ ?_
        rcases iteS h with ⟨b92_e0, h⟩ | ⟨b92_e0, h⟩
        · rcases iteS h with ⟨b92_e1, h⟩ | ⟨b92_e1, h⟩
          · refine At.step hm ht ⟨[], [true, true], [], [1], [0]⟩ 14 ⟨[(1, oc (.ptr 0 0))], [], [(0, [zi f_0, zi f_1, .d (.sl (.pair (.int .i64) (.pair (.int .i64) .wood)) f_2)])], 1⟩ [((f_0 : Int) == 3) = true, ((f_0 : Int) == 3) = true] (by kernel_rfl) ⟨b92_e0, b92_e1, trivial⟩ ?_
            rcases iteS h with ⟨b93_3, h⟩ | ⟨b93_3, h⟩
            · have h := Option.some.inj h
              subst h
              have hk : o = f88_broughamref35_own_out (decide ((f_1 : Int) ≤ 65535)) := hk
              subst hk
              exact At.fin hm ht ⟨[(3, .b true)], [], [], [2], []⟩ [(decide ((f_1 : Int) ≥ 0)) = true] (by kernel_rfl) ⟨b93_3, trivial⟩
            · have h := Option.some.inj h
              subst h
              have hk : o = f88_broughamref35_own_out false := hk
              subst hk
              exact At.fin hm ht ⟨[(3, .b false)], [], [], [2], []⟩ [(decide ((f_1 : Int) ≥ 0)) = false] (by kernel_rfl) ⟨b93_3, trivial⟩
          · refine At.step hm ht ⟨[], [true, false], [], [1, 21], [0]⟩ 15 ⟨[(1, oc (.ptr 0 0)), (21, oc (zi f_0))], [], [(0, [zi f_0, zi f_1, .d (.sl (.pair (.int .i64) (.pair (.int .i64) .wood)) f_2)])], 1⟩ [((f_0 : Int) == 3) = true, ((f_0 : Int) == 3) = false] (by kernel_rfl) ⟨b92_e0, b92_e1, trivial⟩ ?_
            obtain ⟨w99, cw99, h⟩ := bindS h
            refine f88_broughamref35_own_L15_ok n f_0 f_0 f_1 f_2 w99 cw99 _ ?_
            have h := Option.some.inj h
            subst h
            exact hk
        · refine At.step hm ht ⟨[], [false], [], [1, 21], [0]⟩ 12 ⟨[(1, oc (.ptr 0 0)), (21, oc (zi f_0))], [], [(0, [zi f_0, zi f_1, .d (.sl (.pair (.int .i64) (.pair (.int .i64) .wood)) f_2)])], 1⟩ [((f_0 : Int) == 3) = false] (by kernel_rfl) ⟨b92_e0, trivial⟩ ?_
          rcases iteS h with ⟨b101_e0, h⟩ | ⟨b101_e0, h⟩
          · rcases iteS h with ⟨b101_e1, h⟩ | ⟨b101_e1, h⟩
            · refine At.step hm ht ⟨[], [true, true], [], [1], [0]⟩ 14 ⟨[(1, oc (.ptr 0 0))], [], [(0, [zi f_0, zi f_1, .d (.sl (.pair (.int .i64) (.pair (.int .i64) .wood)) f_2)])], 1⟩ [((f_0 : Int) == 4) = true, ((f_0 : Int) == 4) = true] (by kernel_rfl) ⟨b101_e0, b101_e1, trivial⟩ ?_
              rcases iteS h with ⟨b102_3, h⟩ | ⟨b102_3, h⟩
              · have h := Option.some.inj h
                subst h
                have hk : o = f88_broughamref35_own_out (decide ((f_1 : Int) ≤ 65535)) := hk
                subst hk
                exact At.fin hm ht ⟨[(3, .b true)], [], [], [2], []⟩ [(decide ((f_1 : Int) ≥ 0)) = true] (by kernel_rfl) ⟨b102_3, trivial⟩
              · have h := Option.some.inj h
                subst h
                have hk : o = f88_broughamref35_own_out false := hk
                subst hk
                exact At.fin hm ht ⟨[(3, .b false)], [], [], [2], []⟩ [(decide ((f_1 : Int) ≥ 0)) = false] (by kernel_rfl) ⟨b102_3, trivial⟩
            · refine At.step hm ht ⟨[], [true, false], [], [1, 21], [0]⟩ 15 ⟨[(1, oc (.ptr 0 0)), (21, oc (zi f_0))], [], [(0, [zi f_0, zi f_1, .d (.sl (.pair (.int .i64) (.pair (.int .i64) .wood)) f_2)])], 1⟩ [((f_0 : Int) == 4) = true, ((f_0 : Int) == 4) = false] (by kernel_rfl) ⟨b101_e0, b101_e1, trivial⟩ ?_
              obtain ⟨w103, cw103, h⟩ := bindS h
              refine f88_broughamref35_own_L15_ok n f_0 f_0 f_1 f_2 w103 cw103 _ ?_
              have h := Option.some.inj h
              subst h
              exact hk
          · refine At.step hm ht ⟨[], [false], [], [1, 21], [0]⟩ 13 ⟨[(1, oc (.ptr 0 0)), (21, oc (zi f_0))], [], [(0, [zi f_0, zi f_1, .d (.sl (.pair (.int .i64) (.pair (.int .i64) .wood)) f_2)])], 1⟩ [((f_0 : Int) == 4) = false] (by kernel_rfl) ⟨b101_e0, trivial⟩ ?_
            rcases iteS h with ⟨b105_e0, h⟩ | ⟨b105_e0, h⟩
            · refine At.step hm ht ⟨[], [true], [], [1], [0]⟩ 14 ⟨[(1, oc (.ptr 0 0))], [], [(0, [zi f_0, zi f_1, .d (.sl (.pair (.int .i64) (.pair (.int .i64) .wood)) f_2)])], 1⟩ [((f_0 : Int) == 5) = true] (by kernel_rfl) ⟨b105_e0, trivial⟩ ?_
              rcases iteS h with ⟨b106_3, h⟩ | ⟨b106_3, h⟩
              · have h := Option.some.inj h
                subst h
                have hk : o = f88_broughamref35_own_out (decide ((f_1 : Int) ≤ 65535)) := hk
                subst hk
                exact At.fin hm ht ⟨[(3, .b true)], [], [], [2], []⟩ [(decide ((f_1 : Int) ≥ 0)) = true] (by kernel_rfl) ⟨b106_3, trivial⟩
              · have h := Option.some.inj h
                subst h
                have hk : o = f88_broughamref35_own_out false := hk
                subst hk
                exact At.fin hm ht ⟨[(3, .b false)], [], [], [2], []⟩ [(decide ((f_1 : Int) ≥ 0)) = false] (by kernel_rfl) ⟨b106_3, trivial⟩
            · refine At.step hm ht ⟨[], [false], [], [1, 21], [0]⟩ 15 ⟨[(1, oc (.ptr 0 0)), (21, oc (zi f_0))], [], [(0, [zi f_0, zi f_1, .d (.sl (.pair (.int .i64) (.pair (.int .i64) .wood)) f_2)])], 1⟩ [((f_0 : Int) == 5) = false] (by kernel_rfl) ⟨b105_e0, trivial⟩ ?_
              obtain ⟨w107, cw107, h⟩ := bindS h
              refine f88_broughamref35_own_L15_ok n f_0 f_0 f_1 f_2 w107 cw107 _ ?_
              have h := Option.some.inj h
              subst h
              exact hk
def f88_broughamref35_own (n : Nat) (f_0 : Int) (f_1 : Int) (f_2 : List (Int × Int × List FT)) : Option (Bool) :=
  if ((f_0 : Int) == 8) = true then
    if ((f_0 : Int) == 9) = true then
      (f88_broughamref35_own_L6 n 2 f_0 f_1 f_2).bind fun w109 =>
      some w109
    else
      if ((f_0 : Int) == 10) = true then
        (f88_broughamref35_own_L6 n 2 f_0 f_1 f_2).bind fun w112 =>
        some w112
      else
        (f88_broughamref35_own_L6 n 1 f_0 f_1 f_2).bind fun w114 =>
        some w114
  else
    if ((f_0 : Int) == 9) = true then
      (f88_broughamref35_own_L6 n 2 f_0 f_1 f_2).bind fun w118 =>
      some w118
    else
      if ((f_0 : Int) == 10) = true then
        (f88_broughamref35_own_L6 n 2 f_0 f_1 f_2).bind fun w121 =>
        some w121
      else
        (f88_broughamref35_own_L6 n 0 f_0 f_1 f_2).bind fun w123 =>
        some w123
theorem f88_broughamref35_own_ok (n : Nat) (f_0 : Int) (f_1 : Int) (f_2 : List (Int × Int × List FT)) (r : Bool) (h : f88_broughamref35_own n f_0 f_1 f_2 = some r) : FnOK Tryd.prog 88 (f88_broughamref35_own_in f_0 f_1 f_2) (f88_broughamref35_own_out r) := by
  unfold f88_broughamref35_own at h
  refine At.fn (r := 0) Tryd.func88 rfl (by kernel_rfl) rfl rfl (by kernel_rfl) ?_
  show At Tryd.prog Tryd.f88 0 0 ⟨[(0, .one (.agg [zi f_0, zi f_1, .d (.sl (.pair (.int .i64) (.pair (.int .i64) .wood)) f_2)]))], [], [], 0⟩ _
  refine At.step hm ht ⟨[], [], [], [1], [0]⟩ 1 ⟨[(1, oc (.ptr 0 0))], [], [(0, [zi f_0, zi f_1, .d (.sl (.pair (.int .i64) (.pair (.int .i64) .wood)) f_2)])], 1⟩ [] (by kernel_rfl) trivial ?_
  refine At.step hm ht ⟨[], [], [], [1, 3], [0]⟩ 2 ⟨[(1, oc (.ptr 0 0)), (3, oc (zi 0))], [], [(0, [zi f_0, zi f_1, .d (.sl (.pair (.int .i64) (.pair (.int .i64) .wood)) f_2)])], 1⟩ [] (by kernel_rfl) trivial ?_
  rcases iteS h with ⟨b83_e0, h⟩ | ⟨b83_e0, h⟩
  · refine At.step hm ht ⟨[], [true], [], [1], [0]⟩ 3 ⟨[(1, oc (.ptr 0 0))], [], [(0, [zi f_0, zi f_1, .d (.sl (.pair (.int .i64) (.pair (.int .i64) .wood)) f_2)])], 1⟩ [((f_0 : Int) == 8) = true] (by kernel_rfl) ⟨b83_e0, trivial⟩ ?_
    refine At.step hm ht ⟨[], [], [], [1, 3], [0]⟩ 4 ⟨[(1, oc (.ptr 0 0)), (3, oc (zi 1))], [], [(0, [zi f_0, zi f_1, .d (.sl (.pair (.int .i64) (.pair (.int .i64) .wood)) f_2)])], 1⟩ [] (by kernel_rfl) trivial ?_
    rcases iteS h with ⟨b85_3, h⟩ | ⟨b85_3, h⟩
    · refine At.step hm ht ⟨[(3, .b true)], [true], [], [1], [0]⟩ 5 ⟨[(1, oc (.ptr 0 0))], [], [(0, [zi f_0, zi f_1, .d (.sl (.pair (.int .i64) (.pair (.int .i64) .wood)) f_2)])], 1⟩ [((f_0 : Int) == 9) = true, true = true] (by kernel_rfl) ⟨b85_3, rfl, trivial⟩ ?_
      refine At.step hm ht ⟨[], [], [], [1, 3], [0]⟩ 6 ⟨[(1, oc (.ptr 0 0)), (3, oc (zi 2))], [], [(0, [zi f_0, zi f_1, .d (.sl (.pair (.int .i64) (.pair (.int .i64) .wood)) f_2)])], 1⟩ [] (by kernel_rfl) trivial ?_
      obtain ⟨w109, cw109, h⟩ := bindS h
      refine f88_broughamref35_own_L6_ok n 2 f_0 f_1 f_2 w109 cw109 _ ?_
      have h := Option.some.inj h
      subst h
      rfl
    · rcases iteS h with ⟨b85_e0, h⟩ | ⟨b85_e0, h⟩
      · refine At.step hm ht ⟨[(3, .b false)], [true], [], [1], [0]⟩ 5 ⟨[(1, oc (.ptr 0 0))], [], [(0, [zi f_0, zi f_1, .d (.sl (.pair (.int .i64) (.pair (.int .i64) .wood)) f_2)])], 1⟩ [((f_0 : Int) == 9) = false, ((f_0 : Int) == 10) = true] (by kernel_rfl) ⟨b85_3, b85_e0, trivial⟩ ?_
        refine At.step hm ht ⟨[], [], [], [1, 3], [0]⟩ 6 ⟨[(1, oc (.ptr 0 0)), (3, oc (zi 2))], [], [(0, [zi f_0, zi f_1, .d (.sl (.pair (.int .i64) (.pair (.int .i64) .wood)) f_2)])], 1⟩ [] (by kernel_rfl) trivial ?_
        obtain ⟨w112, cw112, h⟩ := bindS h
        refine f88_broughamref35_own_L6_ok n 2 f_0 f_1 f_2 w112 cw112 _ ?_
        have h := Option.some.inj h
        subst h
        rfl
      · refine At.step hm ht ⟨[(3, .b false)], [false], [], [1, 3], [0]⟩ 6 ⟨[(1, oc (.ptr 0 0)), (3, oc (zi 1))], [], [(0, [zi f_0, zi f_1, .d (.sl (.pair (.int .i64) (.pair (.int .i64) .wood)) f_2)])], 1⟩ [((f_0 : Int) == 9) = false, ((f_0 : Int) == 10) = false] (by kernel_rfl) ⟨b85_3, b85_e0, trivial⟩ ?_
        obtain ⟨w114, cw114, h⟩ := bindS h
        refine f88_broughamref35_own_L6_ok n 1 f_0 f_1 f_2 w114 cw114 _ ?_
        have h := Option.some.inj h
        subst h
        rfl
  · refine At.step hm ht ⟨[], [false], [], [1, 3], [0]⟩ 4 ⟨[(1, oc (.ptr 0 0)), (3, oc (zi 0))], [], [(0, [zi f_0, zi f_1, .d (.sl (.pair (.int .i64) (.pair (.int .i64) .wood)) f_2)])], 1⟩ [((f_0 : Int) == 8) = false] (by kernel_rfl) ⟨b83_e0, trivial⟩ ?_
    rcases iteS h with ⟨b116_3, h⟩ | ⟨b116_3, h⟩
    · refine At.step hm ht ⟨[(3, .b true)], [true], [], [1], [0]⟩ 5 ⟨[(1, oc (.ptr 0 0))], [], [(0, [zi f_0, zi f_1, .d (.sl (.pair (.int .i64) (.pair (.int .i64) .wood)) f_2)])], 1⟩ [((f_0 : Int) == 9) = true, true = true] (by kernel_rfl) ⟨b116_3, rfl, trivial⟩ ?_
      refine At.step hm ht ⟨[], [], [], [1, 3], [0]⟩ 6 ⟨[(1, oc (.ptr 0 0)), (3, oc (zi 2))], [], [(0, [zi f_0, zi f_1, .d (.sl (.pair (.int .i64) (.pair (.int .i64) .wood)) f_2)])], 1⟩ [] (by kernel_rfl) trivial ?_
      obtain ⟨w118, cw118, h⟩ := bindS h
      refine f88_broughamref35_own_L6_ok n 2 f_0 f_1 f_2 w118 cw118 _ ?_
      have h := Option.some.inj h
      subst h
      rfl
    · rcases iteS h with ⟨b116_e0, h⟩ | ⟨b116_e0, h⟩
      · refine At.step hm ht ⟨[(3, .b false)], [true], [], [1], [0]⟩ 5 ⟨[(1, oc (.ptr 0 0))], [], [(0, [zi f_0, zi f_1, .d (.sl (.pair (.int .i64) (.pair (.int .i64) .wood)) f_2)])], 1⟩ [((f_0 : Int) == 9) = false, ((f_0 : Int) == 10) = true] (by kernel_rfl) ⟨b116_3, b116_e0, trivial⟩ ?_
        refine At.step hm ht ⟨[], [], [], [1, 3], [0]⟩ 6 ⟨[(1, oc (.ptr 0 0)), (3, oc (zi 2))], [], [(0, [zi f_0, zi f_1, .d (.sl (.pair (.int .i64) (.pair (.int .i64) .wood)) f_2)])], 1⟩ [] (by kernel_rfl) trivial ?_
        obtain ⟨w121, cw121, h⟩ := bindS h
        refine f88_broughamref35_own_L6_ok n 2 f_0 f_1 f_2 w121 cw121 _ ?_
        have h := Option.some.inj h
        subst h
        rfl
      · refine At.step hm ht ⟨[(3, .b false)], [false], [], [1, 3], [0]⟩ 6 ⟨[(1, oc (.ptr 0 0)), (3, oc (zi 0))], [], [(0, [zi f_0, zi f_1, .d (.sl (.pair (.int .i64) (.pair (.int .i64) .wood)) f_2)])], 1⟩ [((f_0 : Int) == 9) = false, ((f_0 : Int) == 10) = false] (by kernel_rfl) ⟨b116_3, b116_e0, trivial⟩ ?_
        obtain ⟨w123, cw123, h⟩ := bindS h
        refine f88_broughamref35_own_L6_ok n 0 f_0 f_1 f_2 w123 cw123 _ ?_
        have h := Option.some.inj h
        subst h
        rfl
/-! brougham/broughamref35.all -/
def f58_broughamref35_all_in (f_0 : Int) (f_1 : Int) (f_2 : List (Int × Int × List FT)) : Inn := ⟨[.agg [zi f_0, zi f_1, .d (.sl (.pair (.int .i64) (.pair (.int .i64) .wood)) f_2)]], [], [], 0⟩
def f58_broughamref35_all_out (r : Bool) : Out := ⟨oc (.d (.bool r)), [], [], 0⟩
def f58_broughamref35_all_L2 (rc_f58_broughamref35_all : Int → Int → (List (Int × Int × List FT)) → Option (Bool)) : Nat → Int → Int → Int → (List (Int × Int × List FT)) → Option ((Bool) ⊕ (Int × Int × List (Int × Int × List FT)))
  | 0, _, _, _, _ => none
  | n + 1, i, f_0, f_1, f_2 =>
    if (decide ((i : Int) < ((f_2.length : Nat) : Int))) = true then
      if (0 : Int) ≤ i ∧ i < (((f_2).length : Nat) : Int) then
      (rc_f58_broughamref35_all ((f_2.getD i.toNat (0, (0, []))).1) (((f_2.getD i.toNat (0, (0, []))).2).1) ((((f_2.getD i.toNat (0, (0, []))).2).2).map FT.un)).bind fun r128_1 =>
      if (!r128_1) = true then
        some (.inl false)
      else
        f58_broughamref35_all_L2 rc_f58_broughamref35_all n (IntKind.wrap .i64 (i + 1)) f_0 f_1 f_2
      else none
    else
      some (.inr ((f_0, f_1, f_2)))
def f58_broughamref35_all_L2_k (w : (Bool) ⊕ (Int × Int × List (Int × Int × List FT))) (o : Out) : Prop := match w with
  | .inl e => o = f58_broughamref35_all_out e
  | .inr e => At Tryd.prog Tryd.f58 0 6 ⟨[(1, oc (.ptr 0 0))], [], [(0, [zi e.1, zi e.2.1, .d (.sl (.pair (.int .i64) (.pair (.int .i64) .wood)) e.2.2)])], 1⟩ o
theorem f58_broughamref35_all_L2_ok (rc_f58_broughamref35_all : Int → Int → (List (Int × Int × List FT)) → Option (Bool)) (hrc_f58_broughamref35_all : ∀ (f_0 : Int) (f_1 : Int) (f_2 : List (Int × Int × List FT)) (r : Bool) (h : rc_f58_broughamref35_all f_0 f_1 f_2 = some r), FnOK Tryd.prog 58 (f58_broughamref35_all_in f_0 f_1 f_2) (f58_broughamref35_all_out r)) (n : Nat) : ∀ (i : Int) (f_0 : Int) (f_1 : Int) (f_2 : List (Int × Int × List FT)) (w : (Bool) ⊕ (Int × Int × List (Int × Int × List FT))) (h : f58_broughamref35_all_L2 rc_f58_broughamref35_all n i f_0 f_1 f_2 = some w) (o : Out) (hk : f58_broughamref35_all_L2_k w o), At Tryd.prog Tryd.f58 0 2 ⟨[(1, oc (.ptr 0 0)), (3, oc (zi i))], [], [(0, [zi f_0, zi f_1, .d (.sl (.pair (.int .i64) (.pair (.int .i64) .wood)) f_2)])], 1⟩ o := by
  induction n with
  | zero => intro i f_0 f_1 f_2 w h; rw [f58_broughamref35_all_L2] at h; cases h
  | succ n ih =>
    intro i f_0 f_1 f_2 w h o hk
    rw [f58_broughamref35_all_L2] at h
    rcases iteS h with ⟨b127_e0, h⟩ | ⟨b127_e0, h⟩
    · refine At.step hm ht ⟨[], [true], [], [1, 3], [0]⟩ 4 ⟨[(1, oc (.ptr 0 0)), (3, oc (zi i))], [], [(0, [zi f_0, zi f_1, .d (.sl (.pair (.int .i64) (.pair (.int .i64) .wood)) f_2)])], 1⟩ [(decide ((i : Int) < ((f_2.length : Nat) : Int))) = true] (by kernel_rfl) ⟨b127_e0, trivial⟩ ?_
      obtain ⟨g128_0, h⟩ := ifS h
      obtain ⟨r128_1, cr128_1, h⟩ := bindS h
      rcases iteS h with ⟨b128_e0, h⟩ | ⟨b128_e0, h⟩
      · refine At.step hm ht ⟨[(5, .call [] [] (f58_broughamref35_all_out r128_1))], [true], [], [], []⟩ 5 ⟨[], [], [], 0⟩ [(0 : Int) ≤ i ∧ i < (((f_2).length : Nat) : Int), FnOK Tryd.prog 58 (f58_broughamref35_all_in ((f_2.getD i.toNat (0, (0, []))).1) (((f_2.getD i.toNat (0, (0, []))).2).1) ((((f_2.getD i.toNat (0, (0, []))).2).2).map FT.un)) (f58_broughamref35_all_out r128_1), (!r128_1) = true] (by kernel_rfl) ⟨g128_0, (hrc_f58_broughamref35_all ((f_2.getD i.toNat (0, (0, []))).1) (((f_2.getD i.toNat (0, (0, []))).2).1) ((((f_2.getD i.toNat (0, (0, []))).2).2).map FT.un) r128_1 cr128_1), b128_e0, trivial⟩ ?_
        have h := Option.some.inj h
        subst h
        have hk : o = f58_broughamref35_all_out false := hk
        subst hk
        exact At.fin hm ht ⟨[], [], [], [2], []⟩ [] (by kernel_rfl) trivial
      · refine At.step hm ht ⟨[(5, .call [] [] (f58_broughamref35_all_out r128_1))], [false], [], [1, 3], [0]⟩ 3 ⟨[(1, oc (.ptr 0 0)), (3, oc (zi i))], [], [(0, [zi f_0, zi f_1, .d (.sl (.pair (.int .i64) (.pair (.int .i64) .wood)) f_2)])], 1⟩ [(0 : Int) ≤ i ∧ i < (((f_2).length : Nat) : Int), FnOK Tryd.prog 58 (f58_broughamref35_all_in ((f_2.getD i.toNat (0, (0, []))).1) (((f_2.getD i.toNat (0, (0, []))).2).1) ((((f_2.getD i.toNat (0, (0, []))).2).2).map FT.un)) (f58_broughamref35_all_out r128_1), (!r128_1) = false] (by kernel_rfl) ⟨g128_0, (hrc_f58_broughamref35_all ((f_2.getD i.toNat (0, (0, []))).1) (((f_2.getD i.toNat (0, (0, []))).2).1) ((((f_2.getD i.toNat (0, (0, []))).2).2).map FT.un) r128_1 cr128_1), b128_e0, trivial⟩ ?_
        refine At.step hm ht ⟨[], [], [], [1, 3], [0]⟩ 2 ⟨[(1, oc (.ptr 0 0)), (3, oc (zi (IntKind.wrap .i64 (i + 1))))], [], [(0, [zi f_0, zi f_1, .d (.sl (.pair (.int .i64) (.pair (.int .i64) .wood)) f_2)])], 1⟩ [] (by kernel_rfl) trivial ?_
        exact ih (IntKind.wrap .i64 (i + 1)) f_0 f_1 f_2 w h o hk
    · refine At.step hm ht ⟨[], [false], [], [1], [0]⟩ 6 ⟨[(1, oc (.ptr 0 0))], [], [(0, [zi f_0, zi f_1, .d (.sl (.pair (.int .i64) (.pair (.int .i64) .wood)) f_2)])], 1⟩ [(decide ((i : Int) < ((f_2.length : Nat) : Int))) = false] (by kernel_rfl) ⟨b127_e0, trivial⟩ ?_
      have h := Option.some.inj h
      subst h
      exact hk
def f58_broughamref35_all : Nat → Int → Int → (List (Int × Int × List FT)) → Option (Bool)
  | 0, _, _, _ => none
  | n + 1, f_0, f_1, f_2 =>
    (f58_broughamref35_all_L2 (f58_broughamref35_all n) n 0 f_0 f_1 f_2).bind fun w131 =>
    match w131 with
    | .inl e132 =>
      some e132
    | .inr e133 =>
      (f88_broughamref35_own n e133.1 e133.2.1 e133.2.2).bind fun r134_0 =>
      some r134_0
theorem f58_broughamref35_all_ok (n : Nat) : ∀ (f_0 : Int) (f_1 : Int) (f_2 : List (Int × Int × List FT)) (r : Bool) (h : f58_broughamref35_all n f_0 f_1 f_2 = some r), FnOK Tryd.prog 58 (f58_broughamref35_all_in f_0 f_1 f_2) (f58_broughamref35_all_out r) := by
  induction n with
  | zero => intro f_0 f_1 f_2 r h; rw [f58_broughamref35_all] at h; cases h
  | succ n ih =>
    intro f_0 f_1 f_2 r h
    rw [f58_broughamref35_all] at h
    refine At.fn (r := 0) Tryd.func58 rfl (by kernel_rfl) rfl rfl (by kernel_rfl) ?_
    show At Tryd.prog Tryd.f58 0 0 ⟨[(0, .one (.agg [zi f_0, zi f_1, .d (.sl (.pair (.int .i64) (.pair (.int .i64) .wood)) f_2)]))], [], [], 0⟩ _
    refine At.step hm ht ⟨[], [], [], [1], [0]⟩ 1 ⟨[(1, oc (.ptr 0 0))], [], [(0, [zi f_0, zi f_1, .d (.sl (.pair (.int .i64) (.pair (.int .i64) .wood)) f_2)])], 1⟩ [] (by kernel_rfl) trivial ?_
    refine At.step hm ht ⟨[], [], [], [1, 3], [0]⟩ 2 ⟨[(1, oc (.ptr 0 0)), (3, oc (zi 0))], [], [(0, [zi f_0, zi f_1, .d (.sl (.pair (.int .i64) (.pair (.int .i64) .wood)) f_2)])], 1⟩ [] (by kernel_rfl) trivial ?_
    obtain ⟨w131, cw131, h⟩ := bindS h
    refine f58_broughamref35_all_L2_ok (f58_broughamref35_all n) ih n 0 f_0 f_1 f_2 w131 cw131 _ ?_
    rcases w131 with e132 | e133
    · have h := Option.some.inj h
      subst h
      rfl
    · show At Tryd.prog Tryd.f58 0 6 ⟨[(1, oc (.ptr 0 0))], [], [(0, [zi e133.1, zi e133.2.1, .d (.sl (.pair (.int .i64) (.pair (.int .i64) .wood)) e133.2.2)])], 1⟩ _
      obtain ⟨r134_0, cr134_0, h⟩ := bindS h
      have h := Option.some.inj h
      subst h
      exact At.fin hm ht ⟨[(1, .call [] [] (f88_broughamref35_own_out r134_0))], [], [], [2], []⟩ [FnOK Tryd.prog 88 (f88_broughamref35_own_in e133.1 e133.2.1 e133.2.2) (f88_broughamref35_own_out r134_0)] (by kernel_rfl) ⟨(f88_broughamref35_own_ok n e133.1 e133.2.1 e133.2.2 r134_0 cr134_0), trivial⟩
/-! brougham/broughamref35.Right -/
def f30_broughamref35_Right_in (f_0 : Int) (f_1 : Int) (f_2 : List (Int × Int × List FT)) : Inn := ⟨[.agg [zi f_0, zi f_1, .d (.sl (.pair (.int .i64) (.pair (.int .i64) .wood)) f_2)]], [], [], 0⟩
def f30_broughamref35_Right_out (r : Bool) : Out := ⟨oc (.d (.bool r)), [], [], 0⟩
def f30_broughamref35_Right (n : Nat) (f_0 : Int) (f_1 : Int) (f_2 : List (Int × Int × List FT)) : Option (Bool) :=
  (f57_broughamref35_depth n f_0 f_1 f_2).bind fun r53_0 =>
  if (decide ((r53_0 : Int) ≤ 16)) = true then
    (f58_broughamref35_all n f_0 f_1 f_2).bind fun r53_1 =>
    some r53_1
  else
    some false
theorem f30_broughamref35_Right_ok (n : Nat) (f_0 : Int) (f_1 : Int) (f_2 : List (Int × Int × List FT)) (r : Bool) (h : f30_broughamref35_Right n f_0 f_1 f_2 = some r) : FnOK Tryd.prog 30 (f30_broughamref35_Right_in f_0 f_1 f_2) (f30_broughamref35_Right_out r) := by
  unfold f30_broughamref35_Right at h
  refine At.fn (r := 0) Tryd.func30 rfl (by kernel_rfl) rfl rfl (by kernel_rfl) ?_
  show At Tryd.prog Tryd.f30 0 0 ⟨[(0, .one (.agg [zi f_0, zi f_1, .d (.sl (.pair (.int .i64) (.pair (.int .i64) .wood)) f_2)]))], [], [], 0⟩ _
  refine At.step hm ht ⟨[], [], [], [1], [0]⟩ 1 ⟨[(1, oc (.ptr 0 0))], [], [(0, [zi f_0, zi f_1, .d (.sl (.pair (.int .i64) (.pair (.int .i64) .wood)) f_2)])], 1⟩ [] (by kernel_rfl) trivial ?_
  obtain ⟨r53_0, cr53_0, h⟩ := bindS h
  rcases iteS h with ⟨b53_3, h⟩ | ⟨b53_3, h⟩
  · obtain ⟨r53_1, cr53_1, h⟩ := bindS h
    have h := Option.some.inj h
    subst h
    exact At.fin hm ht ⟨[(1, .call [] [] (f57_broughamref35_depth_out r53_0)), (3, .b true), (5, .call [] [] (f58_broughamref35_all_out r53_1))], [], [], [2], []⟩ [FnOK Tryd.prog 57 (f57_broughamref35_depth_in f_0 f_1 f_2) (f57_broughamref35_depth_out r53_0), (decide ((r53_0 : Int) ≤ 16)) = true, FnOK Tryd.prog 58 (f58_broughamref35_all_in f_0 f_1 f_2) (f58_broughamref35_all_out r53_1)] (by kernel_rfl) ⟨(f57_broughamref35_depth_ok n f_0 f_1 f_2 r53_0 cr53_0), b53_3, (f58_broughamref35_all_ok n f_0 f_1 f_2 r53_1 cr53_1), trivial⟩
  · have h := Option.some.inj h
    subst h
    exact At.fin hm ht ⟨[(1, .call [] [] (f57_broughamref35_depth_out r53_0)), (3, .b false)], [], [], [2], []⟩ [FnOK Tryd.prog 57 (f57_broughamref35_depth_in f_0 f_1 f_2) (f57_broughamref35_depth_out r53_0), (decide ((r53_0 : Int) ≤ 16)) = false] (by kernel_rfl) ⟨(f57_broughamref35_depth_ok n f_0 f_1 f_2 r53_0 cr53_0), b53_3, trivial⟩
/-! brougham/filter.right -/
def f59_filter_right_in (f : PT) (left : Int) : Inn := ⟨[.c (.d (.pt f)), .c (zi left)], [], [], 0⟩
def f59_filter_right_out (r : Bool) : Out := ⟨oc (.d (.bool r)), [], [], 0⟩
def f59_filter_right_L13 (rc_f59_filter_right : PT → Int → Option (Bool)) : Nat → PT → Int → Int → Option (Bool)
  | 0, _, _, _ => none
  | n + 1, f, left, t14 =>
    if ((t14 : Int) == 6) = true then
      if PT.isNil f = false then
      if (decide (((PT.num f) : Int) ≥ 1)) = true then
        if PT.isNil f = false then
        if (decide (((PT.num f) : Int) ≤ 255)) = true then
          if PT.isNil f = false then
          if (PT.isNil (PT.fst f)) = true then
            if PT.isNil f = false then
            some ((PT.isNil (PT.snd f)))
            else none
          else
            some (false)
          else none
        else
          some (false)
        else none
      else
        some (false)
      else none
    else
      if ((t14 : Int) == 7) = true then
        if PT.isNil f = false then
        if (decide (((PT.num f) : Int) ≥ 0)) = true then
          if PT.isNil f = false then
          if (decide (((PT.num f) : Int) < 2147483648)) = true then
            if PT.isNil f = false then
            if (PT.isNil (PT.fst f)) = true then
              if PT.isNil f = false then
              some ((PT.isNil (PT.snd f)))
              else none
            else
              some (false)
            else none
          else
            some (false)
          else none
        else
          some (false)
        else none
      else
        if ((t14 : Int) == 8) = true then
          if PT.isNil f = false then
          if (((PT.num f) : Int) == 0) = true then
            if PT.isNil f = false then
            (rc_f59_filter_right (PT.fst f) (IntKind.wrap .i64 (left - 1))).bind fun r154_2 =>
            if r154_2 = true then
              if PT.isNil f = false then
              some ((PT.isNil (PT.snd f)))
              else none
            else
              some (false)
            else none
          else
            some (false)
          else none
        else
          if ((t14 : Int) == 9) = true then
            if ((t14 : Int) == 9) = true then
              if PT.isNil f = false then
              if (((PT.num f) : Int) == 0) = true then
                if PT.isNil f = false then
                (rc_f59_filter_right (PT.fst f) (IntKind.wrap .i64 (left - 1))).bind fun r156_2 =>
                if r156_2 = true then
                  if PT.isNil f = false then
                  (rc_f59_filter_right (PT.snd f) (IntKind.wrap .i64 (left - 1))).bind fun r156_4 =>
                  some (r156_4)
                  else none
                else
                  some (false)
                else none
              else
                some (false)
              else none
            else
              some (false)
          else
            if ((t14 : Int) == 10) = true then
              if PT.isNil f = false then
              if (((PT.num f) : Int) == 0) = true then
                if PT.isNil f = false then
                (rc_f59_filter_right (PT.fst f) (IntKind.wrap .i64 (left - 1))).bind fun r159_2 =>
                if r159_2 = true then
                  if PT.isNil f = false then
                  (rc_f59_filter_right (PT.snd f) (IntKind.wrap .i64 (left - 1))).bind fun r159_4 =>
                  some (r159_4)
                  else none
                else
                  some (false)
                else none
              else
                some (false)
              else none
            else
              some (false)
def f59_filter_right_L13_k (e : Bool) (o : Out) : Prop := o = f59_filter_right_out e
theorem f59_filter_right_L13_ok (rc_f59_filter_right : PT → Int → Option (Bool)) (hrc_f59_filter_right : ∀ (f : PT) (left : Int) (r : Bool) (h : rc_f59_filter_right f left = some r), FnOK Tryd.prog 59 (f59_filter_right_in f left) (f59_filter_right_out r)) (n : Nat) : ∀ (f : PT) (left : Int) (t14 : Int) (w : Bool) (h : f59_filter_right_L13 rc_f59_filter_right n f left t14 = some w) (o : Out) (hk : f59_filter_right_L13_k w o), At Tryd.prog Tryd.f59 0 13 ⟨[(0, oc (.d (.pt f))), (1, oc (zi left)), (14, oc (zi t14))], [], [], 0⟩ o := by
  induction n with
  | zero => intro f left t14 w h; rw [f59_filter_right_L13] at h; cases h
  | succ n ih =>
    intro f left t14 w h o hk
    rw [f59_filter_right_L13] at h
    rcases iteS h with ⟨b149_e0, h⟩ | ⟨b149_e0, h⟩
    · refine At.step hm ht ⟨[], [true], [], [0], []⟩ 14 ⟨[(0, oc (.d (.pt f)))], [], [], 0⟩ [((t14 : Int) == 6) = true] (by kernel_rfl) ⟨b149_e0, trivial⟩ ?_
      obtain ⟨g150_0, h⟩ := ifS h
      rcases iteS h with ⟨b150_5, h⟩ | ⟨b150_5, h⟩
      · obtain ⟨g150_1, h⟩ := ifS h
        rcases iteS h with ⟨b150_12, h⟩ | ⟨b150_12, h⟩
        · obtain ⟨g150_2, h⟩ := ifS h
          rcases iteS h with ⟨b150_19, h⟩ | ⟨b150_19, h⟩
          · obtain ⟨g150_3, h⟩ := ifS h
            have h := Option.some.inj h
            subst h
            have hk : o = f59_filter_right_out (PT.isNil (PT.snd f)) := hk
            subst hk
            exact At.fin hm ht ⟨[(5, .b true), (12, .b true), (19, .b true)], [], [], [4], []⟩ [PT.isNil f = false, (decide (((PT.num f) : Int) ≥ 1)) = true, PT.isNil f = false, (decide (((PT.num f) : Int) ≤ 255)) = true, PT.isNil f = false, (PT.isNil (PT.fst f)) = true, PT.isNil f = false] (by kernel_rfl) ⟨g150_0, b150_5, g150_1, b150_12, g150_2, b150_19, g150_3, trivial⟩
          · have h := Option.some.inj h
            subst h
            have hk : o = f59_filter_right_out false := hk
            subst hk
            exact At.fin hm ht ⟨[(5, .b true), (12, .b true), (19, .b false)], [], [], [4], []⟩ [PT.isNil f = false, (decide (((PT.num f) : Int) ≥ 1)) = true, PT.isNil f = false, (decide (((PT.num f) : Int) ≤ 255)) = true, PT.isNil f = false, (PT.isNil (PT.fst f)) = false] (by kernel_rfl) ⟨g150_0, b150_5, g150_1, b150_12, g150_2, b150_19, trivial⟩
        · have h := Option.some.inj h
          subst h
          have hk : o = f59_filter_right_out false := hk
          subst hk
          exact At.fin hm ht ⟨[(5, .b true), (12, .b false)], [], [], [4], []⟩ [PT.isNil f = false, (decide (((PT.num f) : Int) ≥ 1)) = true, PT.isNil f = false, (decide (((PT.num f) : Int) ≤ 255)) = false] (by kernel_rfl) ⟨g150_0, b150_5, g150_1, b150_12, trivial⟩
      · have h := Option.some.inj h
        subst h
        have hk : o = f59_filter_right_out false := hk
        subst hk
        exact At.fin hm ht ⟨[(5, .b false)], [], [], [4], []⟩ [PT.isNil f = false, (decide (((PT.num f) : Int) ≥ 1)) = false] (by kernel_rfl) ⟨g150_0, b150_5, trivial⟩
    · refine At.step hm ht ⟨[], [false], [], [0, 1, 14], []⟩ 15 ⟨[(0, oc (.d (.pt f))), (1, oc (zi left)), (14, oc (zi t14))], [], [], 0⟩ [((t14 : Int) == 6) = false] (by kernel_rfl) ⟨b149_e0, trivial⟩ ?_
      rcases iteS h with ⟨b151_e0, h⟩ | ⟨b151_e0, h⟩
      · refine At.step hm ht ⟨[], [true], [], [0], []⟩ 16 ⟨[(0, oc (.d (.pt f)))], [], [], 0⟩ [((t14 : Int) == 7) = true] (by kernel_rfl) ⟨b151_e0, trivial⟩ ?_
        obtain ⟨g152_0, h⟩ := ifS h
        rcases iteS h with ⟨b152_5, h⟩ | ⟨b152_5, h⟩
        · obtain ⟨g152_1, h⟩ := ifS h
          rcases iteS h with ⟨b152_12, h⟩ | ⟨b152_12, h⟩
          · obtain ⟨g152_2, h⟩ := ifS h
            rcases iteS h with ⟨b152_19, h⟩ | ⟨b152_19, h⟩
            · obtain ⟨g152_3, h⟩ := ifS h
              have h := Option.some.inj h
              subst h
              have hk : o = f59_filter_right_out (PT.isNil (PT.snd f)) := hk
              subst hk
              exact At.fin hm ht ⟨[(5, .b true), (12, .b true), (19, .b true)], [], [], [4], []⟩ [PT.isNil f = false, (decide (((PT.num f) : Int) ≥ 0)) = true, PT.isNil f = false, (decide (((PT.num f) : Int) < 2147483648)) = true, PT.isNil f = false, (PT.isNil (PT.fst f)) = true, PT.isNil f = false] (by kernel_rfl) ⟨g152_0, b152_5, g152_1, b152_12, g152_2, b152_19, g152_3, trivial⟩
            · have h := Option.some.inj h
              subst h
              have hk : o = f59_filter_right_out false := hk
              subst hk
              exact At.fin hm ht ⟨[(5, .b true), (12, .b true), (19, .b false)], [], [], [4], []⟩ [PT.isNil f = false, (decide (((PT.num f) : Int) ≥ 0)) = true, PT.isNil f = false, (decide (((PT.num f) : Int) < 2147483648)) = true, PT.isNil f = false, (PT.isNil (PT.fst f)) = false] (by kernel_rfl) ⟨g152_0, b152_5, g152_1, b152_12, g152_2, b152_19, trivial⟩
          · have h := Option.some.inj h
            subst h
            have hk : o = f59_filter_right_out false := hk
            subst hk
            exact At.fin hm ht ⟨[(5, .b true), (12, .b false)], [], [], [4], []⟩ [PT.isNil f = false, (decide (((PT.num f) : Int) ≥ 0)) = true, PT.isNil f = false, (decide (((PT.num f) : Int) < 2147483648)) = false] (by kernel_rfl) ⟨g152_0, b152_5, g152_1, b152_12, trivial⟩
        · have h := Option.some.inj h
          subst h
          have hk : o = f59_filter_right_out false := hk
          subst hk
          exact At.fin hm ht ⟨[(5, .b false)], [], [], [4], []⟩ [PT.isNil f = false, (decide (((PT.num f) : Int) ≥ 0)) = false] (by kernel_rfl) ⟨g152_0, b152_5, trivial⟩
      · refine At.step hm ht ⟨[], [false], [], [0, 1, 14], []⟩ 17 ⟨[(0, oc (.d (.pt f))), (1, oc (zi left)), (14, oc (zi t14))], [], [], 0⟩ [((t14 : Int) == 7) = false] (by kernel_rfl) ⟨b151_e0, trivial⟩ ?_
        rcases iteS h with ⟨b153_e0, h⟩ | ⟨b153_e0, h⟩
        · refine At.step hm ht ⟨[], [true], [], [0, 1], []⟩ 18 ⟨[(0, oc (.d (.pt f))), (1, oc (zi left))], [], [], 0⟩ [((t14 : Int) == 8) = true] (by kernel_rfl) ⟨b153_e0, trivial⟩ ?_
          obtain ⟨g154_0, h⟩ := ifS h
          rcases iteS h with ⟨b154_5, h⟩ | ⟨b154_5, h⟩
          · obtain ⟨g154_1, h⟩ := ifS h
            obtain ⟨r154_2, cr154_2, h⟩ := bindS h
            rcases iteS h with ⟨b154_14, h⟩ | ⟨b154_14, h⟩
            · obtain ⟨g154_3, h⟩ := ifS h
              have h := Option.some.inj h
              subst h
              have hk : o = f59_filter_right_out (PT.isNil (PT.snd f)) := hk
              subst hk
              exact At.fin hm ht ⟨[(5, .b true), (12, .call [] [] (f59_filter_right_out r154_2)), (14, .b true)], [], [], [4], []⟩ [PT.isNil f = false, (((PT.num f) : Int) == 0) = true, PT.isNil f = false, FnOK Tryd.prog 59 (f59_filter_right_in (PT.fst f) (IntKind.wrap .i64 (left - 1))) (f59_filter_right_out r154_2), r154_2 = true, PT.isNil f = false] (by kernel_rfl) ⟨g154_0, b154_5, g154_1, (hrc_f59_filter_right (PT.fst f) (IntKind.wrap .i64 (left - 1)) r154_2 cr154_2), b154_14, g154_3, trivial⟩
            · have h := Option.some.inj h
              subst h
              have hk : o = f59_filter_right_out false := hk
              subst hk
              exact At.fin hm ht ⟨[(5, .b true), (12, .call [] [] (f59_filter_right_out r154_2)), (14, .b false)], [], [], [4], []⟩ [PT.isNil f = false, (((PT.num f) : Int) == 0) = true, PT.isNil f = false, FnOK Tryd.prog 59 (f59_filter_right_in (PT.fst f) (IntKind.wrap .i64 (left - 1))) (f59_filter_right_out r154_2), r154_2 = false] (by kernel_rfl) ⟨g154_0, b154_5, g154_1, (hrc_f59_filter_right (PT.fst f) (IntKind.wrap .i64 (left - 1)) r154_2 cr154_2), b154_14, trivial⟩
          · have h := Option.some.inj h
            subst h
            have hk : o = f59_filter_right_out false := hk
            subst hk
            exact At.fin hm ht ⟨[(5, .b false)], [], [], [4], []⟩ [PT.isNil f = false, (((PT.num f) : Int) == 0) = false] (by kernel_rfl) ⟨g154_0, b154_5, trivial⟩
        · refine At.step hm ht ⟨[], [false], [], [0, 1, 14], []⟩ 19 ⟨[(0, oc (.d (.pt f))), (1, oc (zi left)), (14, oc (zi t14))], [], [], 0⟩ [((t14 : Int) == 8) = false] (by kernel_rfl) ⟨b153_e0, trivial⟩ ?_
          rcases iteS h with ⟨b155_e0, h⟩ | ⟨b155_e0, h⟩
          · rcases iteS h with ⟨b155_e1, h⟩ | ⟨b155_e1, h⟩
            · refine At.step hm ht ⟨[], [true, true], [], [0, 1], []⟩ 21 ⟨[(0, oc (.d (.pt f))), (1, oc (zi left))], [], [], 0⟩ [((t14 : Int) == 9) = true, ((t14 : Int) == 9) = true] (by kernel_rfl) ⟨b155_e0, b155_e1, trivial⟩ ?_
              obtain ⟨g156_0, h⟩ := ifS h
              rcases iteS h with ⟨b156_5, h⟩ | ⟨b156_5, h⟩
              · obtain ⟨g156_1, h⟩ := ifS h
                obtain ⟨r156_2, cr156_2, h⟩ := bindS h
                rcases iteS h with ⟨b156_14, h⟩ | ⟨b156_14, h⟩
                · obtain ⟨g156_3, h⟩ := ifS h
                  obtain ⟨r156_4, cr156_4, h⟩ := bindS h
                  have h := Option.some.inj h
                  subst h
                  have hk : o = f59_filter_right_out r156_4 := hk
                  subst hk
                  exact At.fin hm ht ⟨[(5, .b true), (12, .call [] [] (f59_filter_right_out r156_2)), (14, .b true), (21, .call [] [] (f59_filter_right_out r156_4))], [], [], [4], []⟩ [PT.isNil f = false, (((PT.num f) : Int) == 0) = true, PT.isNil f = false, FnOK Tryd.prog 59 (f59_filter_right_in (PT.fst f) (IntKind.wrap .i64 (left - 1))) (f59_filter_right_out r156_2), r156_2 = true, PT.isNil f = false, FnOK Tryd.prog 59 (f59_filter_right_in (PT.snd f) (IntKind.wrap .i64 (left - 1))) (f59_filter_right_out r156_4)] (by kernel_rfl) ⟨g156_0, b156_5, g156_1, (hrc_f59_filter_right (PT.fst f) (IntKind.wrap .i64 (left - 1)) r156_2 cr156_2), b156_14, g156_3, (hrc_f59_filter_right (PT.snd f) (IntKind.wrap .i64 (left - 1)) r156_4 cr156_4), trivial⟩
                · have h := Option.some.inj h
                  subst h
                  have hk : o = f59_filter_right_out false := hk
                  subst hk
                  exact At.fin hm ht ⟨[(5, .b true), (12, .call [] [] (f59_filter_right_out r156_2)), (14, .b false)], [], [], [4], []⟩ [PT.isNil f = false, (((PT.num f) : Int) == 0) = true, PT.isNil f = false, FnOK Tryd.prog 59 (f59_filter_right_in (PT.fst f) (IntKind.wrap .i64 (left - 1))) (f59_filter_right_out r156_2), r156_2 = false] (by kernel_rfl) ⟨g156_0, b156_5, g156_1, (hrc_f59_filter_right (PT.fst f) (IntKind.wrap .i64 (left - 1)) r156_2 cr156_2), b156_14, trivial⟩
              · have h := Option.some.inj h
                subst h
                have hk : o = f59_filter_right_out false := hk
                subst hk
                exact At.fin hm ht ⟨[(5, .b false)], [], [], [4], []⟩ [PT.isNil f = false, (((PT.num f) : Int) == 0) = false] (by kernel_rfl) ⟨g156_0, b156_5, trivial⟩
            · refine At.step hm ht ⟨[], [true, false], [], [], []⟩ 22 ⟨[], [], [], 0⟩ [((t14 : Int) == 9) = true, ((t14 : Int) == 9) = false] (by kernel_rfl) ⟨b155_e0, b155_e1, trivial⟩ ?_
              have h := Option.some.inj h
              subst h
              have hk : o = f59_filter_right_out false := hk
              subst hk
              exact At.fin hm ht ⟨[], [], [], [4], []⟩ [] (by kernel_rfl) trivial
          · refine At.step hm ht ⟨[], [false], [], [0, 1, 14], []⟩ 20 ⟨[(0, oc (.d (.pt f))), (1, oc (zi left)), (14, oc (zi t14))], [], [], 0⟩ [((t14 : Int) == 9) = false] (by kernel_rfl) ⟨b155_e0, trivial⟩ ?_
            rcases iteS h with ⟨b158_e0, h⟩ | ⟨b158_e0, h⟩
            · refine At.step hm ht ⟨[], [true], [], [0, 1], []⟩ 21 ⟨[(0, oc (.d (.pt f))), (1, oc (zi left))], [], [], 0⟩ [((t14 : Int) == 10) = true] (by kernel_rfl) ⟨b158_e0, trivial⟩ ?_
              obtain ⟨g159_0, h⟩ := ifS h
              rcases iteS h with ⟨b159_5, h⟩ | ⟨b159_5, h⟩
              · obtain ⟨g159_1, h⟩ := ifS h
                obtain ⟨r159_2, cr159_2, h⟩ := bindS h
                rcases iteS h with ⟨b159_14, h⟩ | ⟨b159_14, h⟩
                · obtain ⟨g159_3, h⟩ := ifS h
                  obtain ⟨r159_4, cr159_4, h⟩ := bindS h
                  have h := Option.some.inj h
                  subst h
                  have hk : o = f59_filter_right_out r159_4 := hk
                  subst hk
                  exact At.fin hm ht ⟨[(5, .b true), (12, .call [] [] (f59_filter_right_out r159_2)), (14, .b true), (21, .call [] [] (f59_filter_right_out r159_4))], [], [], [4], []⟩ [PT.isNil f = false, (((PT.num f) : Int) == 0) = true, PT.isNil f = false, FnOK Tryd.prog 59 (f59_filter_right_in (PT.fst f) (IntKind.wrap .i64 (left - 1))) (f59_filter_right_out r159_2), r159_2 = true, PT.isNil f = false, FnOK Tryd.prog 59 (f59_filter_right_in (PT.snd f) (IntKind.wrap .i64 (left - 1))) (f59_filter_right_out r159_4)] (by kernel_rfl) ⟨g159_0, b159_5, g159_1, (hrc_f59_filter_right (PT.fst f) (IntKind.wrap .i64 (left - 1)) r159_2 cr159_2), b159_14, g159_3, (hrc_f59_filter_right (PT.snd f) (IntKind.wrap .i64 (left - 1)) r159_4 cr159_4), trivial⟩
                · have h := Option.some.inj h
                  subst h
                  have hk : o = f59_filter_right_out false := hk
                  subst hk
                  exact At.fin hm ht ⟨[(5, .b true), (12, .call [] [] (f59_filter_right_out r159_2)), (14, .b false)], [], [], [4], []⟩ [PT.isNil f = false, (((PT.num f) : Int) == 0) = true, PT.isNil f = false, FnOK Tryd.prog 59 (f59_filter_right_in (PT.fst f) (IntKind.wrap .i64 (left - 1))) (f59_filter_right_out r159_2), r159_2 = false] (by kernel_rfl) ⟨g159_0, b159_5, g159_1, (hrc_f59_filter_right (PT.fst f) (IntKind.wrap .i64 (left - 1)) r159_2 cr159_2), b159_14, trivial⟩
              · have h := Option.some.inj h
                subst h
                have hk : o = f59_filter_right_out false := hk
                subst hk
                exact At.fin hm ht ⟨[(5, .b false)], [], [], [4], []⟩ [PT.isNil f = false, (((PT.num f) : Int) == 0) = false] (by kernel_rfl) ⟨g159_0, b159_5, trivial⟩
            · refine At.step hm ht ⟨[], [false], [], [], []⟩ 22 ⟨[], [], [], 0⟩ [((t14 : Int) == 10) = false] (by kernel_rfl) ⟨b158_e0, trivial⟩ ?_
              have h := Option.some.inj h
              subst h
              have hk : o = f59_filter_right_out false := hk
              subst hk
              exact At.fin hm ht ⟨[], [], [], [4], []⟩ [] (by kernel_rfl) trivial
def f59_filter_right_L7 (rc_f59_filter_right : PT → Int → Option (Bool)) : Nat → PT → Int → Int → Option (Bool)
  | 0, _, _, _ => none
  | n + 1, f, left, t14 =>
    if ((t14 : Int) == 2) = true then
      if PT.isNil f = false then
      if (((PT.num f) : Int) == 1) = true then
        if PT.isNil f = false then
        if (PT.isNil (PT.fst f)) = true then
          if PT.isNil f = false then
          some ((PT.isNil (PT.snd f)))
          else none
        else
          some (false)
        else none
      else
        if PT.isNil f = false then
        if (((PT.num f) : Int) == 2) = true then
          if PT.isNil f = false then
          if (PT.isNil (PT.fst f)) = true then
            if PT.isNil f = false then
            some ((PT.isNil (PT.snd f)))
            else none
          else
            some (false)
          else none
        else
          if PT.isNil f = false then
          if (((PT.num f) : Int) == 4) = true then
            if PT.isNil f = false then
            if (PT.isNil (PT.fst f)) = true then
              if PT.isNil f = false then
              some ((PT.isNil (PT.snd f)))
              else none
            else
              some (false)
            else none
          else
            some (false)
          else none
        else none
      else none
    else
      if ((t14 : Int) == 3) = true then
        if ((t14 : Int) == 3) = true then
          if PT.isNil f = false then
          if (decide (((PT.num f) : Int) ≥ 0)) = true then
            if PT.isNil f = false then
            if (decide (((PT.num f) : Int) ≤ 65535)) = true then
              if PT.isNil f = false then
              if (PT.isNil (PT.fst f)) = true then
                if PT.isNil f = false then
                some ((PT.isNil (PT.snd f)))
                else none
              else
                some (false)
              else none
            else
              some (false)
            else none
          else
            some (false)
          else none
        else
          (f59_filter_right_L13 rc_f59_filter_right n f left t14).bind fun w161 =>
          some (w161)
      else
        if ((t14 : Int) == 4) = true then
          if ((t14 : Int) == 4) = true then
            if PT.isNil f = false then
            if (decide (((PT.num f) : Int) ≥ 0)) = true then
              if PT.isNil f = false then
              if (decide (((PT.num f) : Int) ≤ 65535)) = true then
                if PT.isNil f = false then
                if (PT.isNil (PT.fst f)) = true then
                  if PT.isNil f = false then
                  some ((PT.isNil (PT.snd f)))
                  else none
                else
                  some (false)
                else none
              else
                some (false)
              else none
            else
              some (false)
            else none
          else
            (f59_filter_right_L13 rc_f59_filter_right n f left t14).bind fun w165 =>
            some (w165)
        else
          if ((t14 : Int) == 5) = true then
            if PT.isNil f = false then
            if (decide (((PT.num f) : Int) ≥ 0)) = true then
              if PT.isNil f = false then
              if (decide (((PT.num f) : Int) ≤ 65535)) = true then
                if PT.isNil f = false then
                if (PT.isNil (PT.fst f)) = true then
                  if PT.isNil f = false then
                  some ((PT.isNil (PT.snd f)))
                  else none
                else
                  some (false)
                else none
              else
                some (false)
              else none
            else
              some (false)
            else none
          else
            (f59_filter_right_L13 rc_f59_filter_right n f left t14).bind fun w169 =>
            some (w169)
def f59_filter_right_L7_k (e : Bool) (o : Out) : Prop := o = f59_filter_right_out e
theorem f59_filter_right_L7_ok (rc_f59_filter_right : PT → Int → Option (Bool)) (hrc_f59_filter_right : ∀ (f : PT) (left : Int) (r : Bool) (h : rc_f59_filter_right f left = some r), FnOK Tryd.prog 59 (f59_filter_right_in f left) (f59_filter_right_out r)) (n : Nat) : ∀ (f : PT) (left : Int) (t14 : Int) (w : Bool) (h : f59_filter_right_L7 rc_f59_filter_right n f left t14 = some w) (o : Out) (hk : f59_filter_right_L7_k w o), At Tryd.prog Tryd.f59 0 7 ⟨[(0, oc (.d (.pt f))), (1, oc (zi left)), (14, oc (zi t14))], [], [], 0⟩ o := by
  induction n with
  | zero => intro f left t14 w h; rw [f59_filter_right_L7] at h; cases h
  | succ n ih =>
    intro f left t14 w h o hk
    rw [f59_filter_right_L7] at h
    rcases iteS h with ⟨b145_e0, h⟩ | ⟨b145_e0, h⟩
    · refine At.step hm ht ⟨[], [true], [], [0], []⟩ 8 ⟨[(0, oc (.d (.pt f)))], [], [], 0⟩ [((t14 : Int) == 2) = true] (by kernel_rfl) ⟨b145_e0, trivial⟩ ?_
      obtain ⟨g146_0, h⟩ := ifS h
      rcases iteS h with ⟨b146_5, h⟩ | ⟨b146_5, h⟩
      · obtain ⟨g146_1, h⟩ := ifS h
        rcases iteS h with ⟨b146_26, h⟩ | ⟨b146_26, h⟩
        · obtain ⟨g146_2, h⟩ := ifS h
          have h := Option.some.inj h
          subst h
          have hk : o = f59_filter_right_out (PT.isNil (PT.snd f)) := hk
          subst hk
          exact At.fin hm ht ⟨[(5, .b true), (26, .b true)], [], [], [4], []⟩ [PT.isNil f = false, (((PT.num f) : Int) == 1) = true, PT.isNil f = false, (PT.isNil (PT.fst f)) = true, PT.isNil f = false] (by kernel_rfl) ⟨g146_0, b146_5, g146_1, b146_26, g146_2, trivial⟩
        · have h := Option.some.inj h
          subst h
          have hk : o = f59_filter_right_out false := hk
          subst hk
          exact At.fin hm ht ⟨[(5, .b true), (26, .b false)], [], [], [4], []⟩ [PT.isNil f = false, (((PT.num f) : Int) == 1) = true, PT.isNil f = false, (PT.isNil (PT.fst f)) = false] (by kernel_rfl) ⟨g146_0, b146_5, g146_1, b146_26, trivial⟩
      · obtain ⟨g146_1, h⟩ := ifS h
        rcases iteS h with ⟨b146_12, h⟩ | ⟨b146_12, h⟩
        · obtain ⟨g146_2, h⟩ := ifS h
          rcases iteS h with ⟨b146_26, h⟩ | ⟨b146_26, h⟩
          · obtain ⟨g146_3, h⟩ := ifS h
            have h := Option.some.inj h
            subst h
            have hk : o = f59_filter_right_out (PT.isNil (PT.snd f)) := hk
            subst hk
            exact At.fin hm ht ⟨[(5, .b false), (12, .b true), (26, .b true)], [], [], [4], []⟩ [PT.isNil f = false, (((PT.num f) : Int) == 1) = false, PT.isNil f = false, (((PT.num f) : Int) == 2) = true, PT.isNil f = false, (PT.isNil (PT.fst f)) = true, PT.isNil f = false] (by kernel_rfl) ⟨g146_0, b146_5, g146_1, b146_12, g146_2, b146_26, g146_3, trivial⟩
          · have h := Option.some.inj h
            subst h
            have hk : o = f59_filter_right_out false := hk
            subst hk
            exact At.fin hm ht ⟨[(5, .b false), (12, .b true), (26, .b false)], [], [], [4], []⟩ [PT.isNil f = false, (((PT.num f) : Int) == 1) = false, PT.isNil f = false, (((PT.num f) : Int) == 2) = true, PT.isNil f = false, (PT.isNil (PT.fst f)) = false] (by kernel_rfl) ⟨g146_0, b146_5, g146_1, b146_12, g146_2, b146_26, trivial⟩
        · obtain ⟨g146_2, h⟩ := ifS h
          rcases iteS h with ⟨b146_19, h⟩ | ⟨b146_19, h⟩
          · obtain ⟨g146_3, h⟩ := ifS h
            rcases iteS h with ⟨b146_26, h⟩ | ⟨b146_26, h⟩
            · obtain ⟨g146_4, h⟩ := ifS h
              have h := Option.some.inj h
              subst h
              have hk : o = f59_filter_right_out (PT.isNil (PT.snd f)) := hk
              subst hk
              exact At.fin hm ht ⟨[(5, .b false), (12, .b false), (19, .b true), (26, .b true)], [], [], [4], []⟩ [PT.isNil f = false, (((PT.num f) : Int) == 1) = false, PT.isNil f = false, (((PT.num f) : Int) == 2) = false, PT.isNil f = false, (((PT.num f) : Int) == 4) = true, PT.isNil f = false, (PT.isNil (PT.fst f)) = true, PT.isNil f = false] (by kernel_rfl) ⟨g146_0, b146_5, g146_1, b146_12, g146_2, b146_19, g146_3, b146_26, g146_4, trivial⟩
            · have h := Option.some.inj h
              subst h
              have hk : o = f59_filter_right_out false := hk
              subst hk
              exact At.fin hm ht ⟨[(5, .b false), (12, .b false), (19, .b true), (26, .b false)], [], [], [4], []⟩ [PT.isNil f = false, (((PT.num f) : Int) == 1) = false, PT.isNil f = false, (((PT.num f) : Int) == 2) = false, PT.isNil f = false, (((PT.num f) : Int) == 4) = true, PT.isNil f = false, (PT.isNil (PT.fst f)) = false] (by kernel_rfl) ⟨g146_0, b146_5, g146_1, b146_12, g146_2, b146_19, g146_3, b146_26, trivial⟩
          · have h := Option.some.inj h
            subst h
            have hk : o = f59_filter_right_out false := hk
            subst hk
            exact At.fin hm ht ⟨[(5, .b false), (12, .b false), (19, .b false)], [], [], [4], []⟩ [PT.isNil f = false, (((PT.num f) : Int) == 1) = false, PT.isNil f = false, (((PT.num f) : Int) == 2) = false, PT.isNil f = false, (((PT.num f) : Int) == 4) = false] (by kernel_rfl) ⟨g146_0, b146_5, g146_1, b146_12, g146_2, b146_19, trivial⟩
    · refine At.step hm ht ⟨[], [false], [], [0, 1, 14], []⟩ 9 ⟨[(0, oc (.d (.pt f))), (1, oc (zi left)), (14, oc (zi t14))], [], [], 0⟩ [((t14 : Int) == 2) = false] (by kernel_rfl) ⟨b145_e0, trivial⟩ ?_
      rcases iteS h with ⟨b147_e0, h⟩ | ⟨b147_e0, h⟩
      · rcases iteS h with ⟨b147_e1, h⟩ | ⟨b147_e1, h⟩
        · refine At.step hm ht ⟨[], [true, true], [], [0], []⟩ 12 ⟨[(0, oc (.d (.pt f)))], [], [], 0⟩ [((t14 : Int) == 3) = true, ((t14 : Int) == 3) = true] (by kernel_rfl) ⟨b147_e0, b147_e1, trivial⟩ ?_
          obtain ⟨g148_0, h⟩ := ifS h
          rcases iteS h with ⟨b148_5, h⟩ | ⟨b148_5, h⟩
          · obtain ⟨g148_1, h⟩ := ifS h
            rcases iteS h with ⟨b148_12, h⟩ | ⟨b148_12, h⟩
            · obtain ⟨g148_2, h⟩ := ifS h
              rcases iteS h with ⟨b148_19, h⟩ | ⟨b148_19, h⟩
              · obtain ⟨g148_3, h⟩ := ifS h
                have h := Option.some.inj h
                subst h
                have hk : o = f59_filter_right_out (PT.isNil (PT.snd f)) := hk
                subst hk
                exact At.fin hm ht ⟨[(5, .b true), (12, .b true), (19, .b true)], [], [], [4], []⟩ [PT.isNil f = false, (decide (((PT.num f) : Int) ≥ 0)) = true, PT.isNil f = false, (decide (((PT.num f) : Int) ≤ 65535)) = true, PT.isNil f = false, (PT.isNil (PT.fst f)) = true, PT.isNil f = false] (by kernel_rfl) ⟨g148_0, b148_5, g148_1, b148_12, g148_2, b148_19, g148_3, trivial⟩
              · have h := Option.some.inj h
                subst h
                have hk : o = f59_filter_right_out false := hk
                subst hk
                exact At.fin hm ht ⟨[(5, .b true), (12, .b true), (19, .b false)], [], [], [4], []⟩ [PT.isNil f = false, (decide (((PT.num f) : Int) ≥ 0)) = true, PT.isNil f = false, (decide (((PT.num f) : Int) ≤ 65535)) = true, PT.isNil f = false, (PT.isNil (PT.fst f)) = false] (by kernel_rfl) ⟨g148_0, b148_5, g148_1, b148_12, g148_2, b148_19, trivial⟩
            · have h := Option.some.inj h
              subst h
              have hk : o = f59_filter_right_out false := hk
              subst hk
              exact At.fin hm ht ⟨[(5, .b true), (12, .b false)], [], [], [4], []⟩ [PT.isNil f = false, (decide (((PT.num f) : Int) ≥ 0)) = true, PT.isNil f = false, (decide (((PT.num f) : Int) ≤ 65535)) = false] (by kernel_rfl) ⟨g148_0, b148_5, g148_1, b148_12, trivial⟩
          · have h := Option.some.inj h
            subst h
            have hk : o = f59_filter_right_out false := hk
            subst hk
            exact At.fin hm ht ⟨[(5, .b false)], [], [], [4], []⟩ [PT.isNil f = false, (decide (((PT.num f) : Int) ≥ 0)) = false] (by kernel_rfl) ⟨g148_0, b148_5, trivial⟩
        · refine At.step hm ht ⟨[], [true, false], [], [0, 1, 14], []⟩ 13 ⟨[(0, oc (.d (.pt f))), (1, oc (zi left)), (14, oc (zi t14))], [], [], 0⟩ [((t14 : Int) == 3) = true, ((t14 : Int) == 3) = false] (by kernel_rfl) ⟨b147_e0, b147_e1, trivial⟩ ?_
          obtain ⟨w161, cw161, h⟩ := bindS h
          refine f59_filter_right_L13_ok rc_f59_filter_right hrc_f59_filter_right n f left t14 w161 cw161 _ ?_
          have h := Option.some.inj h
          subst h
          exact hk
      · refine At.step hm ht ⟨[], [false], [], [0, 1, 14], []⟩ 10 ⟨[(0, oc (.d (.pt f))), (1, oc (zi left)), (14, oc (zi t14))], [], [], 0⟩ [((t14 : Int) == 3) = false] (by kernel_rfl) ⟨b147_e0, trivial⟩ ?_
        rcases iteS h with ⟨b163_e0, h⟩ | ⟨b163_e0, h⟩
        · rcases iteS h with ⟨b163_e1, h⟩ | ⟨b163_e1, h⟩
          · refine At.step hm ht ⟨[], [true, true], [], [0], []⟩ 12 ⟨[(0, oc (.d (.pt f)))], [], [], 0⟩ [((t14 : Int) == 4) = true, ((t14 : Int) == 4) = true] (by kernel_rfl) ⟨b163_e0, b163_e1, trivial⟩ ?_
            obtain ⟨g164_0, h⟩ := ifS h
            rcases iteS h with ⟨b164_5, h⟩ | ⟨b164_5, h⟩
            · obtain ⟨g164_1, h⟩ := ifS h
              rcases iteS h with ⟨b164_12, h⟩ | ⟨b164_12, h⟩
              · obtain ⟨g164_2, h⟩ := ifS h
                rcases iteS h with ⟨b164_19, h⟩ | ⟨b164_19, h⟩
                · obtain ⟨g164_3, h⟩ := ifS h
                  have h := Option.some.inj h
                  subst h
                  have hk : o = f59_filter_right_out (PT.isNil (PT.snd f)) := hk
                  subst hk
                  exact At.fin hm ht ⟨[(5, .b true), (12, .b true), (19, .b true)], [], [], [4], []⟩ [PT.isNil f = false, (decide (((PT.num f) : Int) ≥ 0)) = true, PT.isNil f = false, (decide (((PT.num f) : Int) ≤ 65535)) = true, PT.isNil f = false, (PT.isNil (PT.fst f)) = true, PT.isNil f = false] (by kernel_rfl) ⟨g164_0, b164_5, g164_1, b164_12, g164_2, b164_19, g164_3, trivial⟩
                · have h := Option.some.inj h
                  subst h
                  have hk : o = f59_filter_right_out false := hk
                  subst hk
                  exact At.fin hm ht ⟨[(5, .b true), (12, .b true), (19, .b false)], [], [], [4], []⟩ [PT.isNil f = false, (decide (((PT.num f) : Int) ≥ 0)) = true, PT.isNil f = false, (decide (((PT.num f) : Int) ≤ 65535)) = true, PT.isNil f = false, (PT.isNil (PT.fst f)) = false] (by kernel_rfl) ⟨g164_0, b164_5, g164_1, b164_12, g164_2, b164_19, trivial⟩
              · have h := Option.some.inj h
                subst h
                have hk : o = f59_filter_right_out false := hk
                subst hk
                exact At.fin hm ht ⟨[(5, .b true), (12, .b false)], [], [], [4], []⟩ [PT.isNil f = false, (decide (((PT.num f) : Int) ≥ 0)) = true, PT.isNil f = false, (decide (((PT.num f) : Int) ≤ 65535)) = false] (by kernel_rfl) ⟨g164_0, b164_5, g164_1, b164_12, trivial⟩
            · have h := Option.some.inj h
              subst h
              have hk : o = f59_filter_right_out false := hk
              subst hk
              exact At.fin hm ht ⟨[(5, .b false)], [], [], [4], []⟩ [PT.isNil f = false, (decide (((PT.num f) : Int) ≥ 0)) = false] (by kernel_rfl) ⟨g164_0, b164_5, trivial⟩
          · refine At.step hm ht ⟨[], [true, false], [], [0, 1, 14], []⟩ 13 ⟨[(0, oc (.d (.pt f))), (1, oc (zi left)), (14, oc (zi t14))], [], [], 0⟩ [((t14 : Int) == 4) = true, ((t14 : Int) == 4) = false] (by kernel_rfl) ⟨b163_e0, b163_e1, trivial⟩ ?_
            obtain ⟨w165, cw165, h⟩ := bindS h
            refine f59_filter_right_L13_ok rc_f59_filter_right hrc_f59_filter_right n f left t14 w165 cw165 _ ?_
            have h := Option.some.inj h
            subst h
            exact hk
        · refine At.step hm ht ⟨[], [false], [], [0, 1, 14], []⟩ 11 ⟨[(0, oc (.d (.pt f))), (1, oc (zi left)), (14, oc (zi t14))], [], [], 0⟩ [((t14 : Int) == 4) = false] (by kernel_rfl) ⟨b163_e0, trivial⟩ ?_
          rcases iteS h with ⟨b167_e0, h⟩ | ⟨b167_e0, h⟩
          · refine At.step hm ht ⟨[], [true], [], [0], []⟩ 12 ⟨[(0, oc (.d (.pt f)))], [], [], 0⟩ [((t14 : Int) == 5) = true] (by kernel_rfl) ⟨b167_e0, trivial⟩ ?_
            obtain ⟨g168_0, h⟩ := ifS h
            rcases iteS h with ⟨b168_5, h⟩ | ⟨b168_5, h⟩
            · obtain ⟨g168_1, h⟩ := ifS h
              rcases iteS h with ⟨b168_12, h⟩ | ⟨b168_12, h⟩
              · obtain ⟨g168_2, h⟩ := ifS h
                rcases iteS h with ⟨b168_19, h⟩ | ⟨b168_19, h⟩
                · obtain ⟨g168_3, h⟩ := ifS h
                  have h := Option.some.inj h
                  subst h
                  have hk : o = f59_filter_right_out (PT.isNil (PT.snd f)) := hk
                  subst hk
                  exact At.fin hm ht ⟨[(5, .b true), (12, .b true), (19, .b true)], [], [], [4], []⟩ [PT.isNil f = false, (decide (((PT.num f) : Int) ≥ 0)) = true, PT.isNil f = false, (decide (((PT.num f) : Int) ≤ 65535)) = true, PT.isNil f = false, (PT.isNil (PT.fst f)) = true, PT.isNil f = false] (by kernel_rfl) ⟨g168_0, b168_5, g168_1, b168_12, g168_2, b168_19, g168_3, trivial⟩
                · have h := Option.some.inj h
                  subst h
                  have hk : o = f59_filter_right_out false := hk
                  subst hk
                  exact At.fin hm ht ⟨[(5, .b true), (12, .b true), (19, .b false)], [], [], [4], []⟩ [PT.isNil f = false, (decide (((PT.num f) : Int) ≥ 0)) = true, PT.isNil f = false, (decide (((PT.num f) : Int) ≤ 65535)) = true, PT.isNil f = false, (PT.isNil (PT.fst f)) = false] (by kernel_rfl) ⟨g168_0, b168_5, g168_1, b168_12, g168_2, b168_19, trivial⟩
              · have h := Option.some.inj h
                subst h
                have hk : o = f59_filter_right_out false := hk
                subst hk
                exact At.fin hm ht ⟨[(5, .b true), (12, .b false)], [], [], [4], []⟩ [PT.isNil f = false, (decide (((PT.num f) : Int) ≥ 0)) = true, PT.isNil f = false, (decide (((PT.num f) : Int) ≤ 65535)) = false] (by kernel_rfl) ⟨g168_0, b168_5, g168_1, b168_12, trivial⟩
            · have h := Option.some.inj h
              subst h
              have hk : o = f59_filter_right_out false := hk
              subst hk
              exact At.fin hm ht ⟨[(5, .b false)], [], [], [4], []⟩ [PT.isNil f = false, (decide (((PT.num f) : Int) ≥ 0)) = false] (by kernel_rfl) ⟨g168_0, b168_5, trivial⟩
          · refine At.step hm ht ⟨[], [false], [], [0, 1, 14], []⟩ 13 ⟨[(0, oc (.d (.pt f))), (1, oc (zi left)), (14, oc (zi t14))], [], [], 0⟩ [((t14 : Int) == 5) = false] (by kernel_rfl) ⟨b167_e0, trivial⟩ ?_
            obtain ⟨w169, cw169, h⟩ := bindS h
            refine f59_filter_right_L13_ok rc_f59_filter_right hrc_f59_filter_right n f left t14 w169 cw169 _ ?_
            have h := Option.some.inj h
            subst h
            exact hk
def f59_filter_right : Nat → PT → Int → Option (Bool)
  | 0, _, _ => none
  | n + 1, f, left =>
    if (PT.isNil f) = true then
      some false
    else
      if ((left : Int) == 0) = true then
        some false
      else
        if PT.isNil f = false then
        if (((PT.op f) : Int) == 1) = true then
          if (((PT.op f) : Int) == 1) = true then
            if PT.isNil f = false then
            if (((PT.num f) : Int) == 0) = true then
              if PT.isNil f = false then
              if (PT.isNil (PT.fst f)) = true then
                if PT.isNil f = false then
                some (PT.isNil (PT.snd f))
                else none
              else
                some false
              else none
            else
              some false
            else none
          else
            (f59_filter_right_L7 (f59_filter_right n) n f left (PT.op f)).bind fun w171 =>
            some w171
        else
          if (((PT.op f) : Int) == 11) = true then
            if PT.isNil f = false then
            if (((PT.num f) : Int) == 0) = true then
              if PT.isNil f = false then
              if (PT.isNil (PT.fst f)) = true then
                if PT.isNil f = false then
                some (PT.isNil (PT.snd f))
                else none
              else
                some false
              else none
            else
              some false
            else none
          else
            (f59_filter_right_L7 (f59_filter_right n) n f left (PT.op f)).bind fun w175 =>
            some w175
        else none
theorem f59_filter_right_ok (n : Nat) : ∀ (f : PT) (left : Int) (r : Bool) (h : f59_filter_right n f left = some r), FnOK Tryd.prog 59 (f59_filter_right_in f left) (f59_filter_right_out r) := by
  induction n with
  | zero => intro f left r h; rw [f59_filter_right] at h; cases h
  | succ n ih =>
    intro f left r h
    rw [f59_filter_right] at h
    refine At.fn (r := 0) Tryd.func59 rfl (by kernel_rfl) rfl rfl (by kernel_rfl) ?_
    show At Tryd.prog Tryd.f59 0 0 ⟨[(0, oc (.d (.pt f))), (1, oc (zi left))], [], [], 0⟩ _
    refine At.step hm ht ⟨[], [], [], [0, 1], []⟩ 1 ⟨[(0, oc (.d (.pt f))), (1, oc (zi left))], [], [], 0⟩ [] (by kernel_rfl) trivial ?_
    rcases iteS h with ⟨b139_2, h⟩ | ⟨b139_2, h⟩
    · refine At.step hm ht ⟨[(2, .b true)], [true], [], [], []⟩ 2 ⟨[], [], [], 0⟩ [(PT.isNil f) = true, true = true] (by kernel_rfl) ⟨b139_2, rfl, trivial⟩ ?_
      have h := Option.some.inj h
      subst h
      exact At.fin hm ht ⟨[], [], [], [4], []⟩ [] (by kernel_rfl) trivial
    · rcases iteS h with ⟨b139_e0, h⟩ | ⟨b139_e0, h⟩
      · refine At.step hm ht ⟨[(2, .b false)], [true], [], [], []⟩ 2 ⟨[], [], [], 0⟩ [(PT.isNil f) = false, ((left : Int) == 0) = true] (by kernel_rfl) ⟨b139_2, b139_e0, trivial⟩ ?_
        have h := Option.some.inj h
        subst h
        exact At.fin hm ht ⟨[], [], [], [4], []⟩ [] (by kernel_rfl) trivial
      · refine At.step hm ht ⟨[(2, .b false)], [false], [], [0, 1], []⟩ 3 ⟨[(0, oc (.d (.pt f))), (1, oc (zi left))], [], [], 0⟩ [(PT.isNil f) = false, ((left : Int) == 0) = false] (by kernel_rfl) ⟨b139_2, b139_e0, trivial⟩ ?_
        obtain ⟨g142_0, h⟩ := ifS h
        refine At.step hm ht ⟨[], [], [], [0, 1, 14], []⟩ 4 ⟨[(0, oc (.d (.pt f))), (1, oc (zi left)), (14, oc (zi (PT.op f)))], [], [], 0⟩ [PT.isNil f = false] (by kernel_rfl) ⟨g142_0, trivial⟩ ?_
        rcases iteS h with ⟨b143_e0, h⟩ | ⟨b143_e0, h⟩
        · rcases iteS h with ⟨b143_e1, h⟩ | ⟨b143_e1, h⟩
          · refine At.step hm ht ⟨[], [true, true], [], [0], []⟩ 6 ⟨[(0, oc (.d (.pt f)))], [], [], 0⟩ [(((PT.op f) : Int) == 1) = true, (((PT.op f) : Int) == 1) = true] (by kernel_rfl) ⟨b143_e0, b143_e1, trivial⟩ ?_
            obtain ⟨g144_0, h⟩ := ifS h
            rcases iteS h with ⟨b144_5, h⟩ | ⟨b144_5, h⟩
            · obtain ⟨g144_1, h⟩ := ifS h
              rcases iteS h with ⟨b144_12, h⟩ | ⟨b144_12, h⟩
              · obtain ⟨g144_2, h⟩ := ifS h
                have h := Option.some.inj h
                subst h
                exact At.fin hm ht ⟨[(5, .b true), (12, .b true)], [], [], [4], []⟩ [PT.isNil f = false, (((PT.num f) : Int) == 0) = true, PT.isNil f = false, (PT.isNil (PT.fst f)) = true, PT.isNil f = false] (by kernel_rfl) ⟨g144_0, b144_5, g144_1, b144_12, g144_2, trivial⟩
              · have h := Option.some.inj h
                subst h
                exact At.fin hm ht ⟨[(5, .b true), (12, .b false)], [], [], [4], []⟩ [PT.isNil f = false, (((PT.num f) : Int) == 0) = true, PT.isNil f = false, (PT.isNil (PT.fst f)) = false] (by kernel_rfl) ⟨g144_0, b144_5, g144_1, b144_12, trivial⟩
            · have h := Option.some.inj h
              subst h
              exact At.fin hm ht ⟨[(5, .b false)], [], [], [4], []⟩ [PT.isNil f = false, (((PT.num f) : Int) == 0) = false] (by kernel_rfl) ⟨g144_0, b144_5, trivial⟩
          · refine At.step hm ht ⟨[], [true, false], [], [0, 1, 14], []⟩ 7 ⟨[(0, oc (.d (.pt f))), (1, oc (zi left)), (14, oc (zi (PT.op f)))], [], [], 0⟩ [(((PT.op f) : Int) == 1) = true, (((PT.op f) : Int) == 1) = false] (by kernel_rfl) ⟨b143_e0, b143_e1, trivial⟩ ?_
            obtain ⟨w171, cw171, h⟩ := bindS h
            refine f59_filter_right_L7_ok (f59_filter_right n) ih n f left (PT.op f) w171 cw171 _ ?_
            have h := Option.some.inj h
            subst h
            rfl
        · refine At.step hm ht ⟨[], [false], [], [0, 1, 14], []⟩ 5 ⟨[(0, oc (.d (.pt f))), (1, oc (zi left)), (14, oc (zi (PT.op f)))], [], [], 0⟩ [(((PT.op f) : Int) == 1) = false] (by kernel_rfl) ⟨b143_e0, trivial⟩ ?_
          rcases iteS h with ⟨b173_e0, h⟩ | ⟨b173_e0, h⟩
          · refine At.step hm ht ⟨[], [true], [], [0], []⟩ 6 ⟨[(0, oc (.d (.pt f)))], [], [], 0⟩ [(((PT.op f) : Int) == 11) = true] (by kernel_rfl) ⟨b173_e0, trivial⟩ ?_
            obtain ⟨g174_0, h⟩ := ifS h
            rcases iteS h with ⟨b174_5, h⟩ | ⟨b174_5, h⟩
            · obtain ⟨g174_1, h⟩ := ifS h
              rcases iteS h with ⟨b174_12, h⟩ | ⟨b174_12, h⟩
              · obtain ⟨g174_2, h⟩ := ifS h
                have h := Option.some.inj h
                subst h
                exact At.fin hm ht ⟨[(5, .b true), (12, .b true)], [], [], [4], []⟩ [PT.isNil f = false, (((PT.num f) : Int) == 0) = true, PT.isNil f = false, (PT.isNil (PT.fst f)) = true, PT.isNil f = false] (by kernel_rfl) ⟨g174_0, b174_5, g174_1, b174_12, g174_2, trivial⟩
              · have h := Option.some.inj h
                subst h
                exact At.fin hm ht ⟨[(5, .b true), (12, .b false)], [], [], [4], []⟩ [PT.isNil f = false, (((PT.num f) : Int) == 0) = true, PT.isNil f = false, (PT.isNil (PT.fst f)) = false] (by kernel_rfl) ⟨g174_0, b174_5, g174_1, b174_12, trivial⟩
            · have h := Option.some.inj h
              subst h
              exact At.fin hm ht ⟨[(5, .b false)], [], [], [4], []⟩ [PT.isNil f = false, (((PT.num f) : Int) == 0) = false] (by kernel_rfl) ⟨g174_0, b174_5, trivial⟩
          · refine At.step hm ht ⟨[], [false], [], [0, 1, 14], []⟩ 7 ⟨[(0, oc (.d (.pt f))), (1, oc (zi left)), (14, oc (zi (PT.op f)))], [], [], 0⟩ [(((PT.op f) : Int) == 11) = false] (by kernel_rfl) ⟨b173_e0, trivial⟩ ?_
            obtain ⟨w175, cw175, h⟩ := bindS h
            refine f59_filter_right_L7_ok (f59_filter_right n) ih n f left (PT.op f) w175 cw175 _ ?_
            have h := Option.some.inj h
            subst h
            rfl
/-! brougham/filter.Right -/
def f31_filter_Right_in (f : PT) : Inn := ⟨[.c (.d (.pt f))], [], [], 0⟩
def f31_filter_Right_out (r : Bool) : Out := ⟨oc (.d (.bool r)), [], [], 0⟩
def f31_filter_Right (n : Nat) (f : PT) : Option (Bool) :=
  (f59_filter_right n f 16).bind fun r137_0 =>
  some r137_0
theorem f31_filter_Right_ok (n : Nat) (f : PT) (r : Bool) (h : f31_filter_Right n f = some r) : FnOK Tryd.prog 31 (f31_filter_Right_in f) (f31_filter_Right_out r) := by
  unfold f31_filter_Right at h
  refine At.fn (r := 0) Tryd.func31 rfl (by kernel_rfl) rfl rfl (by kernel_rfl) ?_
  show At Tryd.prog Tryd.f31 0 0 ⟨[(0, oc (.d (.pt f)))], [], [], 0⟩ _
  refine At.step hm ht ⟨[], [], [], [0], []⟩ 1 ⟨[(0, oc (.d (.pt f)))], [], [], 0⟩ [] (by kernel_rfl) trivial ?_
  obtain ⟨r137_0, cr137_0, h⟩ := bindS h
  have h := Option.some.inj h
  subst h
  exact At.fin hm ht ⟨[(1, .call [] [] (f59_filter_right_out r137_0))], [], [], [2], []⟩ [FnOK Tryd.prog 59 (f59_filter_right_in f 16) (f59_filter_right_out r137_0)] (by kernel_rfl) ⟨(f59_filter_right_ok n f 16 r137_0 cr137_0), trivial⟩
/-! brougham/filter.flag -/
def f87_filter_flag_in (n_ : Int) : Inn := ⟨[.c (zi n_)], [], [], 0⟩
def f87_filter_flag_out (r : ByteArray) : Out := ⟨oc (.d (.str r)), [], [], 0⟩
def f87_filter_flag (n_ : Int) : Option (ByteArray) :=
  if ((n_ : Int) == 1) = true then
    some (⟨#[115, 121, 110]⟩ : ByteArray)
  else
    if ((n_ : Int) == 2) = true then
      some (⟨#[97, 99, 107]⟩ : ByteArray)
    else
      some (⟨#[114, 115, 116]⟩ : ByteArray)
theorem f87_filter_flag_ok (n_ : Int) (r : ByteArray) (h : f87_filter_flag n_ = some r) : FnOK Tryd.prog 87 (f87_filter_flag_in n_) (f87_filter_flag_out r) := by
  unfold f87_filter_flag at h
  refine At.fn (r := 0) Tryd.func87 rfl (by kernel_rfl) rfl rfl (by kernel_rfl) ?_
  show At Tryd.prog Tryd.f87 0 0 ⟨[(0, oc (zi n_))], [], [], 0⟩ _
  refine At.step hm ht ⟨[], [], [], [0], []⟩ 1 ⟨[(0, oc (zi n_))], [], [], 0⟩ [] (by kernel_rfl) trivial ?_
  refine At.step hm ht ⟨[], [], [], [3], []⟩ 2 ⟨[(3, oc (zi n_))], [], [], 0⟩ [] (by kernel_rfl) trivial ?_
  rcases iteS h with ⟨b191_e0, h⟩ | ⟨b191_e0, h⟩
  · refine At.step hm ht ⟨[], [true], [], [], []⟩ 3 ⟨[], [], [], 0⟩ [((n_ : Int) == 1) = true] (by kernel_rfl) ⟨b191_e0, trivial⟩ ?_
    have h := Option.some.inj h
    subst h
    exact At.fin hm ht ⟨[], [], [], [2], []⟩ [] (by kernel_rfl) trivial
  · refine At.step hm ht ⟨[], [false], [], [3], []⟩ 4 ⟨[(3, oc (zi n_))], [], [], 0⟩ [((n_ : Int) == 1) = false] (by kernel_rfl) ⟨b191_e0, trivial⟩ ?_
    rcases iteS h with ⟨b193_e0, h⟩ | ⟨b193_e0, h⟩
    · refine At.step hm ht ⟨[], [true], [], [], []⟩ 5 ⟨[], [], [], 0⟩ [((n_ : Int) == 2) = true] (by kernel_rfl) ⟨b193_e0, trivial⟩ ?_
      have h := Option.some.inj h
      subst h
      exact At.fin hm ht ⟨[], [], [], [2], []⟩ [] (by kernel_rfl) trivial
    · refine At.step hm ht ⟨[], [false], [], [], []⟩ 6 ⟨[], [], [], 0⟩ [((n_ : Int) == 2) = false] (by kernel_rfl) ⟨b193_e0, trivial⟩ ?_
      have h := Option.some.inj h
      subst h
      exact At.fin hm ht ⟨[], [], [], [2], []⟩ [] (by kernel_rfl) trivial
/-! brougham/filter.text -/
def f56_filter_text_in (f : PT) : Inn := ⟨[.c (.d (.pt f))], [], [], 0⟩
def f56_filter_text_out (r : ByteArray) : Out := ⟨oc (.d (.str r)), [], [], 0⟩
def f56_filter_text : Nat → PT → Option (ByteArray)
  | 0, _ => none
  | n + 1, f =>
    if PT.isNil f = false then
    if (((PT.op f) : Int) == 1) = true then
      some (⟨#[97, 108, 108]⟩ : ByteArray)
    else
      if (((PT.op f) : Int) == 11) = true then
        some (⟨#[101, 109, 112, 116, 121]⟩ : ByteArray)
      else
        if (((PT.op f) : Int) == 2) = true then
          if PT.isNil f = false then
          (f87_filter_flag (PT.num f)).bind fun r188_1 =>
          some r188_1
          else none
        else
          if (((PT.op f) : Int) == 3) = true then
            if PT.isNil f = false then
            (f52_num_Text (PT.num f)).bind fun r197_1 =>
            if (⟨#[112, 111, 114, 116, 32]⟩ : ByteArray).size + r197_1.size ≤ 9223372036854775807 then
            some ((⟨#[112, 111, 114, 116, 32]⟩ : ByteArray) ++ r197_1)
            else none
            else none
          else
            if (((PT.op f) : Int) == 4) = true then
              if PT.isNil f = false then
              (f52_num_Text (PT.num f)).bind fun r199_1 =>
              if (⟨#[115, 114, 99, 32]⟩ : ByteArray).size + r199_1.size ≤ 9223372036854775807 then
              some ((⟨#[115, 114, 99, 32]⟩ : ByteArray) ++ r199_1)
              else none
              else none
            else
              if (((PT.op f) : Int) == 5) = true then
                if PT.isNil f = false then
                (f52_num_Text (PT.num f)).bind fun r201_1 =>
                if (⟨#[100, 115, 116, 32]⟩ : ByteArray).size + r201_1.size ≤ 9223372036854775807 then
                some ((⟨#[100, 115, 116, 32]⟩ : ByteArray) ++ r201_1)
                else none
                else none
              else
                if (((PT.op f) : Int) == 6) = true then
                  if PT.isNil f = false then
                  (f52_num_Text (PT.num f)).bind fun r203_1 =>
                  if (⟨#[104, 97, 115, 32]⟩ : ByteArray).size + r203_1.size ≤ 9223372036854775807 then
                  some ((⟨#[104, 97, 115, 32]⟩ : ByteArray) ++ r203_1)
                  else none
                  else none
                else
                  if (((PT.op f) : Int) == 7) = true then
                    if PT.isNil f = false then
                    (f52_num_Text (PT.num f)).bind fun r205_1 =>
                    if (⟨#[108, 111, 110, 103, 32]⟩ : ByteArray).size + r205_1.size ≤ 9223372036854775807 then
                    some ((⟨#[108, 111, 110, 103, 32]⟩ : ByteArray) ++ r205_1)
                    else none
                    else none
                  else
                    if (((PT.op f) : Int) == 8) = true then
                      if PT.isNil f = false then
                      ((f56_filter_text n) (PT.fst f)).bind fun r207_1 =>
                      if (⟨#[40, 32, 110, 111, 116, 32]⟩ : ByteArray).size + r207_1.size ≤ 9223372036854775807 then
                      if ((⟨#[40, 32, 110, 111, 116, 32]⟩ : ByteArray) ++ r207_1).size + (⟨#[32, 41]⟩ : ByteArray).size ≤ 9223372036854775807 then
                      some (((⟨#[40, 32, 110, 111, 116, 32]⟩ : ByteArray) ++ r207_1) ++ (⟨#[32, 41]⟩ : ByteArray))
                      else none
                      else none
                      else none
                    else
                      if (((PT.op f) : Int) == 9) = true then
                        if PT.isNil f = false then
                        ((f56_filter_text n) (PT.fst f)).bind fun r209_1 =>
                        if (⟨#[40, 32]⟩ : ByteArray).size + r209_1.size ≤ 9223372036854775807 then
                        if ((⟨#[40, 32]⟩ : ByteArray) ++ r209_1).size + (⟨#[32, 97, 110, 100, 32]⟩ : ByteArray).size ≤ 9223372036854775807 then
                        if PT.isNil f = false then
                        ((f56_filter_text n) (PT.snd f)).bind fun r209_5 =>
                        if (((⟨#[40, 32]⟩ : ByteArray) ++ r209_1) ++ (⟨#[32, 97, 110, 100, 32]⟩ : ByteArray)).size + r209_5.size ≤ 9223372036854775807 then
                        if ((((⟨#[40, 32]⟩ : ByteArray) ++ r209_1) ++ (⟨#[32, 97, 110, 100, 32]⟩ : ByteArray)) ++ r209_5).size + (⟨#[32, 41]⟩ : ByteArray).size ≤ 9223372036854775807 then
                        some (((((⟨#[40, 32]⟩ : ByteArray) ++ r209_1) ++ (⟨#[32, 97, 110, 100, 32]⟩ : ByteArray)) ++ r209_5) ++ (⟨#[32, 41]⟩ : ByteArray))
                        else none
                        else none
                        else none
                        else none
                        else none
                        else none
                      else
                        if PT.isNil f = false then
                        ((f56_filter_text n) (PT.fst f)).bind fun r210_1 =>
                        if (⟨#[40, 32]⟩ : ByteArray).size + r210_1.size ≤ 9223372036854775807 then
                        if ((⟨#[40, 32]⟩ : ByteArray) ++ r210_1).size + (⟨#[32, 111, 114, 32]⟩ : ByteArray).size ≤ 9223372036854775807 then
                        if PT.isNil f = false then
                        ((f56_filter_text n) (PT.snd f)).bind fun r210_5 =>
                        if (((⟨#[40, 32]⟩ : ByteArray) ++ r210_1) ++ (⟨#[32, 111, 114, 32]⟩ : ByteArray)).size + r210_5.size ≤ 9223372036854775807 then
                        if ((((⟨#[40, 32]⟩ : ByteArray) ++ r210_1) ++ (⟨#[32, 111, 114, 32]⟩ : ByteArray)) ++ r210_5).size + (⟨#[32, 41]⟩ : ByteArray).size ≤ 9223372036854775807 then
                        some (((((⟨#[40, 32]⟩ : ByteArray) ++ r210_1) ++ (⟨#[32, 111, 114, 32]⟩ : ByteArray)) ++ r210_5) ++ (⟨#[32, 41]⟩ : ByteArray))
                        else none
                        else none
                        else none
                        else none
                        else none
                        else none
    else none
theorem f56_filter_text_ok (n : Nat) : ∀ (f : PT) (r : ByteArray) (h : f56_filter_text n f = some r), FnOK Tryd.prog 56 (f56_filter_text_in f) (f56_filter_text_out r) := by
  induction n with
  | zero => intro f r h; rw [f56_filter_text] at h; cases h
  | succ n ih =>
    intro f r h
    rw [f56_filter_text] at h
    refine At.fn (r := 0) Tryd.func56 rfl (by kernel_rfl) rfl rfl (by kernel_rfl) ?_
    show At Tryd.prog Tryd.f56 0 0 ⟨[(0, oc (.d (.pt f)))], [], [], 0⟩ _
    refine At.step hm ht ⟨[], [], [], [0], []⟩ 1 ⟨[(0, oc (.d (.pt f)))], [], [], 0⟩ [] (by kernel_rfl) trivial ?_
    obtain ⟨g182_0, h⟩ := ifS h
    refine At.step hm ht ⟨[], [], [], [0, 6], []⟩ 2 ⟨[(0, oc (.d (.pt f))), (6, oc (zi (PT.op f)))], [], [], 0⟩ [PT.isNil f = false] (by kernel_rfl) ⟨g182_0, trivial⟩ ?_
    rcases iteS h with ⟨b183_e0, h⟩ | ⟨b183_e0, h⟩
    · refine At.step hm ht ⟨[], [true], [], [], []⟩ 3 ⟨[], [], [], 0⟩ [(((PT.op f) : Int) == 1) = true] (by kernel_rfl) ⟨b183_e0, trivial⟩ ?_
      have h := Option.some.inj h
      subst h
      exact At.fin hm ht ⟨[], [], [], [2], []⟩ [] (by kernel_rfl) trivial
    · refine At.step hm ht ⟨[], [false], [], [0, 6], []⟩ 4 ⟨[(0, oc (.d (.pt f))), (6, oc (zi (PT.op f)))], [], [], 0⟩ [(((PT.op f) : Int) == 1) = false] (by kernel_rfl) ⟨b183_e0, trivial⟩ ?_
      rcases iteS h with ⟨b185_e0, h⟩ | ⟨b185_e0, h⟩
      · refine At.step hm ht ⟨[], [true], [], [], []⟩ 5 ⟨[], [], [], 0⟩ [(((PT.op f) : Int) == 11) = true] (by kernel_rfl) ⟨b185_e0, trivial⟩ ?_
        have h := Option.some.inj h
        subst h
        exact At.fin hm ht ⟨[], [], [], [2], []⟩ [] (by kernel_rfl) trivial
      · refine At.step hm ht ⟨[], [false], [], [0, 6], []⟩ 6 ⟨[(0, oc (.d (.pt f))), (6, oc (zi (PT.op f)))], [], [], 0⟩ [(((PT.op f) : Int) == 11) = false] (by kernel_rfl) ⟨b185_e0, trivial⟩ ?_
        rcases iteS h with ⟨b187_e0, h⟩ | ⟨b187_e0, h⟩
        · refine At.step hm ht ⟨[], [true], [], [0], []⟩ 7 ⟨[(0, oc (.d (.pt f)))], [], [], 0⟩ [(((PT.op f) : Int) == 2) = true] (by kernel_rfl) ⟨b187_e0, trivial⟩ ?_
          obtain ⟨g188_0, h⟩ := ifS h
          obtain ⟨r188_1, cr188_1, h⟩ := bindS h
          have h := Option.some.inj h
          subst h
          exact At.fin hm ht ⟨[(4, .call [] [] (f87_filter_flag_out r188_1))], [], [], [2], []⟩ [PT.isNil f = false, FnOK Tryd.prog 87 (f87_filter_flag_in (PT.num f)) (f87_filter_flag_out r188_1)] (by kernel_rfl) ⟨g188_0, (f87_filter_flag_ok (PT.num f) r188_1 cr188_1), trivial⟩
        · refine At.step hm ht ⟨[], [false], [], [0, 6], []⟩ 8 ⟨[(0, oc (.d (.pt f))), (6, oc (zi (PT.op f)))], [], [], 0⟩ [(((PT.op f) : Int) == 2) = false] (by kernel_rfl) ⟨b187_e0, trivial⟩ ?_
          rcases iteS h with ⟨b196_e0, h⟩ | ⟨b196_e0, h⟩
          · refine At.step hm ht ⟨[], [true], [], [0], []⟩ 9 ⟨[(0, oc (.d (.pt f)))], [], [], 0⟩ [(((PT.op f) : Int) == 3) = true] (by kernel_rfl) ⟨b196_e0, trivial⟩ ?_
            obtain ⟨g197_0, h⟩ := ifS h
            obtain ⟨r197_1, cr197_1, h⟩ := bindS h
            obtain ⟨g197_2, h⟩ := ifS h
            have h := Option.some.inj h
            subst h
            exact At.fin hm ht ⟨[(4, .call [] [] (f52_num_Text_out r197_1))], [], [], [2], []⟩ [PT.isNil f = false, FnOK Tryd.prog 52 (f52_num_Text_in (PT.num f)) (f52_num_Text_out r197_1), (⟨#[112, 111, 114, 116, 32]⟩ : ByteArray).size + r197_1.size ≤ 9223372036854775807] (by kernel_rfl) ⟨g197_0, (f52_num_Text_ok (PT.num f) r197_1 cr197_1), g197_2, trivial⟩
          · refine At.step hm ht ⟨[], [false], [], [0, 6], []⟩ 10 ⟨[(0, oc (.d (.pt f))), (6, oc (zi (PT.op f)))], [], [], 0⟩ [(((PT.op f) : Int) == 3) = false] (by kernel_rfl) ⟨b196_e0, trivial⟩ ?_
            rcases iteS h with ⟨b198_e0, h⟩ | ⟨b198_e0, h⟩
            · refine At.step hm ht ⟨[], [true], [], [0], []⟩ 11 ⟨[(0, oc (.d (.pt f)))], [], [], 0⟩ [(((PT.op f) : Int) == 4) = true] (by kernel_rfl) ⟨b198_e0, trivial⟩ ?_
              obtain ⟨g199_0, h⟩ := ifS h
              obtain ⟨r199_1, cr199_1, h⟩ := bindS h
              obtain ⟨g199_2, h⟩ := ifS h
              have h := Option.some.inj h
              subst h
              exact At.fin hm ht ⟨[(4, .call [] [] (f52_num_Text_out r199_1))], [], [], [2], []⟩ [PT.isNil f = false, FnOK Tryd.prog 52 (f52_num_Text_in (PT.num f)) (f52_num_Text_out r199_1), (⟨#[115, 114, 99, 32]⟩ : ByteArray).size + r199_1.size ≤ 9223372036854775807] (by kernel_rfl) ⟨g199_0, (f52_num_Text_ok (PT.num f) r199_1 cr199_1), g199_2, trivial⟩
            · refine At.step hm ht ⟨[], [false], [], [0, 6], []⟩ 12 ⟨[(0, oc (.d (.pt f))), (6, oc (zi (PT.op f)))], [], [], 0⟩ [(((PT.op f) : Int) == 4) = false] (by kernel_rfl) ⟨b198_e0, trivial⟩ ?_
              rcases iteS h with ⟨b200_e0, h⟩ | ⟨b200_e0, h⟩
              · refine At.step hm ht ⟨[], [true], [], [0], []⟩ 13 ⟨[(0, oc (.d (.pt f)))], [], [], 0⟩ [(((PT.op f) : Int) == 5) = true] (by kernel_rfl) ⟨b200_e0, trivial⟩ ?_
                obtain ⟨g201_0, h⟩ := ifS h
                obtain ⟨r201_1, cr201_1, h⟩ := bindS h
                obtain ⟨g201_2, h⟩ := ifS h
                have h := Option.some.inj h
                subst h
                exact At.fin hm ht ⟨[(4, .call [] [] (f52_num_Text_out r201_1))], [], [], [2], []⟩ [PT.isNil f = false, FnOK Tryd.prog 52 (f52_num_Text_in (PT.num f)) (f52_num_Text_out r201_1), (⟨#[100, 115, 116, 32]⟩ : ByteArray).size + r201_1.size ≤ 9223372036854775807] (by kernel_rfl) ⟨g201_0, (f52_num_Text_ok (PT.num f) r201_1 cr201_1), g201_2, trivial⟩
              · refine At.step hm ht ⟨[], [false], [], [0, 6], []⟩ 14 ⟨[(0, oc (.d (.pt f))), (6, oc (zi (PT.op f)))], [], [], 0⟩ [(((PT.op f) : Int) == 5) = false] (by kernel_rfl) ⟨b200_e0, trivial⟩ ?_
                rcases iteS h with ⟨b202_e0, h⟩ | ⟨b202_e0, h⟩
                · refine At.step hm ht ⟨[], [true], [], [0], []⟩ 15 ⟨[(0, oc (.d (.pt f)))], [], [], 0⟩ [(((PT.op f) : Int) == 6) = true] (by kernel_rfl) ⟨b202_e0, trivial⟩ ?_
                  obtain ⟨g203_0, h⟩ := ifS h
                  obtain ⟨r203_1, cr203_1, h⟩ := bindS h
                  obtain ⟨g203_2, h⟩ := ifS h
                  have h := Option.some.inj h
                  subst h
                  exact At.fin hm ht ⟨[(4, .call [] [] (f52_num_Text_out r203_1))], [], [], [2], []⟩ [PT.isNil f = false, FnOK Tryd.prog 52 (f52_num_Text_in (PT.num f)) (f52_num_Text_out r203_1), (⟨#[104, 97, 115, 32]⟩ : ByteArray).size + r203_1.size ≤ 9223372036854775807] (by kernel_rfl) ⟨g203_0, (f52_num_Text_ok (PT.num f) r203_1 cr203_1), g203_2, trivial⟩
                · refine At.step hm ht ⟨[], [false], [], [0, 6], []⟩ 16 ⟨[(0, oc (.d (.pt f))), (6, oc (zi (PT.op f)))], [], [], 0⟩ [(((PT.op f) : Int) == 6) = false] (by kernel_rfl) ⟨b202_e0, trivial⟩ ?_
                  rcases iteS h with ⟨b204_e0, h⟩ | ⟨b204_e0, h⟩
                  · refine At.step hm ht ⟨[], [true], [], [0], []⟩ 17 ⟨[(0, oc (.d (.pt f)))], [], [], 0⟩ [(((PT.op f) : Int) == 7) = true] (by kernel_rfl) ⟨b204_e0, trivial⟩ ?_
                    obtain ⟨g205_0, h⟩ := ifS h
                    obtain ⟨r205_1, cr205_1, h⟩ := bindS h
                    obtain ⟨g205_2, h⟩ := ifS h
                    have h := Option.some.inj h
                    subst h
                    exact At.fin hm ht ⟨[(4, .call [] [] (f52_num_Text_out r205_1))], [], [], [2], []⟩ [PT.isNil f = false, FnOK Tryd.prog 52 (f52_num_Text_in (PT.num f)) (f52_num_Text_out r205_1), (⟨#[108, 111, 110, 103, 32]⟩ : ByteArray).size + r205_1.size ≤ 9223372036854775807] (by kernel_rfl) ⟨g205_0, (f52_num_Text_ok (PT.num f) r205_1 cr205_1), g205_2, trivial⟩
                  · refine At.step hm ht ⟨[], [false], [], [0, 6], []⟩ 18 ⟨[(0, oc (.d (.pt f))), (6, oc (zi (PT.op f)))], [], [], 0⟩ [(((PT.op f) : Int) == 7) = false] (by kernel_rfl) ⟨b204_e0, trivial⟩ ?_
                    rcases iteS h with ⟨b206_e0, h⟩ | ⟨b206_e0, h⟩
                    · refine At.step hm ht ⟨[], [true], [], [0], []⟩ 19 ⟨[(0, oc (.d (.pt f)))], [], [], 0⟩ [(((PT.op f) : Int) == 8) = true] (by kernel_rfl) ⟨b206_e0, trivial⟩ ?_
                      obtain ⟨g207_0, h⟩ := ifS h
                      obtain ⟨r207_1, cr207_1, h⟩ := bindS h
                      obtain ⟨g207_2, h⟩ := ifS h
                      obtain ⟨g207_3, h⟩ := ifS h
                      have h := Option.some.inj h
                      subst h
                      exact At.fin hm ht ⟨[(4, .call [] [] (f56_filter_text_out r207_1))], [], [], [2], []⟩ [PT.isNil f = false, FnOK Tryd.prog 56 (f56_filter_text_in (PT.fst f)) (f56_filter_text_out r207_1), (⟨#[40, 32, 110, 111, 116, 32]⟩ : ByteArray).size + r207_1.size ≤ 9223372036854775807, ((⟨#[40, 32, 110, 111, 116, 32]⟩ : ByteArray) ++ r207_1).size + (⟨#[32, 41]⟩ : ByteArray).size ≤ 9223372036854775807] (by kernel_rfl) ⟨g207_0, (ih (PT.fst f) r207_1 cr207_1), g207_2, g207_3, trivial⟩
                    · refine At.step hm ht ⟨[], [false], [], [0, 6], []⟩ 20 ⟨[(0, oc (.d (.pt f))), (6, oc (zi (PT.op f)))], [], [], 0⟩ [(((PT.op f) : Int) == 8) = false] (by kernel_rfl) ⟨b206_e0, trivial⟩ ?_
                      rcases iteS h with ⟨b208_e0, h⟩ | ⟨b208_e0, h⟩
                      · refine At.step hm ht ⟨[], [true], [], [0], []⟩ 21 ⟨[(0, oc (.d (.pt f)))], [], [], 0⟩ [(((PT.op f) : Int) == 9) = true] (by kernel_rfl) ⟨b208_e0, trivial⟩ ?_
                        obtain ⟨g209_0, h⟩ := ifS h
                        obtain ⟨r209_1, cr209_1, h⟩ := bindS h
                        obtain ⟨g209_2, h⟩ := ifS h
                        obtain ⟨g209_3, h⟩ := ifS h
                        obtain ⟨g209_4, h⟩ := ifS h
                        obtain ⟨r209_5, cr209_5, h⟩ := bindS h
                        obtain ⟨g209_6, h⟩ := ifS h
                        obtain ⟨g209_7, h⟩ := ifS h
                        have h := Option.some.inj h
                        subst h
                        exact At.fin hm ht ⟨[(4, .call [] [] (f56_filter_text_out r209_1)), (11, .call [] [] (f56_filter_text_out r209_5))], [], [], [2], []⟩ [PT.isNil f = false, FnOK Tryd.prog 56 (f56_filter_text_in (PT.fst f)) (f56_filter_text_out r209_1), (⟨#[40, 32]⟩ : ByteArray).size + r209_1.size ≤ 9223372036854775807, ((⟨#[40, 32]⟩ : ByteArray) ++ r209_1).size + (⟨#[32, 97, 110, 100, 32]⟩ : ByteArray).size ≤ 9223372036854775807, PT.isNil f = false, FnOK Tryd.prog 56 (f56_filter_text_in (PT.snd f)) (f56_filter_text_out r209_5), (((⟨#[40, 32]⟩ : ByteArray) ++ r209_1) ++ (⟨#[32, 97, 110, 100, 32]⟩ : ByteArray)).size + r209_5.size ≤ 9223372036854775807, ((((⟨#[40, 32]⟩ : ByteArray) ++ r209_1) ++ (⟨#[32, 97, 110, 100, 32]⟩ : ByteArray)) ++ r209_5).size + (⟨#[32, 41]⟩ : ByteArray).size ≤ 9223372036854775807] (by kernel_rfl) ⟨g209_0, (ih (PT.fst f) r209_1 cr209_1), g209_2, g209_3, g209_4, (ih (PT.snd f) r209_5 cr209_5), g209_6, g209_7, trivial⟩
                      · refine At.step hm ht ⟨[], [false], [], [0], []⟩ 22 ⟨[(0, oc (.d (.pt f)))], [], [], 0⟩ [(((PT.op f) : Int) == 9) = false] (by kernel_rfl) ⟨b208_e0, trivial⟩ ?_
                        obtain ⟨g210_0, h⟩ := ifS h
                        obtain ⟨r210_1, cr210_1, h⟩ := bindS h
                        obtain ⟨g210_2, h⟩ := ifS h
                        obtain ⟨g210_3, h⟩ := ifS h
                        obtain ⟨g210_4, h⟩ := ifS h
                        obtain ⟨r210_5, cr210_5, h⟩ := bindS h
                        obtain ⟨g210_6, h⟩ := ifS h
                        obtain ⟨g210_7, h⟩ := ifS h
                        have h := Option.some.inj h
                        subst h
                        exact At.fin hm ht ⟨[(4, .call [] [] (f56_filter_text_out r210_1)), (11, .call [] [] (f56_filter_text_out r210_5))], [], [], [2], []⟩ [PT.isNil f = false, FnOK Tryd.prog 56 (f56_filter_text_in (PT.fst f)) (f56_filter_text_out r210_1), (⟨#[40, 32]⟩ : ByteArray).size + r210_1.size ≤ 9223372036854775807, ((⟨#[40, 32]⟩ : ByteArray) ++ r210_1).size + (⟨#[32, 111, 114, 32]⟩ : ByteArray).size ≤ 9223372036854775807, PT.isNil f = false, FnOK Tryd.prog 56 (f56_filter_text_in (PT.snd f)) (f56_filter_text_out r210_5), (((⟨#[40, 32]⟩ : ByteArray) ++ r210_1) ++ (⟨#[32, 111, 114, 32]⟩ : ByteArray)).size + r210_5.size ≤ 9223372036854775807, ((((⟨#[40, 32]⟩ : ByteArray) ++ r210_1) ++ (⟨#[32, 111, 114, 32]⟩ : ByteArray)) ++ r210_5).size + (⟨#[32, 41]⟩ : ByteArray).size ≤ 9223372036854775807] (by kernel_rfl) ⟨g210_0, (ih (PT.fst f) r210_1 cr210_1), g210_2, g210_3, g210_4, (ih (PT.snd f) r210_5 cr210_5), g210_6, g210_7, trivial⟩
/-! brougham/filter.Text -/
def f27_filter_Text_in (f : PT) : Inn := ⟨[.c (.d (.pt f))], [], [], 0⟩
def f27_filter_Text_out (r : ByteArray) : Out := ⟨oc (.d (.str r)), [], [], 0⟩
def f27_filter_Text (n : Nat) (f : PT) : Option (ByteArray) :=
  (f31_filter_Right n f).bind fun r178_0 =>
  if (!r178_0) = true then
    some (⟨#[]⟩ : ByteArray)
  else
    (f56_filter_text n f).bind fun r180_0 =>
    some r180_0
theorem f27_filter_Text_ok (n : Nat) (f : PT) (r : ByteArray) (h : f27_filter_Text n f = some r) : FnOK Tryd.prog 27 (f27_filter_Text_in f) (f27_filter_Text_out r) := by
  unfold f27_filter_Text at h
  refine At.fn (r := 0) Tryd.func27 rfl (by kernel_rfl) rfl rfl (by kernel_rfl) ?_
  show At Tryd.prog Tryd.f27 0 0 ⟨[(0, oc (.d (.pt f)))], [], [], 0⟩ _
  refine At.step hm ht ⟨[], [], [], [0], []⟩ 1 ⟨[(0, oc (.d (.pt f)))], [], [], 0⟩ [] (by kernel_rfl) trivial ?_
  obtain ⟨r178_0, cr178_0, h⟩ := bindS h
  rcases iteS h with ⟨b178_e0, h⟩ | ⟨b178_e0, h⟩
  · refine At.step hm ht ⟨[(1, .call [] [] (f31_filter_Right_out r178_0))], [true], [], [], []⟩ 2 ⟨[], [], [], 0⟩ [FnOK Tryd.prog 31 (f31_filter_Right_in f) (f31_filter_Right_out r178_0), (!r178_0) = true] (by kernel_rfl) ⟨(f31_filter_Right_ok n f r178_0 cr178_0), b178_e0, trivial⟩ ?_
    have h := Option.some.inj h
    subst h
    exact At.fin hm ht ⟨[], [], [], [2], []⟩ [] (by kernel_rfl) trivial
  · refine At.step hm ht ⟨[(1, .call [] [] (f31_filter_Right_out r178_0))], [false], [], [0], []⟩ 3 ⟨[(0, oc (.d (.pt f)))], [], [], 0⟩ [FnOK Tryd.prog 31 (f31_filter_Right_in f) (f31_filter_Right_out r178_0), (!r178_0) = false] (by kernel_rfl) ⟨(f31_filter_Right_ok n f r178_0 cr178_0), b178_e0, trivial⟩ ?_
    obtain ⟨r180_0, cr180_0, h⟩ := bindS h
    have h := Option.some.inj h
    subst h
    exact At.fin hm ht ⟨[(1, .call [] [] (f56_filter_text_out r180_0))], [], [], [2], []⟩ [FnOK Tryd.prog 56 (f56_filter_text_in f) (f56_filter_text_out r180_0)] (by kernel_rfl) ⟨(f56_filter_text_ok n f r180_0 cr180_0), trivial⟩
/-! brougham/seg.First -/
def f89_seg_First_in (s_0 : Int) (s_1 : Int) (s_2 : Int) (s_3 : Int) (s_4 : Int) (s_5 : List (Int × List Int)) (s_6 : List Int) (kind : Int) : Inn := ⟨[.agg [.d (.int .u16 s_0), .d (.int .u16 s_1), .d (.int .u32 s_2), .d (.int .u32 s_3), .d (.int .u8 s_4), .d (.sl (.pair (.int .u8) (.slice (.int .u8))) s_5), .d (.sl (.int .u8) s_6)], .c (.d (.int .u8 kind))], [], [], 0⟩
def f89_seg_First_out (r : Bool × Int × List Int) : Out := ⟨.tup [.agg [.d (.int .u8 r.2.1), .d (.sl (.int .u8) r.2.2)], .c (.d (.bool r.1))], [], [(0, [.d (.int .u8 r.2.1), .d (.sl (.int .u8) r.2.2)])], 1⟩
def f89_seg_First_L2 : Nat → Int → (List (Int × List Int)) → Int → Int → Int → Option ((Bool × Int × List Int) ⊕ (Int))
  | 0, _, _, _, _, _ => none
  | n + 1, kind, t9, t10, t11, t4_0 =>
    if (decide ((t11 : Int) < t10)) = true then
      if (0 : Int) ≤ t11 ∧ t11 < (((t9).length : Nat) : Int) then
      if ((((t9.getD t11.toNat (0, [])).1) : Int) == kind) = true then
        some (.inl (true, (t9.getD t11.toNat (0, [])).1, (t9.getD t11.toNat (0, [])).2))
      else
        f89_seg_First_L2 n kind t9 t10 (IntKind.wrap .i64 (t11 + 1)) t4_0
      else none
    else
      some (.inr t4_0)
def f89_seg_First_L2_k (w : (Bool × Int × List Int) ⊕ (Int)) (o : Out) : Prop := match w with
  | .inl e => o = f89_seg_First_out e
  | .inr e => At Tryd.prog Tryd.f89 0 7 ⟨[(4, oc (.ptr 0 0))], [], [(0, [.d (.int .u8 e), .d (.sl .unit [])])], 1⟩ o
theorem f89_seg_First_L2_ok (n : Nat) : ∀ (kind : Int) (t9 : List (Int × List Int)) (t10 : Int) (t11 : Int) (t4_0 : Int) (w : (Bool × Int × List Int) ⊕ (Int)) (h : f89_seg_First_L2 n kind t9 t10 t11 t4_0 = some w) (o : Out) (hk : f89_seg_First_L2_k w o), At Tryd.prog Tryd.f89 0 2 ⟨[(1, oc (.d (.int .u8 kind))), (4, oc (.ptr 0 0)), (9, oc (.d (.sl (.pair (.int .u8) (.slice (.int .u8))) t9))), (10, oc (zi t10)), (11, oc (zi t11))], [], [(0, [.d (.int .u8 t4_0), .d (.sl .unit [])])], 1⟩ o := by
  induction n with
  | zero => intro kind t9 t10 t11 t4_0 w h; rw [f89_seg_First_L2] at h; cases h
  | succ n ih =>
    intro kind t9 t10 t11 t4_0 w h o hk
    rw [f89_seg_First_L2] at h
    rcases iteS h with ⟨b229_e0, h⟩ | ⟨b229_e0, h⟩
    · refine At.step hm ht ⟨[], [true], [], [1, 4, 9, 10, 11], [0]⟩ 3 ⟨[(1, oc (.d (.int .u8 kind))), (4, oc (.ptr 0 0)), (9, oc (.d (.sl (.pair (.int .u8) (.slice (.int .u8))) t9))), (10, oc (zi t10)), (11, oc (zi t11))], [], [(0, [.d (.int .u8 t4_0), .d (.sl .unit [])])], 1⟩ [(decide ((t11 : Int) < t10)) = true] (by kernel_rfl) ⟨b229_e0, trivial⟩ ?_
      obtain ⟨g230_0, h⟩ := ifS h
      refine At.step hm ht ⟨[], [], [], [1, 4, 7, 9, 10, 11], [0, 3]⟩ 4 ⟨[(1, oc (.d (.int .u8 kind))), (4, oc (.ptr 0 0)), (7, oc (.ptr 1 0)), (9, oc (.d (.sl (.pair (.int .u8) (.slice (.int .u8))) t9))), (10, oc (zi t10)), (11, oc (zi t11))], [], [(0, [.d (.int .u8 t4_0), .d (.sl .unit [])]), (1, [.d (.int .u8 ((t9.getD t11.toNat (0, [])).1)), .d (.sl (.int .u8) ((t9.getD t11.toNat (0, [])).2))])], 2⟩ [(0 : Int) ≤ t11 ∧ t11 < (((t9).length : Nat) : Int), 0 + 2 ≤ 2] (by kernel_rfl) ⟨g230_0, (by decide), trivial⟩ ?_
      rcases iteS h with ⟨b231_e0, h⟩ | ⟨b231_e0, h⟩
      · refine At.step hm ht ⟨[], [true], [], [4, 7], [0, 1]⟩ 5 ⟨[(4, oc (.ptr 0 0)), (7, oc (.ptr 1 0))], [], [(0, [.d (.int .u8 t4_0), .d (.sl .unit [])]), (1, [.d (.int .u8 ((t9.getD t11.toNat (0, [])).1)), .d (.sl (.int .u8) ((t9.getD t11.toNat (0, [])).2))])], 2⟩ [((((t9.getD t11.toNat (0, [])).1) : Int) == kind) = true] (by kernel_rfl) ⟨b231_e0, trivial⟩ ?_
        have h := Option.some.inj h
        subst h
        have hk : o = f89_seg_First_out (true, (t9.getD t11.toNat (0, [])).1, (t9.getD t11.toNat (0, [])).2) := hk
        subst hk
        exact At.fin hm ht ⟨[], [], [], [4, 5], [0]⟩ [0 + 2 ≤ 2] (by kernel_rfl) ⟨(by decide), trivial⟩
      · refine At.step hm ht ⟨[], [false], [], [1, 4, 9, 10, 11], [0]⟩ 6 ⟨[(1, oc (.d (.int .u8 kind))), (4, oc (.ptr 0 0)), (9, oc (.d (.sl (.pair (.int .u8) (.slice (.int .u8))) t9))), (10, oc (zi t10)), (11, oc (zi t11))], [], [(0, [.d (.int .u8 t4_0), .d (.sl .unit [])])], 1⟩ [((((t9.getD t11.toNat (0, [])).1) : Int) == kind) = false] (by kernel_rfl) ⟨b231_e0, trivial⟩ ?_
        refine At.step hm ht ⟨[], [], [], [1, 4, 9, 10, 11], [0]⟩ 2 ⟨[(1, oc (.d (.int .u8 kind))), (4, oc (.ptr 0 0)), (9, oc (.d (.sl (.pair (.int .u8) (.slice (.int .u8))) t9))), (10, oc (zi t10)), (11, oc (zi (IntKind.wrap .i64 (t11 + 1))))], [], [(0, [.d (.int .u8 t4_0), .d (.sl .unit [])])], 1⟩ [] (by kernel_rfl) trivial ?_
        exact ih kind t9 t10 (IntKind.wrap .i64 (t11 + 1)) t4_0 w h o hk
    · refine At.step hm ht ⟨[], [false], [], [4], [0]⟩ 7 ⟨[(4, oc (.ptr 0 0))], [], [(0, [.d (.int .u8 t4_0), .d (.sl .unit [])])], 1⟩ [(decide ((t11 : Int) < t10)) = false] (by kernel_rfl) ⟨b229_e0, trivial⟩ ?_
      have h := Option.some.inj h
      subst h
      exact hk
def f89_seg_First (n : Nat) (s_0 : Int) (s_1 : Int) (s_2 : Int) (s_3 : Int) (s_4 : Int) (s_5 : List (Int × List Int)) (s_6 : List Int) (kind : Int) : Option (Bool × Int × List Int) :=
  (f89_seg_First_L2 n kind s_5 ((s_5.length : Nat) : Int) 0 0).bind fun w234 =>
  match w234 with
  | .inl e235 =>
    some (e235.1, e235.2.1, e235.2.2)
  | .inr e236 =>
    some (false, 0, [])
theorem f89_seg_First_ok (n : Nat) (s_0 : Int) (s_1 : Int) (s_2 : Int) (s_3 : Int) (s_4 : Int) (s_5 : List (Int × List Int)) (s_6 : List Int) (kind : Int) (r : Bool × Int × List Int) (h : f89_seg_First n s_0 s_1 s_2 s_3 s_4 s_5 s_6 kind = some r) : FnOK Tryd.prog 89 (f89_seg_First_in s_0 s_1 s_2 s_3 s_4 s_5 s_6 kind) (f89_seg_First_out r) := by
  unfold f89_seg_First at h
  refine At.fn (r := 0) Tryd.func89 rfl (by kernel_rfl) rfl rfl (by kernel_rfl) ?_
  show At Tryd.prog Tryd.f89 0 0 ⟨[(0, .one (.agg [.d (.int .u16 s_0), .d (.int .u16 s_1), .d (.int .u32 s_2), .d (.int .u32 s_3), .d (.int .u8 s_4), .d (.sl (.pair (.int .u8) (.slice (.int .u8))) s_5), .d (.sl (.int .u8) s_6)])), (1, oc (.d (.int .u8 kind)))], [], [], 0⟩ _
  refine At.step hm ht ⟨[], [], [], [1, 2, 4], [0, 1]⟩ 1 ⟨[(1, oc (.d (.int .u8 kind))), (2, oc (.ptr 0 0)), (4, oc (.ptr 1 0))], [], [(0, [.d (.int .u16 s_0), .d (.int .u16 s_1), .d (.int .u32 s_2), .d (.int .u32 s_3), .d (.int .u8 s_4), .d (.sl (.pair (.int .u8) (.slice (.int .u8))) s_5), .d (.sl (.int .u8) s_6)]), (1, [.d (.int .u8 0), .d (.sl .unit [])])], 2⟩ [] (by kernel_rfl) trivial ?_
  refine At.step hm ht ⟨[], [], [], [1, 4, 9, 10, 11], [1]⟩ 2 ⟨[(1, oc (.d (.int .u8 kind))), (4, oc (.ptr 0 0)), (9, oc (.d (.sl (.pair (.int .u8) (.slice (.int .u8))) s_5))), (10, oc (zi ((s_5.length : Nat) : Int))), (11, oc (zi 0))], [], [(0, [.d (.int .u8 0), .d (.sl .unit [])])], 1⟩ [] (by kernel_rfl) trivial ?_
  obtain ⟨w234, cw234, h⟩ := bindS h
  refine f89_seg_First_L2_ok n kind s_5 ((s_5.length : Nat) : Int) 0 0 w234 cw234 _ ?_
  rcases w234 with e235 | e236
  · have h := Option.some.inj h
    subst h
    rfl
  · show At Tryd.prog Tryd.f89 0 7 ⟨[(4, oc (.ptr 0 0))], [], [(0, [.d (.int .u8 e236), .d (.sl .unit [])])], 1⟩ _
    have h := Option.some.inj h
    subst h
    exact At.fin hm ht ⟨[], [], [.nil true 0 1 (.int .u8) none], [4, 5], [0]⟩ [0 + 2 ≤ 2] (by kernel_rfl) ⟨(by decide), trivial⟩
/-! brougham/filter.match -/
def f60_filter_match_in (f : PT) (s_0 : Int) (s_1 : Int) (s_2 : Int) (s_3 : Int) (s_4 : Int) (s_5 : List (Int × List Int)) (s_6 : List Int) : Inn := ⟨[.c (.d (.pt f)), .agg [.d (.int .u16 s_0), .d (.int .u16 s_1), .d (.int .u32 s_2), .d (.int .u32 s_3), .d (.int .u8 s_4), .d (.sl (.pair (.int .u8) (.slice (.int .u8))) s_5), .d (.sl (.int .u8) s_6)]], [], [], 0⟩
def f60_filter_match_out (r : Bool) : Out := ⟨oc (.d (.bool r)), [], [], 0⟩
def f60_filter_match : Nat → PT → Int → Int → Int → Int → Int → (List (Int × List Int)) → (List Int) → Option (Bool)
  | 0, _, _, _, _, _, _, _, _ => none
  | n + 1, f, s_0, s_1, s_2, s_3, s_4, s_5, s_6 =>
    if PT.isNil f = false then
    if (((PT.op f) : Int) == 1) = true then
      some true
    else
      if (((PT.op f) : Int) == 2) = true then
        if PT.isNil f = false then
        some (((bits .and .i64 (IntKind.wrap .i64 s_4) (PT.num f)) : Int) != 0)
        else none
      else
        if (((PT.op f) : Int) == 3) = true then
          if PT.isNil f = false then
          if (((IntKind.wrap .i64 s_0) : Int) == (PT.num f)) = true then
            some true
          else
            if PT.isNil f = false then
            some (((IntKind.wrap .i64 s_1) : Int) == (PT.num f))
            else none
          else none
        else
          if (((PT.op f) : Int) == 4) = true then
            if PT.isNil f = false then
            some (((IntKind.wrap .i64 s_0) : Int) == (PT.num f))
            else none
          else
            if (((PT.op f) : Int) == 5) = true then
              if PT.isNil f = false then
              some (((IntKind.wrap .i64 s_1) : Int) == (PT.num f))
              else none
            else
              if (((PT.op f) : Int) == 6) = true then
                if PT.isNil f = false then
                (f89_seg_First n s_0 s_1 s_2 s_3 s_4 s_5 s_6 (IntKind.wrap .u8 (PT.num f))).bind fun r226_1 =>
                some r226_1.1
                else none
              else
                if (((PT.op f) : Int) == 7) = true then
                  if PT.isNil f = false then
                  some (decide ((((s_6.length : Nat) : Int) : Int) ≥ (PT.num f)))
                  else none
                else
                  if (((PT.op f) : Int) == 11) = true then
                    some ((((s_6.length : Nat) : Int) : Int) == 0)
                  else
                    if (((PT.op f) : Int) == 8) = true then
                      if PT.isNil f = false then
                      ((f60_filter_match n) (PT.fst f) s_0 s_1 s_2 s_3 s_4 s_5 s_6).bind fun r244_1 =>
                      some (!r244_1)
                      else none
                    else
                      if (((PT.op f) : Int) == 9) = true then
                        if PT.isNil f = false then
                        ((f60_filter_match n) (PT.fst f) s_0 s_1 s_2 s_3 s_4 s_5 s_6).bind fun r246_1 =>
                        if r246_1 = true then
                          if PT.isNil f = false then
                          ((f60_filter_match n) (PT.snd f) s_0 s_1 s_2 s_3 s_4 s_5 s_6).bind fun r246_3 =>
                          some r246_3
                          else none
                        else
                          some false
                        else none
                      else
                        if PT.isNil f = false then
                        ((f60_filter_match n) (PT.fst f) s_0 s_1 s_2 s_3 s_4 s_5 s_6).bind fun r247_1 =>
                        if r247_1 = true then
                          some true
                        else
                          if PT.isNil f = false then
                          ((f60_filter_match n) (PT.snd f) s_0 s_1 s_2 s_3 s_4 s_5 s_6).bind fun r247_3 =>
                          some r247_3
                          else none
                        else none
    else none
theorem f60_filter_match_ok (n : Nat) : ∀ (f : PT) (s_0 : Int) (s_1 : Int) (s_2 : Int) (s_3 : Int) (s_4 : Int) (s_5 : List (Int × List Int)) (s_6 : List Int) (r : Bool) (h : f60_filter_match n f s_0 s_1 s_2 s_3 s_4 s_5 s_6 = some r), FnOK Tryd.prog 60 (f60_filter_match_in f s_0 s_1 s_2 s_3 s_4 s_5 s_6) (f60_filter_match_out r) := by
  induction n with
  | zero => intro f s_0 s_1 s_2 s_3 s_4 s_5 s_6 r h; rw [f60_filter_match] at h; cases h
  | succ n ih =>
    intro f s_0 s_1 s_2 s_3 s_4 s_5 s_6 r h
    rw [f60_filter_match] at h
    refine At.fn (r := 0) Tryd.func60 rfl (by kernel_rfl) rfl rfl (by kernel_rfl) ?_
    show At Tryd.prog Tryd.f60 0 0 ⟨[(0, oc (.d (.pt f))), (1, .one (.agg [.d (.int .u16 s_0), .d (.int .u16 s_1), .d (.int .u32 s_2), .d (.int .u32 s_3), .d (.int .u8 s_4), .d (.sl (.pair (.int .u8) (.slice (.int .u8))) s_5), .d (.sl (.int .u8) s_6)]))], [], [], 0⟩ _
    refine At.step hm ht ⟨[], [], [], [0, 3], [0]⟩ 1 ⟨[(0, oc (.d (.pt f))), (3, oc (.ptr 0 0))], [], [(0, [.d (.int .u16 s_0), .d (.int .u16 s_1), .d (.int .u32 s_2), .d (.int .u32 s_3), .d (.int .u8 s_4), .d (.sl (.pair (.int .u8) (.slice (.int .u8))) s_5), .d (.sl (.int .u8) s_6)])], 1⟩ [] (by kernel_rfl) trivial ?_
    obtain ⟨g214_0, h⟩ := ifS h
    refine At.step hm ht ⟨[], [], [], [0, 3, 10], [0]⟩ 2 ⟨[(0, oc (.d (.pt f))), (3, oc (.ptr 0 0)), (10, oc (zi (PT.op f)))], [], [(0, [.d (.int .u16 s_0), .d (.int .u16 s_1), .d (.int .u32 s_2), .d (.int .u32 s_3), .d (.int .u8 s_4), .d (.sl (.pair (.int .u8) (.slice (.int .u8))) s_5), .d (.sl (.int .u8) s_6)])], 1⟩ [PT.isNil f = false] (by kernel_rfl) ⟨g214_0, trivial⟩ ?_
    rcases iteS h with ⟨b215_e0, h⟩ | ⟨b215_e0, h⟩
    · refine At.step hm ht ⟨[], [true], [], [], []⟩ 3 ⟨[], [], [], 0⟩ [(((PT.op f) : Int) == 1) = true] (by kernel_rfl) ⟨b215_e0, trivial⟩ ?_
      have h := Option.some.inj h
      subst h
      exact At.fin hm ht ⟨[], [], [], [4], []⟩ [] (by kernel_rfl) trivial
    · refine At.step hm ht ⟨[], [false], [], [0, 3, 10], [0]⟩ 4 ⟨[(0, oc (.d (.pt f))), (3, oc (.ptr 0 0)), (10, oc (zi (PT.op f)))], [], [(0, [.d (.int .u16 s_0), .d (.int .u16 s_1), .d (.int .u32 s_2), .d (.int .u32 s_3), .d (.int .u8 s_4), .d (.sl (.pair (.int .u8) (.slice (.int .u8))) s_5), .d (.sl (.int .u8) s_6)])], 1⟩ [(((PT.op f) : Int) == 1) = false] (by kernel_rfl) ⟨b215_e0, trivial⟩ ?_
      rcases iteS h with ⟨b217_e0, h⟩ | ⟨b217_e0, h⟩
      · refine At.step hm ht ⟨[], [true], [], [0, 3], [0]⟩ 5 ⟨[(0, oc (.d (.pt f))), (3, oc (.ptr 0 0))], [], [(0, [.d (.int .u16 s_0), .d (.int .u16 s_1), .d (.int .u32 s_2), .d (.int .u32 s_3), .d (.int .u8 s_4), .d (.sl (.pair (.int .u8) (.slice (.int .u8))) s_5), .d (.sl (.int .u8) s_6)])], 1⟩ [(((PT.op f) : Int) == 2) = true] (by kernel_rfl) ⟨b217_e0, trivial⟩ ?_
        obtain ⟨g218_0, h⟩ := ifS h
        have h := Option.some.inj h
        subst h
        exact At.fin hm ht ⟨[], [], [], [4], []⟩ [PT.isNil f = false] (by kernel_rfl) ⟨g218_0, trivial⟩
      · refine At.step hm ht ⟨[], [false], [], [0, 3, 10], [0]⟩ 6 ⟨[(0, oc (.d (.pt f))), (3, oc (.ptr 0 0)), (10, oc (zi (PT.op f)))], [], [(0, [.d (.int .u16 s_0), .d (.int .u16 s_1), .d (.int .u32 s_2), .d (.int .u32 s_3), .d (.int .u8 s_4), .d (.sl (.pair (.int .u8) (.slice (.int .u8))) s_5), .d (.sl (.int .u8) s_6)])], 1⟩ [(((PT.op f) : Int) == 2) = false] (by kernel_rfl) ⟨b217_e0, trivial⟩ ?_
        rcases iteS h with ⟨b219_e0, h⟩ | ⟨b219_e0, h⟩
        · refine At.step hm ht ⟨[], [true], [], [0, 3], [0]⟩ 7 ⟨[(0, oc (.d (.pt f))), (3, oc (.ptr 0 0))], [], [(0, [.d (.int .u16 s_0), .d (.int .u16 s_1), .d (.int .u32 s_2), .d (.int .u32 s_3), .d (.int .u8 s_4), .d (.sl (.pair (.int .u8) (.slice (.int .u8))) s_5), .d (.sl (.int .u8) s_6)])], 1⟩ [(((PT.op f) : Int) == 3) = true] (by kernel_rfl) ⟨b219_e0, trivial⟩ ?_
          obtain ⟨g220_0, h⟩ := ifS h
          rcases iteS h with ⟨b220_8, h⟩ | ⟨b220_8, h⟩
          · have h := Option.some.inj h
            subst h
            exact At.fin hm ht ⟨[(8, .b true)], [], [], [4], []⟩ [PT.isNil f = false, (((IntKind.wrap .i64 s_0) : Int) == (PT.num f)) = true] (by kernel_rfl) ⟨g220_0, b220_8, trivial⟩
          · obtain ⟨g220_1, h⟩ := ifS h
            have h := Option.some.inj h
            subst h
            exact At.fin hm ht ⟨[(8, .b false)], [], [], [4], []⟩ [PT.isNil f = false, (((IntKind.wrap .i64 s_0) : Int) == (PT.num f)) = false, PT.isNil f = false] (by kernel_rfl) ⟨g220_0, b220_8, g220_1, trivial⟩
        · refine At.step hm ht ⟨[], [false], [], [0, 3, 10], [0]⟩ 8 ⟨[(0, oc (.d (.pt f))), (3, oc (.ptr 0 0)), (10, oc (zi (PT.op f)))], [], [(0, [.d (.int .u16 s_0), .d (.int .u16 s_1), .d (.int .u32 s_2), .d (.int .u32 s_3), .d (.int .u8 s_4), .d (.sl (.pair (.int .u8) (.slice (.int .u8))) s_5), .d (.sl (.int .u8) s_6)])], 1⟩ [(((PT.op f) : Int) == 3) = false] (by kernel_rfl) ⟨b219_e0, trivial⟩ ?_
          rcases iteS h with ⟨b221_e0, h⟩ | ⟨b221_e0, h⟩
          · refine At.step hm ht ⟨[], [true], [], [0, 3], [0]⟩ 9 ⟨[(0, oc (.d (.pt f))), (3, oc (.ptr 0 0))], [], [(0, [.d (.int .u16 s_0), .d (.int .u16 s_1), .d (.int .u32 s_2), .d (.int .u32 s_3), .d (.int .u8 s_4), .d (.sl (.pair (.int .u8) (.slice (.int .u8))) s_5), .d (.sl (.int .u8) s_6)])], 1⟩ [(((PT.op f) : Int) == 4) = true] (by kernel_rfl) ⟨b221_e0, trivial⟩ ?_
            obtain ⟨g222_0, h⟩ := ifS h
            have h := Option.some.inj h
            subst h
            exact At.fin hm ht ⟨[], [], [], [4], []⟩ [PT.isNil f = false] (by kernel_rfl) ⟨g222_0, trivial⟩
          · refine At.step hm ht ⟨[], [false], [], [0, 3, 10], [0]⟩ 10 ⟨[(0, oc (.d (.pt f))), (3, oc (.ptr 0 0)), (10, oc (zi (PT.op f)))], [], [(0, [.d (.int .u16 s_0), .d (.int .u16 s_1), .d (.int .u32 s_2), .d (.int .u32 s_3), .d (.int .u8 s_4), .d (.sl (.pair (.int .u8) (.slice (.int .u8))) s_5), .d (.sl (.int .u8) s_6)])], 1⟩ [(((PT.op f) : Int) == 4) = false] (by kernel_rfl) ⟨b221_e0, trivial⟩ ?_
            rcases iteS h with ⟨b223_e0, h⟩ | ⟨b223_e0, h⟩
            · refine At.step hm ht ⟨[], [true], [], [0, 3], [0]⟩ 11 ⟨[(0, oc (.d (.pt f))), (3, oc (.ptr 0 0))], [], [(0, [.d (.int .u16 s_0), .d (.int .u16 s_1), .d (.int .u32 s_2), .d (.int .u32 s_3), .d (.int .u8 s_4), .d (.sl (.pair (.int .u8) (.slice (.int .u8))) s_5), .d (.sl (.int .u8) s_6)])], 1⟩ [(((PT.op f) : Int) == 5) = true] (by kernel_rfl) ⟨b223_e0, trivial⟩ ?_
              obtain ⟨g224_0, h⟩ := ifS h
              have h := Option.some.inj h
              subst h
              exact At.fin hm ht ⟨[], [], [], [4], []⟩ [PT.isNil f = false] (by kernel_rfl) ⟨g224_0, trivial⟩
            · refine At.step hm ht ⟨[], [false], [], [0, 3, 10], [0]⟩ 12 ⟨[(0, oc (.d (.pt f))), (3, oc (.ptr 0 0)), (10, oc (zi (PT.op f)))], [], [(0, [.d (.int .u16 s_0), .d (.int .u16 s_1), .d (.int .u32 s_2), .d (.int .u32 s_3), .d (.int .u8 s_4), .d (.sl (.pair (.int .u8) (.slice (.int .u8))) s_5), .d (.sl (.int .u8) s_6)])], 1⟩ [(((PT.op f) : Int) == 5) = false] (by kernel_rfl) ⟨b223_e0, trivial⟩ ?_
              rcases iteS h with ⟨b225_e0, h⟩ | ⟨b225_e0, h⟩
              · refine At.step hm ht ⟨[], [true], [], [0, 3], [0]⟩ 13 ⟨[(0, oc (.d (.pt f))), (3, oc (.ptr 0 0))], [], [(0, [.d (.int .u16 s_0), .d (.int .u16 s_1), .d (.int .u32 s_2), .d (.int .u32 s_3), .d (.int .u8 s_4), .d (.sl (.pair (.int .u8) (.slice (.int .u8))) s_5), .d (.sl (.int .u8) s_6)])], 1⟩ [(((PT.op f) : Int) == 6) = true] (by kernel_rfl) ⟨b225_e0, trivial⟩ ?_
                obtain ⟨g226_0, h⟩ := ifS h
                obtain ⟨r226_1, cr226_1, h⟩ := bindS h
                refine At.step hm ht ⟨[(6, .call [] [] (f89_seg_First_out r226_1))], [], [], [6], []⟩ 14 ⟨[(6, oc (.d (.bool r226_1.1)))], [], [], 0⟩ [PT.isNil f = false, FnOK Tryd.prog 89 (f89_seg_First_in s_0 s_1 s_2 s_3 s_4 s_5 s_6 (IntKind.wrap .u8 (PT.num f))) (f89_seg_First_out r226_1), 0 + 2 ≤ 2] (by kernel_rfl) ⟨g226_0, (f89_seg_First_ok n s_0 s_1 s_2 s_3 s_4 s_5 s_6 (IntKind.wrap .u8 (PT.num f)) r226_1 cr226_1), (by decide), trivial⟩ ?_
                have h := Option.some.inj h
                subst h
                exact At.fin hm ht ⟨[], [], [], [4], []⟩ [] (by kernel_rfl) trivial
              · refine At.step hm ht ⟨[], [false], [], [0, 3, 10], [0]⟩ 15 ⟨[(0, oc (.d (.pt f))), (3, oc (.ptr 0 0)), (10, oc (zi (PT.op f)))], [], [(0, [.d (.int .u16 s_0), .d (.int .u16 s_1), .d (.int .u32 s_2), .d (.int .u32 s_3), .d (.int .u8 s_4), .d (.sl (.pair (.int .u8) (.slice (.int .u8))) s_5), .d (.sl (.int .u8) s_6)])], 1⟩ [(((PT.op f) : Int) == 6) = false] (by kernel_rfl) ⟨b225_e0, trivial⟩ ?_
                rcases iteS h with ⟨b239_e0, h⟩ | ⟨b239_e0, h⟩
                · refine At.step hm ht ⟨[], [true], [], [0, 3], [0]⟩ 16 ⟨[(0, oc (.d (.pt f))), (3, oc (.ptr 0 0))], [], [(0, [.d (.int .u16 s_0), .d (.int .u16 s_1), .d (.int .u32 s_2), .d (.int .u32 s_3), .d (.int .u8 s_4), .d (.sl (.pair (.int .u8) (.slice (.int .u8))) s_5), .d (.sl (.int .u8) s_6)])], 1⟩ [(((PT.op f) : Int) == 7) = true] (by kernel_rfl) ⟨b239_e0, trivial⟩ ?_
                  obtain ⟨g240_0, h⟩ := ifS h
                  have h := Option.some.inj h
                  subst h
                  exact At.fin hm ht ⟨[], [], [], [4], []⟩ [PT.isNil f = false] (by kernel_rfl) ⟨g240_0, trivial⟩
                · refine At.step hm ht ⟨[], [false], [], [0, 3, 10], [0]⟩ 17 ⟨[(0, oc (.d (.pt f))), (3, oc (.ptr 0 0)), (10, oc (zi (PT.op f)))], [], [(0, [.d (.int .u16 s_0), .d (.int .u16 s_1), .d (.int .u32 s_2), .d (.int .u32 s_3), .d (.int .u8 s_4), .d (.sl (.pair (.int .u8) (.slice (.int .u8))) s_5), .d (.sl (.int .u8) s_6)])], 1⟩ [(((PT.op f) : Int) == 7) = false] (by kernel_rfl) ⟨b239_e0, trivial⟩ ?_
                  rcases iteS h with ⟨b241_e0, h⟩ | ⟨b241_e0, h⟩
                  · refine At.step hm ht ⟨[], [true], [], [3], [0]⟩ 18 ⟨[(3, oc (.ptr 0 0))], [], [(0, [.d (.int .u16 s_0), .d (.int .u16 s_1), .d (.int .u32 s_2), .d (.int .u32 s_3), .d (.int .u8 s_4), .d (.sl (.pair (.int .u8) (.slice (.int .u8))) s_5), .d (.sl (.int .u8) s_6)])], 1⟩ [(((PT.op f) : Int) == 11) = true] (by kernel_rfl) ⟨b241_e0, trivial⟩ ?_
                    have h := Option.some.inj h
                    subst h
                    exact At.fin hm ht ⟨[], [], [], [4], []⟩ [] (by kernel_rfl) trivial
                  · refine At.step hm ht ⟨[], [false], [], [0, 3, 10], [0]⟩ 19 ⟨[(0, oc (.d (.pt f))), (3, oc (.ptr 0 0)), (10, oc (zi (PT.op f)))], [], [(0, [.d (.int .u16 s_0), .d (.int .u16 s_1), .d (.int .u32 s_2), .d (.int .u32 s_3), .d (.int .u8 s_4), .d (.sl (.pair (.int .u8) (.slice (.int .u8))) s_5), .d (.sl (.int .u8) s_6)])], 1⟩ [(((PT.op f) : Int) == 11) = false] (by kernel_rfl) ⟨b241_e0, trivial⟩ ?_
                    rcases iteS h with ⟨b243_e0, h⟩ | ⟨b243_e0, h⟩
                    · refine At.step hm ht ⟨[], [true], [], [0, 3], [0]⟩ 20 ⟨[(0, oc (.d (.pt f))), (3, oc (.ptr 0 0))], [], [(0, [.d (.int .u16 s_0), .d (.int .u16 s_1), .d (.int .u32 s_2), .d (.int .u32 s_3), .d (.int .u8 s_4), .d (.sl (.pair (.int .u8) (.slice (.int .u8))) s_5), .d (.sl (.int .u8) s_6)])], 1⟩ [(((PT.op f) : Int) == 8) = true] (by kernel_rfl) ⟨b243_e0, trivial⟩ ?_
                      obtain ⟨g244_0, h⟩ := ifS h
                      obtain ⟨r244_1, cr244_1, h⟩ := bindS h
                      have h := Option.some.inj h
                      subst h
                      exact At.fin hm ht ⟨[(5, .call [] [] (f60_filter_match_out r244_1))], [], [], [4], []⟩ [PT.isNil f = false, FnOK Tryd.prog 60 (f60_filter_match_in (PT.fst f) s_0 s_1 s_2 s_3 s_4 s_5 s_6) (f60_filter_match_out r244_1)] (by kernel_rfl) ⟨g244_0, (ih (PT.fst f) s_0 s_1 s_2 s_3 s_4 s_5 s_6 r244_1 cr244_1), trivial⟩
                    · refine At.step hm ht ⟨[], [false], [], [0, 3, 10], [0]⟩ 21 ⟨[(0, oc (.d (.pt f))), (3, oc (.ptr 0 0)), (10, oc (zi (PT.op f)))], [], [(0, [.d (.int .u16 s_0), .d (.int .u16 s_1), .d (.int .u32 s_2), .d (.int .u32 s_3), .d (.int .u8 s_4), .d (.sl (.pair (.int .u8) (.slice (.int .u8))) s_5), .d (.sl (.int .u8) s_6)])], 1⟩ [(((PT.op f) : Int) == 8) = false] (by kernel_rfl) ⟨b243_e0, trivial⟩ ?_
                      rcases iteS h with ⟨b245_e0, h⟩ | ⟨b245_e0, h⟩
                      · refine At.step hm ht ⟨[], [true], [], [0, 3], [0]⟩ 22 ⟨[(0, oc (.d (.pt f))), (3, oc (.ptr 0 0))], [], [(0, [.d (.int .u16 s_0), .d (.int .u16 s_1), .d (.int .u32 s_2), .d (.int .u32 s_3), .d (.int .u8 s_4), .d (.sl (.pair (.int .u8) (.slice (.int .u8))) s_5), .d (.sl (.int .u8) s_6)])], 1⟩ [(((PT.op f) : Int) == 9) = true] (by kernel_rfl) ⟨b245_e0, trivial⟩ ?_
                        obtain ⟨g246_0, h⟩ := ifS h
                        obtain ⟨r246_1, cr246_1, h⟩ := bindS h
                        rcases iteS h with ⟨b246_6, h⟩ | ⟨b246_6, h⟩
                        · obtain ⟨g246_2, h⟩ := ifS h
                          obtain ⟨r246_3, cr246_3, h⟩ := bindS h
                          have h := Option.some.inj h
                          subst h
                          exact At.fin hm ht ⟨[(5, .call [] [] (f60_filter_match_out r246_1)), (6, .b true), (12, .call [] [] (f60_filter_match_out r246_3))], [], [], [4], []⟩ [PT.isNil f = false, FnOK Tryd.prog 60 (f60_filter_match_in (PT.fst f) s_0 s_1 s_2 s_3 s_4 s_5 s_6) (f60_filter_match_out r246_1), r246_1 = true, PT.isNil f = false, FnOK Tryd.prog 60 (f60_filter_match_in (PT.snd f) s_0 s_1 s_2 s_3 s_4 s_5 s_6) (f60_filter_match_out r246_3)] (by kernel_rfl) ⟨g246_0, (ih (PT.fst f) s_0 s_1 s_2 s_3 s_4 s_5 s_6 r246_1 cr246_1), b246_6, g246_2, (ih (PT.snd f) s_0 s_1 s_2 s_3 s_4 s_5 s_6 r246_3 cr246_3), trivial⟩
                        · have h := Option.some.inj h
                          subst h
                          exact At.fin hm ht ⟨[(5, .call [] [] (f60_filter_match_out r246_1)), (6, .b false)], [], [], [4], []⟩ [PT.isNil f = false, FnOK Tryd.prog 60 (f60_filter_match_in (PT.fst f) s_0 s_1 s_2 s_3 s_4 s_5 s_6) (f60_filter_match_out r246_1), r246_1 = false] (by kernel_rfl) ⟨g246_0, (ih (PT.fst f) s_0 s_1 s_2 s_3 s_4 s_5 s_6 r246_1 cr246_1), b246_6, trivial⟩
                      · refine At.step hm ht ⟨[], [false], [], [0, 3], [0]⟩ 23 ⟨[(0, oc (.d (.pt f))), (3, oc (.ptr 0 0))], [], [(0, [.d (.int .u16 s_0), .d (.int .u16 s_1), .d (.int .u32 s_2), .d (.int .u32 s_3), .d (.int .u8 s_4), .d (.sl (.pair (.int .u8) (.slice (.int .u8))) s_5), .d (.sl (.int .u8) s_6)])], 1⟩ [(((PT.op f) : Int) == 9) = false] (by kernel_rfl) ⟨b245_e0, trivial⟩ ?_
                        obtain ⟨g247_0, h⟩ := ifS h
                        obtain ⟨r247_1, cr247_1, h⟩ := bindS h
                        rcases iteS h with ⟨b247_6, h⟩ | ⟨b247_6, h⟩
                        · have h := Option.some.inj h
                          subst h
                          exact At.fin hm ht ⟨[(5, .call [] [] (f60_filter_match_out r247_1)), (6, .b true)], [], [], [4], []⟩ [PT.isNil f = false, FnOK Tryd.prog 60 (f60_filter_match_in (PT.fst f) s_0 s_1 s_2 s_3 s_4 s_5 s_6) (f60_filter_match_out r247_1), r247_1 = true] (by kernel_rfl) ⟨g247_0, (ih (PT.fst f) s_0 s_1 s_2 s_3 s_4 s_5 s_6 r247_1 cr247_1), b247_6, trivial⟩
                        · obtain ⟨g247_2, h⟩ := ifS h
                          obtain ⟨r247_3, cr247_3, h⟩ := bindS h
                          have h := Option.some.inj h
                          subst h
                          exact At.fin hm ht ⟨[(5, .call [] [] (f60_filter_match_out r247_1)), (6, .b false), (12, .call [] [] (f60_filter_match_out r247_3))], [], [], [4], []⟩ [PT.isNil f = false, FnOK Tryd.prog 60 (f60_filter_match_in (PT.fst f) s_0 s_1 s_2 s_3 s_4 s_5 s_6) (f60_filter_match_out r247_1), r247_1 = false, PT.isNil f = false, FnOK Tryd.prog 60 (f60_filter_match_in (PT.snd f) s_0 s_1 s_2 s_3 s_4 s_5 s_6) (f60_filter_match_out r247_3)] (by kernel_rfl) ⟨g247_0, (ih (PT.fst f) s_0 s_1 s_2 s_3 s_4 s_5 s_6 r247_1 cr247_1), b247_6, g247_2, (ih (PT.snd f) s_0 s_1 s_2 s_3 s_4 s_5 s_6 r247_3 cr247_3), trivial⟩
/-! brougham/filter.Match -/
def f32_filter_Match_in (f : PT) (s_0 : Int) (s_1 : Int) (s_2 : Int) (s_3 : Int) (s_4 : Int) (s_5 : List (Int × List Int)) (s_6 : List Int) : Inn := ⟨[.c (.d (.pt f)), .agg [.d (.int .u16 s_0), .d (.int .u16 s_1), .d (.int .u32 s_2), .d (.int .u32 s_3), .d (.int .u8 s_4), .d (.sl (.pair (.int .u8) (.slice (.int .u8))) s_5), .d (.sl (.int .u8) s_6)]], [], [], 0⟩
def f32_filter_Match_out (r : Bool) : Out := ⟨oc (.d (.bool r)), [], [], 0⟩
def f32_filter_Match (n : Nat) (f : PT) (s_0 : Int) (s_1 : Int) (s_2 : Int) (s_3 : Int) (s_4 : Int) (s_5 : List (Int × List Int)) (s_6 : List Int) : Option (Bool) :=
  (f31_filter_Right n f).bind fun r212_0 =>
  if r212_0 = true then
    (f60_filter_match n f s_0 s_1 s_2 s_3 s_4 s_5 s_6).bind fun r212_1 =>
    some r212_1
  else
    some false
theorem f32_filter_Match_ok (n : Nat) (f : PT) (s_0 : Int) (s_1 : Int) (s_2 : Int) (s_3 : Int) (s_4 : Int) (s_5 : List (Int × List Int)) (s_6 : List Int) (r : Bool) (h : f32_filter_Match n f s_0 s_1 s_2 s_3 s_4 s_5 s_6 = some r) : FnOK Tryd.prog 32 (f32_filter_Match_in f s_0 s_1 s_2 s_3 s_4 s_5 s_6) (f32_filter_Match_out r) := by
  unfold f32_filter_Match at h
  refine At.fn (r := 0) Tryd.func32 rfl (by kernel_rfl) rfl rfl (by kernel_rfl) ?_
  show At Tryd.prog Tryd.f32 0 0 ⟨[(0, oc (.d (.pt f))), (1, .one (.agg [.d (.int .u16 s_0), .d (.int .u16 s_1), .d (.int .u32 s_2), .d (.int .u32 s_3), .d (.int .u8 s_4), .d (.sl (.pair (.int .u8) (.slice (.int .u8))) s_5), .d (.sl (.int .u8) s_6)]))], [], [], 0⟩ _
  refine At.step hm ht ⟨[], [], [], [0, 3], [0]⟩ 1 ⟨[(0, oc (.d (.pt f))), (3, oc (.ptr 0 0))], [], [(0, [.d (.int .u16 s_0), .d (.int .u16 s_1), .d (.int .u32 s_2), .d (.int .u32 s_3), .d (.int .u8 s_4), .d (.sl (.pair (.int .u8) (.slice (.int .u8))) s_5), .d (.sl (.int .u8) s_6)])], 1⟩ [] (by kernel_rfl) trivial ?_
  obtain ⟨r212_0, cr212_0, h⟩ := bindS h
  rcases iteS h with ⟨b212_2, h⟩ | ⟨b212_2, h⟩
  · obtain ⟨r212_1, cr212_1, h⟩ := bindS h
    have h := Option.some.inj h
    subst h
    exact At.fin hm ht ⟨[(1, .call [] [] (f31_filter_Right_out r212_0)), (2, .b true), (5, .call [] [] (f60_filter_match_out r212_1))], [], [], [4], []⟩ [FnOK Tryd.prog 31 (f31_filter_Right_in f) (f31_filter_Right_out r212_0), r212_0 = true, FnOK Tryd.prog 60 (f60_filter_match_in f s_0 s_1 s_2 s_3 s_4 s_5 s_6) (f60_filter_match_out r212_1)] (by kernel_rfl) ⟨(f31_filter_Right_ok n f r212_0 cr212_0), b212_2, (f60_filter_match_ok n f s_0 s_1 s_2 s_3 s_4 s_5 s_6 r212_1 cr212_1), trivial⟩
  · have h := Option.some.inj h
    subst h
    exact At.fin hm ht ⟨[(1, .call [] [] (f31_filter_Right_out r212_0)), (2, .b false)], [], [], [4], []⟩ [FnOK Tryd.prog 31 (f31_filter_Right_in f) (f31_filter_Right_out r212_0), r212_0 = false] (by kernel_rfl) ⟨(f31_filter_Right_ok n f r212_0 cr212_0), b212_2, trivial⟩
/-! brougham/filter.Of -/
def f33_filter_Of_in (f : PT) (l : List (Int × Int × Int × Int × Int × List (Int × List Int) × List Int)) : Inn := ⟨[.c (.d (.pt f)), .c (.d (.sl (.pair (.int .u16) (.pair (.int .u16) (.pair (.int .u32) (.pair (.int .u32) (.pair (.int .u8) (.pair (.slice (.pair (.int .u8) (.slice (.int .u8)))) (.slice (.int .u8)))))))) l))], [], [], 0⟩
def f33_filter_Of_out (r : List (Int × Int × Int × Int × Int × List (Int × List Int) × List Int)) : Out := ⟨oc (.own 0 (.pair (.int .u16) (.pair (.int .u16) (.pair (.int .u32) (.pair (.int .u32) (.pair (.int .u8) (.pair (.slice (.pair (.int .u8) (.slice (.int .u8)))) (.slice (.int .u8)))))))) r), [(0, ⟨56, 0⟩)], [], 1⟩
def f33_filter_Of_L3 : Nat → PT → (List (Int × Int × Int × Int × Int × List (Int × List Int) × List Int)) → (List (Int × Int × Int × Int × Int × List (Int × List Int) × List Int)) → Int → Int → Option (List (Int × Int × Int × Int × Int × List (Int × List Int) × List Int))
  | 0, _, _, _, _, _ => none
  | n + 1, f, out, t8, t9, t10 =>
    if (decide ((t10 : Int) < t9)) = true then
      if (0 : Int) ≤ t10 ∧ t10 < (((t8).length : Nat) : Int) then
      (f32_filter_Match n f ((t8.getD t10.toNat (0, (0, (0, (0, (0, ([], []))))))).1) (((t8.getD t10.toNat (0, (0, (0, (0, (0, ([], []))))))).2).1) ((((t8.getD t10.toNat (0, (0, (0, (0, (0, ([], []))))))).2).2).1) (((((t8.getD t10.toNat (0, (0, (0, (0, (0, ([], []))))))).2).2).2).1) ((((((t8.getD t10.toNat (0, (0, (0, (0, (0, ([], []))))))).2).2).2).2).1) (((((((t8.getD t10.toNat (0, (0, (0, (0, (0, ([], []))))))).2).2).2).2).2).1) (((((((t8.getD t10.toNat (0, (0, (0, (0, (0, ([], []))))))).2).2).2).2).2).2)).bind fun r261_0 =>
      if r261_0 = true then
        if out.length + [((t8.getD t10.toNat (0, (0, (0, (0, (0, ([], []))))))).1, (((t8.getD t10.toNat (0, (0, (0, (0, (0, ([], []))))))).2).1, ((((t8.getD t10.toNat (0, (0, (0, (0, (0, ([], []))))))).2).2).1, (((((t8.getD t10.toNat (0, (0, (0, (0, (0, ([], []))))))).2).2).2).1, ((((((t8.getD t10.toNat (0, (0, (0, (0, (0, ([], []))))))).2).2).2).2).1, ((((((t8.getD t10.toNat (0, (0, (0, (0, (0, ([], []))))))).2).2).2).2).2))))))].length ≤ maxLen ∧ (out.length + [((t8.getD t10.toNat (0, (0, (0, (0, (0, ([], []))))))).1, (((t8.getD t10.toNat (0, (0, (0, (0, (0, ([], []))))))).2).1, ((((t8.getD t10.toNat (0, (0, (0, (0, (0, ([], []))))))).2).2).1, (((((t8.getD t10.toNat (0, (0, (0, (0, (0, ([], []))))))).2).2).2).1, ((((((t8.getD t10.toNat (0, (0, (0, (0, (0, ([], []))))))).2).2).2).2).1, ((((((t8.getD t10.toNat (0, (0, (0, (0, (0, ([], []))))))).2).2).2).2).2))))))].length) * 64 ≤ 140737488355328 then
        f33_filter_Of_L3 n f (out ++ [((t8.getD t10.toNat (0, (0, (0, (0, (0, ([], []))))))).1, (((t8.getD t10.toNat (0, (0, (0, (0, (0, ([], []))))))).2).1, ((((t8.getD t10.toNat (0, (0, (0, (0, (0, ([], []))))))).2).2).1, (((((t8.getD t10.toNat (0, (0, (0, (0, (0, ([], []))))))).2).2).2).1, ((((((t8.getD t10.toNat (0, (0, (0, (0, (0, ([], []))))))).2).2).2).2).1, ((((((t8.getD t10.toNat (0, (0, (0, (0, (0, ([], []))))))).2).2).2).2).2))))))]) t8 t9 (IntKind.wrap .i64 (t10 + 1))
        else none
      else
        f33_filter_Of_L3 n f out t8 t9 (IntKind.wrap .i64 (t10 + 1))
      else none
    else
      some (out)
def f33_filter_Of_L3_k (e : List (Int × Int × Int × Int × Int × List (Int × List Int) × List Int)) (o : Out) : Prop := At Tryd.prog Tryd.f33 0 8 ⟨[(5, oc (.own 0 (.pair (.int .u16) (.pair (.int .u16) (.pair (.int .u32) (.pair (.int .u32) (.pair (.int .u8) (.pair (.slice (.pair (.int .u8) (.slice (.int .u8)))) (.slice (.int .u8)))))))) e))], [(0, some ⟨56, 0⟩)], [], 1⟩ o
theorem f33_filter_Of_L3_ok (n : Nat) : ∀ (f : PT) (out : List (Int × Int × Int × Int × Int × List (Int × List Int) × List Int)) (t8 : List (Int × Int × Int × Int × Int × List (Int × List Int) × List Int)) (t9 : Int) (t10 : Int) (w : List (Int × Int × Int × Int × Int × List (Int × List Int) × List Int)) (h : f33_filter_Of_L3 n f out t8 t9 t10 = some w) (o : Out) (hk : f33_filter_Of_L3_k w o), At Tryd.prog Tryd.f33 0 3 ⟨[(0, oc (.d (.pt f))), (5, oc (.own 0 (.pair (.int .u16) (.pair (.int .u16) (.pair (.int .u32) (.pair (.int .u32) (.pair (.int .u8) (.pair (.slice (.pair (.int .u8) (.slice (.int .u8)))) (.slice (.int .u8)))))))) out)), (8, oc (.d (.sl (.pair (.int .u16) (.pair (.int .u16) (.pair (.int .u32) (.pair (.int .u32) (.pair (.int .u8) (.pair (.slice (.pair (.int .u8) (.slice (.int .u8)))) (.slice (.int .u8)))))))) t8))), (9, oc (zi t9)), (10, oc (zi t10))], [(0, some ⟨56, 0⟩)], [], 1⟩ o := by
  induction n with
  | zero => intro f out t8 t9 t10 w h; rw [f33_filter_Of_L3] at h; cases h
  | succ n ih =>
    intro f out t8 t9 t10 w h o hk
    rw [f33_filter_Of_L3] at h
    rcases iteS h with ⟨b259_e0, h⟩ | ⟨b259_e0, h⟩
    · refine At.step hm ht ⟨[], [true], [], [0, 5, 8, 9, 10], [0]⟩ 4 ⟨[(0, oc (.d (.pt f))), (5, oc (.own 0 (.pair (.int .u16) (.pair (.int .u16) (.pair (.int .u32) (.pair (.int .u32) (.pair (.int .u8) (.pair (.slice (.pair (.int .u8) (.slice (.int .u8)))) (.slice (.int .u8)))))))) out)), (8, oc (.d (.sl (.pair (.int .u16) (.pair (.int .u16) (.pair (.int .u32) (.pair (.int .u32) (.pair (.int .u8) (.pair (.slice (.pair (.int .u8) (.slice (.int .u8)))) (.slice (.int .u8)))))))) t8))), (9, oc (zi t9)), (10, oc (zi t10))], [(0, some ⟨56, 0⟩)], [], 1⟩ [(decide ((t10 : Int) < t9)) = true] (by kernel_rfl) ⟨b259_e0, trivial⟩ ?_
      obtain ⟨g260_0, h⟩ := ifS h
      refine At.step hm ht ⟨[], [], [], [0, 5, 7, 8, 9, 10], [0, 3]⟩ 5 ⟨[(0, oc (.d (.pt f))), (5, oc (.own 0 (.pair (.int .u16) (.pair (.int .u16) (.pair (.int .u32) (.pair (.int .u32) (.pair (.int .u8) (.pair (.slice (.pair (.int .u8) (.slice (.int .u8)))) (.slice (.int .u8)))))))) out)), (7, oc (.ptr 1 0)), (8, oc (.d (.sl (.pair (.int .u16) (.pair (.int .u16) (.pair (.int .u32) (.pair (.int .u32) (.pair (.int .u8) (.pair (.slice (.pair (.int .u8) (.slice (.int .u8)))) (.slice (.int .u8)))))))) t8))), (9, oc (zi t9)), (10, oc (zi t10))], [(0, some ⟨56, 0⟩)], [(1, [.d (.int .u16 ((t8.getD t10.toNat (0, (0, (0, (0, (0, ([], []))))))).1)), .d (.int .u16 (((t8.getD t10.toNat (0, (0, (0, (0, (0, ([], []))))))).2).1)), .d (.int .u32 ((((t8.getD t10.toNat (0, (0, (0, (0, (0, ([], []))))))).2).2).1)), .d (.int .u32 (((((t8.getD t10.toNat (0, (0, (0, (0, (0, ([], []))))))).2).2).2).1)), .d (.int .u8 ((((((t8.getD t10.toNat (0, (0, (0, (0, (0, ([], []))))))).2).2).2).2).1)), .d (.sl (.pair (.int .u8) (.slice (.int .u8))) (((((((t8.getD t10.toNat (0, (0, (0, (0, (0, ([], []))))))).2).2).2).2).2).1)), .d (.sl (.int .u8) (((((((t8.getD t10.toNat (0, (0, (0, (0, (0, ([], []))))))).2).2).2).2).2).2))])], 2⟩ [(0 : Int) ≤ t10 ∧ t10 < (((t8).length : Nat) : Int), 0 + 7 ≤ 7] (by kernel_rfl) ⟨g260_0, (by decide), trivial⟩ ?_
      obtain ⟨r261_0, cr261_0, h⟩ := bindS h
      rcases iteS h with ⟨b261_e0, h⟩ | ⟨b261_e0, h⟩
      · refine At.step hm ht ⟨[(2, .call [] [] (f32_filter_Match_out r261_0))], [true], [], [0, 5, 7, 8, 9, 10], [0, 1]⟩ 6 ⟨[(0, oc (.d (.pt f))), (5, oc (.own 0 (.pair (.int .u16) (.pair (.int .u16) (.pair (.int .u32) (.pair (.int .u32) (.pair (.int .u8) (.pair (.slice (.pair (.int .u8) (.slice (.int .u8)))) (.slice (.int .u8)))))))) out)), (7, oc (.ptr 1 0)), (8, oc (.d (.sl (.pair (.int .u16) (.pair (.int .u16) (.pair (.int .u32) (.pair (.int .u32) (.pair (.int .u8) (.pair (.slice (.pair (.int .u8) (.slice (.int .u8)))) (.slice (.int .u8)))))))) t8))), (9, oc (zi t9)), (10, oc (zi t10))], [(0, some ⟨56, 0⟩)], [(1, [.d (.int .u16 ((t8.getD t10.toNat (0, (0, (0, (0, (0, ([], []))))))).1)), .d (.int .u16 (((t8.getD t10.toNat (0, (0, (0, (0, (0, ([], []))))))).2).1)), .d (.int .u32 ((((t8.getD t10.toNat (0, (0, (0, (0, (0, ([], []))))))).2).2).1)), .d (.int .u32 (((((t8.getD t10.toNat (0, (0, (0, (0, (0, ([], []))))))).2).2).2).1)), .d (.int .u8 ((((((t8.getD t10.toNat (0, (0, (0, (0, (0, ([], []))))))).2).2).2).2).1)), .d (.sl (.pair (.int .u8) (.slice (.int .u8))) (((((((t8.getD t10.toNat (0, (0, (0, (0, (0, ([], []))))))).2).2).2).2).2).1)), .d (.sl (.int .u8) (((((((t8.getD t10.toNat (0, (0, (0, (0, (0, ([], []))))))).2).2).2).2).2).2))])], 2⟩ [FnOK Tryd.prog 32 (f32_filter_Match_in f ((t8.getD t10.toNat (0, (0, (0, (0, (0, ([], []))))))).1) (((t8.getD t10.toNat (0, (0, (0, (0, (0, ([], []))))))).2).1) ((((t8.getD t10.toNat (0, (0, (0, (0, (0, ([], []))))))).2).2).1) (((((t8.getD t10.toNat (0, (0, (0, (0, (0, ([], []))))))).2).2).2).1) ((((((t8.getD t10.toNat (0, (0, (0, (0, (0, ([], []))))))).2).2).2).2).1) (((((((t8.getD t10.toNat (0, (0, (0, (0, (0, ([], []))))))).2).2).2).2).2).1) (((((((t8.getD t10.toNat (0, (0, (0, (0, (0, ([], []))))))).2).2).2).2).2).2)) (f32_filter_Match_out r261_0), r261_0 = true] (by kernel_rfl) ⟨(f32_filter_Match_ok n f ((t8.getD t10.toNat (0, (0, (0, (0, (0, ([], []))))))).1) (((t8.getD t10.toNat (0, (0, (0, (0, (0, ([], []))))))).2).1) ((((t8.getD t10.toNat (0, (0, (0, (0, (0, ([], []))))))).2).2).1) (((((t8.getD t10.toNat (0, (0, (0, (0, (0, ([], []))))))).2).2).2).1) ((((((t8.getD t10.toNat (0, (0, (0, (0, (0, ([], []))))))).2).2).2).2).1) (((((((t8.getD t10.toNat (0, (0, (0, (0, (0, ([], []))))))).2).2).2).2).2).1) (((((((t8.getD t10.toNat (0, (0, (0, (0, (0, ([], []))))))).2).2).2).2).2).2) r261_0 cr261_0), b261_e0, trivial⟩ ?_
        obtain ⟨g262_0, h⟩ := ifS h
        refine At.step hm ht ⟨[], [], [], [0, 5, 8, 9, 10], [5]⟩ 7 ⟨[(0, oc (.d (.pt f))), (5, oc (.own 0 (.pair (.int .u16) (.pair (.int .u16) (.pair (.int .u32) (.pair (.int .u32) (.pair (.int .u8) (.pair (.slice (.pair (.int .u8) (.slice (.int .u8)))) (.slice (.int .u8)))))))) (out ++ [((t8.getD t10.toNat (0, (0, (0, (0, (0, ([], []))))))).1, (((t8.getD t10.toNat (0, (0, (0, (0, (0, ([], []))))))).2).1, ((((t8.getD t10.toNat (0, (0, (0, (0, (0, ([], []))))))).2).2).1, (((((t8.getD t10.toNat (0, (0, (0, (0, (0, ([], []))))))).2).2).2).1, ((((((t8.getD t10.toNat (0, (0, (0, (0, (0, ([], []))))))).2).2).2).2).1, ((((((t8.getD t10.toNat (0, (0, (0, (0, (0, ([], []))))))).2).2).2).2).2))))))]))), (8, oc (.d (.sl (.pair (.int .u16) (.pair (.int .u16) (.pair (.int .u32) (.pair (.int .u32) (.pair (.int .u8) (.pair (.slice (.pair (.int .u8) (.slice (.int .u8)))) (.slice (.int .u8)))))))) t8))), (9, oc (zi t9)), (10, oc (zi t10))], [(0, some ⟨56, 0⟩)], [], 1⟩ [out.length + [((t8.getD t10.toNat (0, (0, (0, (0, (0, ([], []))))))).1, (((t8.getD t10.toNat (0, (0, (0, (0, (0, ([], []))))))).2).1, ((((t8.getD t10.toNat (0, (0, (0, (0, (0, ([], []))))))).2).2).1, (((((t8.getD t10.toNat (0, (0, (0, (0, (0, ([], []))))))).2).2).2).1, ((((((t8.getD t10.toNat (0, (0, (0, (0, (0, ([], []))))))).2).2).2).2).1, ((((((t8.getD t10.toNat (0, (0, (0, (0, (0, ([], []))))))).2).2).2).2).2))))))].length ≤ maxLen ∧ (out.length + [((t8.getD t10.toNat (0, (0, (0, (0, (0, ([], []))))))).1, (((t8.getD t10.toNat (0, (0, (0, (0, (0, ([], []))))))).2).1, ((((t8.getD t10.toNat (0, (0, (0, (0, (0, ([], []))))))).2).2).1, (((((t8.getD t10.toNat (0, (0, (0, (0, (0, ([], []))))))).2).2).2).1, ((((((t8.getD t10.toNat (0, (0, (0, (0, (0, ([], []))))))).2).2).2).2).1, ((((((t8.getD t10.toNat (0, (0, (0, (0, (0, ([], []))))))).2).2).2).2).2))))))].length) * 64 ≤ 140737488355328] (by kernel_rfl) ⟨g262_0, trivial⟩ ?_
        refine At.step hm ht ⟨[], [], [], [0, 5, 8, 9, 10], [0]⟩ 3 ⟨[(0, oc (.d (.pt f))), (5, oc (.own 0 (.pair (.int .u16) (.pair (.int .u16) (.pair (.int .u32) (.pair (.int .u32) (.pair (.int .u8) (.pair (.slice (.pair (.int .u8) (.slice (.int .u8)))) (.slice (.int .u8)))))))) (out ++ [((t8.getD t10.toNat (0, (0, (0, (0, (0, ([], []))))))).1, (((t8.getD t10.toNat (0, (0, (0, (0, (0, ([], []))))))).2).1, ((((t8.getD t10.toNat (0, (0, (0, (0, (0, ([], []))))))).2).2).1, (((((t8.getD t10.toNat (0, (0, (0, (0, (0, ([], []))))))).2).2).2).1, ((((((t8.getD t10.toNat (0, (0, (0, (0, (0, ([], []))))))).2).2).2).2).1, ((((((t8.getD t10.toNat (0, (0, (0, (0, (0, ([], []))))))).2).2).2).2).2))))))]))), (8, oc (.d (.sl (.pair (.int .u16) (.pair (.int .u16) (.pair (.int .u32) (.pair (.int .u32) (.pair (.int .u8) (.pair (.slice (.pair (.int .u8) (.slice (.int .u8)))) (.slice (.int .u8)))))))) t8))), (9, oc (zi t9)), (10, oc (zi (IntKind.wrap .i64 (t10 + 1))))], [(0, some ⟨56, 0⟩)], [], 1⟩ [] (by kernel_rfl) trivial ?_
        exact ih f (out ++ [((t8.getD t10.toNat (0, (0, (0, (0, (0, ([], []))))))).1, (((t8.getD t10.toNat (0, (0, (0, (0, (0, ([], []))))))).2).1, ((((t8.getD t10.toNat (0, (0, (0, (0, (0, ([], []))))))).2).2).1, (((((t8.getD t10.toNat (0, (0, (0, (0, (0, ([], []))))))).2).2).2).1, ((((((t8.getD t10.toNat (0, (0, (0, (0, (0, ([], []))))))).2).2).2).2).1, ((((((t8.getD t10.toNat (0, (0, (0, (0, (0, ([], []))))))).2).2).2).2).2))))))]) t8 t9 (IntKind.wrap .i64 (t10 + 1)) w h o hk
      · refine At.step hm ht ⟨[(2, .call [] [] (f32_filter_Match_out r261_0))], [false], [], [0, 5, 8, 9, 10], [0]⟩ 7 ⟨[(0, oc (.d (.pt f))), (5, oc (.own 0 (.pair (.int .u16) (.pair (.int .u16) (.pair (.int .u32) (.pair (.int .u32) (.pair (.int .u8) (.pair (.slice (.pair (.int .u8) (.slice (.int .u8)))) (.slice (.int .u8)))))))) out)), (8, oc (.d (.sl (.pair (.int .u16) (.pair (.int .u16) (.pair (.int .u32) (.pair (.int .u32) (.pair (.int .u8) (.pair (.slice (.pair (.int .u8) (.slice (.int .u8)))) (.slice (.int .u8)))))))) t8))), (9, oc (zi t9)), (10, oc (zi t10))], [(0, some ⟨56, 0⟩)], [], 1⟩ [FnOK Tryd.prog 32 (f32_filter_Match_in f ((t8.getD t10.toNat (0, (0, (0, (0, (0, ([], []))))))).1) (((t8.getD t10.toNat (0, (0, (0, (0, (0, ([], []))))))).2).1) ((((t8.getD t10.toNat (0, (0, (0, (0, (0, ([], []))))))).2).2).1) (((((t8.getD t10.toNat (0, (0, (0, (0, (0, ([], []))))))).2).2).2).1) ((((((t8.getD t10.toNat (0, (0, (0, (0, (0, ([], []))))))).2).2).2).2).1) (((((((t8.getD t10.toNat (0, (0, (0, (0, (0, ([], []))))))).2).2).2).2).2).1) (((((((t8.getD t10.toNat (0, (0, (0, (0, (0, ([], []))))))).2).2).2).2).2).2)) (f32_filter_Match_out r261_0), r261_0 = false] (by kernel_rfl) ⟨(f32_filter_Match_ok n f ((t8.getD t10.toNat (0, (0, (0, (0, (0, ([], []))))))).1) (((t8.getD t10.toNat (0, (0, (0, (0, (0, ([], []))))))).2).1) ((((t8.getD t10.toNat (0, (0, (0, (0, (0, ([], []))))))).2).2).1) (((((t8.getD t10.toNat (0, (0, (0, (0, (0, ([], []))))))).2).2).2).1) ((((((t8.getD t10.toNat (0, (0, (0, (0, (0, ([], []))))))).2).2).2).2).1) (((((((t8.getD t10.toNat (0, (0, (0, (0, (0, ([], []))))))).2).2).2).2).2).1) (((((((t8.getD t10.toNat (0, (0, (0, (0, (0, ([], []))))))).2).2).2).2).2).2) r261_0 cr261_0), b261_e0, trivial⟩ ?_
        refine At.step hm ht ⟨[], [], [], [0, 5, 8, 9, 10], [0]⟩ 3 ⟨[(0, oc (.d (.pt f))), (5, oc (.own 0 (.pair (.int .u16) (.pair (.int .u16) (.pair (.int .u32) (.pair (.int .u32) (.pair (.int .u8) (.pair (.slice (.pair (.int .u8) (.slice (.int .u8)))) (.slice (.int .u8)))))))) out)), (8, oc (.d (.sl (.pair (.int .u16) (.pair (.int .u16) (.pair (.int .u32) (.pair (.int .u32) (.pair (.int .u8) (.pair (.slice (.pair (.int .u8) (.slice (.int .u8)))) (.slice (.int .u8)))))))) t8))), (9, oc (zi t9)), (10, oc (zi (IntKind.wrap .i64 (t10 + 1))))], [(0, some ⟨56, 0⟩)], [], 1⟩ [] (by kernel_rfl) trivial ?_
        exact ih f out t8 t9 (IntKind.wrap .i64 (t10 + 1)) w h o hk
    · refine At.step hm ht ⟨[], [false], [], [5], [0]⟩ 8 ⟨[(5, oc (.own 0 (.pair (.int .u16) (.pair (.int .u16) (.pair (.int .u32) (.pair (.int .u32) (.pair (.int .u8) (.pair (.slice (.pair (.int .u8) (.slice (.int .u8)))) (.slice (.int .u8)))))))) out))], [(0, some ⟨56, 0⟩)], [], 1⟩ [(decide ((t10 : Int) < t9)) = false] (by kernel_rfl) ⟨b259_e0, trivial⟩ ?_
      have h := Option.some.inj h
      subst h
      exact hk
def f33_filter_Of (n : Nat) (f : PT) (l : List (Int × Int × Int × Int × Int × List (Int × List Int) × List Int)) : Option (List (Int × Int × Int × Int × Int × List (Int × List Int) × List Int)) :=
  (f33_filter_Of_L3 n f [] l ((l.length : Nat) : Int) 0).bind fun w265 =>
  some w265
theorem f33_filter_Of_ok (n : Nat) (f : PT) (l : List (Int × Int × Int × Int × Int × List (Int × List Int) × List Int)) (r : List (Int × Int × Int × Int × Int × List (Int × List Int) × List Int)) (h : f33_filter_Of n f l = some r) : FnOK Tryd.prog 33 (f33_filter_Of_in f l) (f33_filter_Of_out r) := by
  unfold f33_filter_Of at h
  refine At.fn (r := 0) Tryd.func33 rfl (by kernel_rfl) rfl rfl (by kernel_rfl) ?_
  show At Tryd.prog Tryd.f33 0 0 ⟨[(0, oc (.d (.pt f))), (1, oc (.d (.sl (.pair (.int .u16) (.pair (.int .u16) (.pair (.int .u32) (.pair (.int .u32) (.pair (.int .u8) (.pair (.slice (.pair (.int .u8) (.slice (.int .u8)))) (.slice (.int .u8)))))))) l)))], [], [], 0⟩ _
  refine At.step hm ht ⟨[], [], [], [0, 1], []⟩ 1 ⟨[(0, oc (.d (.pt f))), (1, oc (.d (.sl (.pair (.int .u16) (.pair (.int .u16) (.pair (.int .u32) (.pair (.int .u32) (.pair (.int .u8) (.pair (.slice (.pair (.int .u8) (.slice (.int .u8)))) (.slice (.int .u8)))))))) l)))], [], [], 0⟩ [] (by kernel_rfl) trivial ?_
  refine At.step hm ht ⟨[], [], [], [0, 1, 5], []⟩ 2 ⟨[(0, oc (.d (.pt f))), (1, oc (.d (.sl (.pair (.int .u16) (.pair (.int .u16) (.pair (.int .u32) (.pair (.int .u32) (.pair (.int .u8) (.pair (.slice (.pair (.int .u8) (.slice (.int .u8)))) (.slice (.int .u8)))))))) l))), (5, oc (.d (.sl .unit [])))], [], [], 0⟩ [] (by kernel_rfl) trivial ?_
  refine At.step hm ht ⟨[], [], [.nil false 5 0 (.pair (.int .u16) (.pair (.int .u16) (.pair (.int .u32) (.pair (.int .u32) (.pair (.int .u8) (.pair (.slice (.pair (.int .u8) (.slice (.int .u8)))) (.slice (.int .u8)))))))) (some 56)], [0, 5, 8, 9, 10], [3]⟩ 3 ⟨[(0, oc (.d (.pt f))), (5, oc (.own 0 (.pair (.int .u16) (.pair (.int .u16) (.pair (.int .u32) (.pair (.int .u32) (.pair (.int .u8) (.pair (.slice (.pair (.int .u8) (.slice (.int .u8)))) (.slice (.int .u8)))))))) [])), (8, oc (.d (.sl (.pair (.int .u16) (.pair (.int .u16) (.pair (.int .u32) (.pair (.int .u32) (.pair (.int .u8) (.pair (.slice (.pair (.int .u8) (.slice (.int .u8)))) (.slice (.int .u8)))))))) l))), (9, oc (zi ((l.length : Nat) : Int))), (10, oc (zi 0))], [(0, some ⟨56, 0⟩)], [], 1⟩ [] (by kernel_rfl) trivial ?_
  obtain ⟨w265, cw265, h⟩ := bindS h
  refine f33_filter_Of_L3_ok n f [] l ((l.length : Nat) : Int) 0 w265 cw265 _ ?_
  show At Tryd.prog Tryd.f33 0 8 ⟨[(5, oc (.own 0 (.pair (.int .u16) (.pair (.int .u16) (.pair (.int .u32) (.pair (.int .u32) (.pair (.int .u8) (.pair (.slice (.pair (.int .u8) (.slice (.int .u8)))) (.slice (.int .u8)))))))) w265))], [(0, some ⟨56, 0⟩)], [], 1⟩ _
  have h := Option.some.inj h
  subst h
  exact At.fin hm ht ⟨[], [], [], [4], [0]⟩ [] (by kernel_rfl) trivial
/-! brougham/num.Pieces -/
def f15_num_Pieces_in (s : ByteArray) : Inn := ⟨[.c (.d (.str s))], [], [], 0⟩
def f15_num_Pieces_out (r : List ByteArray) : Out := ⟨oc (.d (.sl .str r)), [], [], 0⟩
def f15_num_Pieces_L4 : Nat → (List ByteArray) → (List ByteArray) → Int → Int → Option (List ByteArray)
  | 0, _, _, _, _ => none
  | n + 1, out, t13, t14, t15 =>
    if (decide ((t15 : Int) < t14)) = true then
      if (0 : Int) ≤ t15 ∧ t15 < (((t13).length : Nat) : Int) then
      if (!((t13.getD t15.toNat ByteArray.empty).toList == (⟨#[]⟩ : ByteArray).toList)) = true then
        if out.length + [(t13.getD t15.toNat ByteArray.empty)].length ≤ maxLen ∧ (out.length + [(t13.getD t15.toNat ByteArray.empty)].length) * 16 ≤ 140737488355328 then
        f15_num_Pieces_L4 n (out ++ [(t13.getD t15.toNat ByteArray.empty)]) t13 t14 (IntKind.wrap .i64 (t15 + 1))
        else none
      else
        f15_num_Pieces_L4 n out t13 t14 (IntKind.wrap .i64 (t15 + 1))
      else none
    else
      some (out)
def f15_num_Pieces_L4_k (e : List ByteArray) (o : Out) : Prop := At Tryd.prog Tryd.f15 0 9 ⟨[(3, oc (.own 0 .str e))], [(0, some ⟨9, 0⟩)], [], 1⟩ o
theorem f15_num_Pieces_L4_ok (n : Nat) : ∀ (out : List ByteArray) (t13 : List ByteArray) (t14 : Int) (t15 : Int) (w : List ByteArray) (h : f15_num_Pieces_L4 n out t13 t14 t15 = some w) (o : Out) (hk : f15_num_Pieces_L4_k w o), At Tryd.prog Tryd.f15 0 4 ⟨[(3, oc (.own 0 .str out)), (13, oc (.d (.sl .str t13))), (14, oc (zi t14)), (15, oc (zi t15))], [(0, some ⟨9, 0⟩)], [], 1⟩ o := by
  induction n with
  | zero => intro out t13 t14 t15 w h; rw [f15_num_Pieces_L4] at h; cases h
  | succ n ih =>
    intro out t13 t14 t15 w h o hk
    rw [f15_num_Pieces_L4] at h
    rcases iteS h with ⟨b287_e0, h⟩ | ⟨b287_e0, h⟩
    · refine At.step hm ht ⟨[], [true], [], [3, 13, 14, 15], [0]⟩ 5 ⟨[(3, oc (.own 0 .str out)), (13, oc (.d (.sl .str t13))), (14, oc (zi t14)), (15, oc (zi t15))], [(0, some ⟨9, 0⟩)], [], 1⟩ [(decide ((t15 : Int) < t14)) = true] (by kernel_rfl) ⟨b287_e0, trivial⟩ ?_
      obtain ⟨g288_0, h⟩ := ifS h
      refine At.step hm ht ⟨[], [], [], [3, 5, 13, 14, 15], [0]⟩ 6 ⟨[(3, oc (.own 0 .str out)), (5, oc (.d (.str (t13.getD t15.toNat ByteArray.empty)))), (13, oc (.d (.sl .str t13))), (14, oc (zi t14)), (15, oc (zi t15))], [(0, some ⟨9, 0⟩)], [], 1⟩ [(0 : Int) ≤ t15 ∧ t15 < (((t13).length : Nat) : Int)] (by kernel_rfl) ⟨g288_0, trivial⟩ ?_
      rcases iteS h with ⟨b289_e0, h⟩ | ⟨b289_e0, h⟩
      · refine At.step hm ht ⟨[], [true], [], [3, 5, 13, 14, 15], [0]⟩ 7 ⟨[(3, oc (.own 0 .str out)), (5, oc (.d (.str (t13.getD t15.toNat ByteArray.empty)))), (13, oc (.d (.sl .str t13))), (14, oc (zi t14)), (15, oc (zi t15))], [(0, some ⟨9, 0⟩)], [], 1⟩ [(!((t13.getD t15.toNat ByteArray.empty).toList == (⟨#[]⟩ : ByteArray).toList)) = true] (by kernel_rfl) ⟨b289_e0, trivial⟩ ?_
        obtain ⟨g290_0, h⟩ := ifS h
        refine At.step hm ht ⟨[], [], [], [3, 13, 14, 15], [4]⟩ 8 ⟨[(3, oc (.own 0 .str (out ++ [(t13.getD t15.toNat ByteArray.empty)]))), (13, oc (.d (.sl .str t13))), (14, oc (zi t14)), (15, oc (zi t15))], [(0, some ⟨9, 0⟩)], [], 1⟩ [out.length + [(t13.getD t15.toNat ByteArray.empty)].length ≤ maxLen ∧ (out.length + [(t13.getD t15.toNat ByteArray.empty)].length) * 16 ≤ 140737488355328] (by kernel_rfl) ⟨g290_0, trivial⟩ ?_
        refine At.step hm ht ⟨[], [], [], [3, 13, 14, 15], [0]⟩ 4 ⟨[(3, oc (.own 0 .str (out ++ [(t13.getD t15.toNat ByteArray.empty)]))), (13, oc (.d (.sl .str t13))), (14, oc (zi t14)), (15, oc (zi (IntKind.wrap .i64 (t15 + 1))))], [(0, some ⟨9, 0⟩)], [], 1⟩ [] (by kernel_rfl) trivial ?_
        exact ih (out ++ [(t13.getD t15.toNat ByteArray.empty)]) t13 t14 (IntKind.wrap .i64 (t15 + 1)) w h o hk
      · refine At.step hm ht ⟨[], [false], [], [3, 13, 14, 15], [0]⟩ 8 ⟨[(3, oc (.own 0 .str out)), (13, oc (.d (.sl .str t13))), (14, oc (zi t14)), (15, oc (zi t15))], [(0, some ⟨9, 0⟩)], [], 1⟩ [(!((t13.getD t15.toNat ByteArray.empty).toList == (⟨#[]⟩ : ByteArray).toList)) = false] (by kernel_rfl) ⟨b289_e0, trivial⟩ ?_
        refine At.step hm ht ⟨[], [], [], [3, 13, 14, 15], [0]⟩ 4 ⟨[(3, oc (.own 0 .str out)), (13, oc (.d (.sl .str t13))), (14, oc (zi t14)), (15, oc (zi (IntKind.wrap .i64 (t15 + 1))))], [(0, some ⟨9, 0⟩)], [], 1⟩ [] (by kernel_rfl) trivial ?_
        exact ih out t13 t14 (IntKind.wrap .i64 (t15 + 1)) w h o hk
    · refine At.step hm ht ⟨[], [false], [], [3], [0]⟩ 9 ⟨[(3, oc (.own 0 .str out))], [(0, some ⟨9, 0⟩)], [], 1⟩ [(decide ((t15 : Int) < t14)) = false] (by kernel_rfl) ⟨b287_e0, trivial⟩ ?_
      have h := Option.some.inj h
      subst h
      exact hk
def f15_num_Pieces (n : Nat) (s : ByteArray) : Option (List ByteArray) :=
  (f49_strings_Cut s (⟨#[35]⟩ : ByteArray)).bind fun r284_0 =>
  (f45_strings_Split r284_0.1 (⟨#[32]⟩ : ByteArray)).bind fun r286_0 =>
  (f15_num_Pieces_L4 n [] r286_0 ((r286_0.length : Nat) : Int) 0).bind fun w293 =>
  some w293
theorem f15_num_Pieces_ok (n : Nat) (s : ByteArray) (r : List ByteArray) (h : f15_num_Pieces n s = some r) : FnOK Tryd.prog 15 (f15_num_Pieces_in s) (f15_num_Pieces_out r) := by
  unfold f15_num_Pieces at h
  refine At.fn (r := 0) Tryd.func15 rfl (by kernel_rfl) rfl rfl (by kernel_rfl) ?_
  show At Tryd.prog Tryd.f15 0 0 ⟨[(0, oc (.d (.str s)))], [], [], 0⟩ _
  refine At.step hm ht ⟨[], [], [], [0], []⟩ 1 ⟨[(0, oc (.d (.str s)))], [], [], 0⟩ [] (by kernel_rfl) trivial ?_
  obtain ⟨r284_0, cr284_0, h⟩ := bindS h
  refine At.step hm ht ⟨[(1, .call [] [] (f49_strings_Cut_out r284_0))], [], [], [0], []⟩ 2 ⟨[(0, oc (.d (.str r284_0.1)))], [], [], 0⟩ [FnOK Tryd.prog 49 (f49_strings_Cut_in s (⟨#[35]⟩ : ByteArray)) (f49_strings_Cut_out r284_0)] (by kernel_rfl) ⟨(f49_strings_Cut_ok s (⟨#[35]⟩ : ByteArray) r284_0 cr284_0), trivial⟩ ?_
  refine At.step hm ht ⟨[], [], [], [0, 3], []⟩ 3 ⟨[(0, oc (.d (.str r284_0.1))), (3, oc (.d (.sl .unit [])))], [], [], 0⟩ [] (by kernel_rfl) trivial ?_
  obtain ⟨r286_0, cr286_0, h⟩ := bindS h
  refine At.step hm ht ⟨[(1, .call [] [] (f45_strings_Split_out r286_0))], [], [.nil false 3 0 .str (some 9)], [3, 13, 14, 15], [3]⟩ 4 ⟨[(3, oc (.own 0 .str [])), (13, oc (.d (.sl .str r286_0))), (14, oc (zi ((r286_0.length : Nat) : Int))), (15, oc (zi 0))], [(0, some ⟨9, 0⟩)], [], 1⟩ [FnOK Tryd.prog 45 (f45_strings_Split_in r284_0.1 (⟨#[32]⟩ : ByteArray)) (f45_strings_Split_out r286_0)] (by kernel_rfl) ⟨(f45_strings_Split_ok r284_0.1 (⟨#[32]⟩ : ByteArray) r286_0 cr286_0), trivial⟩ ?_
  obtain ⟨w293, cw293, h⟩ := bindS h
  refine f15_num_Pieces_L4_ok n [] r286_0 ((r286_0.length : Nat) : Int) 0 w293 cw293 _ ?_
  show At Tryd.prog Tryd.f15 0 9 ⟨[(3, oc (.own 0 .str w293))], [(0, some ⟨9, 0⟩)], [], 1⟩ _
  have h := Option.some.inj h
  subst h
  exact At.fin hm ht ⟨[], [], [], [2], []⟩ [] (by kernel_rfl) trivial
/-! (*brougham/filter.reader).took -/
def f84_filter_reader_took_in (s : ByteArray) (r__0 : List ByteArray) (r__1 : Int) (r__2 : Bool) : Inn := ⟨[.c (.ptr 0 0), .c (.d (.str s))], [], [(0, [.d (.sl .str r__0), zi r__1, .d (.bool r__2)])], 1⟩
def f84_filter_reader_took_out (r : Bool × List ByteArray × Int × Bool) : Out := ⟨oc (.d (.bool r.1)), [], [(0, [.d (.sl .str r.2.1), zi r.2.2.1, .d (.bool r.2.2.2)])], 1⟩
def f84_filter_reader_took (s : ByteArray) (r__0 : List ByteArray) (r__1 : Int) (r__2 : Bool) : Option (Bool × List ByteArray × Int × Bool) :=
  if ((((r__0.length : Nat) : Int) : Int) == 0) = true then
    some (false, r__0, r__1, r__2)
  else
    if (0 : Int) ≤ 0 ∧ 0 < (((r__0).length : Nat) : Int) then
    if (!((r__0.getD 0 ByteArray.empty).toList == s.toList)) = true then
      some (false, r__0, r__1, r__2)
    else
      if cutOk r__0.length (some 1) none none then
      some (true, ((r__0.take r__0.length).drop 1), r__1, r__2)
      else none
    else none
theorem f84_filter_reader_took_ok (s : ByteArray) (r__0 : List ByteArray) (r__1 : Int) (r__2 : Bool) (r : Bool × List ByteArray × Int × Bool) (h : f84_filter_reader_took s r__0 r__1 r__2 = some r) : FnOK Tryd.prog 84 (f84_filter_reader_took_in s r__0 r__1 r__2) (f84_filter_reader_took_out r) := by
  unfold f84_filter_reader_took at h
  refine At.fn (r := 0) Tryd.func84 rfl (by kernel_rfl) rfl rfl (by kernel_rfl) ?_
  show At Tryd.prog Tryd.f84 1 0 ⟨[(0, oc (.ptr 0 0)), (1, oc (.d (.str s)))], [], [(0, [.d (.sl .str r__0), zi r__1, .d (.bool r__2)])], 1⟩ _
  refine At.step hm ht ⟨[], [], [], [0, 1], [0]⟩ 1 ⟨[(0, oc (.ptr 0 0)), (1, oc (.d (.str s)))], [], [(0, [.d (.sl .str r__0), zi r__1, .d (.bool r__2)])], 1⟩ [] (by kernel_rfl) trivial ?_
  rcases iteS h with ⟨b308_6, h⟩ | ⟨b308_6, h⟩
  · refine At.step hm ht ⟨[(6, .b true)], [true], [], [], [0]⟩ 2 ⟨[], [], [(0, [.d (.sl .str r__0), zi r__1, .d (.bool r__2)])], 1⟩ [((((r__0.length : Nat) : Int) : Int) == 0) = true, true = true] (by kernel_rfl) ⟨b308_6, rfl, trivial⟩ ?_
    have h := Option.some.inj h
    subst h
    exact At.fin hm ht ⟨[], [], [], [4], [0]⟩ [] (by kernel_rfl) trivial
  · obtain ⟨g308_0, h⟩ := ifS h
    rcases iteS h with ⟨b308_e0, h⟩ | ⟨b308_e0, h⟩
    · refine At.step hm ht ⟨[(6, .b false)], [true], [], [], [0]⟩ 2 ⟨[], [], [(0, [.d (.sl .str r__0), zi r__1, .d (.bool r__2)])], 1⟩ [((((r__0.length : Nat) : Int) : Int) == 0) = false, (0 : Int) ≤ 0 ∧ 0 < (((r__0).length : Nat) : Int), (!((r__0.getD 0 ByteArray.empty).toList == s.toList)) = true] (by kernel_rfl) ⟨b308_6, g308_0, b308_e0, trivial⟩ ?_
      have h := Option.some.inj h
      subst h
      exact At.fin hm ht ⟨[], [], [], [4], [0]⟩ [] (by kernel_rfl) trivial
    · refine At.step hm ht ⟨[(6, .b false)], [false], [], [0], [0]⟩ 3 ⟨[(0, oc (.ptr 0 0))], [], [(0, [.d (.sl .str r__0), zi r__1, .d (.bool r__2)])], 1⟩ [((((r__0.length : Nat) : Int) : Int) == 0) = false, (0 : Int) ≤ 0 ∧ 0 < (((r__0).length : Nat) : Int), (!((r__0.getD 0 ByteArray.empty).toList == s.toList)) = false] (by kernel_rfl) ⟨b308_6, g308_0, b308_e0, trivial⟩ ?_
      obtain ⟨g311_0, h⟩ := ifS h
      refine At.step hm ht ⟨[], [], [], [], [0]⟩ 4 ⟨[], [], [(0, [.d (.sl .str ((r__0.take r__0.length).drop 1)), zi r__1, .d (.bool r__2)])], 1⟩ [cutOk r__0.length (some 1) none none, 0 + 1 ≤ 3] (by kernel_rfl) ⟨g311_0, (by decide), trivial⟩ ?_
      have h := Option.some.inj h
      subst h
      exact At.fin hm ht ⟨[], [], [], [4], [0]⟩ [] (by kernel_rfl) trivial
/-! (*brougham/filter.reader).number -/
def f115_filter_reader_number_in (op : Int) (r__0 : List ByteArray) (r__1 : Int) (r__2 : Bool) : Inn := ⟨[.c (.ptr 0 0), .c (zi op)], [], [(0, [.d (.sl .str r__0), zi r__1, .d (.bool r__2)])], 1⟩
def f115_filter_reader_number_out (r : PT × List ByteArray × Int × Bool) : Out := ⟨oc (.d (.pt r.1)), [], [(0, [.d (.sl .str r.2.1), zi r.2.2.1, .d (.bool r.2.2.2)])], 1⟩
def f115_filter_reader_number (op : Int) (r__0 : List ByteArray) (r__1 : Int) (r__2 : Bool) : Option (PT × List ByteArray × Int × Bool) :=
  if ((((r__0.length : Nat) : Int) : Int) == 0) = true then
    some (PT.nil, r__0, r__1, true)
  else
    if (0 : Int) ≤ 0 ∧ 0 < (((r__0).length : Nat) : Int) then
    (f51_num_Parse (r__0.getD 0 ByteArray.empty)).bind fun r334_1 =>
    if cutOk r__0.length (some 1) none none then
    if r__2 = true then
      some ((PT.node op r334_1.1 PT.nil PT.nil), ((r__0.take r__0.length).drop 1), r__1, true)
    else
      some ((PT.node op r334_1.1 PT.nil PT.nil), ((r__0.take r__0.length).drop 1), r__1, ((r334_1.2 : Int) != 0))
    else none
    else none
theorem f115_filter_reader_number_ok (op : Int) (r__0 : List ByteArray) (r__1 : Int) (r__2 : Bool) (r : PT × List ByteArray × Int × Bool) (h : f115_filter_reader_number op r__0 r__1 r__2 = some r) : FnOK Tryd.prog 115 (f115_filter_reader_number_in op r__0 r__1 r__2) (f115_filter_reader_number_out r) := by
  unfold f115_filter_reader_number at h
  refine At.fn (r := 0) Tryd.func115 rfl (by kernel_rfl) rfl rfl (by kernel_rfl) ?_
  show At Tryd.prog Tryd.f115 1 0 ⟨[(0, oc (.ptr 0 0)), (1, oc (zi op))], [], [(0, [.d (.sl .str r__0), zi r__1, .d (.bool r__2)])], 1⟩ _
  refine At.step hm ht ⟨[], [], [.nilpt 4], [0, 1], [0]⟩ 1 ⟨[(0, oc (.ptr 0 0)), (1, oc (zi op))], [], [(0, [.d (.sl .str r__0), zi r__1, .d (.bool r__2)])], 1⟩ [] (by kernel_rfl) trivial ?_
  rcases iteS h with ⟨b331_e0, h⟩ | ⟨b331_e0, h⟩
  · refine At.step hm ht ⟨[], [true], [], [0], [0]⟩ 2 ⟨[(0, oc (.ptr 0 0))], [], [(0, [.d (.sl .str r__0), zi r__1, .d (.bool r__2)])], 1⟩ [((((r__0.length : Nat) : Int) : Int) == 0) = true] (by kernel_rfl) ⟨b331_e0, trivial⟩ ?_
    refine At.step hm ht ⟨[], [], [], [], [0]⟩ 3 ⟨[], [], [(0, [.d (.sl .str r__0), zi r__1, .d (.bool true)])], 1⟩ [2 + 1 ≤ 3] (by kernel_rfl) ⟨(by decide), trivial⟩ ?_
    have h := Option.some.inj h
    subst h
    exact At.fin hm ht ⟨[], [], [.nilpt 4], [4], [0]⟩ [] (by kernel_rfl) trivial
  · refine At.step hm ht ⟨[], [false], [], [0, 1], [0]⟩ 4 ⟨[(0, oc (.ptr 0 0)), (1, oc (zi op))], [], [(0, [.d (.sl .str r__0), zi r__1, .d (.bool r__2)])], 1⟩ [((((r__0.length : Nat) : Int) : Int) == 0) = false] (by kernel_rfl) ⟨b331_e0, trivial⟩ ?_
    obtain ⟨g334_0, h⟩ := ifS h
    obtain ⟨r334_1, cr334_1, h⟩ := bindS h
    refine At.step hm ht ⟨[(6, .call [] [] (f51_num_Parse_out r334_1))], [], [], [0, 1, 5, 6], [0]⟩ 5 ⟨[(0, oc (.ptr 0 0)), (1, oc (zi op)), (5, oc (zi r334_1.1)), (6, oc (zi r334_1.2))], [], [(0, [.d (.sl .str r__0), zi r__1, .d (.bool r__2)])], 1⟩ [(0 : Int) ≤ 0 ∧ 0 < (((r__0).length : Nat) : Int), FnOK Tryd.prog 51 (f51_num_Parse_in (r__0.getD 0 ByteArray.empty)) (f51_num_Parse_out r334_1)] (by kernel_rfl) ⟨g334_0, (f51_num_Parse_ok (r__0.getD 0 ByteArray.empty) r334_1 cr334_1), trivial⟩ ?_
    obtain ⟨g335_0, h⟩ := ifS h
    refine At.step hm ht ⟨[], [], [], [0, 1, 5, 6], [0]⟩ 6 ⟨[(0, oc (.ptr 0 0)), (1, oc (zi op)), (5, oc (zi r334_1.1)), (6, oc (zi r334_1.2))], [], [(0, [.d (.sl .str ((r__0.take r__0.length).drop 1)), zi r__1, .d (.bool r__2)])], 1⟩ [cutOk r__0.length (some 1) none none, 0 + 1 ≤ 3] (by kernel_rfl) ⟨g335_0, (by decide), trivial⟩ ?_
    rcases iteS h with ⟨b336_5, h⟩ | ⟨b336_5, h⟩
    · refine At.step hm ht ⟨[(5, .b true)], [], [], [1, 5], [0]⟩ 7 ⟨[(1, oc (zi op)), (5, oc (zi r334_1.1))], [], [(0, [.d (.sl .str ((r__0.take r__0.length).drop 1)), zi r__1, .d (.bool true)])], 1⟩ [r__2 = true, 2 + 1 ≤ 3] (by kernel_rfl) ⟨b336_5, (by decide), trivial⟩ ?_
      have h := Option.some.inj h
      subst h
      exact At.fin hm ht ⟨[], [], [.tree 4], [4], [0]⟩ [] (by kernel_rfl) trivial
    · refine At.step hm ht ⟨[(5, .b false)], [], [], [1, 5], [0]⟩ 7 ⟨[(1, oc (zi op)), (5, oc (zi r334_1.1))], [], [(0, [.d (.sl .str ((r__0.take r__0.length).drop 1)), zi r__1, .d (.bool ((r334_1.2 : Int) != 0))])], 1⟩ [r__2 = false, 2 + 1 ≤ 3] (by kernel_rfl) ⟨b336_5, (by decide), trivial⟩ ?_
      have h := Option.some.inj h
      subst h
      exact At.fin hm ht ⟨[], [], [.tree 4], [4], [0]⟩ [] (by kernel_rfl) trivial
/-! (*brougham/filter.reader).plain -/
def f112_filter_reader_plain_in (r__0 : List ByteArray) (r__1 : Int) (r__2 : Bool) : Inn := ⟨[.c (.ptr 0 0)], [], [(0, [.d (.sl .str r__0), zi r__1, .d (.bool r__2)])], 1⟩
def f112_filter_reader_plain_out (r : PT × List ByteArray × Int × Bool) : Out := ⟨oc (.d (.pt r.1)), [], [(0, [.d (.sl .str r.2.1), zi r.2.2.1, .d (.bool r.2.2.2)])], 1⟩
def f112_filter_reader_plain (r__0 : List ByteArray) (r__1 : Int) (r__2 : Bool) : Option (PT × List ByteArray × Int × Bool) :=
  (f84_filter_reader_took (⟨#[97, 108, 108]⟩ : ByteArray) r__0 r__1 r__2).bind fun r318_0 =>
  if r318_0.1 = true then
    some ((PT.node 1 0 PT.nil PT.nil), r318_0.2.1, r318_0.2.2.1, r318_0.2.2.2)
  else
    (f84_filter_reader_took (⟨#[101, 109, 112, 116, 121]⟩ : ByteArray) r318_0.2.1 r318_0.2.2.1 r318_0.2.2.2).bind fun r320_0 =>
    if r320_0.1 = true then
      some ((PT.node 11 0 PT.nil PT.nil), r320_0.2.1, r320_0.2.2.1, r320_0.2.2.2)
    else
      (f84_filter_reader_took (⟨#[115, 121, 110]⟩ : ByteArray) r320_0.2.1 r320_0.2.2.1 r320_0.2.2.2).bind fun r322_0 =>
      if r322_0.1 = true then
        some ((PT.node 2 1 PT.nil PT.nil), r322_0.2.1, r322_0.2.2.1, r322_0.2.2.2)
      else
        (f84_filter_reader_took (⟨#[97, 99, 107]⟩ : ByteArray) r322_0.2.1 r322_0.2.2.1 r322_0.2.2.2).bind fun r324_0 =>
        if r324_0.1 = true then
          some ((PT.node 2 2 PT.nil PT.nil), r324_0.2.1, r324_0.2.2.1, r324_0.2.2.2)
        else
          (f84_filter_reader_took (⟨#[114, 115, 116]⟩ : ByteArray) r324_0.2.1 r324_0.2.2.1 r324_0.2.2.2).bind fun r326_0 =>
          if r326_0.1 = true then
            some ((PT.node 2 4 PT.nil PT.nil), r326_0.2.1, r326_0.2.2.1, r326_0.2.2.2)
          else
            (f84_filter_reader_took (⟨#[112, 111, 114, 116]⟩ : ByteArray) r326_0.2.1 r326_0.2.2.1 r326_0.2.2.2).bind fun r328_0 =>
            if r328_0.1 = true then
              (f115_filter_reader_number 3 r328_0.2.1 r328_0.2.2.1 r328_0.2.2.2).bind fun r329_0 =>
              some (r329_0.1, r329_0.2.1, r329_0.2.2.1, r329_0.2.2.2)
            else
              (f84_filter_reader_took (⟨#[115, 114, 99]⟩ : ByteArray) r328_0.2.1 r328_0.2.2.1 r328_0.2.2.2).bind fun r339_0 =>
              if r339_0.1 = true then
                (f115_filter_reader_number 4 r339_0.2.1 r339_0.2.2.1 r339_0.2.2.2).bind fun r340_0 =>
                some (r340_0.1, r340_0.2.1, r340_0.2.2.1, r340_0.2.2.2)
              else
                (f84_filter_reader_took (⟨#[100, 115, 116]⟩ : ByteArray) r339_0.2.1 r339_0.2.2.1 r339_0.2.2.2).bind fun r341_0 =>
                if r341_0.1 = true then
                  (f115_filter_reader_number 5 r341_0.2.1 r341_0.2.2.1 r341_0.2.2.2).bind fun r342_0 =>
                  some (r342_0.1, r342_0.2.1, r342_0.2.2.1, r342_0.2.2.2)
                else
                  (f84_filter_reader_took (⟨#[104, 97, 115]⟩ : ByteArray) r341_0.2.1 r341_0.2.2.1 r341_0.2.2.2).bind fun r343_0 =>
                  if r343_0.1 = true then
                    (f115_filter_reader_number 6 r343_0.2.1 r343_0.2.2.1 r343_0.2.2.2).bind fun r344_0 =>
                    some (r344_0.1, r344_0.2.1, r344_0.2.2.1, r344_0.2.2.2)
                  else
                    (f84_filter_reader_took (⟨#[108, 111, 110, 103]⟩ : ByteArray) r343_0.2.1 r343_0.2.2.1 r343_0.2.2.2).bind fun r345_0 =>
                    if r345_0.1 = true then
                      (f115_filter_reader_number 7 r345_0.2.1 r345_0.2.2.1 r345_0.2.2.2).bind fun r346_0 =>
                      some (r346_0.1, r346_0.2.1, r346_0.2.2.1, r346_0.2.2.2)
                    else
                      some (PT.nil, r345_0.2.1, r345_0.2.2.1, true)
theorem f112_filter_reader_plain_ok (r__0 : List ByteArray) (r__1 : Int) (r__2 : Bool) (r : PT × List ByteArray × Int × Bool) (h : f112_filter_reader_plain r__0 r__1 r__2 = some r) : FnOK Tryd.prog 112 (f112_filter_reader_plain_in r__0 r__1 r__2) (f112_filter_reader_plain_out r) := by
  unfold f112_filter_reader_plain at h
  refine At.fn (r := 0) Tryd.func112 rfl (by kernel_rfl) rfl rfl (by kernel_rfl) ?_
  show At Tryd.prog Tryd.f112 1 0 ⟨[(0, oc (.ptr 0 0))], [], [(0, [.d (.sl .str r__0), zi r__1, .d (.bool r__2)])], 1⟩ _
  refine At.step hm ht ⟨[], [], [.nilpt 2], [0], [0]⟩ 1 ⟨[(0, oc (.ptr 0 0))], [], [(0, [.d (.sl .str r__0), zi r__1, .d (.bool r__2)])], 1⟩ [] (by kernel_rfl) trivial ?_
  obtain ⟨r318_0, cr318_0, h⟩ := bindS h
  rcases iteS h with ⟨b318_e0, h⟩ | ⟨b318_e0, h⟩
  · refine At.step hm ht ⟨[(1, .call [0] [] (f84_filter_reader_took_out r318_0))], [true], [], [], [0]⟩ 2 ⟨[], [], [(0, [.d (.sl .str r318_0.2.1), zi r318_0.2.2.1, .d (.bool r318_0.2.2.2)])], 1⟩ [FnOK Tryd.prog 84 (f84_filter_reader_took_in (⟨#[97, 108, 108]⟩ : ByteArray) r__0 r__1 r__2) (f84_filter_reader_took_out r318_0), r318_0.1 = true] (by kernel_rfl) ⟨(f84_filter_reader_took_ok (⟨#[97, 108, 108]⟩ : ByteArray) r__0 r__1 r__2 r318_0 cr318_0), b318_e0, trivial⟩ ?_
    have h := Option.some.inj h
    subst h
    exact At.fin hm ht ⟨[], [], [.tree 2], [2], [0]⟩ [] (by kernel_rfl) trivial
  · refine At.step hm ht ⟨[(1, .call [0] [] (f84_filter_reader_took_out r318_0))], [false], [], [0], [0]⟩ 3 ⟨[(0, oc (.ptr 0 0))], [], [(0, [.d (.sl .str r318_0.2.1), zi r318_0.2.2.1, .d (.bool r318_0.2.2.2)])], 1⟩ [FnOK Tryd.prog 84 (f84_filter_reader_took_in (⟨#[97, 108, 108]⟩ : ByteArray) r__0 r__1 r__2) (f84_filter_reader_took_out r318_0), r318_0.1 = false] (by kernel_rfl) ⟨(f84_filter_reader_took_ok (⟨#[97, 108, 108]⟩ : ByteArray) r__0 r__1 r__2 r318_0 cr318_0), b318_e0, trivial⟩ ?_
    obtain ⟨r320_0, cr320_0, h⟩ := bindS h
    rcases iteS h with ⟨b320_e0, h⟩ | ⟨b320_e0, h⟩
    · refine At.step hm ht ⟨[(1, .call [0] [] (f84_filter_reader_took_out r320_0))], [true], [], [], [0]⟩ 4 ⟨[], [], [(0, [.d (.sl .str r320_0.2.1), zi r320_0.2.2.1, .d (.bool r320_0.2.2.2)])], 1⟩ [FnOK Tryd.prog 84 (f84_filter_reader_took_in (⟨#[101, 109, 112, 116, 121]⟩ : ByteArray) r318_0.2.1 r318_0.2.2.1 r318_0.2.2.2) (f84_filter_reader_took_out r320_0), r320_0.1 = true] (by kernel_rfl) ⟨(f84_filter_reader_took_ok (⟨#[101, 109, 112, 116, 121]⟩ : ByteArray) r318_0.2.1 r318_0.2.2.1 r318_0.2.2.2 r320_0 cr320_0), b320_e0, trivial⟩ ?_
      have h := Option.some.inj h
      subst h
      exact At.fin hm ht ⟨[], [], [.tree 2], [2], [0]⟩ [] (by kernel_rfl) trivial
    · refine At.step hm ht ⟨[(1, .call [0] [] (f84_filter_reader_took_out r320_0))], [false], [], [0], [0]⟩ 5 ⟨[(0, oc (.ptr 0 0))], [], [(0, [.d (.sl .str r320_0.2.1), zi r320_0.2.2.1, .d (.bool r320_0.2.2.2)])], 1⟩ [FnOK Tryd.prog 84 (f84_filter_reader_took_in (⟨#[101, 109, 112, 116, 121]⟩ : ByteArray) r318_0.2.1 r318_0.2.2.1 r318_0.2.2.2) (f84_filter_reader_took_out r320_0), r320_0.1 = false] (by kernel_rfl) ⟨(f84_filter_reader_took_ok (⟨#[101, 109, 112, 116, 121]⟩ : ByteArray) r318_0.2.1 r318_0.2.2.1 r318_0.2.2.2 r320_0 cr320_0), b320_e0, trivial⟩ ?_
      obtain ⟨r322_0, cr322_0, h⟩ := bindS h
      rcases iteS h with ⟨b322_e0, h⟩ | ⟨b322_e0, h⟩
      · refine At.step hm ht ⟨[(1, .call [0] [] (f84_filter_reader_took_out r322_0))], [true], [], [], [0]⟩ 6 ⟨[], [], [(0, [.d (.sl .str r322_0.2.1), zi r322_0.2.2.1, .d (.bool r322_0.2.2.2)])], 1⟩ [FnOK Tryd.prog 84 (f84_filter_reader_took_in (⟨#[115, 121, 110]⟩ : ByteArray) r320_0.2.1 r320_0.2.2.1 r320_0.2.2.2) (f84_filter_reader_took_out r322_0), r322_0.1 = true] (by kernel_rfl) ⟨(f84_filter_reader_took_ok (⟨#[115, 121, 110]⟩ : ByteArray) r320_0.2.1 r320_0.2.2.1 r320_0.2.2.2 r322_0 cr322_0), b322_e0, trivial⟩ ?_
        have h := Option.some.inj h
        subst h
        exact At.fin hm ht ⟨[], [], [.tree 2], [2], [0]⟩ [] (by kernel_rfl) trivial
      · refine At.step hm ht ⟨[(1, .call [0] [] (f84_filter_reader_took_out r322_0))], [false], [], [0], [0]⟩ 7 ⟨[(0, oc (.ptr 0 0))], [], [(0, [.d (.sl .str r322_0.2.1), zi r322_0.2.2.1, .d (.bool r322_0.2.2.2)])], 1⟩ [FnOK Tryd.prog 84 (f84_filter_reader_took_in (⟨#[115, 121, 110]⟩ : ByteArray) r320_0.2.1 r320_0.2.2.1 r320_0.2.2.2) (f84_filter_reader_took_out r322_0), r322_0.1 = false] (by kernel_rfl) ⟨(f84_filter_reader_took_ok (⟨#[115, 121, 110]⟩ : ByteArray) r320_0.2.1 r320_0.2.2.1 r320_0.2.2.2 r322_0 cr322_0), b322_e0, trivial⟩ ?_
        obtain ⟨r324_0, cr324_0, h⟩ := bindS h
        rcases iteS h with ⟨b324_e0, h⟩ | ⟨b324_e0, h⟩
        · refine At.step hm ht ⟨[(1, .call [0] [] (f84_filter_reader_took_out r324_0))], [true], [], [], [0]⟩ 8 ⟨[], [], [(0, [.d (.sl .str r324_0.2.1), zi r324_0.2.2.1, .d (.bool r324_0.2.2.2)])], 1⟩ [FnOK Tryd.prog 84 (f84_filter_reader_took_in (⟨#[97, 99, 107]⟩ : ByteArray) r322_0.2.1 r322_0.2.2.1 r322_0.2.2.2) (f84_filter_reader_took_out r324_0), r324_0.1 = true] (by kernel_rfl) ⟨(f84_filter_reader_took_ok (⟨#[97, 99, 107]⟩ : ByteArray) r322_0.2.1 r322_0.2.2.1 r322_0.2.2.2 r324_0 cr324_0), b324_e0, trivial⟩ ?_
          have h := Option.some.inj h
          subst h
          exact At.fin hm ht ⟨[], [], [.tree 2], [2], [0]⟩ [] (by kernel_rfl) trivial
        · refine At.step hm ht ⟨[(1, .call [0] [] (f84_filter_reader_took_out r324_0))], [false], [], [0], [0]⟩ 9 ⟨[(0, oc (.ptr 0 0))], [], [(0, [.d (.sl .str r324_0.2.1), zi r324_0.2.2.1, .d (.bool r324_0.2.2.2)])], 1⟩ [FnOK Tryd.prog 84 (f84_filter_reader_took_in (⟨#[97, 99, 107]⟩ : ByteArray) r322_0.2.1 r322_0.2.2.1 r322_0.2.2.2) (f84_filter_reader_took_out r324_0), r324_0.1 = false] (by kernel_rfl) ⟨(f84_filter_reader_took_ok (⟨#[97, 99, 107]⟩ : ByteArray) r322_0.2.1 r322_0.2.2.1 r322_0.2.2.2 r324_0 cr324_0), b324_e0, trivial⟩ ?_
          obtain ⟨r326_0, cr326_0, h⟩ := bindS h
          rcases iteS h with ⟨b326_e0, h⟩ | ⟨b326_e0, h⟩
          · refine At.step hm ht ⟨[(1, .call [0] [] (f84_filter_reader_took_out r326_0))], [true], [], [], [0]⟩ 10 ⟨[], [], [(0, [.d (.sl .str r326_0.2.1), zi r326_0.2.2.1, .d (.bool r326_0.2.2.2)])], 1⟩ [FnOK Tryd.prog 84 (f84_filter_reader_took_in (⟨#[114, 115, 116]⟩ : ByteArray) r324_0.2.1 r324_0.2.2.1 r324_0.2.2.2) (f84_filter_reader_took_out r326_0), r326_0.1 = true] (by kernel_rfl) ⟨(f84_filter_reader_took_ok (⟨#[114, 115, 116]⟩ : ByteArray) r324_0.2.1 r324_0.2.2.1 r324_0.2.2.2 r326_0 cr326_0), b326_e0, trivial⟩ ?_
            have h := Option.some.inj h
            subst h
            exact At.fin hm ht ⟨[], [], [.tree 2], [2], [0]⟩ [] (by kernel_rfl) trivial
          · refine At.step hm ht ⟨[(1, .call [0] [] (f84_filter_reader_took_out r326_0))], [false], [], [0], [0]⟩ 11 ⟨[(0, oc (.ptr 0 0))], [], [(0, [.d (.sl .str r326_0.2.1), zi r326_0.2.2.1, .d (.bool r326_0.2.2.2)])], 1⟩ [FnOK Tryd.prog 84 (f84_filter_reader_took_in (⟨#[114, 115, 116]⟩ : ByteArray) r324_0.2.1 r324_0.2.2.1 r324_0.2.2.2) (f84_filter_reader_took_out r326_0), r326_0.1 = false] (by kernel_rfl) ⟨(f84_filter_reader_took_ok (⟨#[114, 115, 116]⟩ : ByteArray) r324_0.2.1 r324_0.2.2.1 r324_0.2.2.2 r326_0 cr326_0), b326_e0, trivial⟩ ?_
            obtain ⟨r328_0, cr328_0, h⟩ := bindS h
            rcases iteS h with ⟨b328_e0, h⟩ | ⟨b328_e0, h⟩
            · refine At.step hm ht ⟨[(1, .call [0] [] (f84_filter_reader_took_out r328_0))], [true], [], [0], [0]⟩ 12 ⟨[(0, oc (.ptr 0 0))], [], [(0, [.d (.sl .str r328_0.2.1), zi r328_0.2.2.1, .d (.bool r328_0.2.2.2)])], 1⟩ [FnOK Tryd.prog 84 (f84_filter_reader_took_in (⟨#[112, 111, 114, 116]⟩ : ByteArray) r326_0.2.1 r326_0.2.2.1 r326_0.2.2.2) (f84_filter_reader_took_out r328_0), r328_0.1 = true] (by kernel_rfl) ⟨(f84_filter_reader_took_ok (⟨#[112, 111, 114, 116]⟩ : ByteArray) r326_0.2.1 r326_0.2.2.1 r326_0.2.2.2 r328_0 cr328_0), b328_e0, trivial⟩ ?_
              obtain ⟨r329_0, cr329_0, h⟩ := bindS h
              have h := Option.some.inj h
              subst h
              exact At.fin hm ht ⟨[(1, .call [0] [] (f115_filter_reader_number_out r329_0))], [], [], [2], [0]⟩ [FnOK Tryd.prog 115 (f115_filter_reader_number_in 3 r328_0.2.1 r328_0.2.2.1 r328_0.2.2.2) (f115_filter_reader_number_out r329_0)] (by kernel_rfl) ⟨(f115_filter_reader_number_ok 3 r328_0.2.1 r328_0.2.2.1 r328_0.2.2.2 r329_0 cr329_0), trivial⟩
            · refine At.step hm ht ⟨[(1, .call [0] [] (f84_filter_reader_took_out r328_0))], [false], [], [0], [0]⟩ 13 ⟨[(0, oc (.ptr 0 0))], [], [(0, [.d (.sl .str r328_0.2.1), zi r328_0.2.2.1, .d (.bool r328_0.2.2.2)])], 1⟩ [FnOK Tryd.prog 84 (f84_filter_reader_took_in (⟨#[112, 111, 114, 116]⟩ : ByteArray) r326_0.2.1 r326_0.2.2.1 r326_0.2.2.2) (f84_filter_reader_took_out r328_0), r328_0.1 = false] (by kernel_rfl) ⟨(f84_filter_reader_took_ok (⟨#[112, 111, 114, 116]⟩ : ByteArray) r326_0.2.1 r326_0.2.2.1 r326_0.2.2.2 r328_0 cr328_0), b328_e0, trivial⟩ ?_
              obtain ⟨r339_0, cr339_0, h⟩ := bindS h
              rcases iteS h with ⟨b339_e0, h⟩ | ⟨b339_e0, h⟩
              · refine At.step hm ht ⟨[(1, .call [0] [] (f84_filter_reader_took_out r339_0))], [true], [], [0], [0]⟩ 14 ⟨[(0, oc (.ptr 0 0))], [], [(0, [.d (.sl .str r339_0.2.1), zi r339_0.2.2.1, .d (.bool r339_0.2.2.2)])], 1⟩ [FnOK Tryd.prog 84 (f84_filter_reader_took_in (⟨#[115, 114, 99]⟩ : ByteArray) r328_0.2.1 r328_0.2.2.1 r328_0.2.2.2) (f84_filter_reader_took_out r339_0), r339_0.1 = true] (by kernel_rfl) ⟨(f84_filter_reader_took_ok (⟨#[115, 114, 99]⟩ : ByteArray) r328_0.2.1 r328_0.2.2.1 r328_0.2.2.2 r339_0 cr339_0), b339_e0, trivial⟩ ?_
                obtain ⟨r340_0, cr340_0, h⟩ := bindS h
                have h := Option.some.inj h
                subst h
                exact At.fin hm ht ⟨[(1, .call [0] [] (f115_filter_reader_number_out r340_0))], [], [], [2], [0]⟩ [FnOK Tryd.prog 115 (f115_filter_reader_number_in 4 r339_0.2.1 r339_0.2.2.1 r339_0.2.2.2) (f115_filter_reader_number_out r340_0)] (by kernel_rfl) ⟨(f115_filter_reader_number_ok 4 r339_0.2.1 r339_0.2.2.1 r339_0.2.2.2 r340_0 cr340_0), trivial⟩
              · refine At.step hm ht ⟨[(1, .call [0] [] (f84_filter_reader_took_out r339_0))], [false], [], [0], [0]⟩ 15 ⟨[(0, oc (.ptr 0 0))], [], [(0, [.d (.sl .str r339_0.2.1), zi r339_0.2.2.1, .d (.bool r339_0.2.2.2)])], 1⟩ [FnOK Tryd.prog 84 (f84_filter_reader_took_in (⟨#[115, 114, 99]⟩ : ByteArray) r328_0.2.1 r328_0.2.2.1 r328_0.2.2.2) (f84_filter_reader_took_out r339_0), r339_0.1 = false] (by kernel_rfl) ⟨(f84_filter_reader_took_ok (⟨#[115, 114, 99]⟩ : ByteArray) r328_0.2.1 r328_0.2.2.1 r328_0.2.2.2 r339_0 cr339_0), b339_e0, trivial⟩ ?_
                obtain ⟨r341_0, cr341_0, h⟩ := bindS h
                rcases iteS h with ⟨b341_e0, h⟩ | ⟨b341_e0, h⟩
                · refine At.step hm ht ⟨[(1, .call [0] [] (f84_filter_reader_took_out r341_0))], [true], [], [0], [0]⟩ 16 ⟨[(0, oc (.ptr 0 0))], [], [(0, [.d (.sl .str r341_0.2.1), zi r341_0.2.2.1, .d (.bool r341_0.2.2.2)])], 1⟩ [FnOK Tryd.prog 84 (f84_filter_reader_took_in (⟨#[100, 115, 116]⟩ : ByteArray) r339_0.2.1 r339_0.2.2.1 r339_0.2.2.2) (f84_filter_reader_took_out r341_0), r341_0.1 = true] (by kernel_rfl) ⟨(f84_filter_reader_took_ok (⟨#[100, 115, 116]⟩ : ByteArray) r339_0.2.1 r339_0.2.2.1 r339_0.2.2.2 r341_0 cr341_0), b341_e0, trivial⟩ ?_
                  obtain ⟨r342_0, cr342_0, h⟩ := bindS h
                  have h := Option.some.inj h
                  subst h
                  exact At.fin hm ht ⟨[(1, .call [0] [] (f115_filter_reader_number_out r342_0))], [], [], [2], [0]⟩ [FnOK Tryd.prog 115 (f115_filter_reader_number_in 5 r341_0.2.1 r341_0.2.2.1 r341_0.2.2.2) (f115_filter_reader_number_out r342_0)] (by kernel_rfl) ⟨(f115_filter_reader_number_ok 5 r341_0.2.1 r341_0.2.2.1 r341_0.2.2.2 r342_0 cr342_0), trivial⟩
                · refine At.step hm ht ⟨[(1, .call [0] [] (f84_filter_reader_took_out r341_0))], [false], [], [0], [0]⟩ 17 ⟨[(0, oc (.ptr 0 0))], [], [(0, [.d (.sl .str r341_0.2.1), zi r341_0.2.2.1, .d (.bool r341_0.2.2.2)])], 1⟩ [FnOK Tryd.prog 84 (f84_filter_reader_took_in (⟨#[100, 115, 116]⟩ : ByteArray) r339_0.2.1 r339_0.2.2.1 r339_0.2.2.2) (f84_filter_reader_took_out r341_0), r341_0.1 = false] (by kernel_rfl) ⟨(f84_filter_reader_took_ok (⟨#[100, 115, 116]⟩ : ByteArray) r339_0.2.1 r339_0.2.2.1 r339_0.2.2.2 r341_0 cr341_0), b341_e0, trivial⟩ ?_
                  obtain ⟨r343_0, cr343_0, h⟩ := bindS h
                  rcases iteS h with ⟨b343_e0, h⟩ | ⟨b343_e0, h⟩
                  · refine At.step hm ht ⟨[(1, .call [0] [] (f84_filter_reader_took_out r343_0))], [true], [], [0], [0]⟩ 18 ⟨[(0, oc (.ptr 0 0))], [], [(0, [.d (.sl .str r343_0.2.1), zi r343_0.2.2.1, .d (.bool r343_0.2.2.2)])], 1⟩ [FnOK Tryd.prog 84 (f84_filter_reader_took_in (⟨#[104, 97, 115]⟩ : ByteArray) r341_0.2.1 r341_0.2.2.1 r341_0.2.2.2) (f84_filter_reader_took_out r343_0), r343_0.1 = true] (by kernel_rfl) ⟨(f84_filter_reader_took_ok (⟨#[104, 97, 115]⟩ : ByteArray) r341_0.2.1 r341_0.2.2.1 r341_0.2.2.2 r343_0 cr343_0), b343_e0, trivial⟩ ?_
                    obtain ⟨r344_0, cr344_0, h⟩ := bindS h
                    have h := Option.some.inj h
                    subst h
                    exact At.fin hm ht ⟨[(1, .call [0] [] (f115_filter_reader_number_out r344_0))], [], [], [2], [0]⟩ [FnOK Tryd.prog 115 (f115_filter_reader_number_in 6 r343_0.2.1 r343_0.2.2.1 r343_0.2.2.2) (f115_filter_reader_number_out r344_0)] (by kernel_rfl) ⟨(f115_filter_reader_number_ok 6 r343_0.2.1 r343_0.2.2.1 r343_0.2.2.2 r344_0 cr344_0), trivial⟩
                  · refine At.step hm ht ⟨[(1, .call [0] [] (f84_filter_reader_took_out r343_0))], [false], [], [0], [0]⟩ 19 ⟨[(0, oc (.ptr 0 0))], [], [(0, [.d (.sl .str r343_0.2.1), zi r343_0.2.2.1, .d (.bool r343_0.2.2.2)])], 1⟩ [FnOK Tryd.prog 84 (f84_filter_reader_took_in (⟨#[104, 97, 115]⟩ : ByteArray) r341_0.2.1 r341_0.2.2.1 r341_0.2.2.2) (f84_filter_reader_took_out r343_0), r343_0.1 = false] (by kernel_rfl) ⟨(f84_filter_reader_took_ok (⟨#[104, 97, 115]⟩ : ByteArray) r341_0.2.1 r341_0.2.2.1 r341_0.2.2.2 r343_0 cr343_0), b343_e0, trivial⟩ ?_
                    obtain ⟨r345_0, cr345_0, h⟩ := bindS h
                    rcases iteS h with ⟨b345_e0, h⟩ | ⟨b345_e0, h⟩
                    · refine At.step hm ht ⟨[(1, .call [0] [] (f84_filter_reader_took_out r345_0))], [true], [], [0], [0]⟩ 20 ⟨[(0, oc (.ptr 0 0))], [], [(0, [.d (.sl .str r345_0.2.1), zi r345_0.2.2.1, .d (.bool r345_0.2.2.2)])], 1⟩ [FnOK Tryd.prog 84 (f84_filter_reader_took_in (⟨#[108, 111, 110, 103]⟩ : ByteArray) r343_0.2.1 r343_0.2.2.1 r343_0.2.2.2) (f84_filter_reader_took_out r345_0), r345_0.1 = true] (by kernel_rfl) ⟨(f84_filter_reader_took_ok (⟨#[108, 111, 110, 103]⟩ : ByteArray) r343_0.2.1 r343_0.2.2.1 r343_0.2.2.2 r345_0 cr345_0), b345_e0, trivial⟩ ?_
                      obtain ⟨r346_0, cr346_0, h⟩ := bindS h
                      have h := Option.some.inj h
                      subst h
                      exact At.fin hm ht ⟨[(1, .call [0] [] (f115_filter_reader_number_out r346_0))], [], [], [2], [0]⟩ [FnOK Tryd.prog 115 (f115_filter_reader_number_in 7 r345_0.2.1 r345_0.2.2.1 r345_0.2.2.2) (f115_filter_reader_number_out r346_0)] (by kernel_rfl) ⟨(f115_filter_reader_number_ok 7 r345_0.2.1 r345_0.2.2.1 r345_0.2.2.2 r346_0 cr346_0), trivial⟩
                    · refine At.step hm ht ⟨[(1, .call [0] [] (f84_filter_reader_took_out r345_0))], [false], [], [0], [0]⟩ 21 ⟨[(0, oc (.ptr 0 0))], [], [(0, [.d (.sl .str r345_0.2.1), zi r345_0.2.2.1, .d (.bool r345_0.2.2.2)])], 1⟩ [FnOK Tryd.prog 84 (f84_filter_reader_took_in (⟨#[108, 111, 110, 103]⟩ : ByteArray) r343_0.2.1 r343_0.2.2.1 r343_0.2.2.2) (f84_filter_reader_took_out r345_0), r345_0.1 = false] (by kernel_rfl) ⟨(f84_filter_reader_took_ok (⟨#[108, 111, 110, 103]⟩ : ByteArray) r343_0.2.1 r343_0.2.2.1 r343_0.2.2.2 r345_0 cr345_0), b345_e0, trivial⟩ ?_
                      refine At.step hm ht ⟨[], [], [], [], [0]⟩ 22 ⟨[], [], [(0, [.d (.sl .str r345_0.2.1), zi r345_0.2.2.1, .d (.bool true)])], 1⟩ [2 + 1 ≤ 3] (by kernel_rfl) ⟨(by decide), trivial⟩ ?_
                      have h := Option.some.inj h
                      subst h
                      exact At.fin hm ht ⟨[], [], [.nilpt 2], [2], [0]⟩ [] (by kernel_rfl) trivial
/-! (*brougham/filter.reader).one -/
def f99_filter_reader_one_in (r__0 : List ByteArray) (r__1 : Int) (r__2 : Bool) : Inn := ⟨[.c (.ptr 0 0)], [], [(0, [.d (.sl .str r__0), zi r__1, .d (.bool r__2)])], 1⟩
def f99_filter_reader_one_out (r : PT × List ByteArray × Int × Bool) : Out := ⟨oc (.d (.pt r.1)), [], [(0, [.d (.sl .str r.2.1), zi r.2.2.1, .d (.bool r.2.2.2)])], 1⟩
/-! (*brougham/filter.reader).or -/
def f54_filter_reader_or_in (r__0 : List ByteArray) (r__1 : Int) (r__2 : Bool) : Inn := ⟨[.c (.ptr 0 0)], [], [(0, [.d (.sl .str r__0), zi r__1, .d (.bool r__2)])], 1⟩
def f54_filter_reader_or_out (r : PT × List ByteArray × Int × Bool) : Out := ⟨oc (.d (.pt r.1)), [], [(0, [.d (.sl .str r.2.1), zi r.2.2.1, .d (.bool r.2.2.2)])], 1⟩
/-! (*brougham/filter.reader).one -/
def f99_filter_reader_one_D5_in (b0_0 : List ByteArray) (b0_1 : Int) (b0_2 : Bool) : Inn := ⟨[.c (.ptr 1 0)], [], [(0, [.d (.sl .str b0_0), zi b0_1, .d (.bool b0_2)]), (1, [.ptr 0 0])], 2⟩
def f99_filter_reader_one_D5_out (r : PT × List ByteArray × Int × Bool) : Out := ⟨oc (.d (.pt r.1)), [], [(0, [.d (.sl .str r.2.1), zi r.2.2.1, .d (.bool r.2.2.2)]), (1, [.ptr 0 0])], 2⟩
def f99_filter_reader_one_D5 (rc_f54_filter_reader_or : (List ByteArray) → Int → Bool → Option (PT × List ByteArray × Int × Bool)) (rc_f99_filter_reader_one : (List ByteArray) → Int → Bool → Option (PT × List ByteArray × Int × Bool)) (n : Nat) (b0_0 : List ByteArray) (b0_1 : Int) (b0_2 : Bool) : Option (PT × List ByteArray × Int × Bool) :=
  (f84_filter_reader_took (⟨#[110, 111, 116]⟩ : ByteArray) b0_0 b0_1 b0_2).bind fun r409_0 =>
  if r409_0.1 = true then
    (rc_f99_filter_reader_one r409_0.2.1 r409_0.2.2.1 r409_0.2.2.2).bind fun r410_0 =>
    some ((PT.node 8 0 r410_0.1 PT.nil), r410_0.2.1, r410_0.2.2.1, r410_0.2.2.2)
  else
    (f84_filter_reader_took (⟨#[40]⟩ : ByteArray) r409_0.2.1 r409_0.2.2.1 r409_0.2.2.2).bind fun r411_0 =>
    if r411_0.1 = true then
      (rc_f54_filter_reader_or r411_0.2.1 r411_0.2.2.1 r411_0.2.2.2).bind fun r412_0 =>
      (f84_filter_reader_took (⟨#[41]⟩ : ByteArray) r412_0.2.1 r412_0.2.2.1 r412_0.2.2.2).bind fun r413_0 =>
      if (!r413_0.1) = true then
        some (r412_0.1, r413_0.2.1, r413_0.2.2.1, true)
      else
        some (r412_0.1, r413_0.2.1, r413_0.2.2.1, r413_0.2.2.2)
    else
      (f112_filter_reader_plain r411_0.2.1 r411_0.2.2.1 r411_0.2.2.2).bind fun r416_0 =>
      some (r416_0.1, r416_0.2.1, r416_0.2.2.1, r416_0.2.2.2)
theorem f99_filter_reader_one_D5_ok (rc_f54_filter_reader_or : (List ByteArray) → Int → Bool → Option (PT × List ByteArray × Int × Bool)) (hrc_f54_filter_reader_or : ∀ (r__0 : List ByteArray) (r__1 : Int) (r__2 : Bool) (r : PT × List ByteArray × Int × Bool) (h : rc_f54_filter_reader_or r__0 r__1 r__2 = some r), FnOK Tryd.prog 54 (f54_filter_reader_or_in r__0 r__1 r__2) (f54_filter_reader_or_out r)) (rc_f99_filter_reader_one : (List ByteArray) → Int → Bool → Option (PT × List ByteArray × Int × Bool)) (hrc_f99_filter_reader_one : ∀ (r__0 : List ByteArray) (r__1 : Int) (r__2 : Bool) (r : PT × List ByteArray × Int × Bool) (h : rc_f99_filter_reader_one r__0 r__1 r__2 = some r), FnOK Tryd.prog 99 (f99_filter_reader_one_in r__0 r__1 r__2) (f99_filter_reader_one_out r)) (n : Nat) (b0_0 : List ByteArray) (b0_1 : Int) (b0_2 : Bool) (r : PT × List ByteArray × Int × Bool) (h : f99_filter_reader_one_D5 rc_f54_filter_reader_or rc_f99_filter_reader_one n b0_0 b0_1 b0_2 = some r) : At Tryd.prog Tryd.f99 2 6 ⟨[(1, oc (.ptr 1 0))], [], [(0, [.d (.sl .str b0_0), zi b0_1, .d (.bool b0_2)]), (1, [.ptr 0 0])], 2⟩ (f99_filter_reader_one_D5_out r) := by
  unfold f99_filter_reader_one_D5 at h
  obtain ⟨r409_0, cr409_0, h⟩ := bindS h
  rcases iteS h with ⟨b409_e0, h⟩ | ⟨b409_e0, h⟩
  · refine At.step hm ht ⟨[(1, .call [0] [] (f84_filter_reader_took_out r409_0))], [true], [], [1], [0, 1]⟩ 7 ⟨[(1, oc (.ptr 1 0))], [], [(0, [.d (.sl .str r409_0.2.1), zi r409_0.2.2.1, .d (.bool r409_0.2.2.2)]), (1, [.ptr 0 0])], 2⟩ [FnOK Tryd.prog 84 (f84_filter_reader_took_in (⟨#[110, 111, 116]⟩ : ByteArray) b0_0 b0_1 b0_2) (f84_filter_reader_took_out r409_0), r409_0.1 = true] (by kernel_rfl) ⟨(f84_filter_reader_took_ok (⟨#[110, 111, 116]⟩ : ByteArray) b0_0 b0_1 b0_2 r409_0 cr409_0), b409_e0, trivial⟩ ?_
    obtain ⟨r410_0, cr410_0, h⟩ := bindS h
    have h := Option.some.inj h
    subst h
    exact At.fin hm ht ⟨[(1, .call [0] [] (f99_filter_reader_one_out r410_0))], [], [.tree 5], [2], [0, 1]⟩ [FnOK Tryd.prog 99 (f99_filter_reader_one_in r409_0.2.1 r409_0.2.2.1 r409_0.2.2.2) (f99_filter_reader_one_out r410_0)] (by kernel_rfl) ⟨(hrc_f99_filter_reader_one r409_0.2.1 r409_0.2.2.1 r409_0.2.2.2 r410_0 cr410_0), trivial⟩
  · refine At.step hm ht ⟨[(1, .call [0] [] (f84_filter_reader_took_out r409_0))], [false], [], [1], [0, 1]⟩ 8 ⟨[(1, oc (.ptr 1 0))], [], [(0, [.d (.sl .str r409_0.2.1), zi r409_0.2.2.1, .d (.bool r409_0.2.2.2)]), (1, [.ptr 0 0])], 2⟩ [FnOK Tryd.prog 84 (f84_filter_reader_took_in (⟨#[110, 111, 116]⟩ : ByteArray) b0_0 b0_1 b0_2) (f84_filter_reader_took_out r409_0), r409_0.1 = false] (by kernel_rfl) ⟨(f84_filter_reader_took_ok (⟨#[110, 111, 116]⟩ : ByteArray) b0_0 b0_1 b0_2 r409_0 cr409_0), b409_e0, trivial⟩ ?_
    obtain ⟨r411_0, cr411_0, h⟩ := bindS h
    rcases iteS h with ⟨b411_e0, h⟩ | ⟨b411_e0, h⟩
    · refine At.step hm ht ⟨[(1, .call [0] [] (f84_filter_reader_took_out r411_0))], [true], [], [1], [0, 1]⟩ 9 ⟨[(1, oc (.ptr 1 0))], [], [(0, [.d (.sl .str r411_0.2.1), zi r411_0.2.2.1, .d (.bool r411_0.2.2.2)]), (1, [.ptr 0 0])], 2⟩ [FnOK Tryd.prog 84 (f84_filter_reader_took_in (⟨#[40]⟩ : ByteArray) r409_0.2.1 r409_0.2.2.1 r409_0.2.2.2) (f84_filter_reader_took_out r411_0), r411_0.1 = true] (by kernel_rfl) ⟨(f84_filter_reader_took_ok (⟨#[40]⟩ : ByteArray) r409_0.2.1 r409_0.2.2.1 r409_0.2.2.2 r411_0 cr411_0), b411_e0, trivial⟩ ?_
      obtain ⟨r412_0, cr412_0, h⟩ := bindS h
      refine At.step hm ht ⟨[(1, .call [0] [] (f54_filter_reader_or_out r412_0))], [], [], [1, 3], [0, 1]⟩ 10 ⟨[(1, oc (.ptr 1 0)), (3, oc (.d (.pt r412_0.1)))], [], [(0, [.d (.sl .str r412_0.2.1), zi r412_0.2.2.1, .d (.bool r412_0.2.2.2)]), (1, [.ptr 0 0])], 2⟩ [FnOK Tryd.prog 54 (f54_filter_reader_or_in r411_0.2.1 r411_0.2.2.1 r411_0.2.2.2) (f54_filter_reader_or_out r412_0)] (by kernel_rfl) ⟨(hrc_f54_filter_reader_or r411_0.2.1 r411_0.2.2.1 r411_0.2.2.2 r412_0 cr412_0), trivial⟩ ?_
      obtain ⟨r413_0, cr413_0, h⟩ := bindS h
      rcases iteS h with ⟨b413_4, h⟩ | ⟨b413_4, h⟩
      · refine At.step hm ht ⟨[(2, .call [0] [] (f84_filter_reader_took_out r413_0)), (4, .b true)], [], [], [3], [0, 1]⟩ 11 ⟨[(3, oc (.d (.pt r412_0.1)))], [], [(0, [.d (.sl .str r413_0.2.1), zi r413_0.2.2.1, .d (.bool true)]), (1, [.ptr 0 0])], 2⟩ [FnOK Tryd.prog 84 (f84_filter_reader_took_in (⟨#[41]⟩ : ByteArray) r412_0.2.1 r412_0.2.2.1 r412_0.2.2.2) (f84_filter_reader_took_out r413_0), (!r413_0.1) = true, 2 + 1 ≤ 3] (by kernel_rfl) ⟨(f84_filter_reader_took_ok (⟨#[41]⟩ : ByteArray) r412_0.2.1 r412_0.2.2.1 r412_0.2.2.2 r413_0 cr413_0), b413_4, (by decide), trivial⟩ ?_
        have h := Option.some.inj h
        subst h
        exact At.fin hm ht ⟨[], [], [], [2], [0, 1]⟩ [] (by kernel_rfl) trivial
      · refine At.step hm ht ⟨[(2, .call [0] [] (f84_filter_reader_took_out r413_0)), (4, .b false)], [], [], [3], [0, 1]⟩ 11 ⟨[(3, oc (.d (.pt r412_0.1)))], [], [(0, [.d (.sl .str r413_0.2.1), zi r413_0.2.2.1, .d (.bool r413_0.2.2.2)]), (1, [.ptr 0 0])], 2⟩ [FnOK Tryd.prog 84 (f84_filter_reader_took_in (⟨#[41]⟩ : ByteArray) r412_0.2.1 r412_0.2.2.1 r412_0.2.2.2) (f84_filter_reader_took_out r413_0), (!r413_0.1) = false, 2 + 1 ≤ 3] (by kernel_rfl) ⟨(f84_filter_reader_took_ok (⟨#[41]⟩ : ByteArray) r412_0.2.1 r412_0.2.2.1 r412_0.2.2.2 r413_0 cr413_0), b413_4, (by decide), trivial⟩ ?_
        have h := Option.some.inj h
        subst h
        exact At.fin hm ht ⟨[], [], [], [2], [0, 1]⟩ [] (by kernel_rfl) trivial
    · refine At.step hm ht ⟨[(1, .call [0] [] (f84_filter_reader_took_out r411_0))], [false], [], [1], [0, 1]⟩ 12 ⟨[(1, oc (.ptr 1 0))], [], [(0, [.d (.sl .str r411_0.2.1), zi r411_0.2.2.1, .d (.bool r411_0.2.2.2)]), (1, [.ptr 0 0])], 2⟩ [FnOK Tryd.prog 84 (f84_filter_reader_took_in (⟨#[40]⟩ : ByteArray) r409_0.2.1 r409_0.2.2.1 r409_0.2.2.2) (f84_filter_reader_took_out r411_0), r411_0.1 = false] (by kernel_rfl) ⟨(f84_filter_reader_took_ok (⟨#[40]⟩ : ByteArray) r409_0.2.1 r409_0.2.2.1 r409_0.2.2.2 r411_0 cr411_0), b411_e0, trivial⟩ ?_
      obtain ⟨r416_0, cr416_0, h⟩ := bindS h
      have h := Option.some.inj h
      subst h
      exact At.fin hm ht ⟨[(1, .call [0] [] (f112_filter_reader_plain_out r416_0))], [], [], [2], [0, 1]⟩ [FnOK Tryd.prog 112 (f112_filter_reader_plain_in r411_0.2.1 r411_0.2.2.1 r411_0.2.2.2) (f112_filter_reader_plain_out r416_0)] (by kernel_rfl) ⟨(f112_filter_reader_plain_ok r411_0.2.1 r411_0.2.2.1 r411_0.2.2.2 r416_0 cr416_0), trivial⟩
def f99_filter_reader_one (rc_f54_filter_reader_or : (List ByteArray) → Int → Bool → Option (PT × List ByteArray × Int × Bool)) : Nat → (List ByteArray) → Int → Bool → Option (PT × List ByteArray × Int × Bool)
  | 0, _, _, _ => none
  | n + 1, r__0, r__1, r__2 =>
    if (decide (((IntKind.wrap .i64 (r__1 - 1)) : Int) < 0)) = true then
      some (PT.nil, r__0, (IntKind.wrap .i64 (r__1 - 1)), true)
    else
      (f99_filter_reader_one_D5 rc_f54_filter_reader_or (f99_filter_reader_one rc_f54_filter_reader_or n) n r__0 (IntKind.wrap .i64 (r__1 - 1)) r__2).bind fun r417 =>
      some (r417.1, r417.2.1, (IntKind.wrap .i64 (r417.2.2.1 + 1)), r417.2.2.2)
theorem f99_filter_reader_one_ok (rc_f54_filter_reader_or : (List ByteArray) → Int → Bool → Option (PT × List ByteArray × Int × Bool)) (hrc_f54_filter_reader_or : ∀ (r__0 : List ByteArray) (r__1 : Int) (r__2 : Bool) (r : PT × List ByteArray × Int × Bool) (h : rc_f54_filter_reader_or r__0 r__1 r__2 = some r), FnOK Tryd.prog 54 (f54_filter_reader_or_in r__0 r__1 r__2) (f54_filter_reader_or_out r)) (n : Nat) : ∀ (r__0 : List ByteArray) (r__1 : Int) (r__2 : Bool) (r : PT × List ByteArray × Int × Bool) (h : f99_filter_reader_one rc_f54_filter_reader_or n r__0 r__1 r__2 = some r), FnOK Tryd.prog 99 (f99_filter_reader_one_in r__0 r__1 r__2) (f99_filter_reader_one_out r) := by
  induction n with
  | zero => intro r__0 r__1 r__2 r h; rw [f99_filter_reader_one] at h; cases h
  | succ n ih =>
    intro r__0 r__1 r__2 r h
    rw [f99_filter_reader_one] at h
    refine At0.fn (r := 0) Tryd.func99 rfl (by kernel_rfl) rfl rfl (by kernel_rfl) ?_
    show At0 Tryd.prog Tryd.f99 1 0 ⟨[(0, oc (.ptr 0 0))], [], [(0, [.d (.sl .str r__0), zi r__1, .d (.bool r__2)])], 1⟩ _
    refine At0.step hm ht ⟨[], [], [.nilpt 2], [1], [0, 1]⟩ 1 ⟨[(1, oc (.ptr 1 0))], [], [(0, [.d (.sl .str r__0), zi r__1, .d (.bool r__2)]), (1, [.ptr 0 0])], 2⟩ [] (by kernel_rfl) trivial ?_
    refine At0.step hm ht ⟨[], [], [], [1], [0, 1]⟩ 2 ⟨[(1, oc (.ptr 1 0))], [], [(0, [.d (.sl .str r__0), zi (IntKind.wrap .i64 (r__1 - 1)), .d (.bool r__2)]), (1, [.ptr 0 0])], 2⟩ [1 + 1 ≤ 3] (by kernel_rfl) ⟨(by decide), trivial⟩ ?_
    rcases iteS h with ⟨b406_e0, h⟩ | ⟨b406_e0, h⟩
    · refine At0.step hm ht ⟨[], [true], [], [1], [0, 1]⟩ 3 ⟨[(1, oc (.ptr 1 0))], [], [(0, [.d (.sl .str r__0), zi (IntKind.wrap .i64 (r__1 - 1)), .d (.bool r__2)]), (1, [.ptr 0 0])], 2⟩ [(decide (((IntKind.wrap .i64 (r__1 - 1)) : Int) < 0)) = true] (by kernel_rfl) ⟨b406_e0, trivial⟩ ?_
      refine At0.step hm ht ⟨[], [], [], [], [0]⟩ 4 ⟨[], [], [(0, [.d (.sl .str r__0), zi (IntKind.wrap .i64 (r__1 - 1)), .d (.bool true)])], 1⟩ [2 + 1 ≤ 3] (by kernel_rfl) ⟨(by decide), trivial⟩ ?_
      have h := Option.some.inj h
      subst h
      exact At.zero (At.fin hm ht ⟨[], [], [.nilpt 2], [2], [0]⟩ [] (by kernel_rfl) trivial)
    · refine At0.step hm ht ⟨[], [false], [], [1], [0, 1]⟩ 5 ⟨[(1, oc (.ptr 1 0))], [], [(0, [.d (.sl .str r__0), zi (IntKind.wrap .i64 (r__1 - 1)), .d (.bool r__2)]), (1, [.ptr 0 0])], 2⟩ [(decide (((IntKind.wrap .i64 (r__1 - 1)) : Int) < 0)) = false] (by kernel_rfl) ⟨b406_e0, trivial⟩ ?_
      obtain ⟨r417, cr417, h⟩ := bindS h
      have h := Option.some.inj h
      subst h
      have q := Go.Proofs.YtakamchmiakicaaDoorDfr.dfr rfl rfl rfl (f99_filter_reader_one_D5_ok rc_f54_filter_reader_or hrc_f54_filter_reader_or (f99_filter_reader_one rc_f54_filter_reader_or n) ih n r__0 (IntKind.wrap .i64 (r__1 - 1)) r__2 r417 cr417)
      exact q
/-! (*brougham/filter.reader).and -/
def f83_filter_reader_and_in (r__0 : List ByteArray) (r__1 : Int) (r__2 : Bool) : Inn := ⟨[.c (.ptr 0 0)], [], [(0, [.d (.sl .str r__0), zi r__1, .d (.bool r__2)])], 1⟩
def f83_filter_reader_and_out (r : PT × List ByteArray × Int × Bool) : Out := ⟨oc (.d (.pt r.1)), [], [(0, [.d (.sl .str r.2.1), zi r.2.2.1, .d (.bool r.2.2.2)])], 1⟩
def f83_filter_reader_and_L2 (rc_f54_filter_reader_or : (List ByteArray) → Int → Bool → Option (PT × List ByteArray × Int × Bool)) : Nat → PT → (List ByteArray) → Int → Bool → Option (PT × List ByteArray × Int × Bool)
  | 0, _, _, _, _ => none
  | n + 1, f, r__0, r__1, r__2 =>
    if (!r__2) = true then
      (f84_filter_reader_took (⟨#[97, 110, 100]⟩ : ByteArray) r__0 r__1 r__2).bind fun r418_0 =>
      if r418_0.1 = true then
        (f99_filter_reader_one rc_f54_filter_reader_or n r418_0.2.1 r418_0.2.2.1 r418_0.2.2.2).bind fun r419_0 =>
        f83_filter_reader_and_L2 rc_f54_filter_reader_or n (PT.node 9 0 f r419_0.1) r419_0.2.1 r419_0.2.2.1 r419_0.2.2.2
      else
        some ((f, r418_0.2.1, r418_0.2.2.1, r418_0.2.2.2))
    else
      some ((f, r__0, r__1, r__2))
def f83_filter_reader_and_L2_k (e : PT × List ByteArray × Int × Bool) (o : Out) : Prop := At Tryd.prog Tryd.f83 1 4 ⟨[(3, oc (.d (.pt e.1)))], [], [(0, [.d (.sl .str e.2.1), zi e.2.2.1, .d (.bool e.2.2.2)])], 1⟩ o
theorem f83_filter_reader_and_L2_ok (rc_f54_filter_reader_or : (List ByteArray) → Int → Bool → Option (PT × List ByteArray × Int × Bool)) (hrc_f54_filter_reader_or : ∀ (r__0 : List ByteArray) (r__1 : Int) (r__2 : Bool) (r : PT × List ByteArray × Int × Bool) (h : rc_f54_filter_reader_or r__0 r__1 r__2 = some r), FnOK Tryd.prog 54 (f54_filter_reader_or_in r__0 r__1 r__2) (f54_filter_reader_or_out r)) (n : Nat) : ∀ (f : PT) (r__0 : List ByteArray) (r__1 : Int) (r__2 : Bool) (w : PT × List ByteArray × Int × Bool) (h : f83_filter_reader_and_L2 rc_f54_filter_reader_or n f r__0 r__1 r__2 = some w) (o : Out) (hk : f83_filter_reader_and_L2_k w o), At Tryd.prog Tryd.f83 1 2 ⟨[(0, oc (.ptr 0 0)), (3, oc (.d (.pt f)))], [], [(0, [.d (.sl .str r__0), zi r__1, .d (.bool r__2)])], 1⟩ o := by
  induction n with
  | zero => intro f r__0 r__1 r__2 w h; rw [f83_filter_reader_and_L2] at h; cases h
  | succ n ih =>
    intro f r__0 r__1 r__2 w h o hk
    rw [f83_filter_reader_and_L2] at h
    rcases iteS h with ⟨b418_5, h⟩ | ⟨b418_5, h⟩
    · obtain ⟨r418_0, cr418_0, h⟩ := bindS h
      rcases iteS h with ⟨b418_e0, h⟩ | ⟨b418_e0, h⟩
      · refine At.step hm ht ⟨[(5, .b true), (7, .call [0] [] (f84_filter_reader_took_out r418_0))], [true], [], [0, 3], [0]⟩ 3 ⟨[(0, oc (.ptr 0 0)), (3, oc (.d (.pt f)))], [], [(0, [.d (.sl .str r418_0.2.1), zi r418_0.2.2.1, .d (.bool r418_0.2.2.2)])], 1⟩ [(!r__2) = true, FnOK Tryd.prog 84 (f84_filter_reader_took_in (⟨#[97, 110, 100]⟩ : ByteArray) r__0 r__1 r__2) (f84_filter_reader_took_out r418_0), r418_0.1 = true] (by kernel_rfl) ⟨b418_5, (f84_filter_reader_took_ok (⟨#[97, 110, 100]⟩ : ByteArray) r__0 r__1 r__2 r418_0 cr418_0), b418_e0, trivial⟩ ?_
        obtain ⟨r419_0, cr419_0, h⟩ := bindS h
        refine At.step hm ht ⟨[(2, .call [0] [] (f99_filter_reader_one_out r419_0))], [], [.tree 5], [0, 3], [0]⟩ 2 ⟨[(0, oc (.ptr 0 0)), (3, oc (.d (.pt (PT.node 9 0 f r419_0.1))))], [], [(0, [.d (.sl .str r419_0.2.1), zi r419_0.2.2.1, .d (.bool r419_0.2.2.2)])], 1⟩ [FnOK Tryd.prog 99 (f99_filter_reader_one_in r418_0.2.1 r418_0.2.2.1 r418_0.2.2.2) (f99_filter_reader_one_out r419_0)] (by kernel_rfl) ⟨(f99_filter_reader_one_ok rc_f54_filter_reader_or hrc_f54_filter_reader_or n r418_0.2.1 r418_0.2.2.1 r418_0.2.2.2 r419_0 cr419_0), trivial⟩ ?_
        exact ih (PT.node 9 0 f r419_0.1) r419_0.2.1 r419_0.2.2.1 r419_0.2.2.2 w h o hk
      · refine At.step hm ht ⟨[(5, .b true), (7, .call [0] [] (f84_filter_reader_took_out r418_0))], [false], [], [3], [0]⟩ 4 ⟨[(3, oc (.d (.pt f)))], [], [(0, [.d (.sl .str r418_0.2.1), zi r418_0.2.2.1, .d (.bool r418_0.2.2.2)])], 1⟩ [(!r__2) = true, FnOK Tryd.prog 84 (f84_filter_reader_took_in (⟨#[97, 110, 100]⟩ : ByteArray) r__0 r__1 r__2) (f84_filter_reader_took_out r418_0), r418_0.1 = false] (by kernel_rfl) ⟨b418_5, (f84_filter_reader_took_ok (⟨#[97, 110, 100]⟩ : ByteArray) r__0 r__1 r__2 r418_0 cr418_0), b418_e0, trivial⟩ ?_
        have h := Option.some.inj h
        subst h
        exact hk
    · refine At.step hm ht ⟨[(5, .b false)], [false], [], [3], [0]⟩ 4 ⟨[(3, oc (.d (.pt f)))], [], [(0, [.d (.sl .str r__0), zi r__1, .d (.bool r__2)])], 1⟩ [(!r__2) = false, false = false] (by kernel_rfl) ⟨b418_5, rfl, trivial⟩ ?_
      have h := Option.some.inj h
      subst h
      exact hk
def f83_filter_reader_and (rc_f54_filter_reader_or : (List ByteArray) → Int → Bool → Option (PT × List ByteArray × Int × Bool)) (n : Nat) (r__0 : List ByteArray) (r__1 : Int) (r__2 : Bool) : Option (PT × List ByteArray × Int × Bool) :=
  (f99_filter_reader_one rc_f54_filter_reader_or n r__0 r__1 r__2).bind fun r403_0 =>
  (f83_filter_reader_and_L2 rc_f54_filter_reader_or n r403_0.1 r403_0.2.1 r403_0.2.2.1 r403_0.2.2.2).bind fun w420 =>
  some (w420.1, w420.2.1, w420.2.2.1, w420.2.2.2)
theorem f83_filter_reader_and_ok (rc_f54_filter_reader_or : (List ByteArray) → Int → Bool → Option (PT × List ByteArray × Int × Bool)) (hrc_f54_filter_reader_or : ∀ (r__0 : List ByteArray) (r__1 : Int) (r__2 : Bool) (r : PT × List ByteArray × Int × Bool) (h : rc_f54_filter_reader_or r__0 r__1 r__2 = some r), FnOK Tryd.prog 54 (f54_filter_reader_or_in r__0 r__1 r__2) (f54_filter_reader_or_out r)) (n : Nat) (r__0 : List ByteArray) (r__1 : Int) (r__2 : Bool) (r : PT × List ByteArray × Int × Bool) (h : f83_filter_reader_and rc_f54_filter_reader_or n r__0 r__1 r__2 = some r) : FnOK Tryd.prog 83 (f83_filter_reader_and_in r__0 r__1 r__2) (f83_filter_reader_and_out r) := by
  unfold f83_filter_reader_and at h
  refine At.fn (r := 0) Tryd.func83 rfl (by kernel_rfl) rfl rfl (by kernel_rfl) ?_
  show At Tryd.prog Tryd.f83 1 0 ⟨[(0, oc (.ptr 0 0))], [], [(0, [.d (.sl .str r__0), zi r__1, .d (.bool r__2)])], 1⟩ _
  refine At.step hm ht ⟨[], [], [.nilpt 2], [0], [0]⟩ 1 ⟨[(0, oc (.ptr 0 0))], [], [(0, [.d (.sl .str r__0), zi r__1, .d (.bool r__2)])], 1⟩ [] (by kernel_rfl) trivial ?_
  obtain ⟨r403_0, cr403_0, h⟩ := bindS h
  refine At.step hm ht ⟨[(1, .call [0] [] (f99_filter_reader_one_out r403_0))], [], [], [0, 3], [0]⟩ 2 ⟨[(0, oc (.ptr 0 0)), (3, oc (.d (.pt r403_0.1)))], [], [(0, [.d (.sl .str r403_0.2.1), zi r403_0.2.2.1, .d (.bool r403_0.2.2.2)])], 1⟩ [FnOK Tryd.prog 99 (f99_filter_reader_one_in r__0 r__1 r__2) (f99_filter_reader_one_out r403_0)] (by kernel_rfl) ⟨(f99_filter_reader_one_ok rc_f54_filter_reader_or hrc_f54_filter_reader_or n r__0 r__1 r__2 r403_0 cr403_0), trivial⟩ ?_
  obtain ⟨w420, cw420, h⟩ := bindS h
  refine f83_filter_reader_and_L2_ok rc_f54_filter_reader_or hrc_f54_filter_reader_or n r403_0.1 r403_0.2.1 r403_0.2.2.1 r403_0.2.2.2 w420 cw420 _ ?_
  show At Tryd.prog Tryd.f83 1 4 ⟨[(3, oc (.d (.pt w420.1)))], [], [(0, [.d (.sl .str w420.2.1), zi w420.2.2.1, .d (.bool w420.2.2.2)])], 1⟩ _
  have h := Option.some.inj h
  subst h
  exact At.fin hm ht ⟨[], [], [], [2], [0]⟩ [] (by kernel_rfl) trivial
def f54_filter_reader_or_L2 (rc_f54_filter_reader_or : (List ByteArray) → Int → Bool → Option (PT × List ByteArray × Int × Bool)) : Nat → PT → (List ByteArray) → Int → Bool → Option (PT × List ByteArray × Int × Bool)
  | 0, _, _, _, _ => none
  | n + 1, f, r__0, r__1, r__2 =>
    if (!r__2) = true then
      (f84_filter_reader_took (⟨#[111, 114]⟩ : ByteArray) r__0 r__1 r__2).bind fun r423_0 =>
      if r423_0.1 = true then
        (f83_filter_reader_and rc_f54_filter_reader_or n r423_0.2.1 r423_0.2.2.1 r423_0.2.2.2).bind fun r424_0 =>
        f54_filter_reader_or_L2 rc_f54_filter_reader_or n (PT.node 10 0 f r424_0.1) r424_0.2.1 r424_0.2.2.1 r424_0.2.2.2
      else
        some ((f, r423_0.2.1, r423_0.2.2.1, r423_0.2.2.2))
    else
      some ((f, r__0, r__1, r__2))
def f54_filter_reader_or_L2_k (e : PT × List ByteArray × Int × Bool) (o : Out) : Prop := At Tryd.prog Tryd.f54 1 4 ⟨[(3, oc (.d (.pt e.1)))], [], [(0, [.d (.sl .str e.2.1), zi e.2.2.1, .d (.bool e.2.2.2)])], 1⟩ o
theorem f54_filter_reader_or_L2_ok (rc_f54_filter_reader_or : (List ByteArray) → Int → Bool → Option (PT × List ByteArray × Int × Bool)) (hrc_f54_filter_reader_or : ∀ (r__0 : List ByteArray) (r__1 : Int) (r__2 : Bool) (r : PT × List ByteArray × Int × Bool) (h : rc_f54_filter_reader_or r__0 r__1 r__2 = some r), FnOK Tryd.prog 54 (f54_filter_reader_or_in r__0 r__1 r__2) (f54_filter_reader_or_out r)) (n : Nat) : ∀ (f : PT) (r__0 : List ByteArray) (r__1 : Int) (r__2 : Bool) (w : PT × List ByteArray × Int × Bool) (h : f54_filter_reader_or_L2 rc_f54_filter_reader_or n f r__0 r__1 r__2 = some w) (o : Out) (hk : f54_filter_reader_or_L2_k w o), At Tryd.prog Tryd.f54 1 2 ⟨[(0, oc (.ptr 0 0)), (3, oc (.d (.pt f)))], [], [(0, [.d (.sl .str r__0), zi r__1, .d (.bool r__2)])], 1⟩ o := by
  induction n with
  | zero => intro f r__0 r__1 r__2 w h; rw [f54_filter_reader_or_L2] at h; cases h
  | succ n ih =>
    intro f r__0 r__1 r__2 w h o hk
    rw [f54_filter_reader_or_L2] at h
    rcases iteS h with ⟨b423_5, h⟩ | ⟨b423_5, h⟩
    · obtain ⟨r423_0, cr423_0, h⟩ := bindS h
      rcases iteS h with ⟨b423_e0, h⟩ | ⟨b423_e0, h⟩
      · refine At.step hm ht ⟨[(5, .b true), (7, .call [0] [] (f84_filter_reader_took_out r423_0))], [true], [], [0, 3], [0]⟩ 3 ⟨[(0, oc (.ptr 0 0)), (3, oc (.d (.pt f)))], [], [(0, [.d (.sl .str r423_0.2.1), zi r423_0.2.2.1, .d (.bool r423_0.2.2.2)])], 1⟩ [(!r__2) = true, FnOK Tryd.prog 84 (f84_filter_reader_took_in (⟨#[111, 114]⟩ : ByteArray) r__0 r__1 r__2) (f84_filter_reader_took_out r423_0), r423_0.1 = true] (by kernel_rfl) ⟨b423_5, (f84_filter_reader_took_ok (⟨#[111, 114]⟩ : ByteArray) r__0 r__1 r__2 r423_0 cr423_0), b423_e0, trivial⟩ ?_
        obtain ⟨r424_0, cr424_0, h⟩ := bindS h
        refine At.step hm ht ⟨[(2, .call [0] [] (f83_filter_reader_and_out r424_0))], [], [.tree 5], [0, 3], [0]⟩ 2 ⟨[(0, oc (.ptr 0 0)), (3, oc (.d (.pt (PT.node 10 0 f r424_0.1))))], [], [(0, [.d (.sl .str r424_0.2.1), zi r424_0.2.2.1, .d (.bool r424_0.2.2.2)])], 1⟩ [FnOK Tryd.prog 83 (f83_filter_reader_and_in r423_0.2.1 r423_0.2.2.1 r423_0.2.2.2) (f83_filter_reader_and_out r424_0)] (by kernel_rfl) ⟨(f83_filter_reader_and_ok rc_f54_filter_reader_or hrc_f54_filter_reader_or n r423_0.2.1 r423_0.2.2.1 r423_0.2.2.2 r424_0 cr424_0), trivial⟩ ?_
        exact ih (PT.node 10 0 f r424_0.1) r424_0.2.1 r424_0.2.2.1 r424_0.2.2.2 w h o hk
      · refine At.step hm ht ⟨[(5, .b true), (7, .call [0] [] (f84_filter_reader_took_out r423_0))], [false], [], [3], [0]⟩ 4 ⟨[(3, oc (.d (.pt f)))], [], [(0, [.d (.sl .str r423_0.2.1), zi r423_0.2.2.1, .d (.bool r423_0.2.2.2)])], 1⟩ [(!r__2) = true, FnOK Tryd.prog 84 (f84_filter_reader_took_in (⟨#[111, 114]⟩ : ByteArray) r__0 r__1 r__2) (f84_filter_reader_took_out r423_0), r423_0.1 = false] (by kernel_rfl) ⟨b423_5, (f84_filter_reader_took_ok (⟨#[111, 114]⟩ : ByteArray) r__0 r__1 r__2 r423_0 cr423_0), b423_e0, trivial⟩ ?_
        have h := Option.some.inj h
        subst h
        exact hk
    · refine At.step hm ht ⟨[(5, .b false)], [false], [], [3], [0]⟩ 4 ⟨[(3, oc (.d (.pt f)))], [], [(0, [.d (.sl .str r__0), zi r__1, .d (.bool r__2)])], 1⟩ [(!r__2) = false, false = false] (by kernel_rfl) ⟨b423_5, rfl, trivial⟩ ?_
      have h := Option.some.inj h
      subst h
      exact hk
def f54_filter_reader_or : Nat → (List ByteArray) → Int → Bool → Option (PT × List ByteArray × Int × Bool)
  | 0, _, _, _ => none
  | n + 1, r__0, r__1, r__2 =>
    (f83_filter_reader_and (f54_filter_reader_or n) n r__0 r__1 r__2).bind fun r401_0 =>
    (f54_filter_reader_or_L2 (f54_filter_reader_or n) n r401_0.1 r401_0.2.1 r401_0.2.2.1 r401_0.2.2.2).bind fun w425 =>
    some (w425.1, w425.2.1, w425.2.2.1, w425.2.2.2)
theorem f54_filter_reader_or_ok (n : Nat) : ∀ (r__0 : List ByteArray) (r__1 : Int) (r__2 : Bool) (r : PT × List ByteArray × Int × Bool) (h : f54_filter_reader_or n r__0 r__1 r__2 = some r), FnOK Tryd.prog 54 (f54_filter_reader_or_in r__0 r__1 r__2) (f54_filter_reader_or_out r) := by
  induction n with
  | zero => intro r__0 r__1 r__2 r h; rw [f54_filter_reader_or] at h; cases h
  | succ n ih =>
    intro r__0 r__1 r__2 r h
    rw [f54_filter_reader_or] at h
    refine At.fn (r := 0) Tryd.func54 rfl (by kernel_rfl) rfl rfl (by kernel_rfl) ?_
    show At Tryd.prog Tryd.f54 1 0 ⟨[(0, oc (.ptr 0 0))], [], [(0, [.d (.sl .str r__0), zi r__1, .d (.bool r__2)])], 1⟩ _
    refine At.step hm ht ⟨[], [], [.nilpt 2], [0], [0]⟩ 1 ⟨[(0, oc (.ptr 0 0))], [], [(0, [.d (.sl .str r__0), zi r__1, .d (.bool r__2)])], 1⟩ [] (by kernel_rfl) trivial ?_
    obtain ⟨r401_0, cr401_0, h⟩ := bindS h
    refine At.step hm ht ⟨[(1, .call [0] [] (f83_filter_reader_and_out r401_0))], [], [], [0, 3], [0]⟩ 2 ⟨[(0, oc (.ptr 0 0)), (3, oc (.d (.pt r401_0.1)))], [], [(0, [.d (.sl .str r401_0.2.1), zi r401_0.2.2.1, .d (.bool r401_0.2.2.2)])], 1⟩ [FnOK Tryd.prog 83 (f83_filter_reader_and_in r__0 r__1 r__2) (f83_filter_reader_and_out r401_0)] (by kernel_rfl) ⟨(f83_filter_reader_and_ok (f54_filter_reader_or n) ih n r__0 r__1 r__2 r401_0 cr401_0), trivial⟩ ?_
    obtain ⟨w425, cw425, h⟩ := bindS h
    refine f54_filter_reader_or_L2_ok (f54_filter_reader_or n) ih n r401_0.1 r401_0.2.1 r401_0.2.2.1 r401_0.2.2.2 w425 cw425 _ ?_
    show At Tryd.prog Tryd.f54 1 4 ⟨[(3, oc (.d (.pt w425.1)))], [], [(0, [.d (.sl .str w425.2.1), zi w425.2.2.1, .d (.bool w425.2.2.2)])], 1⟩ _
    have h := Option.some.inj h
    subst h
    exact At.fin hm ht ⟨[], [], [], [2], [0]⟩ [] (by kernel_rfl) trivial
/-! brougham/filter.Parse -/
def f21_filter_Parse_in (s : ByteArray) : Inn := ⟨[.c (.d (.str s))], [], [], 0⟩
def f21_filter_Parse_out (r : PT × Bool) : Out := ⟨.tup [.c (.d (.pt r.1)), .c (.d (.bool r.2))], [], [], 0⟩
def f21_filter_Parse (n : Nat) (s : ByteArray) : Option (PT × Bool) :=
  if (decide ((((s.size : Nat) : Int) : Int) > 4096)) = true then
    some (PT.nil, false)
  else
    (f15_num_Pieces n s).bind fun r273_0 =>
    (f54_filter_reader_or n r273_0 64 false).bind fun r296_0 =>
    if r296_0.2.2.2 = true then
      some (PT.nil, false)
    else
      if (decide ((((r296_0.2.1.length : Nat) : Int) : Int) > 0)) = true then
        some (PT.nil, false)
      else
        (f31_filter_Right n r296_0.1).bind fun r428_0 =>
        if (!r428_0) = true then
          some (PT.nil, false)
        else
          some (r296_0.1, true)
theorem f21_filter_Parse_ok (n : Nat) (s : ByteArray) (r : PT × Bool) (h : f21_filter_Parse n s = some r) : FnOK Tryd.prog 21 (f21_filter_Parse_in s) (f21_filter_Parse_out r) := by
  unfold f21_filter_Parse at h
  refine At.fn (r := 0) Tryd.func21 rfl (by kernel_rfl) rfl rfl (by kernel_rfl) ?_
  show At Tryd.prog Tryd.f21 0 0 ⟨[(0, oc (.d (.str s)))], [], [], 0⟩ _
  refine At.step hm ht ⟨[], [], [.nilpt 2], [0], []⟩ 1 ⟨[(0, oc (.d (.str s)))], [], [], 0⟩ [] (by kernel_rfl) trivial ?_
  rcases iteS h with ⟨b271_e0, h⟩ | ⟨b271_e0, h⟩
  · refine At.step hm ht ⟨[], [true], [], [], []⟩ 2 ⟨[], [], [], 0⟩ [(decide ((((s.size : Nat) : Int) : Int) > 4096)) = true] (by kernel_rfl) ⟨b271_e0, trivial⟩ ?_
    have h := Option.some.inj h
    subst h
    exact At.fin hm ht ⟨[], [], [.nilpt 2], [2, 3], []⟩ [] (by kernel_rfl) trivial
  · refine At.step hm ht ⟨[], [false], [], [0], []⟩ 3 ⟨[(0, oc (.d (.str s)))], [], [], 0⟩ [(decide ((((s.size : Nat) : Int) : Int) > 4096)) = false] (by kernel_rfl) ⟨b271_e0, trivial⟩ ?_
    obtain ⟨r273_0, cr273_0, h⟩ := bindS h
    refine At.step hm ht ⟨[(1, .call [] [] (f15_num_Pieces_out r273_0))], [], [], [4], [2]⟩ 4 ⟨[(4, oc (.ptr 0 0))], [], [(0, [.d (.sl .str r273_0), zi 64, .d (.bool false)])], 1⟩ [FnOK Tryd.prog 15 (f15_num_Pieces_in s) (f15_num_Pieces_out r273_0)] (by kernel_rfl) ⟨(f15_num_Pieces_ok n s r273_0 cr273_0), trivial⟩ ?_
    obtain ⟨r296_0, cr296_0, h⟩ := bindS h
    refine At.step hm ht ⟨[(1, .call [0] [] (f54_filter_reader_or_out r296_0))], [], [], [4, 5], [0]⟩ 5 ⟨[(4, oc (.ptr 0 0)), (5, oc (.d (.pt r296_0.1)))], [], [(0, [.d (.sl .str r296_0.2.1), zi r296_0.2.2.1, .d (.bool r296_0.2.2.2)])], 1⟩ [FnOK Tryd.prog 54 (f54_filter_reader_or_in r273_0 64 false) (f54_filter_reader_or_out r296_0)] (by kernel_rfl) ⟨(f54_filter_reader_or_ok n r273_0 64 false r296_0 cr296_0), trivial⟩ ?_
    rcases iteS h with ⟨b428_4, h⟩ | ⟨b428_4, h⟩
    · refine At.step hm ht ⟨[(4, .b true)], [true], [], [], []⟩ 6 ⟨[], [], [], 0⟩ [r296_0.2.2.2 = true, true = true] (by kernel_rfl) ⟨b428_4, rfl, trivial⟩ ?_
      have h := Option.some.inj h
      subst h
      exact At.fin hm ht ⟨[], [], [.nilpt 2], [2, 3], []⟩ [] (by kernel_rfl) trivial
    · rcases iteS h with ⟨b428_12, h⟩ | ⟨b428_12, h⟩
      · refine At.step hm ht ⟨[(4, .b false), (12, .b true)], [true], [], [], []⟩ 6 ⟨[], [], [], 0⟩ [r296_0.2.2.2 = false, (decide ((((r296_0.2.1.length : Nat) : Int) : Int) > 0)) = true, true = true] (by kernel_rfl) ⟨b428_4, b428_12, rfl, trivial⟩ ?_
        have h := Option.some.inj h
        subst h
        exact At.fin hm ht ⟨[], [], [.nilpt 2], [2, 3], []⟩ [] (by kernel_rfl) trivial
      · obtain ⟨r428_0, cr428_0, h⟩ := bindS h
        rcases iteS h with ⟨b428_e0, h⟩ | ⟨b428_e0, h⟩
        · refine At.step hm ht ⟨[(4, .b false), (12, .b false), (14, .call [] [] (f31_filter_Right_out r428_0))], [true], [], [], []⟩ 6 ⟨[], [], [], 0⟩ [r296_0.2.2.2 = false, (decide ((((r296_0.2.1.length : Nat) : Int) : Int) > 0)) = false, FnOK Tryd.prog 31 (f31_filter_Right_in r296_0.1) (f31_filter_Right_out r428_0), (!r428_0) = true] (by kernel_rfl) ⟨b428_4, b428_12, (f31_filter_Right_ok n r296_0.1 r428_0 cr428_0), b428_e0, trivial⟩ ?_
          have h := Option.some.inj h
          subst h
          exact At.fin hm ht ⟨[], [], [.nilpt 2], [2, 3], []⟩ [] (by kernel_rfl) trivial
        · refine At.step hm ht ⟨[(4, .b false), (12, .b false), (14, .call [] [] (f31_filter_Right_out r428_0))], [false], [], [5], []⟩ 7 ⟨[(5, oc (.d (.pt r296_0.1)))], [], [], 0⟩ [r296_0.2.2.2 = false, (decide ((((r296_0.2.1.length : Nat) : Int) : Int) > 0)) = false, FnOK Tryd.prog 31 (f31_filter_Right_in r296_0.1) (f31_filter_Right_out r428_0), (!r428_0) = false] (by kernel_rfl) ⟨b428_4, b428_12, (f31_filter_Right_ok n r296_0.1 r428_0 cr428_0), b428_e0, trivial⟩ ?_
          have h := Option.some.inj h
          subst h
          exact At.fin hm ht ⟨[], [], [], [2, 3], []⟩ [] (by kernel_rfl) trivial
/-! brougham/filter.right -/
def f59_filter_right_v2_in (left : Int) : Inn := ⟨[.c (.d (.nilP)), .c (zi left)], [], [], 0⟩
def f59_filter_right_v2_out (r : Bool) : Out := ⟨oc (.d (.bool r)), [], [], 0⟩
def f59_filter_right_v2 (left : Int) : Option (Bool) :=
  some false
theorem f59_filter_right_v2_ok (left : Int) (r : Bool) (h : f59_filter_right_v2 left = some r) : FnOK Tryd.prog 59 (f59_filter_right_v2_in left) (f59_filter_right_v2_out r) := by
  unfold f59_filter_right_v2 at h
  refine At.fn (r := 0) Tryd.func59 rfl (by kernel_rfl) rfl rfl (by kernel_rfl) ?_
  show At Tryd.prog Tryd.f59 0 0 ⟨[(0, oc (.d (.nilP))), (1, oc (zi left))], [], [], 0⟩ _
  refine At.step hm ht ⟨[], [], [], [0, 1], []⟩ 1 ⟨[(0, oc (.d (.nilP))), (1, oc (zi left))], [], [], 0⟩ [] (by kernel_rfl) trivial ?_
  refine At.step hm ht ⟨[], [true], [.nilpt 5], [], []⟩ 2 ⟨[], [], [], 0⟩ [true = true] (by kernel_rfl) ⟨rfl, trivial⟩ ?_
  have h := Option.some.inj h
  subst h
  exact At.fin hm ht ⟨[], [], [], [4], []⟩ [] (by kernel_rfl) trivial
/-! brougham/filter.Right -/
def f31_filter_Right_v2_in : Inn := ⟨[.c (.d (.nilP))], [], [], 0⟩
def f31_filter_Right_v2_out (r : Bool) : Out := ⟨oc (.d (.bool r)), [], [], 0⟩
def f31_filter_Right_v2 : Option (Bool) :=
  (f59_filter_right_v2 16).bind fun r435_0 =>
  some r435_0
theorem f31_filter_Right_v2_ok (r : Bool) (h : f31_filter_Right_v2 = some r) : FnOK Tryd.prog 31 (f31_filter_Right_v2_in) (f31_filter_Right_v2_out r) := by
  unfold f31_filter_Right_v2 at h
  refine At.fn (r := 0) Tryd.func31 rfl (by kernel_rfl) rfl rfl (by kernel_rfl) ?_
  show At Tryd.prog Tryd.f31 0 0 ⟨[(0, oc (.d (.nilP)))], [], [], 0⟩ _
  refine At.step hm ht ⟨[], [], [], [0], []⟩ 1 ⟨[(0, oc (.d (.nilP)))], [], [], 0⟩ [] (by kernel_rfl) trivial ?_
  obtain ⟨r435_0, cr435_0, h⟩ := bindS h
  have h := Option.some.inj h
  subst h
  exact At.fin hm ht ⟨[(1, .call [] [] (f59_filter_right_v2_out r435_0))], [], [.nilpt 3], [2], []⟩ [FnOK Tryd.prog 59 (f59_filter_right_v2_in 16) (f59_filter_right_v2_out r435_0)] (by kernel_rfl) ⟨(f59_filter_right_v2_ok 16 r435_0 cr435_0), trivial⟩
/-! brougham/broughamlaw35.alive -/
def f23_broughamlaw35_alive_in : Inn := ⟨[], [], [], 0⟩
def f23_broughamlaw35_alive_out (r : Bool) : Out := ⟨oc (.d (.bool r)), [], [], 0⟩
def f23_broughamlaw35_alive (n : Nat) : Option (Bool) :=
  (f21_filter_Parse n (⟨#[112, 111, 114, 116, 32, 56, 48, 32, 97, 110, 100, 32, 110, 111, 116, 32, 114, 115, 116]⟩ : ByteArray)).bind fun r269_0 =>
  if r269_0.2 = true then
    (f27_filter_Text n r269_0.1).bind fun r433_0 =>
    if (r433_0.toList == (⟨#[40, 32, 112, 111, 114, 116, 32, 56, 48, 32, 97, 110, 100, 32, 40, 32, 110, 111, 116, 32, 114, 115, 116, 32, 41, 32, 41]⟩ : ByteArray).toList) = true then
      (f32_filter_Match n r269_0.1 80 0 0 0 0 [] []).bind fun r433_1 =>
      if r433_1 = true then
        (f32_filter_Match n r269_0.1 80 0 0 0 4 [] []).bind fun r433_2 =>
        if (!r433_2) = true then
          (f31_filter_Right_v2).bind fun r433_3 =>
          some (!r433_3)
        else
          some false
      else
        some false
    else
      some false
  else
    some false
theorem f23_broughamlaw35_alive_ok (n : Nat) (r : Bool) (h : f23_broughamlaw35_alive n = some r) : FnOK Tryd.prog 23 (f23_broughamlaw35_alive_in) (f23_broughamlaw35_alive_out r) := by
  unfold f23_broughamlaw35_alive at h
  refine At.fn (r := 0) Tryd.func23 rfl (by kernel_rfl) rfl rfl (by kernel_rfl) ?_
  show At Tryd.prog Tryd.f23 0 0 ⟨[], [], [], 0⟩ _
  refine At.step hm ht ⟨[], [], [], [], []⟩ 1 ⟨[], [], [], 0⟩ [] (by kernel_rfl) trivial ?_
  obtain ⟨r269_0, cr269_0, h⟩ := bindS h
  refine At.step hm ht ⟨[(0, .call [] [] (f21_filter_Parse_out r269_0))], [], [], [1, 2], []⟩ 2 ⟨[(1, oc (.d (.pt r269_0.1))), (2, oc (.d (.bool r269_0.2)))], [], [], 0⟩ [FnOK Tryd.prog 21 (f21_filter_Parse_in (⟨#[112, 111, 114, 116, 32, 56, 48, 32, 97, 110, 100, 32, 110, 111, 116, 32, 114, 115, 116]⟩ : ByteArray)) (f21_filter_Parse_out r269_0)] (by kernel_rfl) ⟨(f21_filter_Parse_ok n (⟨#[112, 111, 114, 116, 32, 56, 48, 32, 97, 110, 100, 32, 110, 111, 116, 32, 114, 115, 116]⟩ : ByteArray) r269_0 cr269_0), trivial⟩ ?_
  rcases iteS h with ⟨b433_1, h⟩ | ⟨b433_1, h⟩
  · obtain ⟨r433_0, cr433_0, h⟩ := bindS h
    rcases iteS h with ⟨b433_6, h⟩ | ⟨b433_6, h⟩
    · obtain ⟨r433_1, cr433_1, h⟩ := bindS h
      rcases iteS h with ⟨b433_11, h⟩ | ⟨b433_11, h⟩
      · obtain ⟨r433_2, cr433_2, h⟩ := bindS h
        rcases iteS h with ⟨b433_17, h⟩ | ⟨b433_17, h⟩
        · obtain ⟨r433_3, cr433_3, h⟩ := bindS h
          have h := Option.some.inj h
          subst h
          exact At.fin hm ht ⟨[(1, .b true), (3, .call [] [] (f27_filter_Text_out r433_0)), (6, .b true), (9, .call [] [(1, 5, (.pair (.int .u8) (.slice (.int .u8)))), (1, 6, (.int .u8))] (f32_filter_Match_out r433_1)), (11, .b true), (14, .call [] [(1, 5, (.pair (.int .u8) (.slice (.int .u8)))), (1, 6, (.int .u8))] (f32_filter_Match_out r433_2)), (17, .b true), (18, .call [] [] (f31_filter_Right_v2_out r433_3))], [], [], [0], []⟩ [r269_0.2 = true, FnOK Tryd.prog 27 (f27_filter_Text_in r269_0.1) (f27_filter_Text_out r433_0), (r433_0.toList == (⟨#[40, 32, 112, 111, 114, 116, 32, 56, 48, 32, 97, 110, 100, 32, 40, 32, 110, 111, 116, 32, 114, 115, 116, 32, 41, 32, 41]⟩ : ByteArray).toList) = true, FnOK Tryd.prog 32 (f32_filter_Match_in r269_0.1 80 0 0 0 0 [] []) (f32_filter_Match_out r433_1), r433_1 = true, FnOK Tryd.prog 32 (f32_filter_Match_in r269_0.1 80 0 0 0 4 [] []) (f32_filter_Match_out r433_2), (!r433_2) = true, FnOK Tryd.prog 31 (f31_filter_Right_v2_in) (f31_filter_Right_v2_out r433_3)] (by kernel_rfl) ⟨b433_1, (f27_filter_Text_ok n r269_0.1 r433_0 cr433_0), b433_6, (f32_filter_Match_ok n r269_0.1 80 0 0 0 0 [] [] r433_1 cr433_1), b433_11, (f32_filter_Match_ok n r269_0.1 80 0 0 0 4 [] [] r433_2 cr433_2), b433_17, (f31_filter_Right_v2_ok r433_3 cr433_3), trivial⟩
        · have h := Option.some.inj h
          subst h
          exact At.fin hm ht ⟨[(1, .b true), (3, .call [] [] (f27_filter_Text_out r433_0)), (6, .b true), (9, .call [] [(1, 5, (.pair (.int .u8) (.slice (.int .u8)))), (1, 6, (.int .u8))] (f32_filter_Match_out r433_1)), (11, .b true), (14, .call [] [(1, 5, (.pair (.int .u8) (.slice (.int .u8)))), (1, 6, (.int .u8))] (f32_filter_Match_out r433_2)), (17, .b false)], [], [], [0], []⟩ [r269_0.2 = true, FnOK Tryd.prog 27 (f27_filter_Text_in r269_0.1) (f27_filter_Text_out r433_0), (r433_0.toList == (⟨#[40, 32, 112, 111, 114, 116, 32, 56, 48, 32, 97, 110, 100, 32, 40, 32, 110, 111, 116, 32, 114, 115, 116, 32, 41, 32, 41]⟩ : ByteArray).toList) = true, FnOK Tryd.prog 32 (f32_filter_Match_in r269_0.1 80 0 0 0 0 [] []) (f32_filter_Match_out r433_1), r433_1 = true, FnOK Tryd.prog 32 (f32_filter_Match_in r269_0.1 80 0 0 0 4 [] []) (f32_filter_Match_out r433_2), (!r433_2) = false] (by kernel_rfl) ⟨b433_1, (f27_filter_Text_ok n r269_0.1 r433_0 cr433_0), b433_6, (f32_filter_Match_ok n r269_0.1 80 0 0 0 0 [] [] r433_1 cr433_1), b433_11, (f32_filter_Match_ok n r269_0.1 80 0 0 0 4 [] [] r433_2 cr433_2), b433_17, trivial⟩
      · have h := Option.some.inj h
        subst h
        exact At.fin hm ht ⟨[(1, .b true), (3, .call [] [] (f27_filter_Text_out r433_0)), (6, .b true), (9, .call [] [(1, 5, (.pair (.int .u8) (.slice (.int .u8)))), (1, 6, (.int .u8))] (f32_filter_Match_out r433_1)), (11, .b false)], [], [], [0], []⟩ [r269_0.2 = true, FnOK Tryd.prog 27 (f27_filter_Text_in r269_0.1) (f27_filter_Text_out r433_0), (r433_0.toList == (⟨#[40, 32, 112, 111, 114, 116, 32, 56, 48, 32, 97, 110, 100, 32, 40, 32, 110, 111, 116, 32, 114, 115, 116, 32, 41, 32, 41]⟩ : ByteArray).toList) = true, FnOK Tryd.prog 32 (f32_filter_Match_in r269_0.1 80 0 0 0 0 [] []) (f32_filter_Match_out r433_1), r433_1 = false] (by kernel_rfl) ⟨b433_1, (f27_filter_Text_ok n r269_0.1 r433_0 cr433_0), b433_6, (f32_filter_Match_ok n r269_0.1 80 0 0 0 0 [] [] r433_1 cr433_1), b433_11, trivial⟩
    · have h := Option.some.inj h
      subst h
      exact At.fin hm ht ⟨[(1, .b true), (3, .call [] [] (f27_filter_Text_out r433_0)), (6, .b false)], [], [], [0], []⟩ [r269_0.2 = true, FnOK Tryd.prog 27 (f27_filter_Text_in r269_0.1) (f27_filter_Text_out r433_0), (r433_0.toList == (⟨#[40, 32, 112, 111, 114, 116, 32, 56, 48, 32, 97, 110, 100, 32, 40, 32, 110, 111, 116, 32, 114, 115, 116, 32, 41, 32, 41]⟩ : ByteArray).toList) = false] (by kernel_rfl) ⟨b433_1, (f27_filter_Text_ok n r269_0.1 r433_0 cr433_0), b433_6, trivial⟩
  · have h := Option.some.inj h
    subst h
    exact At.fin hm ht ⟨[(1, .b false)], [], [], [0], []⟩ [r269_0.2 = false] (by kernel_rfl) ⟨b433_1, trivial⟩
end Go.Proofs.YtakamchmiakicaaDoorF35c
