/- What the functions compute, and that they do: printed by a program of this session (zgen.py), proved by Zed. -/
import Derived.Test.YtakamchmiakicaaDoorProg
import Derived.Test.YtakamchmiakicaaDoorZedYa
import Derived.Test.YtakamchmiakicaaDoorLeaf
import Derived.Test.YtakamchmiakicaaDoorDfr
namespace Go.Proofs.YtakamchmiakicaaDoorF35
open Go Zed Go.Proofs.YtakamchmiakicaaDoorLeaf Go.Proofs.YtakamchmiakicaaDoorDfr
set_option maxRecDepth 100000
set_option linter.unusedVariables false
def tab : Tab := [(3, ⟨.int .i64, 1, 8, [.int .i64 0], some (.int .i64), none⟩), (4, ⟨.bool, 1, 1, [.bool false], some .bool, none⟩), (5, ⟨.int .u8, 1, 1, [.int .u8 0], some (.int .u8), none⟩), (9, ⟨.str, 1, 16, [.str (⟨#[]⟩ : ByteArray)], some .str, none⟩), (23, ⟨.int .i64, 1, 8, [.int .i64 0], some (.int .i64), none⟩), (31, ⟨.slice 9, 1, 24, [.sl .unit []], some (.slice .str), none⟩), (37, ⟨.ptr 68, 1, 8, [.nilP], some .tree, none⟩), (40, ⟨.slice 42, 1, 24, [.sl .unit []], some .wood, none⟩), (42, ⟨.struct [(0, 3), (1, 3), (2, 40)], 3, 40, [.int .i64 0, .int .i64 0, .sl .unit []], some (.pair (.int .i64) (.pair (.int .i64) .wood)), some [(0, 3), (1, 3), (2, 40)]⟩), (51, ⟨.int .u16, 1, 2, [.int .u16 0], some (.int .u16), none⟩), (52, ⟨.int .u32, 1, 4, [.int .u32 0], some (.int .u32), none⟩), (53, ⟨.slice 97, 1, 24, [.sl .unit []], some (.slice (.pair (.int .u8) (.slice (.int .u8)))), none⟩), (54, ⟨.slice 5, 1, 24, [.sl .unit []], some (.slice (.int .u8)), none⟩), (56, ⟨.struct [(0, 51), (1, 51), (2, 52), (3, 52), (4, 5), (5, 53), (6, 54)], 7, 64, [.int .u16 0, .int .u16 0, .int .u32 0, .int .u32 0, .int .u8 0, .sl .unit [], .sl .unit []], some (.pair (.int .u16) (.pair (.int .u16) (.pair (.int .u32) (.pair (.int .u32) (.pair (.int .u8) (.pair (.slice (.pair (.int .u8) (.slice (.int .u8)))) (.slice (.int .u8)))))))), some [(0, 51), (1, 51), (2, 52), (3, 52), (4, 5), (5, 53), (6, 54)]⟩), (66, ⟨.int .i64, 1, 8, [.int .i64 0], some (.int .i64), none⟩), (68, ⟨.struct [(0, 66), (1, 3), (2, 37), (3, 37)], 4, 32, [.int .i64 0, .int .i64 0, .nilP, .nilP], some (.pair (.int .i64) (.pair (.int .i64) (.pair .tree .tree))), some [(0, 66), (1, 3), (2, 37), (3, 37)]⟩), (91, ⟨.ptr 93, 1, 8, [.nilP], none, none⟩), (93, ⟨.struct [(0, 31), (1, 3), (2, 4)], 3, 40, [.sl .unit [], .int .i64 0, .bool false], some (.pair (.slice .str) (.pair (.int .i64) .bool)), some [(0, 31), (1, 3), (2, 4)]⟩), (97, ⟨.struct [(0, 5), (1, 54)], 2, 32, [.int .u8 0, .sl .unit []], some (.pair (.int .u8) (.slice (.int .u8))), some [(0, 5), (1, 54)]⟩)]
theorem ht : TabOk Go.Proofs.Tryd.prog tab := tabOk_of (ts := [3, 4, 5, 9, 23, 31, 37, 40, 42, 51, 52, 53, 54, 56, 66, 68, 91, 93, 97]) (by kernel_rfl)
theorem hm : Go.Proofs.Tryd.prog.follows .mixedOrders = true := by kernel_rfl
abbrev zi (n : Int) : Z1 := .d (.int .i64 n)
abbrev oc (z : Z1) : Z := .one (.c z)
/-! brougham/num.Pieces -/
def f15_num_Pieces_in (s : ByteArray) : Inn := ⟨[.c (.d (.str s))], [], [], 0⟩
def f15_num_Pieces_out (r : List ByteArray) : Out := ⟨oc (.d (.sl .str r)), [], [], 0⟩
def f15_num_Pieces_L4 : Nat → (List ByteArray) → (List ByteArray) → Int → Int → Option (List ByteArray)
  | 0, _, _, _, _ => none
  | n + 1, out, t13, t14, t15 =>
    if (decide ((t15 : Int) < t14)) = true then
      if (0 : Int) ≤ t15 ∧ t15 < (((t13).length : Nat) : Int) then
      if (!((t13.getD t15.toNat ByteArray.empty).toList == (⟨#[]⟩ : ByteArray).toList)) = true then
        if out.length + [(t13.getD t15.toNat ByteArray.empty)].length ≤ maxLen ∧ (out.length + [(t13.getD t15.toNat ByteArray.empty)].length) * 16 ≤ 140737488355328 then
        f15_num_Pieces_L4 n (out ++ [(t13.getD t15.toNat ByteArray.empty)]) t13 t14 (IntKind.wrap .i64 (t15 + 1))
        else none
      else
        f15_num_Pieces_L4 n out t13 t14 (IntKind.wrap .i64 (t15 + 1))
      else none
    else
      some (out)
def f15_num_Pieces_L4_k (e : List ByteArray) (o : Out) : Prop := At Tryd.prog Tryd.f15 0 9 ⟨[(3, oc (.own 0 .str e))], [(0, some ⟨9, 0⟩)], [], 1⟩ o
theorem f15_num_Pieces_L4_ok (n : Nat) : ∀ (out : List ByteArray) (t13 : List ByteArray) (t14 : Int) (t15 : Int) (w : List ByteArray) (h : f15_num_Pieces_L4 n out t13 t14 t15 = some w) (o : Out) (hk : f15_num_Pieces_L4_k w o), At Tryd.prog Tryd.f15 0 4 ⟨[(3, oc (.own 0 .str out)), (13, oc (.d (.sl .str t13))), (14, oc (zi t14)), (15, oc (zi t15))], [(0, some ⟨9, 0⟩)], [], 1⟩ o := by
  induction n with
  | zero => intro out t13 t14 t15 w h; rw [f15_num_Pieces_L4] at h; cases h
  | succ n ih =>
    intro out t13 t14 t15 w h o hk
    rw [f15_num_Pieces_L4] at h
    rcases iteS h with ⟨b22_e0, h⟩ | ⟨b22_e0, h⟩
    · refine At.step hm ht ⟨[], [true], [], [3, 13, 14, 15], [0]⟩ 5 ⟨[(3, oc (.own 0 .str out)), (13, oc (.d (.sl .str t13))), (14, oc (zi t14)), (15, oc (zi t15))], [(0, some ⟨9, 0⟩)], [], 1⟩ [(decide ((t15 : Int) < t14)) = true] (by kernel_rfl) ⟨b22_e0, trivial⟩ ?_
      obtain ⟨g23_0, h⟩ := ifS h
      refine At.step hm ht ⟨[], [], [], [3, 5, 13, 14, 15], [0]⟩ 6 ⟨[(3, oc (.own 0 .str out)), (5, oc (.d (.str (t13.getD t15.toNat ByteArray.empty)))), (13, oc (.d (.sl .str t13))), (14, oc (zi t14)), (15, oc (zi t15))], [(0, some ⟨9, 0⟩)], [], 1⟩ [(0 : Int) ≤ t15 ∧ t15 < (((t13).length : Nat) : Int)] (by kernel_rfl) ⟨g23_0, trivial⟩ ?_
      rcases iteS h with ⟨b24_e0, h⟩ | ⟨b24_e0, h⟩
      · refine At.step hm ht ⟨[], [true], [], [3, 5, 13, 14, 15], [0]⟩ 7 ⟨[(3, oc (.own 0 .str out)), (5, oc (.d (.str (t13.getD t15.toNat ByteArray.empty)))), (13, oc (.d (.sl .str t13))), (14, oc (zi t14)), (15, oc (zi t15))], [(0, some ⟨9, 0⟩)], [], 1⟩ [(!((t13.getD t15.toNat ByteArray.empty).toList == (⟨#[]⟩ : ByteArray).toList)) = true] (by kernel_rfl) ⟨b24_e0, trivial⟩ ?_
        obtain ⟨g25_0, h⟩ := ifS h
        refine At.step hm ht ⟨[], [], [], [3, 13, 14, 15], [4]⟩ 8 ⟨[(3, oc (.own 0 .str (out ++ [(t13.getD t15.toNat ByteArray.empty)]))), (13, oc (.d (.sl .str t13))), (14, oc (zi t14)), (15, oc (zi t15))], [(0, some ⟨9, 0⟩)], [], 1⟩ [out.length + [(t13.getD t15.toNat ByteArray.empty)].length ≤ maxLen ∧ (out.length + [(t13.getD t15.toNat ByteArray.empty)].length) * 16 ≤ 140737488355328] (by kernel_rfl) ⟨g25_0, trivial⟩ ?_
        refine At.step hm ht ⟨[], [], [], [3, 13, 14, 15], [0]⟩ 4 ⟨[(3, oc (.own 0 .str (out ++ [(t13.getD t15.toNat ByteArray.empty)]))), (13, oc (.d (.sl .str t13))), (14, oc (zi t14)), (15, oc (zi (IntKind.wrap .i64 (t15 + 1))))], [(0, some ⟨9, 0⟩)], [], 1⟩ [] (by kernel_rfl) trivial ?_
        exact ih (out ++ [(t13.getD t15.toNat ByteArray.empty)]) t13 t14 (IntKind.wrap .i64 (t15 + 1)) w h o hk
      · refine At.step hm ht ⟨[], [false], [], [3, 13, 14, 15], [0]⟩ 8 ⟨[(3, oc (.own 0 .str out)), (13, oc (.d (.sl .str t13))), (14, oc (zi t14)), (15, oc (zi t15))], [(0, some ⟨9, 0⟩)], [], 1⟩ [(!((t13.getD t15.toNat ByteArray.empty).toList == (⟨#[]⟩ : ByteArray).toList)) = false] (by kernel_rfl) ⟨b24_e0, trivial⟩ ?_
        refine At.step hm ht ⟨[], [], [], [3, 13, 14, 15], [0]⟩ 4 ⟨[(3, oc (.own 0 .str out)), (13, oc (.d (.sl .str t13))), (14, oc (zi t14)), (15, oc (zi (IntKind.wrap .i64 (t15 + 1))))], [(0, some ⟨9, 0⟩)], [], 1⟩ [] (by kernel_rfl) trivial ?_
        exact ih out t13 t14 (IntKind.wrap .i64 (t15 + 1)) w h o hk
    · refine At.step hm ht ⟨[], [false], [], [3], [0]⟩ 9 ⟨[(3, oc (.own 0 .str out))], [(0, some ⟨9, 0⟩)], [], 1⟩ [(decide ((t15 : Int) < t14)) = false] (by kernel_rfl) ⟨b22_e0, trivial⟩ ?_
      have h := Option.some.inj h
      subst h
      exact hk
def f15_num_Pieces (n : Nat) (s : ByteArray) : Option (List ByteArray) :=
  (f49_strings_Cut s (⟨#[35]⟩ : ByteArray)).bind fun r19_0 =>
  (f45_strings_Split r19_0.1 (⟨#[32]⟩ : ByteArray)).bind fun r21_0 =>
  (f15_num_Pieces_L4 n [] r21_0 ((r21_0.length : Nat) : Int) 0).bind fun w28 =>
  some w28
theorem f15_num_Pieces_ok (n : Nat) (s : ByteArray) (r : List ByteArray) (h : f15_num_Pieces n s = some r) : FnOK Tryd.prog 15 (f15_num_Pieces_in s) (f15_num_Pieces_out r) := by
  unfold f15_num_Pieces at h
  refine At.fn (r := 0) Tryd.func15 rfl (by kernel_rfl) rfl rfl (by kernel_rfl) ?_
  show At Tryd.prog Tryd.f15 0 0 ⟨[(0, oc (.d (.str s)))], [], [], 0⟩ _
  refine At.step hm ht ⟨[], [], [], [0], []⟩ 1 ⟨[(0, oc (.d (.str s)))], [], [], 0⟩ [] (by kernel_rfl) trivial ?_
  obtain ⟨r19_0, cr19_0, h⟩ := bindS h
  refine At.step hm ht ⟨[(1, .call [] [] (f49_strings_Cut_out r19_0))], [], [], [0], []⟩ 2 ⟨[(0, oc (.d (.str r19_0.1)))], [], [], 0⟩ [FnOK Tryd.prog 49 (f49_strings_Cut_in s (⟨#[35]⟩ : ByteArray)) (f49_strings_Cut_out r19_0)] (by kernel_rfl) ⟨(f49_strings_Cut_ok s (⟨#[35]⟩ : ByteArray) r19_0 cr19_0), trivial⟩ ?_
  refine At.step hm ht ⟨[], [], [], [0, 3], []⟩ 3 ⟨[(0, oc (.d (.str r19_0.1))), (3, oc (.d (.sl .unit [])))], [], [], 0⟩ [] (by kernel_rfl) trivial ?_
  obtain ⟨r21_0, cr21_0, h⟩ := bindS h
  refine At.step hm ht ⟨[(1, .call [] [] (f45_strings_Split_out r21_0))], [], [.nil false 3 0 .str (some 9)], [3, 13, 14, 15], [3]⟩ 4 ⟨[(3, oc (.own 0 .str [])), (13, oc (.d (.sl .str r21_0))), (14, oc (zi ((r21_0.length : Nat) : Int))), (15, oc (zi 0))], [(0, some ⟨9, 0⟩)], [], 1⟩ [FnOK Tryd.prog 45 (f45_strings_Split_in r19_0.1 (⟨#[32]⟩ : ByteArray)) (f45_strings_Split_out r21_0)] (by kernel_rfl) ⟨(f45_strings_Split_ok r19_0.1 (⟨#[32]⟩ : ByteArray) r21_0 cr21_0), trivial⟩ ?_
  obtain ⟨w28, cw28, h⟩ := bindS h
  refine f15_num_Pieces_L4_ok n [] r21_0 ((r21_0.length : Nat) : Int) 0 w28 cw28 _ ?_
  show At Tryd.prog Tryd.f15 0 9 ⟨[(3, oc (.own 0 .str w28))], [(0, some ⟨9, 0⟩)], [], 1⟩ _
  have h := Option.some.inj h
  subst h
  exact At.fin hm ht ⟨[], [], [], [2], []⟩ [] (by kernel_rfl) trivial
/-! (*brougham/filter.reader).took -/
def f84_filter_reader_took_in (s : ByteArray) (r__0 : List ByteArray) (r__1 : Int) (r__2 : Bool) : Inn := ⟨[.c (.ptr 0 0), .c (.d (.str s))], [], [(0, [.d (.sl .str r__0), zi r__1, .d (.bool r__2)])], 1⟩
def f84_filter_reader_took_out (r : Bool × List ByteArray × Int × Bool) : Out := ⟨oc (.d (.bool r.1)), [], [(0, [.d (.sl .str r.2.1), zi r.2.2.1, .d (.bool r.2.2.2)])], 1⟩
def f84_filter_reader_took (s : ByteArray) (r__0 : List ByteArray) (r__1 : Int) (r__2 : Bool) : Option (Bool × List ByteArray × Int × Bool) :=
  if ((((r__0.length : Nat) : Int) : Int) == 0) = true then
    some (false, r__0, r__1, r__2)
  else
    if (0 : Int) ≤ 0 ∧ 0 < (((r__0).length : Nat) : Int) then
    if (!((r__0.getD 0 ByteArray.empty).toList == s.toList)) = true then
      some (false, r__0, r__1, r__2)
    else
      if cutOk r__0.length (some 1) none none then
      some (true, ((r__0.take r__0.length).drop 1), r__1, r__2)
      else none
    else none
theorem f84_filter_reader_took_ok (s : ByteArray) (r__0 : List ByteArray) (r__1 : Int) (r__2 : Bool) (r : Bool × List ByteArray × Int × Bool) (h : f84_filter_reader_took s r__0 r__1 r__2 = some r) : FnOK Tryd.prog 84 (f84_filter_reader_took_in s r__0 r__1 r__2) (f84_filter_reader_took_out r) := by
  unfold f84_filter_reader_took at h
  refine At.fn (r := 0) Tryd.func84 rfl (by kernel_rfl) rfl rfl (by kernel_rfl) ?_
  show At Tryd.prog Tryd.f84 1 0 ⟨[(0, oc (.ptr 0 0)), (1, oc (.d (.str s)))], [], [(0, [.d (.sl .str r__0), zi r__1, .d (.bool r__2)])], 1⟩ _
  refine At.step hm ht ⟨[], [], [], [0, 1], [0]⟩ 1 ⟨[(0, oc (.ptr 0 0)), (1, oc (.d (.str s)))], [], [(0, [.d (.sl .str r__0), zi r__1, .d (.bool r__2)])], 1⟩ [] (by kernel_rfl) trivial ?_
  rcases iteS h with ⟨b43_6, h⟩ | ⟨b43_6, h⟩
  · refine At.step hm ht ⟨[(6, .b true)], [true], [], [], [0]⟩ 2 ⟨[], [], [(0, [.d (.sl .str r__0), zi r__1, .d (.bool r__2)])], 1⟩ [((((r__0.length : Nat) : Int) : Int) == 0) = true, true = true] (by kernel_rfl) ⟨b43_6, rfl, trivial⟩ ?_
    have h := Option.some.inj h
    subst h
    exact At.fin hm ht ⟨[], [], [], [4], [0]⟩ [] (by kernel_rfl) trivial
  · obtain ⟨g43_0, h⟩ := ifS h
    rcases iteS h with ⟨b43_e0, h⟩ | ⟨b43_e0, h⟩
    · refine At.step hm ht ⟨[(6, .b false)], [true], [], [], [0]⟩ 2 ⟨[], [], [(0, [.d (.sl .str r__0), zi r__1, .d (.bool r__2)])], 1⟩ [((((r__0.length : Nat) : Int) : Int) == 0) = false, (0 : Int) ≤ 0 ∧ 0 < (((r__0).length : Nat) : Int), (!((r__0.getD 0 ByteArray.empty).toList == s.toList)) = true] (by kernel_rfl) ⟨b43_6, g43_0, b43_e0, trivial⟩ ?_
      have h := Option.some.inj h
      subst h
      exact At.fin hm ht ⟨[], [], [], [4], [0]⟩ [] (by kernel_rfl) trivial
    · refine At.step hm ht ⟨[(6, .b false)], [false], [], [0], [0]⟩ 3 ⟨[(0, oc (.ptr 0 0))], [], [(0, [.d (.sl .str r__0), zi r__1, .d (.bool r__2)])], 1⟩ [((((r__0.length : Nat) : Int) : Int) == 0) = false, (0 : Int) ≤ 0 ∧ 0 < (((r__0).length : Nat) : Int), (!((r__0.getD 0 ByteArray.empty).toList == s.toList)) = false] (by kernel_rfl) ⟨b43_6, g43_0, b43_e0, trivial⟩ ?_
      obtain ⟨g46_0, h⟩ := ifS h
      refine At.step hm ht ⟨[], [], [], [], [0]⟩ 4 ⟨[], [], [(0, [.d (.sl .str ((r__0.take r__0.length).drop 1)), zi r__1, .d (.bool r__2)])], 1⟩ [cutOk r__0.length (some 1) none none, 0 + 1 ≤ 3] (by kernel_rfl) ⟨g46_0, (by decide), trivial⟩ ?_
      have h := Option.some.inj h
      subst h
      exact At.fin hm ht ⟨[], [], [], [4], [0]⟩ [] (by kernel_rfl) trivial
/-! (*brougham/filter.reader).number -/
def f115_filter_reader_number_in (op : Int) (r__0 : List ByteArray) (r__1 : Int) (r__2 : Bool) : Inn := ⟨[.c (.ptr 0 0), .c (zi op)], [], [(0, [.d (.sl .str r__0), zi r__1, .d (.bool r__2)])], 1⟩
def f115_filter_reader_number_out (r : PT × List ByteArray × Int × Bool) : Out := ⟨oc (.d (.pt r.1)), [], [(0, [.d (.sl .str r.2.1), zi r.2.2.1, .d (.bool r.2.2.2)])], 1⟩
def f115_filter_reader_number (op : Int) (r__0 : List ByteArray) (r__1 : Int) (r__2 : Bool) : Option (PT × List ByteArray × Int × Bool) :=
  if ((((r__0.length : Nat) : Int) : Int) == 0) = true then
    some (PT.nil, r__0, r__1, true)
  else
    if (0 : Int) ≤ 0 ∧ 0 < (((r__0).length : Nat) : Int) then
    (f51_num_Parse (r__0.getD 0 ByteArray.empty)).bind fun r69_1 =>
    if cutOk r__0.length (some 1) none none then
    if r__2 = true then
      some ((PT.node op r69_1.1 PT.nil PT.nil), ((r__0.take r__0.length).drop 1), r__1, true)
    else
      some ((PT.node op r69_1.1 PT.nil PT.nil), ((r__0.take r__0.length).drop 1), r__1, ((r69_1.2 : Int) != 0))
    else none
    else none
theorem f115_filter_reader_number_ok (op : Int) (r__0 : List ByteArray) (r__1 : Int) (r__2 : Bool) (r : PT × List ByteArray × Int × Bool) (h : f115_filter_reader_number op r__0 r__1 r__2 = some r) : FnOK Tryd.prog 115 (f115_filter_reader_number_in op r__0 r__1 r__2) (f115_filter_reader_number_out r) := by
  unfold f115_filter_reader_number at h
  refine At.fn (r := 0) Tryd.func115 rfl (by kernel_rfl) rfl rfl (by kernel_rfl) ?_
  show At Tryd.prog Tryd.f115 1 0 ⟨[(0, oc (.ptr 0 0)), (1, oc (zi op))], [], [(0, [.d (.sl .str r__0), zi r__1, .d (.bool r__2)])], 1⟩ _
  refine At.step hm ht ⟨[], [], [.nilpt 4], [0, 1], [0]⟩ 1 ⟨[(0, oc (.ptr 0 0)), (1, oc (zi op))], [], [(0, [.d (.sl .str r__0), zi r__1, .d (.bool r__2)])], 1⟩ [] (by kernel_rfl) trivial ?_
  rcases iteS h with ⟨b66_e0, h⟩ | ⟨b66_e0, h⟩
  · refine At.step hm ht ⟨[], [true], [], [0], [0]⟩ 2 ⟨[(0, oc (.ptr 0 0))], [], [(0, [.d (.sl .str r__0), zi r__1, .d (.bool r__2)])], 1⟩ [((((r__0.length : Nat) : Int) : Int) == 0) = true] (by kernel_rfl) ⟨b66_e0, trivial⟩ ?_
    refine At.step hm ht ⟨[], [], [], [], [0]⟩ 3 ⟨[], [], [(0, [.d (.sl .str r__0), zi r__1, .d (.bool true)])], 1⟩ [2 + 1 ≤ 3] (by kernel_rfl) ⟨(by decide), trivial⟩ ?_
    have h := Option.some.inj h
    subst h
    exact At.fin hm ht ⟨[], [], [.nilpt 4], [4], [0]⟩ [] (by kernel_rfl) trivial
  · refine At.step hm ht ⟨[], [false], [], [0, 1], [0]⟩ 4 ⟨[(0, oc (.ptr 0 0)), (1, oc (zi op))], [], [(0, [.d (.sl .str r__0), zi r__1, .d (.bool r__2)])], 1⟩ [((((r__0.length : Nat) : Int) : Int) == 0) = false] (by kernel_rfl) ⟨b66_e0, trivial⟩ ?_
    obtain ⟨g69_0, h⟩ := ifS h
    obtain ⟨r69_1, cr69_1, h⟩ := bindS h
    refine At.step hm ht ⟨[(6, .call [] [] (f51_num_Parse_out r69_1))], [], [], [0, 1, 5, 6], [0]⟩ 5 ⟨[(0, oc (.ptr 0 0)), (1, oc (zi op)), (5, oc (zi r69_1.1)), (6, oc (zi r69_1.2))], [], [(0, [.d (.sl .str r__0), zi r__1, .d (.bool r__2)])], 1⟩ [(0 : Int) ≤ 0 ∧ 0 < (((r__0).length : Nat) : Int), FnOK Tryd.prog 51 (f51_num_Parse_in (r__0.getD 0 ByteArray.empty)) (f51_num_Parse_out r69_1)] (by kernel_rfl) ⟨g69_0, (f51_num_Parse_ok (r__0.getD 0 ByteArray.empty) r69_1 cr69_1), trivial⟩ ?_
    obtain ⟨g70_0, h⟩ := ifS h
    refine At.step hm ht ⟨[], [], [], [0, 1, 5, 6], [0]⟩ 6 ⟨[(0, oc (.ptr 0 0)), (1, oc (zi op)), (5, oc (zi r69_1.1)), (6, oc (zi r69_1.2))], [], [(0, [.d (.sl .str ((r__0.take r__0.length).drop 1)), zi r__1, .d (.bool r__2)])], 1⟩ [cutOk r__0.length (some 1) none none, 0 + 1 ≤ 3] (by kernel_rfl) ⟨g70_0, (by decide), trivial⟩ ?_
    rcases iteS h with ⟨b71_5, h⟩ | ⟨b71_5, h⟩
    · refine At.step hm ht ⟨[(5, .b true)], [], [], [1, 5], [0]⟩ 7 ⟨[(1, oc (zi op)), (5, oc (zi r69_1.1))], [], [(0, [.d (.sl .str ((r__0.take r__0.length).drop 1)), zi r__1, .d (.bool true)])], 1⟩ [r__2 = true, 2 + 1 ≤ 3] (by kernel_rfl) ⟨b71_5, (by decide), trivial⟩ ?_
      have h := Option.some.inj h
      subst h
      exact At.fin hm ht ⟨[], [], [.tree 4], [4], [0]⟩ [] (by kernel_rfl) trivial
    · refine At.step hm ht ⟨[(5, .b false)], [], [], [1, 5], [0]⟩ 7 ⟨[(1, oc (zi op)), (5, oc (zi r69_1.1))], [], [(0, [.d (.sl .str ((r__0.take r__0.length).drop 1)), zi r__1, .d (.bool ((r69_1.2 : Int) != 0))])], 1⟩ [r__2 = false, 2 + 1 ≤ 3] (by kernel_rfl) ⟨b71_5, (by decide), trivial⟩ ?_
      have h := Option.some.inj h
      subst h
      exact At.fin hm ht ⟨[], [], [.tree 4], [4], [0]⟩ [] (by kernel_rfl) trivial
/-! (*brougham/filter.reader).plain -/
def f112_filter_reader_plain_in (r__0 : List ByteArray) (r__1 : Int) (r__2 : Bool) : Inn := ⟨[.c (.ptr 0 0)], [], [(0, [.d (.sl .str r__0), zi r__1, .d (.bool r__2)])], 1⟩
def f112_filter_reader_plain_out (r : PT × List ByteArray × Int × Bool) : Out := ⟨oc (.d (.pt r.1)), [], [(0, [.d (.sl .str r.2.1), zi r.2.2.1, .d (.bool r.2.2.2)])], 1⟩
def f112_filter_reader_plain (r__0 : List ByteArray) (r__1 : Int) (r__2 : Bool) : Option (PT × List ByteArray × Int × Bool) :=
  (f84_filter_reader_took (⟨#[97, 108, 108]⟩ : ByteArray) r__0 r__1 r__2).bind fun r53_0 =>
  if r53_0.1 = true then
    some ((PT.node 1 0 PT.nil PT.nil), r53_0.2.1, r53_0.2.2.1, r53_0.2.2.2)
  else
    (f84_filter_reader_took (⟨#[101, 109, 112, 116, 121]⟩ : ByteArray) r53_0.2.1 r53_0.2.2.1 r53_0.2.2.2).bind fun r55_0 =>
    if r55_0.1 = true then
      some ((PT.node 11 0 PT.nil PT.nil), r55_0.2.1, r55_0.2.2.1, r55_0.2.2.2)
    else
      (f84_filter_reader_took (⟨#[115, 121, 110]⟩ : ByteArray) r55_0.2.1 r55_0.2.2.1 r55_0.2.2.2).bind fun r57_0 =>
      if r57_0.1 = true then
        some ((PT.node 2 1 PT.nil PT.nil), r57_0.2.1, r57_0.2.2.1, r57_0.2.2.2)
      else
        (f84_filter_reader_took (⟨#[97, 99, 107]⟩ : ByteArray) r57_0.2.1 r57_0.2.2.1 r57_0.2.2.2).bind fun r59_0 =>
        if r59_0.1 = true then
          some ((PT.node 2 2 PT.nil PT.nil), r59_0.2.1, r59_0.2.2.1, r59_0.2.2.2)
        else
          (f84_filter_reader_took (⟨#[114, 115, 116]⟩ : ByteArray) r59_0.2.1 r59_0.2.2.1 r59_0.2.2.2).bind fun r61_0 =>
          if r61_0.1 = true then
            some ((PT.node 2 4 PT.nil PT.nil), r61_0.2.1, r61_0.2.2.1, r61_0.2.2.2)
          else
            (f84_filter_reader_took (⟨#[112, 111, 114, 116]⟩ : ByteArray) r61_0.2.1 r61_0.2.2.1 r61_0.2.2.2).bind fun r63_0 =>
            if r63_0.1 = true then
              (f115_filter_reader_number 3 r63_0.2.1 r63_0.2.2.1 r63_0.2.2.2).bind fun r64_0 =>
              some (r64_0.1, r64_0.2.1, r64_0.2.2.1, r64_0.2.2.2)
            else
              (f84_filter_reader_took (⟨#[115, 114, 99]⟩ : ByteArray) r63_0.2.1 r63_0.2.2.1 r63_0.2.2.2).bind fun r74_0 =>
              if r74_0.1 = true then
                (f115_filter_reader_number 4 r74_0.2.1 r74_0.2.2.1 r74_0.2.2.2).bind fun r75_0 =>
                some (r75_0.1, r75_0.2.1, r75_0.2.2.1, r75_0.2.2.2)
              else
                (f84_filter_reader_took (⟨#[100, 115, 116]⟩ : ByteArray) r74_0.2.1 r74_0.2.2.1 r74_0.2.2.2).bind fun r76_0 =>
                if r76_0.1 = true then
                  (f115_filter_reader_number 5 r76_0.2.1 r76_0.2.2.1 r76_0.2.2.2).bind fun r77_0 =>
                  some (r77_0.1, r77_0.2.1, r77_0.2.2.1, r77_0.2.2.2)
                else
                  (f84_filter_reader_took (⟨#[104, 97, 115]⟩ : ByteArray) r76_0.2.1 r76_0.2.2.1 r76_0.2.2.2).bind fun r78_0 =>
                  if r78_0.1 = true then
                    (f115_filter_reader_number 6 r78_0.2.1 r78_0.2.2.1 r78_0.2.2.2).bind fun r79_0 =>
                    some (r79_0.1, r79_0.2.1, r79_0.2.2.1, r79_0.2.2.2)
                  else
                    (f84_filter_reader_took (⟨#[108, 111, 110, 103]⟩ : ByteArray) r78_0.2.1 r78_0.2.2.1 r78_0.2.2.2).bind fun r80_0 =>
                    if r80_0.1 = true then
                      (f115_filter_reader_number 7 r80_0.2.1 r80_0.2.2.1 r80_0.2.2.2).bind fun r81_0 =>
                      some (r81_0.1, r81_0.2.1, r81_0.2.2.1, r81_0.2.2.2)
                    else
                      some (PT.nil, r80_0.2.1, r80_0.2.2.1, true)
theorem f112_filter_reader_plain_ok (r__0 : List ByteArray) (r__1 : Int) (r__2 : Bool) (r : PT × List ByteArray × Int × Bool) (h : f112_filter_reader_plain r__0 r__1 r__2 = some r) : FnOK Tryd.prog 112 (f112_filter_reader_plain_in r__0 r__1 r__2) (f112_filter_reader_plain_out r) := by
  unfold f112_filter_reader_plain at h
  refine At.fn (r := 0) Tryd.func112 rfl (by kernel_rfl) rfl rfl (by kernel_rfl) ?_
  show At Tryd.prog Tryd.f112 1 0 ⟨[(0, oc (.ptr 0 0))], [], [(0, [.d (.sl .str r__0), zi r__1, .d (.bool r__2)])], 1⟩ _
  refine At.step hm ht ⟨[], [], [.nilpt 2], [0], [0]⟩ 1 ⟨[(0, oc (.ptr 0 0))], [], [(0, [.d (.sl .str r__0), zi r__1, .d (.bool r__2)])], 1⟩ [] (by kernel_rfl) trivial ?_
  obtain ⟨r53_0, cr53_0, h⟩ := bindS h
  rcases iteS h with ⟨b53_e0, h⟩ | ⟨b53_e0, h⟩
  · refine At.step hm ht ⟨[(1, .call [0] [] (f84_filter_reader_took_out r53_0))], [true], [], [], [0]⟩ 2 ⟨[], [], [(0, [.d (.sl .str r53_0.2.1), zi r53_0.2.2.1, .d (.bool r53_0.2.2.2)])], 1⟩ [FnOK Tryd.prog 84 (f84_filter_reader_took_in (⟨#[97, 108, 108]⟩ : ByteArray) r__0 r__1 r__2) (f84_filter_reader_took_out r53_0), r53_0.1 = true] (by kernel_rfl) ⟨(f84_filter_reader_took_ok (⟨#[97, 108, 108]⟩ : ByteArray) r__0 r__1 r__2 r53_0 cr53_0), b53_e0, trivial⟩ ?_
    have h := Option.some.inj h
    subst h
    exact At.fin hm ht ⟨[], [], [.tree 2], [2], [0]⟩ [] (by kernel_rfl) trivial
  · refine At.step hm ht ⟨[(1, .call [0] [] (f84_filter_reader_took_out r53_0))], [false], [], [0], [0]⟩ 3 ⟨[(0, oc (.ptr 0 0))], [], [(0, [.d (.sl .str r53_0.2.1), zi r53_0.2.2.1, .d (.bool r53_0.2.2.2)])], 1⟩ [FnOK Tryd.prog 84 (f84_filter_reader_took_in (⟨#[97, 108, 108]⟩ : ByteArray) r__0 r__1 r__2) (f84_filter_reader_took_out r53_0), r53_0.1 = false] (by kernel_rfl) ⟨(f84_filter_reader_took_ok (⟨#[97, 108, 108]⟩ : ByteArray) r__0 r__1 r__2 r53_0 cr53_0), b53_e0, trivial⟩ ?_
    obtain ⟨r55_0, cr55_0, h⟩ := bindS h
    rcases iteS h with ⟨b55_e0, h⟩ | ⟨b55_e0, h⟩
    · refine At.step hm ht ⟨[(1, .call [0] [] (f84_filter_reader_took_out r55_0))], [true], [], [], [0]⟩ 4 ⟨[], [], [(0, [.d (.sl .str r55_0.2.1), zi r55_0.2.2.1, .d (.bool r55_0.2.2.2)])], 1⟩ [FnOK Tryd.prog 84 (f84_filter_reader_took_in (⟨#[101, 109, 112, 116, 121]⟩ : ByteArray) r53_0.2.1 r53_0.2.2.1 r53_0.2.2.2) (f84_filter_reader_took_out r55_0), r55_0.1 = true] (by kernel_rfl) ⟨(f84_filter_reader_took_ok (⟨#[101, 109, 112, 116, 121]⟩ : ByteArray) r53_0.2.1 r53_0.2.2.1 r53_0.2.2.2 r55_0 cr55_0), b55_e0, trivial⟩ ?_
      have h := Option.some.inj h
      subst h
      exact At.fin hm ht ⟨[], [], [.tree 2], [2], [0]⟩ [] (by kernel_rfl) trivial
    · refine At.step hm ht ⟨[(1, .call [0] [] (f84_filter_reader_took_out r55_0))], [false], [], [0], [0]⟩ 5 ⟨[(0, oc (.ptr 0 0))], [], [(0, [.d (.sl .str r55_0.2.1), zi r55_0.2.2.1, .d (.bool r55_0.2.2.2)])], 1⟩ [FnOK Tryd.prog 84 (f84_filter_reader_took_in (⟨#[101, 109, 112, 116, 121]⟩ : ByteArray) r53_0.2.1 r53_0.2.2.1 r53_0.2.2.2) (f84_filter_reader_took_out r55_0), r55_0.1 = false] (by kernel_rfl) ⟨(f84_filter_reader_took_ok (⟨#[101, 109, 112, 116, 121]⟩ : ByteArray) r53_0.2.1 r53_0.2.2.1 r53_0.2.2.2 r55_0 cr55_0), b55_e0, trivial⟩ ?_
      obtain ⟨r57_0, cr57_0, h⟩ := bindS h
      rcases iteS h with ⟨b57_e0, h⟩ | ⟨b57_e0, h⟩
      · refine At.step hm ht ⟨[(1, .call [0] [] (f84_filter_reader_took_out r57_0))], [true], [], [], [0]⟩ 6 ⟨[], [], [(0, [.d (.sl .str r57_0.2.1), zi r57_0.2.2.1, .d (.bool r57_0.2.2.2)])], 1⟩ [FnOK Tryd.prog 84 (f84_filter_reader_took_in (⟨#[115, 121, 110]⟩ : ByteArray) r55_0.2.1 r55_0.2.2.1 r55_0.2.2.2) (f84_filter_reader_took_out r57_0), r57_0.1 = true] (by kernel_rfl) ⟨(f84_filter_reader_took_ok (⟨#[115, 121, 110]⟩ : ByteArray) r55_0.2.1 r55_0.2.2.1 r55_0.2.2.2 r57_0 cr57_0), b57_e0, trivial⟩ ?_
        have h := Option.some.inj h
        subst h
        exact At.fin hm ht ⟨[], [], [.tree 2], [2], [0]⟩ [] (by kernel_rfl) trivial
      · refine At.step hm ht ⟨[(1, .call [0] [] (f84_filter_reader_took_out r57_0))], [false], [], [0], [0]⟩ 7 ⟨[(0, oc (.ptr 0 0))], [], [(0, [.d (.sl .str r57_0.2.1), zi r57_0.2.2.1, .d (.bool r57_0.2.2.2)])], 1⟩ [FnOK Tryd.prog 84 (f84_filter_reader_took_in (⟨#[115, 121, 110]⟩ : ByteArray) r55_0.2.1 r55_0.2.2.1 r55_0.2.2.2) (f84_filter_reader_took_out r57_0), r57_0.1 = false] (by kernel_rfl) ⟨(f84_filter_reader_took_ok (⟨#[115, 121, 110]⟩ : ByteArray) r55_0.2.1 r55_0.2.2.1 r55_0.2.2.2 r57_0 cr57_0), b57_e0, trivial⟩ ?_
        obtain ⟨r59_0, cr59_0, h⟩ := bindS h
        rcases iteS h with ⟨b59_e0, h⟩ | ⟨b59_e0, h⟩
        · refine At.step hm ht ⟨[(1, .call [0] [] (f84_filter_reader_took_out r59_0))], [true], [], [], [0]⟩ 8 ⟨[], [], [(0, [.d (.sl .str r59_0.2.1), zi r59_0.2.2.1, .d (.bool r59_0.2.2.2)])], 1⟩ [FnOK Tryd.prog 84 (f84_filter_reader_took_in (⟨#[97, 99, 107]⟩ : ByteArray) r57_0.2.1 r57_0.2.2.1 r57_0.2.2.2) (f84_filter_reader_took_out r59_0), r59_0.1 = true] (by kernel_rfl) ⟨(f84_filter_reader_took_ok (⟨#[97, 99, 107]⟩ : ByteArray) r57_0.2.1 r57_0.2.2.1 r57_0.2.2.2 r59_0 cr59_0), b59_e0, trivial⟩ ?_
          have h := Option.some.inj h
          subst h
          exact At.fin hm ht ⟨[], [], [.tree 2], [2], [0]⟩ [] (by kernel_rfl) trivial
        · refine At.step hm ht ⟨[(1, .call [0] [] (f84_filter_reader_took_out r59_0))], [false], [], [0], [0]⟩ 9 ⟨[(0, oc (.ptr 0 0))], [], [(0, [.d (.sl .str r59_0.2.1), zi r59_0.2.2.1, .d (.bool r59_0.2.2.2)])], 1⟩ [FnOK Tryd.prog 84 (f84_filter_reader_took_in (⟨#[97, 99, 107]⟩ : ByteArray) r57_0.2.1 r57_0.2.2.1 r57_0.2.2.2) (f84_filter_reader_took_out r59_0), r59_0.1 = false] (by kernel_rfl) ⟨(f84_filter_reader_took_ok (⟨#[97, 99, 107]⟩ : ByteArray) r57_0.2.1 r57_0.2.2.1 r57_0.2.2.2 r59_0 cr59_0), b59_e0, trivial⟩ ?_
          obtain ⟨r61_0, cr61_0, h⟩ := bindS h
          rcases iteS h with ⟨b61_e0, h⟩ | ⟨b61_e0, h⟩
          · refine At.step hm ht ⟨[(1, .call [0] [] (f84_filter_reader_took_out r61_0))], [true], [], [], [0]⟩ 10 ⟨[], [], [(0, [.d (.sl .str r61_0.2.1), zi r61_0.2.2.1, .d (.bool r61_0.2.2.2)])], 1⟩ [FnOK Tryd.prog 84 (f84_filter_reader_took_in (⟨#[114, 115, 116]⟩ : ByteArray) r59_0.2.1 r59_0.2.2.1 r59_0.2.2.2) (f84_filter_reader_took_out r61_0), r61_0.1 = true] (by kernel_rfl) ⟨(f84_filter_reader_took_ok (⟨#[114, 115, 116]⟩ : ByteArray) r59_0.2.1 r59_0.2.2.1 r59_0.2.2.2 r61_0 cr61_0), b61_e0, trivial⟩ ?_
            have h := Option.some.inj h
            subst h
            exact At.fin hm ht ⟨[], [], [.tree 2], [2], [0]⟩ [] (by kernel_rfl) trivial
          · refine At.step hm ht ⟨[(1, .call [0] [] (f84_filter_reader_took_out r61_0))], [false], [], [0], [0]⟩ 11 ⟨[(0, oc (.ptr 0 0))], [], [(0, [.d (.sl .str r61_0.2.1), zi r61_0.2.2.1, .d (.bool r61_0.2.2.2)])], 1⟩ [FnOK Tryd.prog 84 (f84_filter_reader_took_in (⟨#[114, 115, 116]⟩ : ByteArray) r59_0.2.1 r59_0.2.2.1 r59_0.2.2.2) (f84_filter_reader_took_out r61_0), r61_0.1 = false] (by kernel_rfl) ⟨(f84_filter_reader_took_ok (⟨#[114, 115, 116]⟩ : ByteArray) r59_0.2.1 r59_0.2.2.1 r59_0.2.2.2 r61_0 cr61_0), b61_e0, trivial⟩ ?_
            obtain ⟨r63_0, cr63_0, h⟩ := bindS h
            rcases iteS h with ⟨b63_e0, h⟩ | ⟨b63_e0, h⟩
            · refine At.step hm ht ⟨[(1, .call [0] [] (f84_filter_reader_took_out r63_0))], [true], [], [0], [0]⟩ 12 ⟨[(0, oc (.ptr 0 0))], [], [(0, [.d (.sl .str r63_0.2.1), zi r63_0.2.2.1, .d (.bool r63_0.2.2.2)])], 1⟩ [FnOK Tryd.prog 84 (f84_filter_reader_took_in (⟨#[112, 111, 114, 116]⟩ : ByteArray) r61_0.2.1 r61_0.2.2.1 r61_0.2.2.2) (f84_filter_reader_took_out r63_0), r63_0.1 = true] (by kernel_rfl) ⟨(f84_filter_reader_took_ok (⟨#[112, 111, 114, 116]⟩ : ByteArray) r61_0.2.1 r61_0.2.2.1 r61_0.2.2.2 r63_0 cr63_0), b63_e0, trivial⟩ ?_
              obtain ⟨r64_0, cr64_0, h⟩ := bindS h
              have h := Option.some.inj h
              subst h
              exact At.fin hm ht ⟨[(1, .call [0] [] (f115_filter_reader_number_out r64_0))], [], [], [2], [0]⟩ [FnOK Tryd.prog 115 (f115_filter_reader_number_in 3 r63_0.2.1 r63_0.2.2.1 r63_0.2.2.2) (f115_filter_reader_number_out r64_0)] (by kernel_rfl) ⟨(f115_filter_reader_number_ok 3 r63_0.2.1 r63_0.2.2.1 r63_0.2.2.2 r64_0 cr64_0), trivial⟩
            · refine At.step hm ht ⟨[(1, .call [0] [] (f84_filter_reader_took_out r63_0))], [false], [], [0], [0]⟩ 13 ⟨[(0, oc (.ptr 0 0))], [], [(0, [.d (.sl .str r63_0.2.1), zi r63_0.2.2.1, .d (.bool r63_0.2.2.2)])], 1⟩ [FnOK Tryd.prog 84 (f84_filter_reader_took_in (⟨#[112, 111, 114, 116]⟩ : ByteArray) r61_0.2.1 r61_0.2.2.1 r61_0.2.2.2) (f84_filter_reader_took_out r63_0), r63_0.1 = false] (by kernel_rfl) ⟨(f84_filter_reader_took_ok (⟨#[112, 111, 114, 116]⟩ : ByteArray) r61_0.2.1 r61_0.2.2.1 r61_0.2.2.2 r63_0 cr63_0), b63_e0, trivial⟩ ?_
              obtain ⟨r74_0, cr74_0, h⟩ := bindS h
              rcases iteS h with ⟨b74_e0, h⟩ | ⟨b74_e0, h⟩
              · refine At.step hm ht ⟨[(1, .call [0] [] (f84_filter_reader_took_out r74_0))], [true], [], [0], [0]⟩ 14 ⟨[(0, oc (.ptr 0 0))], [], [(0, [.d (.sl .str r74_0.2.1), zi r74_0.2.2.1, .d (.bool r74_0.2.2.2)])], 1⟩ [FnOK Tryd.prog 84 (f84_filter_reader_took_in (⟨#[115, 114, 99]⟩ : ByteArray) r63_0.2.1 r63_0.2.2.1 r63_0.2.2.2) (f84_filter_reader_took_out r74_0), r74_0.1 = true] (by kernel_rfl) ⟨(f84_filter_reader_took_ok (⟨#[115, 114, 99]⟩ : ByteArray) r63_0.2.1 r63_0.2.2.1 r63_0.2.2.2 r74_0 cr74_0), b74_e0, trivial⟩ ?_
                obtain ⟨r75_0, cr75_0, h⟩ := bindS h
                have h := Option.some.inj h
                subst h
                exact At.fin hm ht ⟨[(1, .call [0] [] (f115_filter_reader_number_out r75_0))], [], [], [2], [0]⟩ [FnOK Tryd.prog 115 (f115_filter_reader_number_in 4 r74_0.2.1 r74_0.2.2.1 r74_0.2.2.2) (f115_filter_reader_number_out r75_0)] (by kernel_rfl) ⟨(f115_filter_reader_number_ok 4 r74_0.2.1 r74_0.2.2.1 r74_0.2.2.2 r75_0 cr75_0), trivial⟩
              · refine At.step hm ht ⟨[(1, .call [0] [] (f84_filter_reader_took_out r74_0))], [false], [], [0], [0]⟩ 15 ⟨[(0, oc (.ptr 0 0))], [], [(0, [.d (.sl .str r74_0.2.1), zi r74_0.2.2.1, .d (.bool r74_0.2.2.2)])], 1⟩ [FnOK Tryd.prog 84 (f84_filter_reader_took_in (⟨#[115, 114, 99]⟩ : ByteArray) r63_0.2.1 r63_0.2.2.1 r63_0.2.2.2) (f84_filter_reader_took_out r74_0), r74_0.1 = false] (by kernel_rfl) ⟨(f84_filter_reader_took_ok (⟨#[115, 114, 99]⟩ : ByteArray) r63_0.2.1 r63_0.2.2.1 r63_0.2.2.2 r74_0 cr74_0), b74_e0, trivial⟩ ?_
                obtain ⟨r76_0, cr76_0, h⟩ := bindS h
                rcases iteS h with ⟨b76_e0, h⟩ | ⟨b76_e0, h⟩
                · refine At.step hm ht ⟨[(1, .call [0] [] (f84_filter_reader_took_out r76_0))], [true], [], [0], [0]⟩ 16 ⟨[(0, oc (.ptr 0 0))], [], [(0, [.d (.sl .str r76_0.2.1), zi r76_0.2.2.1, .d (.bool r76_0.2.2.2)])], 1⟩ [FnOK Tryd.prog 84 (f84_filter_reader_took_in (⟨#[100, 115, 116]⟩ : ByteArray) r74_0.2.1 r74_0.2.2.1 r74_0.2.2.2) (f84_filter_reader_took_out r76_0), r76_0.1 = true] (by kernel_rfl) ⟨(f84_filter_reader_took_ok (⟨#[100, 115, 116]⟩ : ByteArray) r74_0.2.1 r74_0.2.2.1 r74_0.2.2.2 r76_0 cr76_0), b76_e0, trivial⟩ ?_
                  obtain ⟨r77_0, cr77_0, h⟩ := bindS h
                  have h := Option.some.inj h
                  subst h
                  exact At.fin hm ht ⟨[(1, .call [0] [] (f115_filter_reader_number_out r77_0))], [], [], [2], [0]⟩ [FnOK Tryd.prog 115 (f115_filter_reader_number_in 5 r76_0.2.1 r76_0.2.2.1 r76_0.2.2.2) (f115_filter_reader_number_out r77_0)] (by kernel_rfl) ⟨(f115_filter_reader_number_ok 5 r76_0.2.1 r76_0.2.2.1 r76_0.2.2.2 r77_0 cr77_0), trivial⟩
                · refine At.step hm ht ⟨[(1, .call [0] [] (f84_filter_reader_took_out r76_0))], [false], [], [0], [0]⟩ 17 ⟨[(0, oc (.ptr 0 0))], [], [(0, [.d (.sl .str r76_0.2.1), zi r76_0.2.2.1, .d (.bool r76_0.2.2.2)])], 1⟩ [FnOK Tryd.prog 84 (f84_filter_reader_took_in (⟨#[100, 115, 116]⟩ : ByteArray) r74_0.2.1 r74_0.2.2.1 r74_0.2.2.2) (f84_filter_reader_took_out r76_0), r76_0.1 = false] (by kernel_rfl) ⟨(f84_filter_reader_took_ok (⟨#[100, 115, 116]⟩ : ByteArray) r74_0.2.1 r74_0.2.2.1 r74_0.2.2.2 r76_0 cr76_0), b76_e0, trivial⟩ ?_
                  obtain ⟨r78_0, cr78_0, h⟩ := bindS h
                  rcases iteS h with ⟨b78_e0, h⟩ | ⟨b78_e0, h⟩
                  · refine At.step hm ht ⟨[(1, .call [0] [] (f84_filter_reader_took_out r78_0))], [true], [], [0], [0]⟩ 18 ⟨[(0, oc (.ptr 0 0))], [], [(0, [.d (.sl .str r78_0.2.1), zi r78_0.2.2.1, .d (.bool r78_0.2.2.2)])], 1⟩ [FnOK Tryd.prog 84 (f84_filter_reader_took_in (⟨#[104, 97, 115]⟩ : ByteArray) r76_0.2.1 r76_0.2.2.1 r76_0.2.2.2) (f84_filter_reader_took_out r78_0), r78_0.1 = true] (by kernel_rfl) ⟨(f84_filter_reader_took_ok (⟨#[104, 97, 115]⟩ : ByteArray) r76_0.2.1 r76_0.2.2.1 r76_0.2.2.2 r78_0 cr78_0), b78_e0, trivial⟩ ?_
                    obtain ⟨r79_0, cr79_0, h⟩ := bindS h
                    have h := Option.some.inj h
                    subst h
                    exact At.fin hm ht ⟨[(1, .call [0] [] (f115_filter_reader_number_out r79_0))], [], [], [2], [0]⟩ [FnOK Tryd.prog 115 (f115_filter_reader_number_in 6 r78_0.2.1 r78_0.2.2.1 r78_0.2.2.2) (f115_filter_reader_number_out r79_0)] (by kernel_rfl) ⟨(f115_filter_reader_number_ok 6 r78_0.2.1 r78_0.2.2.1 r78_0.2.2.2 r79_0 cr79_0), trivial⟩
                  · refine At.step hm ht ⟨[(1, .call [0] [] (f84_filter_reader_took_out r78_0))], [false], [], [0], [0]⟩ 19 ⟨[(0, oc (.ptr 0 0))], [], [(0, [.d (.sl .str r78_0.2.1), zi r78_0.2.2.1, .d (.bool r78_0.2.2.2)])], 1⟩ [FnOK Tryd.prog 84 (f84_filter_reader_took_in (⟨#[104, 97, 115]⟩ : ByteArray) r76_0.2.1 r76_0.2.2.1 r76_0.2.2.2) (f84_filter_reader_took_out r78_0), r78_0.1 = false] (by kernel_rfl) ⟨(f84_filter_reader_took_ok (⟨#[104, 97, 115]⟩ : ByteArray) r76_0.2.1 r76_0.2.2.1 r76_0.2.2.2 r78_0 cr78_0), b78_e0, trivial⟩ ?_
                    obtain ⟨r80_0, cr80_0, h⟩ := bindS h
                    rcases iteS h with ⟨b80_e0, h⟩ | ⟨b80_e0, h⟩
                    · refine At.step hm ht ⟨[(1, .call [0] [] (f84_filter_reader_took_out r80_0))], [true], [], [0], [0]⟩ 20 ⟨[(0, oc (.ptr 0 0))], [], [(0, [.d (.sl .str r80_0.2.1), zi r80_0.2.2.1, .d (.bool r80_0.2.2.2)])], 1⟩ [FnOK Tryd.prog 84 (f84_filter_reader_took_in (⟨#[108, 111, 110, 103]⟩ : ByteArray) r78_0.2.1 r78_0.2.2.1 r78_0.2.2.2) (f84_filter_reader_took_out r80_0), r80_0.1 = true] (by kernel_rfl) ⟨(f84_filter_reader_took_ok (⟨#[108, 111, 110, 103]⟩ : ByteArray) r78_0.2.1 r78_0.2.2.1 r78_0.2.2.2 r80_0 cr80_0), b80_e0, trivial⟩ ?_
                      obtain ⟨r81_0, cr81_0, h⟩ := bindS h
                      have h := Option.some.inj h
                      subst h
                      exact At.fin hm ht ⟨[(1, .call [0] [] (f115_filter_reader_number_out r81_0))], [], [], [2], [0]⟩ [FnOK Tryd.prog 115 (f115_filter_reader_number_in 7 r80_0.2.1 r80_0.2.2.1 r80_0.2.2.2) (f115_filter_reader_number_out r81_0)] (by kernel_rfl) ⟨(f115_filter_reader_number_ok 7 r80_0.2.1 r80_0.2.2.1 r80_0.2.2.2 r81_0 cr81_0), trivial⟩
                    · refine At.step hm ht ⟨[(1, .call [0] [] (f84_filter_reader_took_out r80_0))], [false], [], [0], [0]⟩ 21 ⟨[(0, oc (.ptr 0 0))], [], [(0, [.d (.sl .str r80_0.2.1), zi r80_0.2.2.1, .d (.bool r80_0.2.2.2)])], 1⟩ [FnOK Tryd.prog 84 (f84_filter_reader_took_in (⟨#[108, 111, 110, 103]⟩ : ByteArray) r78_0.2.1 r78_0.2.2.1 r78_0.2.2.2) (f84_filter_reader_took_out r80_0), r80_0.1 = false] (by kernel_rfl) ⟨(f84_filter_reader_took_ok (⟨#[108, 111, 110, 103]⟩ : ByteArray) r78_0.2.1 r78_0.2.2.1 r78_0.2.2.2 r80_0 cr80_0), b80_e0, trivial⟩ ?_
                      refine At.step hm ht ⟨[], [], [], [], [0]⟩ 22 ⟨[], [], [(0, [.d (.sl .str r80_0.2.1), zi r80_0.2.2.1, .d (.bool true)])], 1⟩ [2 + 1 ≤ 3] (by kernel_rfl) ⟨(by decide), trivial⟩ ?_
                      have h := Option.some.inj h
                      subst h
                      exact At.fin hm ht ⟨[], [], [.nilpt 2], [2], [0]⟩ [] (by kernel_rfl) trivial
/-! (*brougham/filter.reader).one -/
def f99_filter_reader_one_in (r__0 : List ByteArray) (r__1 : Int) (r__2 : Bool) : Inn := ⟨[.c (.ptr 0 0)], [], [(0, [.d (.sl .str r__0), zi r__1, .d (.bool r__2)])], 1⟩
def f99_filter_reader_one_out (r : PT × List ByteArray × Int × Bool) : Out := ⟨oc (.d (.pt r.1)), [], [(0, [.d (.sl .str r.2.1), zi r.2.2.1, .d (.bool r.2.2.2)])], 1⟩
/-! (*brougham/filter.reader).or -/
def f54_filter_reader_or_in (r__0 : List ByteArray) (r__1 : Int) (r__2 : Bool) : Inn := ⟨[.c (.ptr 0 0)], [], [(0, [.d (.sl .str r__0), zi r__1, .d (.bool r__2)])], 1⟩
def f54_filter_reader_or_out (r : PT × List ByteArray × Int × Bool) : Out := ⟨oc (.d (.pt r.1)), [], [(0, [.d (.sl .str r.2.1), zi r.2.2.1, .d (.bool r.2.2.2)])], 1⟩
/-! (*brougham/filter.reader).one -/
def f99_filter_reader_one_D5_in (b0_0 : List ByteArray) (b0_1 : Int) (b0_2 : Bool) : Inn := ⟨[.c (.ptr 1 0)], [], [(0, [.d (.sl .str b0_0), zi b0_1, .d (.bool b0_2)]), (1, [.ptr 0 0])], 2⟩
def f99_filter_reader_one_D5_out (r : PT × List ByteArray × Int × Bool) : Out := ⟨oc (.d (.pt r.1)), [], [(0, [.d (.sl .str r.2.1), zi r.2.2.1, .d (.bool r.2.2.2)]), (1, [.ptr 0 0])], 2⟩
def f99_filter_reader_one_D5 (rc_f54_filter_reader_or : (List ByteArray) → Int → Bool → Option (PT × List ByteArray × Int × Bool)) (rc_f99_filter_reader_one : (List ByteArray) → Int → Bool → Option (PT × List ByteArray × Int × Bool)) (n : Nat) (b0_0 : List ByteArray) (b0_1 : Int) (b0_2 : Bool) : Option (PT × List ByteArray × Int × Bool) :=
  (f84_filter_reader_took (⟨#[110, 111, 116]⟩ : ByteArray) b0_0 b0_1 b0_2).bind fun r144_0 =>
  if r144_0.1 = true then
    (rc_f99_filter_reader_one r144_0.2.1 r144_0.2.2.1 r144_0.2.2.2).bind fun r145_0 =>
    some ((PT.node 8 0 r145_0.1 PT.nil), r145_0.2.1, r145_0.2.2.1, r145_0.2.2.2)
  else
    (f84_filter_reader_took (⟨#[40]⟩ : ByteArray) r144_0.2.1 r144_0.2.2.1 r144_0.2.2.2).bind fun r146_0 =>
    if r146_0.1 = true then
      (rc_f54_filter_reader_or r146_0.2.1 r146_0.2.2.1 r146_0.2.2.2).bind fun r147_0 =>
      (f84_filter_reader_took (⟨#[41]⟩ : ByteArray) r147_0.2.1 r147_0.2.2.1 r147_0.2.2.2).bind fun r148_0 =>
      if (!r148_0.1) = true then
        some (r147_0.1, r148_0.2.1, r148_0.2.2.1, true)
      else
        some (r147_0.1, r148_0.2.1, r148_0.2.2.1, r148_0.2.2.2)
    else
      (f112_filter_reader_plain r146_0.2.1 r146_0.2.2.1 r146_0.2.2.2).bind fun r151_0 =>
      some (r151_0.1, r151_0.2.1, r151_0.2.2.1, r151_0.2.2.2)
theorem f99_filter_reader_one_D5_ok (rc_f54_filter_reader_or : (List ByteArray) → Int → Bool → Option (PT × List ByteArray × Int × Bool)) (hrc_f54_filter_reader_or : ∀ (r__0 : List ByteArray) (r__1 : Int) (r__2 : Bool) (r : PT × List ByteArray × Int × Bool) (h : rc_f54_filter_reader_or r__0 r__1 r__2 = some r), FnOK Tryd.prog 54 (f54_filter_reader_or_in r__0 r__1 r__2) (f54_filter_reader_or_out r)) (rc_f99_filter_reader_one : (List ByteArray) → Int → Bool → Option (PT × List ByteArray × Int × Bool)) (hrc_f99_filter_reader_one : ∀ (r__0 : List ByteArray) (r__1 : Int) (r__2 : Bool) (r : PT × List ByteArray × Int × Bool) (h : rc_f99_filter_reader_one r__0 r__1 r__2 = some r), FnOK Tryd.prog 99 (f99_filter_reader_one_in r__0 r__1 r__2) (f99_filter_reader_one_out r)) (n : Nat) (b0_0 : List ByteArray) (b0_1 : Int) (b0_2 : Bool) (r : PT × List ByteArray × Int × Bool) (h : f99_filter_reader_one_D5 rc_f54_filter_reader_or rc_f99_filter_reader_one n b0_0 b0_1 b0_2 = some r) : At Tryd.prog Tryd.f99 2 6 ⟨[(1, oc (.ptr 1 0))], [], [(0, [.d (.sl .str b0_0), zi b0_1, .d (.bool b0_2)]), (1, [.ptr 0 0])], 2⟩ (f99_filter_reader_one_D5_out r) := by
  unfold f99_filter_reader_one_D5 at h
  obtain ⟨r144_0, cr144_0, h⟩ := bindS h
  rcases iteS h with ⟨b144_e0, h⟩ | ⟨b144_e0, h⟩
  · refine At.step hm ht ⟨[(1, .call [0] [] (f84_filter_reader_took_out r144_0))], [true], [], [1], [0, 1]⟩ 7 ⟨[(1, oc (.ptr 1 0))], [], [(0, [.d (.sl .str r144_0.2.1), zi r144_0.2.2.1, .d (.bool r144_0.2.2.2)]), (1, [.ptr 0 0])], 2⟩ [FnOK Tryd.prog 84 (f84_filter_reader_took_in (⟨#[110, 111, 116]⟩ : ByteArray) b0_0 b0_1 b0_2) (f84_filter_reader_took_out r144_0), r144_0.1 = true] (by kernel_rfl) ⟨(f84_filter_reader_took_ok (⟨#[110, 111, 116]⟩ : ByteArray) b0_0 b0_1 b0_2 r144_0 cr144_0), b144_e0, trivial⟩ ?_
    obtain ⟨r145_0, cr145_0, h⟩ := bindS h
    have h := Option.some.inj h
    subst h
    exact At.fin hm ht ⟨[(1, .call [0] [] (f99_filter_reader_one_out r145_0))], [], [.tree 5], [2], [0, 1]⟩ [FnOK Tryd.prog 99 (f99_filter_reader_one_in r144_0.2.1 r144_0.2.2.1 r144_0.2.2.2) (f99_filter_reader_one_out r145_0)] (by kernel_rfl) ⟨(hrc_f99_filter_reader_one r144_0.2.1 r144_0.2.2.1 r144_0.2.2.2 r145_0 cr145_0), trivial⟩
  · refine At.step hm ht ⟨[(1, .call [0] [] (f84_filter_reader_took_out r144_0))], [false], [], [1], [0, 1]⟩ 8 ⟨[(1, oc (.ptr 1 0))], [], [(0, [.d (.sl .str r144_0.2.1), zi r144_0.2.2.1, .d (.bool r144_0.2.2.2)]), (1, [.ptr 0 0])], 2⟩ [FnOK Tryd.prog 84 (f84_filter_reader_took_in (⟨#[110, 111, 116]⟩ : ByteArray) b0_0 b0_1 b0_2) (f84_filter_reader_took_out r144_0), r144_0.1 = false] (by kernel_rfl) ⟨(f84_filter_reader_took_ok (⟨#[110, 111, 116]⟩ : ByteArray) b0_0 b0_1 b0_2 r144_0 cr144_0), b144_e0, trivial⟩ ?_
    obtain ⟨r146_0, cr146_0, h⟩ := bindS h
    rcases iteS h with ⟨b146_e0, h⟩ | ⟨b146_e0, h⟩
    · refine At.step hm ht ⟨[(1, .call [0] [] (f84_filter_reader_took_out r146_0))], [true], [], [1], [0, 1]⟩ 9 ⟨[(1, oc (.ptr 1 0))], [], [(0, [.d (.sl .str r146_0.2.1), zi r146_0.2.2.1, .d (.bool r146_0.2.2.2)]), (1, [.ptr 0 0])], 2⟩ [FnOK Tryd.prog 84 (f84_filter_reader_took_in (⟨#[40]⟩ : ByteArray) r144_0.2.1 r144_0.2.2.1 r144_0.2.2.2) (f84_filter_reader_took_out r146_0), r146_0.1 = true] (by kernel_rfl) ⟨(f84_filter_reader_took_ok (⟨#[40]⟩ : ByteArray) r144_0.2.1 r144_0.2.2.1 r144_0.2.2.2 r146_0 cr146_0), b146_e0, trivial⟩ ?_
      obtain ⟨r147_0, cr147_0, h⟩ := bindS h
      refine At.step hm ht ⟨[(1, .call [0] [] (f54_filter_reader_or_out r147_0))], [], [], [1, 3], [0, 1]⟩ 10 ⟨[(1, oc (.ptr 1 0)), (3, oc (.d (.pt r147_0.1)))], [], [(0, [.d (.sl .str r147_0.2.1), zi r147_0.2.2.1, .d (.bool r147_0.2.2.2)]), (1, [.ptr 0 0])], 2⟩ [FnOK Tryd.prog 54 (f54_filter_reader_or_in r146_0.2.1 r146_0.2.2.1 r146_0.2.2.2) (f54_filter_reader_or_out r147_0)] (by kernel_rfl) ⟨(hrc_f54_filter_reader_or r146_0.2.1 r146_0.2.2.1 r146_0.2.2.2 r147_0 cr147_0), trivial⟩ ?_
      obtain ⟨r148_0, cr148_0, h⟩ := bindS h
      rcases iteS h with ⟨b148_4, h⟩ | ⟨b148_4, h⟩
      · refine At.step hm ht ⟨[(2, .call [0] [] (f84_filter_reader_took_out r148_0)), (4, .b true)], [], [], [3], [0, 1]⟩ 11 ⟨[(3, oc (.d (.pt r147_0.1)))], [], [(0, [.d (.sl .str r148_0.2.1), zi r148_0.2.2.1, .d (.bool true)]), (1, [.ptr 0 0])], 2⟩ [FnOK Tryd.prog 84 (f84_filter_reader_took_in (⟨#[41]⟩ : ByteArray) r147_0.2.1 r147_0.2.2.1 r147_0.2.2.2) (f84_filter_reader_took_out r148_0), (!r148_0.1) = true, 2 + 1 ≤ 3] (by kernel_rfl) ⟨(f84_filter_reader_took_ok (⟨#[41]⟩ : ByteArray) r147_0.2.1 r147_0.2.2.1 r147_0.2.2.2 r148_0 cr148_0), b148_4, (by decide), trivial⟩ ?_
        have h := Option.some.inj h
        subst h
        exact At.fin hm ht ⟨[], [], [], [2], [0, 1]⟩ [] (by kernel_rfl) trivial
      · refine At.step hm ht ⟨[(2, .call [0] [] (f84_filter_reader_took_out r148_0)), (4, .b false)], [], [], [3], [0, 1]⟩ 11 ⟨[(3, oc (.d (.pt r147_0.1)))], [], [(0, [.d (.sl .str r148_0.2.1), zi r148_0.2.2.1, .d (.bool r148_0.2.2.2)]), (1, [.ptr 0 0])], 2⟩ [FnOK Tryd.prog 84 (f84_filter_reader_took_in (⟨#[41]⟩ : ByteArray) r147_0.2.1 r147_0.2.2.1 r147_0.2.2.2) (f84_filter_reader_took_out r148_0), (!r148_0.1) = false, 2 + 1 ≤ 3] (by kernel_rfl) ⟨(f84_filter_reader_took_ok (⟨#[41]⟩ : ByteArray) r147_0.2.1 r147_0.2.2.1 r147_0.2.2.2 r148_0 cr148_0), b148_4, (by decide), trivial⟩ ?_
        have h := Option.some.inj h
        subst h
        exact At.fin hm ht ⟨[], [], [], [2], [0, 1]⟩ [] (by kernel_rfl) trivial
    · refine At.step hm ht ⟨[(1, .call [0] [] (f84_filter_reader_took_out r146_0))], [false], [], [1], [0, 1]⟩ 12 ⟨[(1, oc (.ptr 1 0))], [], [(0, [.d (.sl .str r146_0.2.1), zi r146_0.2.2.1, .d (.bool r146_0.2.2.2)]), (1, [.ptr 0 0])], 2⟩ [FnOK Tryd.prog 84 (f84_filter_reader_took_in (⟨#[40]⟩ : ByteArray) r144_0.2.1 r144_0.2.2.1 r144_0.2.2.2) (f84_filter_reader_took_out r146_0), r146_0.1 = false] (by kernel_rfl) ⟨(f84_filter_reader_took_ok (⟨#[40]⟩ : ByteArray) r144_0.2.1 r144_0.2.2.1 r144_0.2.2.2 r146_0 cr146_0), b146_e0, trivial⟩ ?_
      obtain ⟨r151_0, cr151_0, h⟩ := bindS h
      have h := Option.some.inj h
      subst h
      exact At.fin hm ht ⟨[(1, .call [0] [] (f112_filter_reader_plain_out r151_0))], [], [], [2], [0, 1]⟩ [FnOK Tryd.prog 112 (f112_filter_reader_plain_in r146_0.2.1 r146_0.2.2.1 r146_0.2.2.2) (f112_filter_reader_plain_out r151_0)] (by kernel_rfl) ⟨(f112_filter_reader_plain_ok r146_0.2.1 r146_0.2.2.1 r146_0.2.2.2 r151_0 cr151_0), trivial⟩
def f99_filter_reader_one (rc_f54_filter_reader_or : (List ByteArray) → Int → Bool → Option (PT × List ByteArray × Int × Bool)) : Nat → (List ByteArray) → Int → Bool → Option (PT × List ByteArray × Int × Bool)
  | 0, _, _, _ => none
  | n + 1, r__0, r__1, r__2 =>
    if (decide (((IntKind.wrap .i64 (r__1 - 1)) : Int) < 0)) = true then
      some (PT.nil, r__0, (IntKind.wrap .i64 (r__1 - 1)), true)
    else
      (f99_filter_reader_one_D5 rc_f54_filter_reader_or (f99_filter_reader_one rc_f54_filter_reader_or n) n r__0 (IntKind.wrap .i64 (r__1 - 1)) r__2).bind fun r152 =>
      some (r152.1, r152.2.1, (IntKind.wrap .i64 (r152.2.2.1 + 1)), r152.2.2.2)
theorem f99_filter_reader_one_ok (rc_f54_filter_reader_or : (List ByteArray) → Int → Bool → Option (PT × List ByteArray × Int × Bool)) (hrc_f54_filter_reader_or : ∀ (r__0 : List ByteArray) (r__1 : Int) (r__2 : Bool) (r : PT × List ByteArray × Int × Bool) (h : rc_f54_filter_reader_or r__0 r__1 r__2 = some r), FnOK Tryd.prog 54 (f54_filter_reader_or_in r__0 r__1 r__2) (f54_filter_reader_or_out r)) (n : Nat) : ∀ (r__0 : List ByteArray) (r__1 : Int) (r__2 : Bool) (r : PT × List ByteArray × Int × Bool) (h : f99_filter_reader_one rc_f54_filter_reader_or n r__0 r__1 r__2 = some r), FnOK Tryd.prog 99 (f99_filter_reader_one_in r__0 r__1 r__2) (f99_filter_reader_one_out r) := by
  induction n with
  | zero => intro r__0 r__1 r__2 r h; rw [f99_filter_reader_one] at h; cases h
  | succ n ih =>
    intro r__0 r__1 r__2 r h
    rw [f99_filter_reader_one] at h
    refine At0.fn (r := 0) Tryd.func99 rfl (by kernel_rfl) rfl rfl (by kernel_rfl) ?_
    show At0 Tryd.prog Tryd.f99 1 0 ⟨[(0, oc (.ptr 0 0))], [], [(0, [.d (.sl .str r__0), zi r__1, .d (.bool r__2)])], 1⟩ _
    refine At0.step hm ht ⟨[], [], [.nilpt 2], [1], [0, 1]⟩ 1 ⟨[(1, oc (.ptr 1 0))], [], [(0, [.d (.sl .str r__0), zi r__1, .d (.bool r__2)]), (1, [.ptr 0 0])], 2⟩ [] (by kernel_rfl) trivial ?_
    refine At0.step hm ht ⟨[], [], [], [1], [0, 1]⟩ 2 ⟨[(1, oc (.ptr 1 0))], [], [(0, [.d (.sl .str r__0), zi (IntKind.wrap .i64 (r__1 - 1)), .d (.bool r__2)]), (1, [.ptr 0 0])], 2⟩ [1 + 1 ≤ 3] (by kernel_rfl) ⟨(by decide), trivial⟩ ?_
    rcases iteS h with ⟨b141_e0, h⟩ | ⟨b141_e0, h⟩
    · refine At0.step hm ht ⟨[], [true], [], [1], [0, 1]⟩ 3 ⟨[(1, oc (.ptr 1 0))], [], [(0, [.d (.sl .str r__0), zi (IntKind.wrap .i64 (r__1 - 1)), .d (.bool r__2)]), (1, [.ptr 0 0])], 2⟩ [(decide (((IntKind.wrap .i64 (r__1 - 1)) : Int) < 0)) = true] (by kernel_rfl) ⟨b141_e0, trivial⟩ ?_
      refine At0.step hm ht ⟨[], [], [], [], [0]⟩ 4 ⟨[], [], [(0, [.d (.sl .str r__0), zi (IntKind.wrap .i64 (r__1 - 1)), .d (.bool true)])], 1⟩ [2 + 1 ≤ 3] (by kernel_rfl) ⟨(by decide), trivial⟩ ?_
      have h := Option.some.inj h
      subst h
      exact At.zero (At.fin hm ht ⟨[], [], [.nilpt 2], [2], [0]⟩ [] (by kernel_rfl) trivial)
    · refine At0.step hm ht ⟨[], [false], [], [1], [0, 1]⟩ 5 ⟨[(1, oc (.ptr 1 0))], [], [(0, [.d (.sl .str r__0), zi (IntKind.wrap .i64 (r__1 - 1)), .d (.bool r__2)]), (1, [.ptr 0 0])], 2⟩ [(decide (((IntKind.wrap .i64 (r__1 - 1)) : Int) < 0)) = false] (by kernel_rfl) ⟨b141_e0, trivial⟩ ?_
      obtain ⟨r152, cr152, h⟩ := bindS h
      have h := Option.some.inj h
      subst h
      have q := Go.Proofs.YtakamchmiakicaaDoorDfr.dfr rfl rfl rfl (f99_filter_reader_one_D5_ok rc_f54_filter_reader_or hrc_f54_filter_reader_or (f99_filter_reader_one rc_f54_filter_reader_or n) ih n r__0 (IntKind.wrap .i64 (r__1 - 1)) r__2 r152 cr152)
      exact q
/-! (*brougham/filter.reader).and -/
def f83_filter_reader_and_in (r__0 : List ByteArray) (r__1 : Int) (r__2 : Bool) : Inn := ⟨[.c (.ptr 0 0)], [], [(0, [.d (.sl .str r__0), zi r__1, .d (.bool r__2)])], 1⟩
def f83_filter_reader_and_out (r : PT × List ByteArray × Int × Bool) : Out := ⟨oc (.d (.pt r.1)), [], [(0, [.d (.sl .str r.2.1), zi r.2.2.1, .d (.bool r.2.2.2)])], 1⟩
def f83_filter_reader_and_L2 (rc_f54_filter_reader_or : (List ByteArray) → Int → Bool → Option (PT × List ByteArray × Int × Bool)) : Nat → PT → (List ByteArray) → Int → Bool → Option (PT × List ByteArray × Int × Bool)
  | 0, _, _, _, _ => none
  | n + 1, f, r__0, r__1, r__2 =>
    if (!r__2) = true then
      (f84_filter_reader_took (⟨#[97, 110, 100]⟩ : ByteArray) r__0 r__1 r__2).bind fun r153_0 =>
      if r153_0.1 = true then
        (f99_filter_reader_one rc_f54_filter_reader_or n r153_0.2.1 r153_0.2.2.1 r153_0.2.2.2).bind fun r154_0 =>
        f83_filter_reader_and_L2 rc_f54_filter_reader_or n (PT.node 9 0 f r154_0.1) r154_0.2.1 r154_0.2.2.1 r154_0.2.2.2
      else
        some ((f, r153_0.2.1, r153_0.2.2.1, r153_0.2.2.2))
    else
      some ((f, r__0, r__1, r__2))
def f83_filter_reader_and_L2_k (e : PT × List ByteArray × Int × Bool) (o : Out) : Prop := At Tryd.prog Tryd.f83 1 4 ⟨[(3, oc (.d (.pt e.1)))], [], [(0, [.d (.sl .str e.2.1), zi e.2.2.1, .d (.bool e.2.2.2)])], 1⟩ o
theorem f83_filter_reader_and_L2_ok (rc_f54_filter_reader_or : (List ByteArray) → Int → Bool → Option (PT × List ByteArray × Int × Bool)) (hrc_f54_filter_reader_or : ∀ (r__0 : List ByteArray) (r__1 : Int) (r__2 : Bool) (r : PT × List ByteArray × Int × Bool) (h : rc_f54_filter_reader_or r__0 r__1 r__2 = some r), FnOK Tryd.prog 54 (f54_filter_reader_or_in r__0 r__1 r__2) (f54_filter_reader_or_out r)) (n : Nat) : ∀ (f : PT) (r__0 : List ByteArray) (r__1 : Int) (r__2 : Bool) (w : PT × List ByteArray × Int × Bool) (h : f83_filter_reader_and_L2 rc_f54_filter_reader_or n f r__0 r__1 r__2 = some w) (o : Out) (hk : f83_filter_reader_and_L2_k w o), At Tryd.prog Tryd.f83 1 2 ⟨[(0, oc (.ptr 0 0)), (3, oc (.d (.pt f)))], [], [(0, [.d (.sl .str r__0), zi r__1, .d (.bool r__2)])], 1⟩ o := by
  induction n with
  | zero => intro f r__0 r__1 r__2 w h; rw [f83_filter_reader_and_L2] at h; cases h
  | succ n ih =>
    intro f r__0 r__1 r__2 w h o hk
    rw [f83_filter_reader_and_L2] at h
    rcases iteS h with ⟨b153_5, h⟩ | ⟨b153_5, h⟩
    · obtain ⟨r153_0, cr153_0, h⟩ := bindS h
      rcases iteS h with ⟨b153_e0, h⟩ | ⟨b153_e0, h⟩
      · refine At.step hm ht ⟨[(5, .b true), (7, .call [0] [] (f84_filter_reader_took_out r153_0))], [true], [], [0, 3], [0]⟩ 3 ⟨[(0, oc (.ptr 0 0)), (3, oc (.d (.pt f)))], [], [(0, [.d (.sl .str r153_0.2.1), zi r153_0.2.2.1, .d (.bool r153_0.2.2.2)])], 1⟩ [(!r__2) = true, FnOK Tryd.prog 84 (f84_filter_reader_took_in (⟨#[97, 110, 100]⟩ : ByteArray) r__0 r__1 r__2) (f84_filter_reader_took_out r153_0), r153_0.1 = true] (by kernel_rfl) ⟨b153_5, (f84_filter_reader_took_ok (⟨#[97, 110, 100]⟩ : ByteArray) r__0 r__1 r__2 r153_0 cr153_0), b153_e0, trivial⟩ ?_
        obtain ⟨r154_0, cr154_0, h⟩ := bindS h
        refine At.step hm ht ⟨[(2, .call [0] [] (f99_filter_reader_one_out r154_0))], [], [.tree 5], [0, 3], [0]⟩ 2 ⟨[(0, oc (.ptr 0 0)), (3, oc (.d (.pt (PT.node 9 0 f r154_0.1))))], [], [(0, [.d (.sl .str r154_0.2.1), zi r154_0.2.2.1, .d (.bool r154_0.2.2.2)])], 1⟩ [FnOK Tryd.prog 99 (f99_filter_reader_one_in r153_0.2.1 r153_0.2.2.1 r153_0.2.2.2) (f99_filter_reader_one_out r154_0)] (by kernel_rfl) ⟨(f99_filter_reader_one_ok rc_f54_filter_reader_or hrc_f54_filter_reader_or n r153_0.2.1 r153_0.2.2.1 r153_0.2.2.2 r154_0 cr154_0), trivial⟩ ?_
        exact ih (PT.node 9 0 f r154_0.1) r154_0.2.1 r154_0.2.2.1 r154_0.2.2.2 w h o hk
      · refine At.step hm ht ⟨[(5, .b true), (7, .call [0] [] (f84_filter_reader_took_out r153_0))], [false], [], [3], [0]⟩ 4 ⟨[(3, oc (.d (.pt f)))], [], [(0, [.d (.sl .str r153_0.2.1), zi r153_0.2.2.1, .d (.bool r153_0.2.2.2)])], 1⟩ [(!r__2) = true, FnOK Tryd.prog 84 (f84_filter_reader_took_in (⟨#[97, 110, 100]⟩ : ByteArray) r__0 r__1 r__2) (f84_filter_reader_took_out r153_0), r153_0.1 = false] (by kernel_rfl) ⟨b153_5, (f84_filter_reader_took_ok (⟨#[97, 110, 100]⟩ : ByteArray) r__0 r__1 r__2 r153_0 cr153_0), b153_e0, trivial⟩ ?_
        have h := Option.some.inj h
        subst h
        exact hk
    · refine At.step hm ht ⟨[(5, .b false)], [false], [], [3], [0]⟩ 4 ⟨[(3, oc (.d (.pt f)))], [], [(0, [.d (.sl .str r__0), zi r__1, .d (.bool r__2)])], 1⟩ [(!r__2) = false, false = false] (by kernel_rfl) ⟨b153_5, rfl, trivial⟩ ?_
      have h := Option.some.inj h
      subst h
      exact hk
def f83_filter_reader_and (rc_f54_filter_reader_or : (List ByteArray) → Int → Bool → Option (PT × List ByteArray × Int × Bool)) (n : Nat) (r__0 : List ByteArray) (r__1 : Int) (r__2 : Bool) : Option (PT × List ByteArray × Int × Bool) :=
  (f99_filter_reader_one rc_f54_filter_reader_or n r__0 r__1 r__2).bind fun r138_0 =>
  (f83_filter_reader_and_L2 rc_f54_filter_reader_or n r138_0.1 r138_0.2.1 r138_0.2.2.1 r138_0.2.2.2).bind fun w155 =>
  some (w155.1, w155.2.1, w155.2.2.1, w155.2.2.2)
theorem f83_filter_reader_and_ok (rc_f54_filter_reader_or : (List ByteArray) → Int → Bool → Option (PT × List ByteArray × Int × Bool)) (hrc_f54_filter_reader_or : ∀ (r__0 : List ByteArray) (r__1 : Int) (r__2 : Bool) (r : PT × List ByteArray × Int × Bool) (h : rc_f54_filter_reader_or r__0 r__1 r__2 = some r), FnOK Tryd.prog 54 (f54_filter_reader_or_in r__0 r__1 r__2) (f54_filter_reader_or_out r)) (n : Nat) (r__0 : List ByteArray) (r__1 : Int) (r__2 : Bool) (r : PT × List ByteArray × Int × Bool) (h : f83_filter_reader_and rc_f54_filter_reader_or n r__0 r__1 r__2 = some r) : FnOK Tryd.prog 83 (f83_filter_reader_and_in r__0 r__1 r__2) (f83_filter_reader_and_out r) := by
  unfold f83_filter_reader_and at h
  refine At.fn (r := 0) Tryd.func83 rfl (by kernel_rfl) rfl rfl (by kernel_rfl) ?_
  show At Tryd.prog Tryd.f83 1 0 ⟨[(0, oc (.ptr 0 0))], [], [(0, [.d (.sl .str r__0), zi r__1, .d (.bool r__2)])], 1⟩ _
  refine At.step hm ht ⟨[], [], [.nilpt 2], [0], [0]⟩ 1 ⟨[(0, oc (.ptr 0 0))], [], [(0, [.d (.sl .str r__0), zi r__1, .d (.bool r__2)])], 1⟩ [] (by kernel_rfl) trivial ?_
  obtain ⟨r138_0, cr138_0, h⟩ := bindS h
  refine At.step hm ht ⟨[(1, .call [0] [] (f99_filter_reader_one_out r138_0))], [], [], [0, 3], [0]⟩ 2 ⟨[(0, oc (.ptr 0 0)), (3, oc (.d (.pt r138_0.1)))], [], [(0, [.d (.sl .str r138_0.2.1), zi r138_0.2.2.1, .d (.bool r138_0.2.2.2)])], 1⟩ [FnOK Tryd.prog 99 (f99_filter_reader_one_in r__0 r__1 r__2) (f99_filter_reader_one_out r138_0)] (by kernel_rfl) ⟨(f99_filter_reader_one_ok rc_f54_filter_reader_or hrc_f54_filter_reader_or n r__0 r__1 r__2 r138_0 cr138_0), trivial⟩ ?_
  obtain ⟨w155, cw155, h⟩ := bindS h
  refine f83_filter_reader_and_L2_ok rc_f54_filter_reader_or hrc_f54_filter_reader_or n r138_0.1 r138_0.2.1 r138_0.2.2.1 r138_0.2.2.2 w155 cw155 _ ?_
  show At Tryd.prog Tryd.f83 1 4 ⟨[(3, oc (.d (.pt w155.1)))], [], [(0, [.d (.sl .str w155.2.1), zi w155.2.2.1, .d (.bool w155.2.2.2)])], 1⟩ _
  have h := Option.some.inj h
  subst h
  exact At.fin hm ht ⟨[], [], [], [2], [0]⟩ [] (by kernel_rfl) trivial
def f54_filter_reader_or_L2 (rc_f54_filter_reader_or : (List ByteArray) → Int → Bool → Option (PT × List ByteArray × Int × Bool)) : Nat → PT → (List ByteArray) → Int → Bool → Option (PT × List ByteArray × Int × Bool)
  | 0, _, _, _, _ => none
  | n + 1, f, r__0, r__1, r__2 =>
    if (!r__2) = true then
      (f84_filter_reader_took (⟨#[111, 114]⟩ : ByteArray) r__0 r__1 r__2).bind fun r158_0 =>
      if r158_0.1 = true then
        (f83_filter_reader_and rc_f54_filter_reader_or n r158_0.2.1 r158_0.2.2.1 r158_0.2.2.2).bind fun r159_0 =>
        f54_filter_reader_or_L2 rc_f54_filter_reader_or n (PT.node 10 0 f r159_0.1) r159_0.2.1 r159_0.2.2.1 r159_0.2.2.2
      else
        some ((f, r158_0.2.1, r158_0.2.2.1, r158_0.2.2.2))
    else
      some ((f, r__0, r__1, r__2))
def f54_filter_reader_or_L2_k (e : PT × List ByteArray × Int × Bool) (o : Out) : Prop := At Tryd.prog Tryd.f54 1 4 ⟨[(3, oc (.d (.pt e.1)))], [], [(0, [.d (.sl .str e.2.1), zi e.2.2.1, .d (.bool e.2.2.2)])], 1⟩ o
theorem f54_filter_reader_or_L2_ok (rc_f54_filter_reader_or : (List ByteArray) → Int → Bool → Option (PT × List ByteArray × Int × Bool)) (hrc_f54_filter_reader_or : ∀ (r__0 : List ByteArray) (r__1 : Int) (r__2 : Bool) (r : PT × List ByteArray × Int × Bool) (h : rc_f54_filter_reader_or r__0 r__1 r__2 = some r), FnOK Tryd.prog 54 (f54_filter_reader_or_in r__0 r__1 r__2) (f54_filter_reader_or_out r)) (n : Nat) : ∀ (f : PT) (r__0 : List ByteArray) (r__1 : Int) (r__2 : Bool) (w : PT × List ByteArray × Int × Bool) (h : f54_filter_reader_or_L2 rc_f54_filter_reader_or n f r__0 r__1 r__2 = some w) (o : Out) (hk : f54_filter_reader_or_L2_k w o), At Tryd.prog Tryd.f54 1 2 ⟨[(0, oc (.ptr 0 0)), (3, oc (.d (.pt f)))], [], [(0, [.d (.sl .str r__0), zi r__1, .d (.bool r__2)])], 1⟩ o := by
  induction n with
  | zero => intro f r__0 r__1 r__2 w h; rw [f54_filter_reader_or_L2] at h; cases h
  | succ n ih =>
    intro f r__0 r__1 r__2 w h o hk
    rw [f54_filter_reader_or_L2] at h
    rcases iteS h with ⟨b158_5, h⟩ | ⟨b158_5, h⟩
    · obtain ⟨r158_0, cr158_0, h⟩ := bindS h
      rcases iteS h with ⟨b158_e0, h⟩ | ⟨b158_e0, h⟩
      · refine At.step hm ht ⟨[(5, .b true), (7, .call [0] [] (f84_filter_reader_took_out r158_0))], [true], [], [0, 3], [0]⟩ 3 ⟨[(0, oc (.ptr 0 0)), (3, oc (.d (.pt f)))], [], [(0, [.d (.sl .str r158_0.2.1), zi r158_0.2.2.1, .d (.bool r158_0.2.2.2)])], 1⟩ [(!r__2) = true, FnOK Tryd.prog 84 (f84_filter_reader_took_in (⟨#[111, 114]⟩ : ByteArray) r__0 r__1 r__2) (f84_filter_reader_took_out r158_0), r158_0.1 = true] (by kernel_rfl) ⟨b158_5, (f84_filter_reader_took_ok (⟨#[111, 114]⟩ : ByteArray) r__0 r__1 r__2 r158_0 cr158_0), b158_e0, trivial⟩ ?_
        obtain ⟨r159_0, cr159_0, h⟩ := bindS h
        refine At.step hm ht ⟨[(2, .call [0] [] (f83_filter_reader_and_out r159_0))], [], [.tree 5], [0, 3], [0]⟩ 2 ⟨[(0, oc (.ptr 0 0)), (3, oc (.d (.pt (PT.node 10 0 f r159_0.1))))], [], [(0, [.d (.sl .str r159_0.2.1), zi r159_0.2.2.1, .d (.bool r159_0.2.2.2)])], 1⟩ [FnOK Tryd.prog 83 (f83_filter_reader_and_in r158_0.2.1 r158_0.2.2.1 r158_0.2.2.2) (f83_filter_reader_and_out r159_0)] (by kernel_rfl) ⟨(f83_filter_reader_and_ok rc_f54_filter_reader_or hrc_f54_filter_reader_or n r158_0.2.1 r158_0.2.2.1 r158_0.2.2.2 r159_0 cr159_0), trivial⟩ ?_
        exact ih (PT.node 10 0 f r159_0.1) r159_0.2.1 r159_0.2.2.1 r159_0.2.2.2 w h o hk
      · refine At.step hm ht ⟨[(5, .b true), (7, .call [0] [] (f84_filter_reader_took_out r158_0))], [false], [], [3], [0]⟩ 4 ⟨[(3, oc (.d (.pt f)))], [], [(0, [.d (.sl .str r158_0.2.1), zi r158_0.2.2.1, .d (.bool r158_0.2.2.2)])], 1⟩ [(!r__2) = true, FnOK Tryd.prog 84 (f84_filter_reader_took_in (⟨#[111, 114]⟩ : ByteArray) r__0 r__1 r__2) (f84_filter_reader_took_out r158_0), r158_0.1 = false] (by kernel_rfl) ⟨b158_5, (f84_filter_reader_took_ok (⟨#[111, 114]⟩ : ByteArray) r__0 r__1 r__2 r158_0 cr158_0), b158_e0, trivial⟩ ?_
        have h := Option.some.inj h
        subst h
        exact hk
    · refine At.step hm ht ⟨[(5, .b false)], [false], [], [3], [0]⟩ 4 ⟨[(3, oc (.d (.pt f)))], [], [(0, [.d (.sl .str r__0), zi r__1, .d (.bool r__2)])], 1⟩ [(!r__2) = false, false = false] (by kernel_rfl) ⟨b158_5, rfl, trivial⟩ ?_
      have h := Option.some.inj h
      subst h
      exact hk
def f54_filter_reader_or : Nat → (List ByteArray) → Int → Bool → Option (PT × List ByteArray × Int × Bool)
  | 0, _, _, _ => none
  | n + 1, r__0, r__1, r__2 =>
    (f83_filter_reader_and (f54_filter_reader_or n) n r__0 r__1 r__2).bind fun r136_0 =>
    (f54_filter_reader_or_L2 (f54_filter_reader_or n) n r136_0.1 r136_0.2.1 r136_0.2.2.1 r136_0.2.2.2).bind fun w160 =>
    some (w160.1, w160.2.1, w160.2.2.1, w160.2.2.2)
theorem f54_filter_reader_or_ok (n : Nat) : ∀ (r__0 : List ByteArray) (r__1 : Int) (r__2 : Bool) (r : PT × List ByteArray × Int × Bool) (h : f54_filter_reader_or n r__0 r__1 r__2 = some r), FnOK Tryd.prog 54 (f54_filter_reader_or_in r__0 r__1 r__2) (f54_filter_reader_or_out r) := by
  induction n with
  | zero => intro r__0 r__1 r__2 r h; rw [f54_filter_reader_or] at h; cases h
  | succ n ih =>
    intro r__0 r__1 r__2 r h
    rw [f54_filter_reader_or] at h
    refine At.fn (r := 0) Tryd.func54 rfl (by kernel_rfl) rfl rfl (by kernel_rfl) ?_
    show At Tryd.prog Tryd.f54 1 0 ⟨[(0, oc (.ptr 0 0))], [], [(0, [.d (.sl .str r__0), zi r__1, .d (.bool r__2)])], 1⟩ _
    refine At.step hm ht ⟨[], [], [.nilpt 2], [0], [0]⟩ 1 ⟨[(0, oc (.ptr 0 0))], [], [(0, [.d (.sl .str r__0), zi r__1, .d (.bool r__2)])], 1⟩ [] (by kernel_rfl) trivial ?_
    obtain ⟨r136_0, cr136_0, h⟩ := bindS h
    refine At.step hm ht ⟨[(1, .call [0] [] (f83_filter_reader_and_out r136_0))], [], [], [0, 3], [0]⟩ 2 ⟨[(0, oc (.ptr 0 0)), (3, oc (.d (.pt r136_0.1)))], [], [(0, [.d (.sl .str r136_0.2.1), zi r136_0.2.2.1, .d (.bool r136_0.2.2.2)])], 1⟩ [FnOK Tryd.prog 83 (f83_filter_reader_and_in r__0 r__1 r__2) (f83_filter_reader_and_out r136_0)] (by kernel_rfl) ⟨(f83_filter_reader_and_ok (f54_filter_reader_or n) ih n r__0 r__1 r__2 r136_0 cr136_0), trivial⟩ ?_
    obtain ⟨w160, cw160, h⟩ := bindS h
    refine f54_filter_reader_or_L2_ok (f54_filter_reader_or n) ih n r136_0.1 r136_0.2.1 r136_0.2.2.1 r136_0.2.2.2 w160 cw160 _ ?_
    show At Tryd.prog Tryd.f54 1 4 ⟨[(3, oc (.d (.pt w160.1)))], [], [(0, [.d (.sl .str w160.2.1), zi w160.2.2.1, .d (.bool w160.2.2.2)])], 1⟩ _
    have h := Option.some.inj h
    subst h
    exact At.fin hm ht ⟨[], [], [], [2], [0]⟩ [] (by kernel_rfl) trivial
/-! brougham/filter.right -/
def f59_filter_right_in (f : PT) (left : Int) : Inn := ⟨[.c (.d (.pt f)), .c (zi left)], [], [], 0⟩
def f59_filter_right_out (r : Bool) : Out := ⟨oc (.d (.bool r)), [], [], 0⟩
def f59_filter_right_L13 (rc_f59_filter_right : PT → Int → Option (Bool)) : Nat → PT → Int → Int → Option (Bool)
  | 0, _, _, _ => none
  | n + 1, f, left, t14 =>
    if ((t14 : Int) == 6) = true then
      if PT.isNil f = false then
      if (decide (((PT.num f) : Int) ≥ 1)) = true then
        if PT.isNil f = false then
        if (decide (((PT.num f) : Int) ≤ 255)) = true then
          if PT.isNil f = false then
          if (PT.isNil (PT.fst f)) = true then
            if PT.isNil f = false then
            some ((PT.isNil (PT.snd f)))
            else none
          else
            some (false)
          else none
        else
          some (false)
        else none
      else
        some (false)
      else none
    else
      if ((t14 : Int) == 7) = true then
        if PT.isNil f = false then
        if (decide (((PT.num f) : Int) ≥ 0)) = true then
          if PT.isNil f = false then
          if (decide (((PT.num f) : Int) < 2147483648)) = true then
            if PT.isNil f = false then
            if (PT.isNil (PT.fst f)) = true then
              if PT.isNil f = false then
              some ((PT.isNil (PT.snd f)))
              else none
            else
              some (false)
            else none
          else
            some (false)
          else none
        else
          some (false)
        else none
      else
        if ((t14 : Int) == 8) = true then
          if PT.isNil f = false then
          if (((PT.num f) : Int) == 0) = true then
            if PT.isNil f = false then
            (rc_f59_filter_right (PT.fst f) (IntKind.wrap .i64 (left - 1))).bind fun r184_2 =>
            if r184_2 = true then
              if PT.isNil f = false then
              some ((PT.isNil (PT.snd f)))
              else none
            else
              some (false)
            else none
          else
            some (false)
          else none
        else
          if ((t14 : Int) == 9) = true then
            if ((t14 : Int) == 9) = true then
              if PT.isNil f = false then
              if (((PT.num f) : Int) == 0) = true then
                if PT.isNil f = false then
                (rc_f59_filter_right (PT.fst f) (IntKind.wrap .i64 (left - 1))).bind fun r186_2 =>
                if r186_2 = true then
                  if PT.isNil f = false then
                  (rc_f59_filter_right (PT.snd f) (IntKind.wrap .i64 (left - 1))).bind fun r186_4 =>
                  some (r186_4)
                  else none
                else
                  some (false)
                else none
              else
                some (false)
              else none
            else
              some (false)
          else
            if ((t14 : Int) == 10) = true then
              if PT.isNil f = false then
              if (((PT.num f) : Int) == 0) = true then
                if PT.isNil f = false then
                (rc_f59_filter_right (PT.fst f) (IntKind.wrap .i64 (left - 1))).bind fun r189_2 =>
                if r189_2 = true then
                  if PT.isNil f = false then
                  (rc_f59_filter_right (PT.snd f) (IntKind.wrap .i64 (left - 1))).bind fun r189_4 =>
                  some (r189_4)
                  else none
                else
                  some (false)
                else none
              else
                some (false)
              else none
            else
              some (false)
def f59_filter_right_L13_k (e : Bool) (o : Out) : Prop := o = f59_filter_right_out e
theorem f59_filter_right_L13_ok (rc_f59_filter_right : PT → Int → Option (Bool)) (hrc_f59_filter_right : ∀ (f : PT) (left : Int) (r : Bool) (h : rc_f59_filter_right f left = some r), FnOK Tryd.prog 59 (f59_filter_right_in f left) (f59_filter_right_out r)) (n : Nat) : ∀ (f : PT) (left : Int) (t14 : Int) (w : Bool) (h : f59_filter_right_L13 rc_f59_filter_right n f left t14 = some w) (o : Out) (hk : f59_filter_right_L13_k w o), At Tryd.prog Tryd.f59 0 13 ⟨[(0, oc (.d (.pt f))), (1, oc (zi left)), (14, oc (zi t14))], [], [], 0⟩ o := by
  induction n with
  | zero => intro f left t14 w h; rw [f59_filter_right_L13] at h; cases h
  | succ n ih =>
    intro f left t14 w h o hk
    rw [f59_filter_right_L13] at h
    rcases iteS h with ⟨b179_e0, h⟩ | ⟨b179_e0, h⟩
    · refine At.step hm ht ⟨[], [true], [], [0], []⟩ 14 ⟨[(0, oc (.d (.pt f)))], [], [], 0⟩ [((t14 : Int) == 6) = true] (by kernel_rfl) ⟨b179_e0, trivial⟩ ?_
      obtain ⟨g180_0, h⟩ := ifS h
      rcases iteS h with ⟨b180_5, h⟩ | ⟨b180_5, h⟩
      · obtain ⟨g180_1, h⟩ := ifS h
        rcases iteS h with ⟨b180_12, h⟩ | ⟨b180_12, h⟩
        · obtain ⟨g180_2, h⟩ := ifS h
          rcases iteS h with ⟨b180_19, h⟩ | ⟨b180_19, h⟩
          · obtain ⟨g180_3, h⟩ := ifS h
            have h := Option.some.inj h
            subst h
            have hk : o = f59_filter_right_out (PT.isNil (PT.snd f)) := hk
            subst hk
            exact At.fin hm ht ⟨[(5, .b true), (12, .b true), (19, .b true)], [], [], [4], []⟩ [PT.isNil f = false, (decide (((PT.num f) : Int) ≥ 1)) = true, PT.isNil f = false, (decide (((PT.num f) : Int) ≤ 255)) = true, PT.isNil f = false, (PT.isNil (PT.fst f)) = true, PT.isNil f = false] (by kernel_rfl) ⟨g180_0, b180_5, g180_1, b180_12, g180_2, b180_19, g180_3, trivial⟩
          · have h := Option.some.inj h
            subst h
            have hk : o = f59_filter_right_out false := hk
            subst hk
            exact At.fin hm ht ⟨[(5, .b true), (12, .b true), (19, .b false)], [], [], [4], []⟩ [PT.isNil f = false, (decide (((PT.num f) : Int) ≥ 1)) = true, PT.isNil f = false, (decide (((PT.num f) : Int) ≤ 255)) = true, PT.isNil f = false, (PT.isNil (PT.fst f)) = false] (by kernel_rfl) ⟨g180_0, b180_5, g180_1, b180_12, g180_2, b180_19, trivial⟩
        · have h := Option.some.inj h
          subst h
          have hk : o = f59_filter_right_out false := hk
          subst hk
          exact At.fin hm ht ⟨[(5, .b true), (12, .b false)], [], [], [4], []⟩ [PT.isNil f = false, (decide (((PT.num f) : Int) ≥ 1)) = true, PT.isNil f = false, (decide (((PT.num f) : Int) ≤ 255)) = false] (by kernel_rfl) ⟨g180_0, b180_5, g180_1, b180_12, trivial⟩
      · have h := Option.some.inj h
        subst h
        have hk : o = f59_filter_right_out false := hk
        subst hk
        exact At.fin hm ht ⟨[(5, .b false)], [], [], [4], []⟩ [PT.isNil f = false, (decide (((PT.num f) : Int) ≥ 1)) = false] (by kernel_rfl) ⟨g180_0, b180_5, trivial⟩
    · refine At.step hm ht ⟨[], [false], [], [0, 1, 14], []⟩ 15 ⟨[(0, oc (.d (.pt f))), (1, oc (zi left)), (14, oc (zi t14))], [], [], 0⟩ [((t14 : Int) == 6) = false] (by kernel_rfl) ⟨b179_e0, trivial⟩ ?_
      rcases iteS h with ⟨b181_e0, h⟩ | ⟨b181_e0, h⟩
      · refine At.step hm ht ⟨[], [true], [], [0], []⟩ 16 ⟨[(0, oc (.d (.pt f)))], [], [], 0⟩ [((t14 : Int) == 7) = true] (by kernel_rfl) ⟨b181_e0, trivial⟩ ?_
        obtain ⟨g182_0, h⟩ := ifS h
        rcases iteS h with ⟨b182_5, h⟩ | ⟨b182_5, h⟩
        · obtain ⟨g182_1, h⟩ := ifS h
          rcases iteS h with ⟨b182_12, h⟩ | ⟨b182_12, h⟩
          · obtain ⟨g182_2, h⟩ := ifS h
            rcases iteS h with ⟨b182_19, h⟩ | ⟨b182_19, h⟩
            · obtain ⟨g182_3, h⟩ := ifS h
              have h := Option.some.inj h
              subst h
              have hk : o = f59_filter_right_out (PT.isNil (PT.snd f)) := hk
              subst hk
              exact At.fin hm ht ⟨[(5, .b true), (12, .b true), (19, .b true)], [], [], [4], []⟩ [PT.isNil f = false, (decide (((PT.num f) : Int) ≥ 0)) = true, PT.isNil f = false, (decide (((PT.num f) : Int) < 2147483648)) = true, PT.isNil f = false, (PT.isNil (PT.fst f)) = true, PT.isNil f = false] (by kernel_rfl) ⟨g182_0, b182_5, g182_1, b182_12, g182_2, b182_19, g182_3, trivial⟩
            · have h := Option.some.inj h
              subst h
              have hk : o = f59_filter_right_out false := hk
              subst hk
              exact At.fin hm ht ⟨[(5, .b true), (12, .b true), (19, .b false)], [], [], [4], []⟩ [PT.isNil f = false, (decide (((PT.num f) : Int) ≥ 0)) = true, PT.isNil f = false, (decide (((PT.num f) : Int) < 2147483648)) = true, PT.isNil f = false, (PT.isNil (PT.fst f)) = false] (by kernel_rfl) ⟨g182_0, b182_5, g182_1, b182_12, g182_2, b182_19, trivial⟩
          · have h := Option.some.inj h
            subst h
            have hk : o = f59_filter_right_out false := hk
            subst hk
            exact At.fin hm ht ⟨[(5, .b true), (12, .b false)], [], [], [4], []⟩ [PT.isNil f = false, (decide (((PT.num f) : Int) ≥ 0)) = true, PT.isNil f = false, (decide (((PT.num f) : Int) < 2147483648)) = false] (by kernel_rfl) ⟨g182_0, b182_5, g182_1, b182_12, trivial⟩
        · have h := Option.some.inj h
          subst h
          have hk : o = f59_filter_right_out false := hk
          subst hk
          exact At.fin hm ht ⟨[(5, .b false)], [], [], [4], []⟩ [PT.isNil f = false, (decide (((PT.num f) : Int) ≥ 0)) = false] (by kernel_rfl) ⟨g182_0, b182_5, trivial⟩
      · refine At.step hm ht ⟨[], [false], [], [0, 1, 14], []⟩ 17 ⟨[(0, oc (.d (.pt f))), (1, oc (zi left)), (14, oc (zi t14))], [], [], 0⟩ [((t14 : Int) == 7) = false] (by kernel_rfl) ⟨b181_e0, trivial⟩ ?_
        rcases iteS h with ⟨b183_e0, h⟩ | ⟨b183_e0, h⟩
        · refine At.step hm ht ⟨[], [true], [], [0, 1], []⟩ 18 ⟨[(0, oc (.d (.pt f))), (1, oc (zi left))], [], [], 0⟩ [((t14 : Int) == 8) = true] (by kernel_rfl) ⟨b183_e0, trivial⟩ ?_
          obtain ⟨g184_0, h⟩ := ifS h
          rcases iteS h with ⟨b184_5, h⟩ | ⟨b184_5, h⟩
          · obtain ⟨g184_1, h⟩ := ifS h
            obtain ⟨r184_2, cr184_2, h⟩ := bindS h
            rcases iteS h with ⟨b184_14, h⟩ | ⟨b184_14, h⟩
            · obtain ⟨g184_3, h⟩ := ifS h
              have h := Option.some.inj h
              subst h
              have hk : o = f59_filter_right_out (PT.isNil (PT.snd f)) := hk
              subst hk
              exact At.fin hm ht ⟨[(5, .b true), (12, .call [] [] (f59_filter_right_out r184_2)), (14, .b true)], [], [], [4], []⟩ [PT.isNil f = false, (((PT.num f) : Int) == 0) = true, PT.isNil f = false, FnOK Tryd.prog 59 (f59_filter_right_in (PT.fst f) (IntKind.wrap .i64 (left - 1))) (f59_filter_right_out r184_2), r184_2 = true, PT.isNil f = false] (by kernel_rfl) ⟨g184_0, b184_5, g184_1, (hrc_f59_filter_right (PT.fst f) (IntKind.wrap .i64 (left - 1)) r184_2 cr184_2), b184_14, g184_3, trivial⟩
            · have h := Option.some.inj h
              subst h
              have hk : o = f59_filter_right_out false := hk
              subst hk
              exact At.fin hm ht ⟨[(5, .b true), (12, .call [] [] (f59_filter_right_out r184_2)), (14, .b false)], [], [], [4], []⟩ [PT.isNil f = false, (((PT.num f) : Int) == 0) = true, PT.isNil f = false, FnOK Tryd.prog 59 (f59_filter_right_in (PT.fst f) (IntKind.wrap .i64 (left - 1))) (f59_filter_right_out r184_2), r184_2 = false] (by kernel_rfl) ⟨g184_0, b184_5, g184_1, (hrc_f59_filter_right (PT.fst f) (IntKind.wrap .i64 (left - 1)) r184_2 cr184_2), b184_14, trivial⟩
          · have h := Option.some.inj h
            subst h
            have hk : o = f59_filter_right_out false := hk
            subst hk
            exact At.fin hm ht ⟨[(5, .b false)], [], [], [4], []⟩ [PT.isNil f = false, (((PT.num f) : Int) == 0) = false] (by kernel_rfl) ⟨g184_0, b184_5, trivial⟩
        · refine At.step hm ht ⟨[], [false], [], [0, 1, 14], []⟩ 19 ⟨[(0, oc (.d (.pt f))), (1, oc (zi left)), (14, oc (zi t14))], [], [], 0⟩ [((t14 : Int) == 8) = false] (by kernel_rfl) ⟨b183_e0, trivial⟩ ?_
          rcases iteS h with ⟨b185_e0, h⟩ | ⟨b185_e0, h⟩
          · rcases iteS h with ⟨b185_e1, h⟩ | ⟨b185_e1, h⟩
            · refine At.step hm ht ⟨[], [true, true], [], [0, 1], []⟩ 21 ⟨[(0, oc (.d (.pt f))), (1, oc (zi left))], [], [], 0⟩ [((t14 : Int) == 9) = true, ((t14 : Int) == 9) = true] (by kernel_rfl) ⟨b185_e0, b185_e1, trivial⟩ ?_
              obtain ⟨g186_0, h⟩ := ifS h
              rcases iteS h with ⟨b186_5, h⟩ | ⟨b186_5, h⟩
              · obtain ⟨g186_1, h⟩ := ifS h
                obtain ⟨r186_2, cr186_2, h⟩ := bindS h
                rcases iteS h with ⟨b186_14, h⟩ | ⟨b186_14, h⟩
                · obtain ⟨g186_3, h⟩ := ifS h
                  obtain ⟨r186_4, cr186_4, h⟩ := bindS h
                  have h := Option.some.inj h
                  subst h
                  have hk : o = f59_filter_right_out r186_4 := hk
                  subst hk
                  exact At.fin hm ht ⟨[(5, .b true), (12, .call [] [] (f59_filter_right_out r186_2)), (14, .b true), (21, .call [] [] (f59_filter_right_out r186_4))], [], [], [4], []⟩ [PT.isNil f = false, (((PT.num f) : Int) == 0) = true, PT.isNil f = false, FnOK Tryd.prog 59 (f59_filter_right_in (PT.fst f) (IntKind.wrap .i64 (left - 1))) (f59_filter_right_out r186_2), r186_2 = true, PT.isNil f = false, FnOK Tryd.prog 59 (f59_filter_right_in (PT.snd f) (IntKind.wrap .i64 (left - 1))) (f59_filter_right_out r186_4)] (by kernel_rfl) ⟨g186_0, b186_5, g186_1, (hrc_f59_filter_right (PT.fst f) (IntKind.wrap .i64 (left - 1)) r186_2 cr186_2), b186_14, g186_3, (hrc_f59_filter_right (PT.snd f) (IntKind.wrap .i64 (left - 1)) r186_4 cr186_4), trivial⟩
                · have h := Option.some.inj h
                  subst h
                  have hk : o = f59_filter_right_out false := hk
                  subst hk
                  exact At.fin hm ht ⟨[(5, .b true), (12, .call [] [] (f59_filter_right_out r186_2)), (14, .b false)], [], [], [4], []⟩ [PT.isNil f = false, (((PT.num f) : Int) == 0) = true, PT.isNil f = false, FnOK Tryd.prog 59 (f59_filter_right_in (PT.fst f) (IntKind.wrap .i64 (left - 1))) (f59_filter_right_out r186_2), r186_2 = false] (by kernel_rfl) ⟨g186_0, b186_5, g186_1, (hrc_f59_filter_right (PT.fst f) (IntKind.wrap .i64 (left - 1)) r186_2 cr186_2), b186_14, trivial⟩
              · have h := Option.some.inj h
                subst h
                have hk : o = f59_filter_right_out false := hk
                subst hk
                exact At.fin hm ht ⟨[(5, .b false)], [], [], [4], []⟩ [PT.isNil f = false, (((PT.num f) : Int) == 0) = false] (by kernel_rfl) ⟨g186_0, b186_5, trivial⟩
            · refine At.step hm ht ⟨[], [true, false], [], [], []⟩ 22 ⟨[], [], [], 0⟩ [((t14 : Int) == 9) = true, ((t14 : Int) == 9) = false] (by kernel_rfl) ⟨b185_e0, b185_e1, trivial⟩ ?_
              have h := Option.some.inj h
              subst h
              have hk : o = f59_filter_right_out false := hk
              subst hk
              exact At.fin hm ht ⟨[], [], [], [4], []⟩ [] (by kernel_rfl) trivial
          · refine At.step hm ht ⟨[], [false], [], [0, 1, 14], []⟩ 20 ⟨[(0, oc (.d (.pt f))), (1, oc (zi left)), (14, oc (zi t14))], [], [], 0⟩ [((t14 : Int) == 9) = false] (by kernel_rfl) ⟨b185_e0, trivial⟩ ?_
            rcases iteS h with ⟨b188_e0, h⟩ | ⟨b188_e0, h⟩
            · refine At.step hm ht ⟨[], [true], [], [0, 1], []⟩ 21 ⟨[(0, oc (.d (.pt f))), (1, oc (zi left))], [], [], 0⟩ [((t14 : Int) == 10) = true] (by kernel_rfl) ⟨b188_e0, trivial⟩ ?_
              obtain ⟨g189_0, h⟩ := ifS h
              rcases iteS h with ⟨b189_5, h⟩ | ⟨b189_5, h⟩
              · obtain ⟨g189_1, h⟩ := ifS h
                obtain ⟨r189_2, cr189_2, h⟩ := bindS h
                rcases iteS h with ⟨b189_14, h⟩ | ⟨b189_14, h⟩
                · obtain ⟨g189_3, h⟩ := ifS h
                  obtain ⟨r189_4, cr189_4, h⟩ := bindS h
                  have h := Option.some.inj h
                  subst h
                  have hk : o = f59_filter_right_out r189_4 := hk
                  subst hk
                  exact At.fin hm ht ⟨[(5, .b true), (12, .call [] [] (f59_filter_right_out r189_2)), (14, .b true), (21, .call [] [] (f59_filter_right_out r189_4))], [], [], [4], []⟩ [PT.isNil f = false, (((PT.num f) : Int) == 0) = true, PT.isNil f = false, FnOK Tryd.prog 59 (f59_filter_right_in (PT.fst f) (IntKind.wrap .i64 (left - 1))) (f59_filter_right_out r189_2), r189_2 = true, PT.isNil f = false, FnOK Tryd.prog 59 (f59_filter_right_in (PT.snd f) (IntKind.wrap .i64 (left - 1))) (f59_filter_right_out r189_4)] (by kernel_rfl) ⟨g189_0, b189_5, g189_1, (hrc_f59_filter_right (PT.fst f) (IntKind.wrap .i64 (left - 1)) r189_2 cr189_2), b189_14, g189_3, (hrc_f59_filter_right (PT.snd f) (IntKind.wrap .i64 (left - 1)) r189_4 cr189_4), trivial⟩
                · have h := Option.some.inj h
                  subst h
                  have hk : o = f59_filter_right_out false := hk
                  subst hk
                  exact At.fin hm ht ⟨[(5, .b true), (12, .call [] [] (f59_filter_right_out r189_2)), (14, .b false)], [], [], [4], []⟩ [PT.isNil f = false, (((PT.num f) : Int) == 0) = true, PT.isNil f = false, FnOK Tryd.prog 59 (f59_filter_right_in (PT.fst f) (IntKind.wrap .i64 (left - 1))) (f59_filter_right_out r189_2), r189_2 = false] (by kernel_rfl) ⟨g189_0, b189_5, g189_1, (hrc_f59_filter_right (PT.fst f) (IntKind.wrap .i64 (left - 1)) r189_2 cr189_2), b189_14, trivial⟩
              · have h := Option.some.inj h
                subst h
                have hk : o = f59_filter_right_out false := hk
                subst hk
                exact At.fin hm ht ⟨[(5, .b false)], [], [], [4], []⟩ [PT.isNil f = false, (((PT.num f) : Int) == 0) = false] (by kernel_rfl) ⟨g189_0, b189_5, trivial⟩
            · refine At.step hm ht ⟨[], [false], [], [], []⟩ 22 ⟨[], [], [], 0⟩ [((t14 : Int) == 10) = false] (by kernel_rfl) ⟨b188_e0, trivial⟩ ?_
              have h := Option.some.inj h
              subst h
              have hk : o = f59_filter_right_out false := hk
              subst hk
              exact At.fin hm ht ⟨[], [], [], [4], []⟩ [] (by kernel_rfl) trivial
def f59_filter_right_L7 (rc_f59_filter_right : PT → Int → Option (Bool)) : Nat → PT → Int → Int → Option (Bool)
  | 0, _, _, _ => none
  | n + 1, f, left, t14 =>
    if ((t14 : Int) == 2) = true then
      if PT.isNil f = false then
      if (((PT.num f) : Int) == 1) = true then
        if PT.isNil f = false then
        if (PT.isNil (PT.fst f)) = true then
          if PT.isNil f = false then
          some ((PT.isNil (PT.snd f)))
          else none
        else
          some (false)
        else none
      else
        if PT.isNil f = false then
        if (((PT.num f) : Int) == 2) = true then
          if PT.isNil f = false then
          if (PT.isNil (PT.fst f)) = true then
            if PT.isNil f = false then
            some ((PT.isNil (PT.snd f)))
            else none
          else
            some (false)
          else none
        else
          if PT.isNil f = false then
          if (((PT.num f) : Int) == 4) = true then
            if PT.isNil f = false then
            if (PT.isNil (PT.fst f)) = true then
              if PT.isNil f = false then
              some ((PT.isNil (PT.snd f)))
              else none
            else
              some (false)
            else none
          else
            some (false)
          else none
        else none
      else none
    else
      if ((t14 : Int) == 3) = true then
        if ((t14 : Int) == 3) = true then
          if PT.isNil f = false then
          if (decide (((PT.num f) : Int) ≥ 0)) = true then
            if PT.isNil f = false then
            if (decide (((PT.num f) : Int) ≤ 65535)) = true then
              if PT.isNil f = false then
              if (PT.isNil (PT.fst f)) = true then
                if PT.isNil f = false then
                some ((PT.isNil (PT.snd f)))
                else none
              else
                some (false)
              else none
            else
              some (false)
            else none
          else
            some (false)
          else none
        else
          (f59_filter_right_L13 rc_f59_filter_right n f left t14).bind fun w191 =>
          some (w191)
      else
        if ((t14 : Int) == 4) = true then
          if ((t14 : Int) == 4) = true then
            if PT.isNil f = false then
            if (decide (((PT.num f) : Int) ≥ 0)) = true then
              if PT.isNil f = false then
              if (decide (((PT.num f) : Int) ≤ 65535)) = true then
                if PT.isNil f = false then
                if (PT.isNil (PT.fst f)) = true then
                  if PT.isNil f = false then
                  some ((PT.isNil (PT.snd f)))
                  else none
                else
                  some (false)
                else none
              else
                some (false)
              else none
            else
              some (false)
            else none
          else
            (f59_filter_right_L13 rc_f59_filter_right n f left t14).bind fun w195 =>
            some (w195)
        else
          if ((t14 : Int) == 5) = true then
            if PT.isNil f = false then
            if (decide (((PT.num f) : Int) ≥ 0)) = true then
              if PT.isNil f = false then
              if (decide (((PT.num f) : Int) ≤ 65535)) = true then
                if PT.isNil f = false then
                if (PT.isNil (PT.fst f)) = true then
                  if PT.isNil f = false then
                  some ((PT.isNil (PT.snd f)))
                  else none
                else
                  some (false)
                else none
              else
                some (false)
              else none
            else
              some (false)
            else none
          else
            (f59_filter_right_L13 rc_f59_filter_right n f left t14).bind fun w199 =>
            some (w199)
def f59_filter_right_L7_k (e : Bool) (o : Out) : Prop := o = f59_filter_right_out e
theorem f59_filter_right_L7_ok (rc_f59_filter_right : PT → Int → Option (Bool)) (hrc_f59_filter_right : ∀ (f : PT) (left : Int) (r : Bool) (h : rc_f59_filter_right f left = some r), FnOK Tryd.prog 59 (f59_filter_right_in f left) (f59_filter_right_out r)) (n : Nat) : ∀ (f : PT) (left : Int) (t14 : Int) (w : Bool) (h : f59_filter_right_L7 rc_f59_filter_right n f left t14 = some w) (o : Out) (hk : f59_filter_right_L7_k w o), At Tryd.prog Tryd.f59 0 7 ⟨[(0, oc (.d (.pt f))), (1, oc (zi left)), (14, oc (zi t14))], [], [], 0⟩ o := by
  induction n with
  | zero => intro f left t14 w h; rw [f59_filter_right_L7] at h; cases h
  | succ n ih =>
    intro f left t14 w h o hk
    rw [f59_filter_right_L7] at h
    rcases iteS h with ⟨b175_e0, h⟩ | ⟨b175_e0, h⟩
    · refine At.step hm ht ⟨[], [true], [], [0], []⟩ 8 ⟨[(0, oc (.d (.pt f)))], [], [], 0⟩ [((t14 : Int) == 2) = true] (by kernel_rfl) ⟨b175_e0, trivial⟩ ?_
      obtain ⟨g176_0, h⟩ := ifS h
      rcases iteS h with ⟨b176_5, h⟩ | ⟨b176_5, h⟩
      · obtain ⟨g176_1, h⟩ := ifS h
        rcases iteS h with ⟨b176_26, h⟩ | ⟨b176_26, h⟩
        · obtain ⟨g176_2, h⟩ := ifS h
          have h := Option.some.inj h
          subst h
          have hk : o = f59_filter_right_out (PT.isNil (PT.snd f)) := hk
          subst hk
          exact At.fin hm ht ⟨[(5, .b true), (26, .b true)], [], [], [4], []⟩ [PT.isNil f = false, (((PT.num f) : Int) == 1) = true, PT.isNil f = false, (PT.isNil (PT.fst f)) = true, PT.isNil f = false] (by kernel_rfl) ⟨g176_0, b176_5, g176_1, b176_26, g176_2, trivial⟩
        · have h := Option.some.inj h
          subst h
          have hk : o = f59_filter_right_out false := hk
          subst hk
          exact At.fin hm ht ⟨[(5, .b true), (26, .b false)], [], [], [4], []⟩ [PT.isNil f = false, (((PT.num f) : Int) == 1) = true, PT.isNil f = false, (PT.isNil (PT.fst f)) = false] (by kernel_rfl) ⟨g176_0, b176_5, g176_1, b176_26, trivial⟩
      · obtain ⟨g176_1, h⟩ := ifS h
        rcases iteS h with ⟨b176_12, h⟩ | ⟨b176_12, h⟩
        · obtain ⟨g176_2, h⟩ := ifS h
          rcases iteS h with ⟨b176_26, h⟩ | ⟨b176_26, h⟩
          · obtain ⟨g176_3, h⟩ := ifS h
            have h := Option.some.inj h
            subst h
            have hk : o = f59_filter_right_out (PT.isNil (PT.snd f)) := hk
            subst hk
            exact At.fin hm ht ⟨[(5, .b false), (12, .b true), (26, .b true)], [], [], [4], []⟩ [PT.isNil f = false, (((PT.num f) : Int) == 1) = false, PT.isNil f = false, (((PT.num f) : Int) == 2) = true, PT.isNil f = false, (PT.isNil (PT.fst f)) = true, PT.isNil f = false] (by kernel_rfl) ⟨g176_0, b176_5, g176_1, b176_12, g176_2, b176_26, g176_3, trivial⟩
          · have h := Option.some.inj h
            subst h
            have hk : o = f59_filter_right_out false := hk
            subst hk
            exact At.fin hm ht ⟨[(5, .b false), (12, .b true), (26, .b false)], [], [], [4], []⟩ [PT.isNil f = false, (((PT.num f) : Int) == 1) = false, PT.isNil f = false, (((PT.num f) : Int) == 2) = true, PT.isNil f = false, (PT.isNil (PT.fst f)) = false] (by kernel_rfl) ⟨g176_0, b176_5, g176_1, b176_12, g176_2, b176_26, trivial⟩
        · obtain ⟨g176_2, h⟩ := ifS h
          rcases iteS h with ⟨b176_19, h⟩ | ⟨b176_19, h⟩
          · obtain ⟨g176_3, h⟩ := ifS h
            rcases iteS h with ⟨b176_26, h⟩ | ⟨b176_26, h⟩
            · obtain ⟨g176_4, h⟩ := ifS h
              have h := Option.some.inj h
              subst h
              have hk : o = f59_filter_right_out (PT.isNil (PT.snd f)) := hk
              subst hk
              exact At.fin hm ht ⟨[(5, .b false), (12, .b false), (19, .b true), (26, .b true)], [], [], [4], []⟩ [PT.isNil f = false, (((PT.num f) : Int) == 1) = false, PT.isNil f = false, (((PT.num f) : Int) == 2) = false, PT.isNil f = false, (((PT.num f) : Int) == 4) = true, PT.isNil f = false, (PT.isNil (PT.fst f)) = true, PT.isNil f = false] (by kernel_rfl) ⟨g176_0, b176_5, g176_1, b176_12, g176_2, b176_19, g176_3, b176_26, g176_4, trivial⟩
            · have h := Option.some.inj h
              subst h
              have hk : o = f59_filter_right_out false := hk
              subst hk
              exact At.fin hm ht ⟨[(5, .b false), (12, .b false), (19, .b true), (26, .b false)], [], [], [4], []⟩ [PT.isNil f = false, (((PT.num f) : Int) == 1) = false, PT.isNil f = false, (((PT.num f) : Int) == 2) = false, PT.isNil f = false, (((PT.num f) : Int) == 4) = true, PT.isNil f = false, (PT.isNil (PT.fst f)) = false] (by kernel_rfl) ⟨g176_0, b176_5, g176_1, b176_12, g176_2, b176_19, g176_3, b176_26, trivial⟩
          · have h := Option.some.inj h
            subst h
            have hk : o = f59_filter_right_out false := hk
            subst hk
            exact At.fin hm ht ⟨[(5, .b false), (12, .b false), (19, .b false)], [], [], [4], []⟩ [PT.isNil f = false, (((PT.num f) : Int) == 1) = false, PT.isNil f = false, (((PT.num f) : Int) == 2) = false, PT.isNil f = false, (((PT.num f) : Int) == 4) = false] (by kernel_rfl) ⟨g176_0, b176_5, g176_1, b176_12, g176_2, b176_19, trivial⟩
    · refine At.step hm ht ⟨[], [false], [], [0, 1, 14], []⟩ 9 ⟨[(0, oc (.d (.pt f))), (1, oc (zi left)), (14, oc (zi t14))], [], [], 0⟩ [((t14 : Int) == 2) = false] (by kernel_rfl) ⟨b175_e0, trivial⟩ ?_
      rcases iteS h with ⟨b177_e0, h⟩ | ⟨b177_e0, h⟩
      · rcases iteS h with ⟨b177_e1, h⟩ | ⟨b177_e1, h⟩
        · refine At.step hm ht ⟨[], [true, true], [], [0], []⟩ 12 ⟨[(0, oc (.d (.pt f)))], [], [], 0⟩ [((t14 : Int) == 3) = true, ((t14 : Int) == 3) = true] (by kernel_rfl) ⟨b177_e0, b177_e1, trivial⟩ ?_
          obtain ⟨g178_0, h⟩ := ifS h
          rcases iteS h with ⟨b178_5, h⟩ | ⟨b178_5, h⟩
          · obtain ⟨g178_1, h⟩ := ifS h
            rcases iteS h with ⟨b178_12, h⟩ | ⟨b178_12, h⟩
            · obtain ⟨g178_2, h⟩ := ifS h
              rcases iteS h with ⟨b178_19, h⟩ | ⟨b178_19, h⟩
              · obtain ⟨g178_3, h⟩ := ifS h
                have h := Option.some.inj h
                subst h
                have hk : o = f59_filter_right_out (PT.isNil (PT.snd f)) := hk
                subst hk
                exact At.fin hm ht ⟨[(5, .b true), (12, .b true), (19, .b true)], [], [], [4], []⟩ [PT.isNil f = false, (decide (((PT.num f) : Int) ≥ 0)) = true, PT.isNil f = false, (decide (((PT.num f) : Int) ≤ 65535)) = true, PT.isNil f = false, (PT.isNil (PT.fst f)) = true, PT.isNil f = false] (by kernel_rfl) ⟨g178_0, b178_5, g178_1, b178_12, g178_2, b178_19, g178_3, trivial⟩
              · have h := Option.some.inj h
                subst h
                have hk : o = f59_filter_right_out false := hk
                subst hk
                exact At.fin hm ht ⟨[(5, .b true), (12, .b true), (19, .b false)], [], [], [4], []⟩ [PT.isNil f = false, (decide (((PT.num f) : Int) ≥ 0)) = true, PT.isNil f = false, (decide (((PT.num f) : Int) ≤ 65535)) = true, PT.isNil f = false, (PT.isNil (PT.fst f)) = false] (by kernel_rfl) ⟨g178_0, b178_5, g178_1, b178_12, g178_2, b178_19, trivial⟩
            · have h := Option.some.inj h
              subst h
              have hk : o = f59_filter_right_out false := hk
              subst hk
              exact At.fin hm ht ⟨[(5, .b true), (12, .b false)], [], [], [4], []⟩ [PT.isNil f = false, (decide (((PT.num f) : Int) ≥ 0)) = true, PT.isNil f = false, (decide (((PT.num f) : Int) ≤ 65535)) = false] (by kernel_rfl) ⟨g178_0, b178_5, g178_1, b178_12, trivial⟩
          · have h := Option.some.inj h
            subst h
            have hk : o = f59_filter_right_out false := hk
            subst hk
            exact At.fin hm ht ⟨[(5, .b false)], [], [], [4], []⟩ [PT.isNil f = false, (decide (((PT.num f) : Int) ≥ 0)) = false] (by kernel_rfl) ⟨g178_0, b178_5, trivial⟩
        · refine At.step hm ht ⟨[], [true, false], [], [0, 1, 14], []⟩ 13 ⟨[(0, oc (.d (.pt f))), (1, oc (zi left)), (14, oc (zi t14))], [], [], 0⟩ [((t14 : Int) == 3) = true, ((t14 : Int) == 3) = false] (by kernel_rfl) ⟨b177_e0, b177_e1, trivial⟩ ?_
          obtain ⟨w191, cw191, h⟩ := bindS h
          refine f59_filter_right_L13_ok rc_f59_filter_right hrc_f59_filter_right n f left t14 w191 cw191 _ ?_
          have h := Option.some.inj h
          subst h
          exact hk
      · refine At.step hm ht ⟨[], [false], [], [0, 1, 14], []⟩ 10 ⟨[(0, oc (.d (.pt f))), (1, oc (zi left)), (14, oc (zi t14))], [], [], 0⟩ [((t14 : Int) == 3) = false] (by kernel_rfl) ⟨b177_e0, trivial⟩ ?_
        rcases iteS h with ⟨b193_e0, h⟩ | ⟨b193_e0, h⟩
        · rcases iteS h with ⟨b193_e1, h⟩ | ⟨b193_e1, h⟩
          · refine At.step hm ht ⟨[], [true, true], [], [0], []⟩ 12 ⟨[(0, oc (.d (.pt f)))], [], [], 0⟩ [((t14 : Int) == 4) = true, ((t14 : Int) == 4) = true] (by kernel_rfl) ⟨b193_e0, b193_e1, trivial⟩ ?_
            obtain ⟨g194_0, h⟩ := ifS h
            rcases iteS h with ⟨b194_5, h⟩ | ⟨b194_5, h⟩
            · obtain ⟨g194_1, h⟩ := ifS h
              rcases iteS h with ⟨b194_12, h⟩ | ⟨b194_12, h⟩
              · obtain ⟨g194_2, h⟩ := ifS h
                rcases iteS h with ⟨b194_19, h⟩ | ⟨b194_19, h⟩
                · obtain ⟨g194_3, h⟩ := ifS h
                  have h := Option.some.inj h
                  subst h
                  have hk : o = f59_filter_right_out (PT.isNil (PT.snd f)) := hk
                  subst hk
                  exact At.fin hm ht ⟨[(5, .b true), (12, .b true), (19, .b true)], [], [], [4], []⟩ [PT.isNil f = false, (decide (((PT.num f) : Int) ≥ 0)) = true, PT.isNil f = false, (decide (((PT.num f) : Int) ≤ 65535)) = true, PT.isNil f = false, (PT.isNil (PT.fst f)) = true, PT.isNil f = false] (by kernel_rfl) ⟨g194_0, b194_5, g194_1, b194_12, g194_2, b194_19, g194_3, trivial⟩
                · have h := Option.some.inj h
                  subst h
                  have hk : o = f59_filter_right_out false := hk
                  subst hk
                  exact At.fin hm ht ⟨[(5, .b true), (12, .b true), (19, .b false)], [], [], [4], []⟩ [PT.isNil f = false, (decide (((PT.num f) : Int) ≥ 0)) = true, PT.isNil f = false, (decide (((PT.num f) : Int) ≤ 65535)) = true, PT.isNil f = false, (PT.isNil (PT.fst f)) = false] (by kernel_rfl) ⟨g194_0, b194_5, g194_1, b194_12, g194_2, b194_19, trivial⟩
              · have h := Option.some.inj h
                subst h
                have hk : o = f59_filter_right_out false := hk
                subst hk
                exact At.fin hm ht ⟨[(5, .b true), (12, .b false)], [], [], [4], []⟩ [PT.isNil f = false, (decide (((PT.num f) : Int) ≥ 0)) = true, PT.isNil f = false, (decide (((PT.num f) : Int) ≤ 65535)) = false] (by kernel_rfl) ⟨g194_0, b194_5, g194_1, b194_12, trivial⟩
            · have h := Option.some.inj h
              subst h
              have hk : o = f59_filter_right_out false := hk
              subst hk
              exact At.fin hm ht ⟨[(5, .b false)], [], [], [4], []⟩ [PT.isNil f = false, (decide (((PT.num f) : Int) ≥ 0)) = false] (by kernel_rfl) ⟨g194_0, b194_5, trivial⟩
          · refine At.step hm ht ⟨[], [true, false], [], [0, 1, 14], []⟩ 13 ⟨[(0, oc (.d (.pt f))), (1, oc (zi left)), (14, oc (zi t14))], [], [], 0⟩ [((t14 : Int) == 4) = true, ((t14 : Int) == 4) = false] (by kernel_rfl) ⟨b193_e0, b193_e1, trivial⟩ ?_
            obtain ⟨w195, cw195, h⟩ := bindS h
            refine f59_filter_right_L13_ok rc_f59_filter_right hrc_f59_filter_right n f left t14 w195 cw195 _ ?_
            have h := Option.some.inj h
            subst h
            exact hk
        · refine At.step hm ht ⟨[], [false], [], [0, 1, 14], []⟩ 11 ⟨[(0, oc (.d (.pt f))), (1, oc (zi left)), (14, oc (zi t14))], [], [], 0⟩ [((t14 : Int) == 4) = false] (by kernel_rfl) ⟨b193_e0, trivial⟩ ?_
          rcases iteS h with ⟨b197_e0, h⟩ | ⟨b197_e0, h⟩
          · refine At.step hm ht ⟨[], [true], [], [0], []⟩ 12 ⟨[(0, oc (.d (.pt f)))], [], [], 0⟩ [((t14 : Int) == 5) = true] (by kernel_rfl) ⟨b197_e0, trivial⟩ ?_
            obtain ⟨g198_0, h⟩ := ifS h
            rcases iteS h with ⟨b198_5, h⟩ | ⟨b198_5, h⟩
            · obtain ⟨g198_1, h⟩ := ifS h
              rcases iteS h with ⟨b198_12, h⟩ | ⟨b198_12, h⟩
              · obtain ⟨g198_2, h⟩ := ifS h
                rcases iteS h with ⟨b198_19, h⟩ | ⟨b198_19, h⟩
                · obtain ⟨g198_3, h⟩ := ifS h
                  have h := Option.some.inj h
                  subst h
                  have hk : o = f59_filter_right_out (PT.isNil (PT.snd f)) := hk
                  subst hk
                  exact At.fin hm ht ⟨[(5, .b true), (12, .b true), (19, .b true)], [], [], [4], []⟩ [PT.isNil f = false, (decide (((PT.num f) : Int) ≥ 0)) = true, PT.isNil f = false, (decide (((PT.num f) : Int) ≤ 65535)) = true, PT.isNil f = false, (PT.isNil (PT.fst f)) = true, PT.isNil f = false] (by kernel_rfl) ⟨g198_0, b198_5, g198_1, b198_12, g198_2, b198_19, g198_3, trivial⟩
                · have h := Option.some.inj h
                  subst h
                  have hk : o = f59_filter_right_out false := hk
                  subst hk
                  exact At.fin hm ht ⟨[(5, .b true), (12, .b true), (19, .b false)], [], [], [4], []⟩ [PT.isNil f = false, (decide (((PT.num f) : Int) ≥ 0)) = true, PT.isNil f = false, (decide (((PT.num f) : Int) ≤ 65535)) = true, PT.isNil f = false, (PT.isNil (PT.fst f)) = false] (by kernel_rfl) ⟨g198_0, b198_5, g198_1, b198_12, g198_2, b198_19, trivial⟩
              · have h := Option.some.inj h
                subst h
                have hk : o = f59_filter_right_out false := hk
                subst hk
                exact At.fin hm ht ⟨[(5, .b true), (12, .b false)], [], [], [4], []⟩ [PT.isNil f = false, (decide (((PT.num f) : Int) ≥ 0)) = true, PT.isNil f = false, (decide (((PT.num f) : Int) ≤ 65535)) = false] (by kernel_rfl) ⟨g198_0, b198_5, g198_1, b198_12, trivial⟩
            · have h := Option.some.inj h
              subst h
              have hk : o = f59_filter_right_out false := hk
              subst hk
              exact At.fin hm ht ⟨[(5, .b false)], [], [], [4], []⟩ [PT.isNil f = false, (decide (((PT.num f) : Int) ≥ 0)) = false] (by kernel_rfl) ⟨g198_0, b198_5, trivial⟩
          · refine At.step hm ht ⟨[], [false], [], [0, 1, 14], []⟩ 13 ⟨[(0, oc (.d (.pt f))), (1, oc (zi left)), (14, oc (zi t14))], [], [], 0⟩ [((t14 : Int) == 5) = false] (by kernel_rfl) ⟨b197_e0, trivial⟩ ?_
            obtain ⟨w199, cw199, h⟩ := bindS h
            refine f59_filter_right_L13_ok rc_f59_filter_right hrc_f59_filter_right n f left t14 w199 cw199 _ ?_
            have h := Option.some.inj h
            subst h
            exact hk
def f59_filter_right : Nat → PT → Int → Option (Bool)
  | 0, _, _ => none
  | n + 1, f, left =>
    if (PT.isNil f) = true then
      some false
    else
      if ((left : Int) == 0) = true then
        some false
      else
        if PT.isNil f = false then
        if (((PT.op f) : Int) == 1) = true then
          if (((PT.op f) : Int) == 1) = true then
            if PT.isNil f = false then
            if (((PT.num f) : Int) == 0) = true then
              if PT.isNil f = false then
              if (PT.isNil (PT.fst f)) = true then
                if PT.isNil f = false then
                some (PT.isNil (PT.snd f))
                else none
              else
                some false
              else none
            else
              some false
            else none
          else
            (f59_filter_right_L7 (f59_filter_right n) n f left (PT.op f)).bind fun w201 =>
            some w201
        else
          if (((PT.op f) : Int) == 11) = true then
            if PT.isNil f = false then
            if (((PT.num f) : Int) == 0) = true then
              if PT.isNil f = false then
              if (PT.isNil (PT.fst f)) = true then
                if PT.isNil f = false then
                some (PT.isNil (PT.snd f))
                else none
              else
                some false
              else none
            else
              some false
            else none
          else
            (f59_filter_right_L7 (f59_filter_right n) n f left (PT.op f)).bind fun w205 =>
            some w205
        else none
theorem f59_filter_right_ok (n : Nat) : ∀ (f : PT) (left : Int) (r : Bool) (h : f59_filter_right n f left = some r), FnOK Tryd.prog 59 (f59_filter_right_in f left) (f59_filter_right_out r) := by
  induction n with
  | zero => intro f left r h; rw [f59_filter_right] at h; cases h
  | succ n ih =>
    intro f left r h
    rw [f59_filter_right] at h
    refine At.fn (r := 0) Tryd.func59 rfl (by kernel_rfl) rfl rfl (by kernel_rfl) ?_
    show At Tryd.prog Tryd.f59 0 0 ⟨[(0, oc (.d (.pt f))), (1, oc (zi left))], [], [], 0⟩ _
    refine At.step hm ht ⟨[], [], [], [0, 1], []⟩ 1 ⟨[(0, oc (.d (.pt f))), (1, oc (zi left))], [], [], 0⟩ [] (by kernel_rfl) trivial ?_
    rcases iteS h with ⟨b169_2, h⟩ | ⟨b169_2, h⟩
    · refine At.step hm ht ⟨[(2, .b true)], [true], [], [], []⟩ 2 ⟨[], [], [], 0⟩ [(PT.isNil f) = true, true = true] (by kernel_rfl) ⟨b169_2, rfl, trivial⟩ ?_
      have h := Option.some.inj h
      subst h
      exact At.fin hm ht ⟨[], [], [], [4], []⟩ [] (by kernel_rfl) trivial
    · rcases iteS h with ⟨b169_e0, h⟩ | ⟨b169_e0, h⟩
      · refine At.step hm ht ⟨[(2, .b false)], [true], [], [], []⟩ 2 ⟨[], [], [], 0⟩ [(PT.isNil f) = false, ((left : Int) == 0) = true] (by kernel_rfl) ⟨b169_2, b169_e0, trivial⟩ ?_
        have h := Option.some.inj h
        subst h
        exact At.fin hm ht ⟨[], [], [], [4], []⟩ [] (by kernel_rfl) trivial
      · refine At.step hm ht ⟨[(2, .b false)], [false], [], [0, 1], []⟩ 3 ⟨[(0, oc (.d (.pt f))), (1, oc (zi left))], [], [], 0⟩ [(PT.isNil f) = false, ((left : Int) == 0) = false] (by kernel_rfl) ⟨b169_2, b169_e0, trivial⟩ ?_
        obtain ⟨g172_0, h⟩ := ifS h
        refine At.step hm ht ⟨[], [], [], [0, 1, 14], []⟩ 4 ⟨[(0, oc (.d (.pt f))), (1, oc (zi left)), (14, oc (zi (PT.op f)))], [], [], 0⟩ [PT.isNil f = false] (by kernel_rfl) ⟨g172_0, trivial⟩ ?_
        rcases iteS h with ⟨b173_e0, h⟩ | ⟨b173_e0, h⟩
        · rcases iteS h with ⟨b173_e1, h⟩ | ⟨b173_e1, h⟩
          · refine At.step hm ht ⟨[], [true, true], [], [0], []⟩ 6 ⟨[(0, oc (.d (.pt f)))], [], [], 0⟩ [(((PT.op f) : Int) == 1) = true, (((PT.op f) : Int) == 1) = true] (by kernel_rfl) ⟨b173_e0, b173_e1, trivial⟩ ?_
            obtain ⟨g174_0, h⟩ := ifS h
            rcases iteS h with ⟨b174_5, h⟩ | ⟨b174_5, h⟩
            · obtain ⟨g174_1, h⟩ := ifS h
              rcases iteS h with ⟨b174_12, h⟩ | ⟨b174_12, h⟩
              · obtain ⟨g174_2, h⟩ := ifS h
                have h := Option.some.inj h
                subst h
                exact At.fin hm ht ⟨[(5, .b true), (12, .b true)], [], [], [4], []⟩ [PT.isNil f = false, (((PT.num f) : Int) == 0) = true, PT.isNil f = false, (PT.isNil (PT.fst f)) = true, PT.isNil f = false] (by kernel_rfl) ⟨g174_0, b174_5, g174_1, b174_12, g174_2, trivial⟩
              · have h := Option.some.inj h
                subst h
                exact At.fin hm ht ⟨[(5, .b true), (12, .b false)], [], [], [4], []⟩ [PT.isNil f = false, (((PT.num f) : Int) == 0) = true, PT.isNil f = false, (PT.isNil (PT.fst f)) = false] (by kernel_rfl) ⟨g174_0, b174_5, g174_1, b174_12, trivial⟩
            · have h := Option.some.inj h
              subst h
              exact At.fin hm ht ⟨[(5, .b false)], [], [], [4], []⟩ [PT.isNil f = false, (((PT.num f) : Int) == 0) = false] (by kernel_rfl) ⟨g174_0, b174_5, trivial⟩
          · refine At.step hm ht ⟨[], [true, false], [], [0, 1, 14], []⟩ 7 ⟨[(0, oc (.d (.pt f))), (1, oc (zi left)), (14, oc (zi (PT.op f)))], [], [], 0⟩ [(((PT.op f) : Int) == 1) = true, (((PT.op f) : Int) == 1) = false] (by kernel_rfl) ⟨b173_e0, b173_e1, trivial⟩ ?_
            obtain ⟨w201, cw201, h⟩ := bindS h
            refine f59_filter_right_L7_ok (f59_filter_right n) ih n f left (PT.op f) w201 cw201 _ ?_
            have h := Option.some.inj h
            subst h
            rfl
        · refine At.step hm ht ⟨[], [false], [], [0, 1, 14], []⟩ 5 ⟨[(0, oc (.d (.pt f))), (1, oc (zi left)), (14, oc (zi (PT.op f)))], [], [], 0⟩ [(((PT.op f) : Int) == 1) = false] (by kernel_rfl) ⟨b173_e0, trivial⟩ ?_
          rcases iteS h with ⟨b203_e0, h⟩ | ⟨b203_e0, h⟩
          · refine At.step hm ht ⟨[], [true], [], [0], []⟩ 6 ⟨[(0, oc (.d (.pt f)))], [], [], 0⟩ [(((PT.op f) : Int) == 11) = true] (by kernel_rfl) ⟨b203_e0, trivial⟩ ?_
            obtain ⟨g204_0, h⟩ := ifS h
            rcases iteS h with ⟨b204_5, h⟩ | ⟨b204_5, h⟩
            · obtain ⟨g204_1, h⟩ := ifS h
              rcases iteS h with ⟨b204_12, h⟩ | ⟨b204_12, h⟩
              · obtain ⟨g204_2, h⟩ := ifS h
                have h := Option.some.inj h
                subst h
                exact At.fin hm ht ⟨[(5, .b true), (12, .b true)], [], [], [4], []⟩ [PT.isNil f = false, (((PT.num f) : Int) == 0) = true, PT.isNil f = false, (PT.isNil (PT.fst f)) = true, PT.isNil f = false] (by kernel_rfl) ⟨g204_0, b204_5, g204_1, b204_12, g204_2, trivial⟩
              · have h := Option.some.inj h
                subst h
                exact At.fin hm ht ⟨[(5, .b true), (12, .b false)], [], [], [4], []⟩ [PT.isNil f = false, (((PT.num f) : Int) == 0) = true, PT.isNil f = false, (PT.isNil (PT.fst f)) = false] (by kernel_rfl) ⟨g204_0, b204_5, g204_1, b204_12, trivial⟩
            · have h := Option.some.inj h
              subst h
              exact At.fin hm ht ⟨[(5, .b false)], [], [], [4], []⟩ [PT.isNil f = false, (((PT.num f) : Int) == 0) = false] (by kernel_rfl) ⟨g204_0, b204_5, trivial⟩
          · refine At.step hm ht ⟨[], [false], [], [0, 1, 14], []⟩ 7 ⟨[(0, oc (.d (.pt f))), (1, oc (zi left)), (14, oc (zi (PT.op f)))], [], [], 0⟩ [(((PT.op f) : Int) == 11) = false] (by kernel_rfl) ⟨b203_e0, trivial⟩ ?_
            obtain ⟨w205, cw205, h⟩ := bindS h
            refine f59_filter_right_L7_ok (f59_filter_right n) ih n f left (PT.op f) w205 cw205 _ ?_
            have h := Option.some.inj h
            subst h
            rfl
/-! brougham/filter.Right -/
def f31_filter_Right_in (f : PT) : Inn := ⟨[.c (.d (.pt f))], [], [], 0⟩
def f31_filter_Right_out (r : Bool) : Out := ⟨oc (.d (.bool r)), [], [], 0⟩
def f31_filter_Right (n : Nat) (f : PT) : Option (Bool) :=
  (f59_filter_right n f 16).bind fun r167_0 =>
  some r167_0
theorem f31_filter_Right_ok (n : Nat) (f : PT) (r : Bool) (h : f31_filter_Right n f = some r) : FnOK Tryd.prog 31 (f31_filter_Right_in f) (f31_filter_Right_out r) := by
  unfold f31_filter_Right at h
  refine At.fn (r := 0) Tryd.func31 rfl (by kernel_rfl) rfl rfl (by kernel_rfl) ?_
  show At Tryd.prog Tryd.f31 0 0 ⟨[(0, oc (.d (.pt f)))], [], [], 0⟩ _
  refine At.step hm ht ⟨[], [], [], [0], []⟩ 1 ⟨[(0, oc (.d (.pt f)))], [], [], 0⟩ [] (by kernel_rfl) trivial ?_
  obtain ⟨r167_0, cr167_0, h⟩ := bindS h
  have h := Option.some.inj h
  subst h
  exact At.fin hm ht ⟨[(1, .call [] [] (f59_filter_right_out r167_0))], [], [], [2], []⟩ [FnOK Tryd.prog 59 (f59_filter_right_in f 16) (f59_filter_right_out r167_0)] (by kernel_rfl) ⟨(f59_filter_right_ok n f 16 r167_0 cr167_0), trivial⟩
/-! brougham/filter.Parse -/
def f21_filter_Parse_in (s : ByteArray) : Inn := ⟨[.c (.d (.str s))], [], [], 0⟩
def f21_filter_Parse_out (r : PT × Bool) : Out := ⟨.tup [.c (.d (.pt r.1)), .c (.d (.bool r.2))], [], [], 0⟩
def f21_filter_Parse (n : Nat) (s : ByteArray) : Option (PT × Bool) :=
  if (decide ((((s.size : Nat) : Int) : Int) > 4096)) = true then
    some (PT.nil, false)
  else
    (f15_num_Pieces n s).bind fun r8_0 =>
    (f54_filter_reader_or n r8_0 64 false).bind fun r31_0 =>
    if r31_0.2.2.2 = true then
      some (PT.nil, false)
    else
      if (decide ((((r31_0.2.1.length : Nat) : Int) : Int) > 0)) = true then
        some (PT.nil, false)
      else
        (f31_filter_Right n r31_0.1).bind fun r163_0 =>
        if (!r163_0) = true then
          some (PT.nil, false)
        else
          some (r31_0.1, true)
theorem f21_filter_Parse_ok (n : Nat) (s : ByteArray) (r : PT × Bool) (h : f21_filter_Parse n s = some r) : FnOK Tryd.prog 21 (f21_filter_Parse_in s) (f21_filter_Parse_out r) := by
  unfold f21_filter_Parse at h
  refine At.fn (r := 0) Tryd.func21 rfl (by kernel_rfl) rfl rfl (by kernel_rfl) ?_
  show At Tryd.prog Tryd.f21 0 0 ⟨[(0, oc (.d (.str s)))], [], [], 0⟩ _
  refine At.step hm ht ⟨[], [], [.nilpt 2], [0], []⟩ 1 ⟨[(0, oc (.d (.str s)))], [], [], 0⟩ [] (by kernel_rfl) trivial ?_
  rcases iteS h with ⟨b6_e0, h⟩ | ⟨b6_e0, h⟩
  · refine At.step hm ht ⟨[], [true], [], [], []⟩ 2 ⟨[], [], [], 0⟩ [(decide ((((s.size : Nat) : Int) : Int) > 4096)) = true] (by kernel_rfl) ⟨b6_e0, trivial⟩ ?_
    have h := Option.some.inj h
    subst h
    exact At.fin hm ht ⟨[], [], [.nilpt 2], [2, 3], []⟩ [] (by kernel_rfl) trivial
  · refine At.step hm ht ⟨[], [false], [], [0], []⟩ 3 ⟨[(0, oc (.d (.str s)))], [], [], 0⟩ [(decide ((((s.size : Nat) : Int) : Int) > 4096)) = false] (by kernel_rfl) ⟨b6_e0, trivial⟩ ?_
    obtain ⟨r8_0, cr8_0, h⟩ := bindS h
    refine At.step hm ht ⟨[(1, .call [] [] (f15_num_Pieces_out r8_0))], [], [], [4], [2]⟩ 4 ⟨[(4, oc (.ptr 0 0))], [], [(0, [.d (.sl .str r8_0), zi 64, .d (.bool false)])], 1⟩ [FnOK Tryd.prog 15 (f15_num_Pieces_in s) (f15_num_Pieces_out r8_0)] (by kernel_rfl) ⟨(f15_num_Pieces_ok n s r8_0 cr8_0), trivial⟩ ?_
    obtain ⟨r31_0, cr31_0, h⟩ := bindS h
    refine At.step hm ht ⟨[(1, .call [0] [] (f54_filter_reader_or_out r31_0))], [], [], [4, 5], [0]⟩ 5 ⟨[(4, oc (.ptr 0 0)), (5, oc (.d (.pt r31_0.1)))], [], [(0, [.d (.sl .str r31_0.2.1), zi r31_0.2.2.1, .d (.bool r31_0.2.2.2)])], 1⟩ [FnOK Tryd.prog 54 (f54_filter_reader_or_in r8_0 64 false) (f54_filter_reader_or_out r31_0)] (by kernel_rfl) ⟨(f54_filter_reader_or_ok n r8_0 64 false r31_0 cr31_0), trivial⟩ ?_
    rcases iteS h with ⟨b163_4, h⟩ | ⟨b163_4, h⟩
    · refine At.step hm ht ⟨[(4, .b true)], [true], [], [], []⟩ 6 ⟨[], [], [], 0⟩ [r31_0.2.2.2 = true, true = true] (by kernel_rfl) ⟨b163_4, rfl, trivial⟩ ?_
      have h := Option.some.inj h
      subst h
      exact At.fin hm ht ⟨[], [], [.nilpt 2], [2, 3], []⟩ [] (by kernel_rfl) trivial
    · rcases iteS h with ⟨b163_12, h⟩ | ⟨b163_12, h⟩
      · refine At.step hm ht ⟨[(4, .b false), (12, .b true)], [true], [], [], []⟩ 6 ⟨[], [], [], 0⟩ [r31_0.2.2.2 = false, (decide ((((r31_0.2.1.length : Nat) : Int) : Int) > 0)) = true, true = true] (by kernel_rfl) ⟨b163_4, b163_12, rfl, trivial⟩ ?_
        have h := Option.some.inj h
        subst h
        exact At.fin hm ht ⟨[], [], [.nilpt 2], [2, 3], []⟩ [] (by kernel_rfl) trivial
      · obtain ⟨r163_0, cr163_0, h⟩ := bindS h
        rcases iteS h with ⟨b163_e0, h⟩ | ⟨b163_e0, h⟩
        · refine At.step hm ht ⟨[(4, .b false), (12, .b false), (14, .call [] [] (f31_filter_Right_out r163_0))], [true], [], [], []⟩ 6 ⟨[], [], [], 0⟩ [r31_0.2.2.2 = false, (decide ((((r31_0.2.1.length : Nat) : Int) : Int) > 0)) = false, FnOK Tryd.prog 31 (f31_filter_Right_in r31_0.1) (f31_filter_Right_out r163_0), (!r163_0) = true] (by kernel_rfl) ⟨b163_4, b163_12, (f31_filter_Right_ok n r31_0.1 r163_0 cr163_0), b163_e0, trivial⟩ ?_
          have h := Option.some.inj h
          subst h
          exact At.fin hm ht ⟨[], [], [.nilpt 2], [2, 3], []⟩ [] (by kernel_rfl) trivial
        · refine At.step hm ht ⟨[(4, .b false), (12, .b false), (14, .call [] [] (f31_filter_Right_out r163_0))], [false], [], [5], []⟩ 7 ⟨[(5, oc (.d (.pt r31_0.1)))], [], [], 0⟩ [r31_0.2.2.2 = false, (decide ((((r31_0.2.1.length : Nat) : Int) : Int) > 0)) = false, FnOK Tryd.prog 31 (f31_filter_Right_in r31_0.1) (f31_filter_Right_out r163_0), (!r163_0) = false] (by kernel_rfl) ⟨b163_4, b163_12, (f31_filter_Right_ok n r31_0.1 r163_0 cr163_0), b163_e0, trivial⟩ ?_
          have h := Option.some.inj h
          subst h
          exact At.fin hm ht ⟨[], [], [], [2, 3], []⟩ [] (by kernel_rfl) trivial
/-! brougham/broughamref01.Pieces -/
def f19_broughamref01_Pieces_in (s : ByteArray) : Inn := ⟨[.c (.d (.str s))], [], [], 0⟩
def f19_broughamref01_Pieces_out (r : List ByteArray) : Out := ⟨oc (.own 0 .str r), [(0, ⟨9, 0⟩)], [], 1⟩
def f19_broughamref01_Pieces_L4 : Nat → ByteArray → (List ByteArray) → ByteArray → Int → Option (List ByteArray × ByteArray)
  | 0, _, _, _, _ => none
  | n + 1, s, out, now, i =>
    if (decide ((i : Int) < ((s.size : Nat) : Int))) = true then
      if (0 : Int) ≤ i ∧ i < (((s).size : Nat) : Int) then
      if (((byteAt s i) : Int) != 35) = true then
        if (0 : Int) ≤ i ∧ i < (((s).size : Nat) : Int) then
        if (((byteAt s i) : Int) != 32) = true then
          if cutOk s.size (some i) (some (IntKind.wrap .i64 (i + 1))) none then
          if now.size + (s.extract i.toNat (IntKind.wrap .i64 (i + 1)).toNat).size ≤ 9223372036854775807 then
          f19_broughamref01_Pieces_L4 n s out (now ++ (s.extract i.toNat (IntKind.wrap .i64 (i + 1)).toNat)) (IntKind.wrap .i64 (i + 1))
          else none
          else none
        else
          if (!(now.toList == (⟨#[]⟩ : ByteArray).toList)) = true then
            if out.length + [now].length ≤ maxLen ∧ (out.length + [now].length) * 16 ≤ 140737488355328 then
            f19_broughamref01_Pieces_L4 n s (out ++ [now]) (⟨#[]⟩ : ByteArray) (IntKind.wrap .i64 (i + 1))
            else none
          else
            f19_broughamref01_Pieces_L4 n s out (⟨#[]⟩ : ByteArray) (IntKind.wrap .i64 (i + 1))
        else none
      else
        some ((out, now))
      else none
    else
      some ((out, now))
def f19_broughamref01_Pieces_L4_k (e : List ByteArray × ByteArray) (o : Out) : Prop := At Tryd.prog Tryd.f19 0 11 ⟨[(3, oc (.own 0 .str e.1)), (4, oc (.d (.str e.2)))], [(0, some ⟨9, 0⟩)], [], 1⟩ o
theorem f19_broughamref01_Pieces_L4_ok (n : Nat) : ∀ (s : ByteArray) (out : List ByteArray) (now : ByteArray) (i : Int) (w : List ByteArray × ByteArray) (h : f19_broughamref01_Pieces_L4 n s out now i = some w) (o : Out) (hk : f19_broughamref01_Pieces_L4_k w o), At Tryd.prog Tryd.f19 0 4 ⟨[(0, oc (.d (.str s))), (3, oc (.own 0 .str out)), (4, oc (.d (.str now))), (5, oc (zi i))], [(0, some ⟨9, 0⟩)], [], 1⟩ o := by
  induction n with
  | zero => intro s out now i w h; rw [f19_broughamref01_Pieces_L4] at h; cases h
  | succ n ih =>
    intro s out now i w h o hk
    rw [f19_broughamref01_Pieces_L4] at h
    rcases iteS h with ⟨b230_4, h⟩ | ⟨b230_4, h⟩
    · obtain ⟨g230_0, h⟩ := ifS h
      rcases iteS h with ⟨b230_e0, h⟩ | ⟨b230_e0, h⟩
      · refine At.step hm ht ⟨[(4, .b true)], [true], [], [0, 3, 4, 5], [0]⟩ 6 ⟨[(0, oc (.d (.str s))), (3, oc (.own 0 .str out)), (4, oc (.d (.str now))), (5, oc (zi i))], [(0, some ⟨9, 0⟩)], [], 1⟩ [(decide ((i : Int) < ((s.size : Nat) : Int))) = true, (0 : Int) ≤ i ∧ i < (((s).size : Nat) : Int), (((byteAt s i) : Int) != 35) = true] (by kernel_rfl) ⟨b230_4, g230_0, b230_e0, trivial⟩ ?_
        obtain ⟨g231_0, h⟩ := ifS h
        rcases iteS h with ⟨b231_e0, h⟩ | ⟨b231_e0, h⟩
        · refine At.step hm ht ⟨[], [true], [], [0, 3, 4, 5], [0]⟩ 7 ⟨[(0, oc (.d (.str s))), (3, oc (.own 0 .str out)), (4, oc (.d (.str now))), (5, oc (zi i))], [(0, some ⟨9, 0⟩)], [], 1⟩ [(0 : Int) ≤ i ∧ i < (((s).size : Nat) : Int), (((byteAt s i) : Int) != 32) = true] (by kernel_rfl) ⟨g231_0, b231_e0, trivial⟩ ?_
          obtain ⟨g232_0, h⟩ := ifS h
          obtain ⟨g232_1, h⟩ := ifS h
          refine At.step hm ht ⟨[], [], [], [0, 3, 4, 5], [0]⟩ 5 ⟨[(0, oc (.d (.str s))), (3, oc (.own 0 .str out)), (4, oc (.d (.str (now ++ (s.extract i.toNat (IntKind.wrap .i64 (i + 1)).toNat))))), (5, oc (zi i))], [(0, some ⟨9, 0⟩)], [], 1⟩ [cutOk s.size (some i) (some (IntKind.wrap .i64 (i + 1))) none, now.size + (s.extract i.toNat (IntKind.wrap .i64 (i + 1)).toNat).size ≤ 9223372036854775807] (by kernel_rfl) ⟨g232_0, g232_1, trivial⟩ ?_
          refine At.step hm ht ⟨[], [], [], [0, 3, 4, 5], [0]⟩ 4 ⟨[(0, oc (.d (.str s))), (3, oc (.own 0 .str out)), (4, oc (.d (.str (now ++ (s.extract i.toNat (IntKind.wrap .i64 (i + 1)).toNat))))), (5, oc (zi (IntKind.wrap .i64 (i + 1))))], [(0, some ⟨9, 0⟩)], [], 1⟩ [] (by kernel_rfl) trivial ?_
          exact ih s out (now ++ (s.extract i.toNat (IntKind.wrap .i64 (i + 1)).toNat)) (IntKind.wrap .i64 (i + 1)) w h o hk
        · refine At.step hm ht ⟨[], [false], [], [0, 3, 4, 5], [0]⟩ 8 ⟨[(0, oc (.d (.str s))), (3, oc (.own 0 .str out)), (4, oc (.d (.str now))), (5, oc (zi i))], [(0, some ⟨9, 0⟩)], [], 1⟩ [(0 : Int) ≤ i ∧ i < (((s).size : Nat) : Int), (((byteAt s i) : Int) != 32) = false] (by kernel_rfl) ⟨g231_0, b231_e0, trivial⟩ ?_
          rcases iteS h with ⟨b234_e0, h⟩ | ⟨b234_e0, h⟩
          · refine At.step hm ht ⟨[], [true], [], [0, 3, 4, 5], [0]⟩ 9 ⟨[(0, oc (.d (.str s))), (3, oc (.own 0 .str out)), (4, oc (.d (.str now))), (5, oc (zi i))], [(0, some ⟨9, 0⟩)], [], 1⟩ [(!(now.toList == (⟨#[]⟩ : ByteArray).toList)) = true] (by kernel_rfl) ⟨b234_e0, trivial⟩ ?_
            obtain ⟨g235_0, h⟩ := ifS h
            refine At.step hm ht ⟨[], [], [], [0, 3, 5], [4]⟩ 10 ⟨[(0, oc (.d (.str s))), (3, oc (.own 0 .str (out ++ [now]))), (5, oc (zi i))], [(0, some ⟨9, 0⟩)], [], 1⟩ [out.length + [now].length ≤ maxLen ∧ (out.length + [now].length) * 16 ≤ 140737488355328] (by kernel_rfl) ⟨g235_0, trivial⟩ ?_
            refine At.step hm ht ⟨[], [], [], [0, 3, 4, 5], [0]⟩ 5 ⟨[(0, oc (.d (.str s))), (3, oc (.own 0 .str (out ++ [now]))), (4, oc (.d (.str (⟨#[]⟩ : ByteArray)))), (5, oc (zi i))], [(0, some ⟨9, 0⟩)], [], 1⟩ [] (by kernel_rfl) trivial ?_
            refine At.step hm ht ⟨[], [], [], [0, 3, 4, 5], [0]⟩ 4 ⟨[(0, oc (.d (.str s))), (3, oc (.own 0 .str (out ++ [now]))), (4, oc (.d (.str (⟨#[]⟩ : ByteArray)))), (5, oc (zi (IntKind.wrap .i64 (i + 1))))], [(0, some ⟨9, 0⟩)], [], 1⟩ [] (by kernel_rfl) trivial ?_
            exact ih s (out ++ [now]) (⟨#[]⟩ : ByteArray) (IntKind.wrap .i64 (i + 1)) w h o hk
          · refine At.step hm ht ⟨[], [false], [], [0, 3, 5], [0]⟩ 10 ⟨[(0, oc (.d (.str s))), (3, oc (.own 0 .str out)), (5, oc (zi i))], [(0, some ⟨9, 0⟩)], [], 1⟩ [(!(now.toList == (⟨#[]⟩ : ByteArray).toList)) = false] (by kernel_rfl) ⟨b234_e0, trivial⟩ ?_
            refine At.step hm ht ⟨[], [], [], [0, 3, 4, 5], [0]⟩ 5 ⟨[(0, oc (.d (.str s))), (3, oc (.own 0 .str out)), (4, oc (.d (.str (⟨#[]⟩ : ByteArray)))), (5, oc (zi i))], [(0, some ⟨9, 0⟩)], [], 1⟩ [] (by kernel_rfl) trivial ?_
            refine At.step hm ht ⟨[], [], [], [0, 3, 4, 5], [0]⟩ 4 ⟨[(0, oc (.d (.str s))), (3, oc (.own 0 .str out)), (4, oc (.d (.str (⟨#[]⟩ : ByteArray)))), (5, oc (zi (IntKind.wrap .i64 (i + 1))))], [(0, some ⟨9, 0⟩)], [], 1⟩ [] (by kernel_rfl) trivial ?_
            exact ih s out (⟨#[]⟩ : ByteArray) (IntKind.wrap .i64 (i + 1)) w h o hk
      · refine At.step hm ht ⟨[(4, .b true)], [false], [], [3, 4], [0]⟩ 11 ⟨[(3, oc (.own 0 .str out)), (4, oc (.d (.str now)))], [(0, some ⟨9, 0⟩)], [], 1⟩ [(decide ((i : Int) < ((s.size : Nat) : Int))) = true, (0 : Int) ≤ i ∧ i < (((s).size : Nat) : Int), (((byteAt s i) : Int) != 35) = false] (by kernel_rfl) ⟨b230_4, g230_0, b230_e0, trivial⟩ ?_
        have h := Option.some.inj h
        subst h
        exact hk
    · refine At.step hm ht ⟨[(4, .b false)], [false], [], [3, 4], [0]⟩ 11 ⟨[(3, oc (.own 0 .str out)), (4, oc (.d (.str now)))], [(0, some ⟨9, 0⟩)], [], 1⟩ [(decide ((i : Int) < ((s.size : Nat) : Int))) = false, false = false] (by kernel_rfl) ⟨b230_4, rfl, trivial⟩ ?_
      have h := Option.some.inj h
      subst h
      exact hk
def f19_broughamref01_Pieces (n : Nat) (s : ByteArray) : Option (List ByteArray) :=
  (f19_broughamref01_Pieces_L4 n s [] (⟨#[]⟩ : ByteArray) 0).bind fun w240 =>
  if (!(w240.2.toList == (⟨#[]⟩ : ByteArray).toList)) = true then
    if w240.1.length + [w240.2].length ≤ maxLen ∧ (w240.1.length + [w240.2].length) * 16 ≤ 140737488355328 then
    some (w240.1 ++ [w240.2])
    else none
  else
    some w240.1
theorem f19_broughamref01_Pieces_ok (n : Nat) (s : ByteArray) (r : List ByteArray) (h : f19_broughamref01_Pieces n s = some r) : FnOK Tryd.prog 19 (f19_broughamref01_Pieces_in s) (f19_broughamref01_Pieces_out r) := by
  unfold f19_broughamref01_Pieces at h
  refine At.fn (r := 0) Tryd.func19 rfl (by kernel_rfl) rfl rfl (by kernel_rfl) ?_
  show At Tryd.prog Tryd.f19 0 0 ⟨[(0, oc (.d (.str s)))], [], [], 0⟩ _
  refine At.step hm ht ⟨[], [], [], [0], []⟩ 1 ⟨[(0, oc (.d (.str s)))], [], [], 0⟩ [] (by kernel_rfl) trivial ?_
  refine At.step hm ht ⟨[], [], [], [0, 3], []⟩ 2 ⟨[(0, oc (.d (.str s))), (3, oc (.d (.sl .unit [])))], [], [], 0⟩ [] (by kernel_rfl) trivial ?_
  refine At.step hm ht ⟨[], [], [], [0, 3, 4], []⟩ 3 ⟨[(0, oc (.d (.str s))), (3, oc (.d (.sl .unit []))), (4, oc (.d (.str (⟨#[]⟩ : ByteArray))))], [], [], 0⟩ [] (by kernel_rfl) trivial ?_
  refine At.step hm ht ⟨[], [], [.nil false 3 0 .str (some 9)], [0, 3, 4, 5], [1]⟩ 4 ⟨[(0, oc (.d (.str s))), (3, oc (.own 0 .str [])), (4, oc (.d (.str (⟨#[]⟩ : ByteArray)))), (5, oc (zi 0))], [(0, some ⟨9, 0⟩)], [], 1⟩ [] (by kernel_rfl) trivial ?_
  obtain ⟨w240, cw240, h⟩ := bindS h
  refine f19_broughamref01_Pieces_L4_ok n s [] (⟨#[]⟩ : ByteArray) 0 w240 cw240 _ ?_
  show At Tryd.prog Tryd.f19 0 11 ⟨[(3, oc (.own 0 .str w240.1)), (4, oc (.d (.str w240.2)))], [(0, some ⟨9, 0⟩)], [], 1⟩ _
  rcases iteS h with ⟨b242_e0, h⟩ | ⟨b242_e0, h⟩
  · refine At.step hm ht ⟨[], [true], [], [3, 4], [0]⟩ 12 ⟨[(3, oc (.own 0 .str w240.1)), (4, oc (.d (.str w240.2)))], [(0, some ⟨9, 0⟩)], [], 1⟩ [(!(w240.2.toList == (⟨#[]⟩ : ByteArray).toList)) = true] (by kernel_rfl) ⟨b242_e0, trivial⟩ ?_
    obtain ⟨g243_0, h⟩ := ifS h
    refine At.step hm ht ⟨[], [], [], [3], [4]⟩ 13 ⟨[(3, oc (.own 0 .str (w240.1 ++ [w240.2])))], [(0, some ⟨9, 0⟩)], [], 1⟩ [w240.1.length + [w240.2].length ≤ maxLen ∧ (w240.1.length + [w240.2].length) * 16 ≤ 140737488355328] (by kernel_rfl) ⟨g243_0, trivial⟩ ?_
    have h := Option.some.inj h
    subst h
    exact At.fin hm ht ⟨[], [], [], [2], [0]⟩ [] (by kernel_rfl) trivial
  · refine At.step hm ht ⟨[], [false], [], [3], [0]⟩ 13 ⟨[(3, oc (.own 0 .str w240.1))], [(0, some ⟨9, 0⟩)], [], 1⟩ [(!(w240.2.toList == (⟨#[]⟩ : ByteArray).toList)) = false] (by kernel_rfl) ⟨b242_e0, trivial⟩ ?_
    have h := Option.some.inj h
    subst h
    exact At.fin hm ht ⟨[], [], [], [2], [0]⟩ [] (by kernel_rfl) trivial
/-! brougham/broughamref35.last -/
def f85_broughamref35_last_in (w_ : List ByteArray) (s : ByteArray) : Inn := ⟨[.c (.d (.sl .str w_)), .c (.d (.str s))], [], [], 0⟩
def f85_broughamref35_last_out (r : Int) : Out := ⟨oc (zi r), [], [], 0⟩
def f85_broughamref35_last_L3 : Nat → (List ByteArray) → ByteArray → Int → Int → Int → Option (Int)
  | 0, _, _, _, _, _ => none
  | n + 1, w_, s, at_, open_, i =>
    if (decide ((i : Int) < ((w_.length : Nat) : Int))) = true then
      if (0 : Int) ≤ i ∧ i < (((w_).length : Nat) : Int) then
      if ((w_.getD i.toNat ByteArray.empty).toList == (⟨#[40]⟩ : ByteArray).toList) = true then
        if (0 : Int) ≤ i ∧ i < (((w_).length : Nat) : Int) then
        if ((w_.getD i.toNat ByteArray.empty).toList == (⟨#[41]⟩ : ByteArray).toList) = true then
          if (0 : Int) ≤ i ∧ i < (((w_).length : Nat) : Int) then
          if ((w_.getD i.toNat ByteArray.empty).toList == s.toList) = true then
            if (((IntKind.wrap .i64 ((IntKind.wrap .i64 (open_ + 1)) - 1)) : Int) == 0) = true then
              f85_broughamref35_last_L3 n w_ s i (IntKind.wrap .i64 ((IntKind.wrap .i64 (open_ + 1)) - 1)) (IntKind.wrap .i64 (i + 1))
            else
              f85_broughamref35_last_L3 n w_ s at_ (IntKind.wrap .i64 ((IntKind.wrap .i64 (open_ + 1)) - 1)) (IntKind.wrap .i64 (i + 1))
          else
            f85_broughamref35_last_L3 n w_ s at_ (IntKind.wrap .i64 ((IntKind.wrap .i64 (open_ + 1)) - 1)) (IntKind.wrap .i64 (i + 1))
          else none
        else
          if (0 : Int) ≤ i ∧ i < (((w_).length : Nat) : Int) then
          if ((w_.getD i.toNat ByteArray.empty).toList == s.toList) = true then
            if (((IntKind.wrap .i64 (open_ + 1)) : Int) == 0) = true then
              f85_broughamref35_last_L3 n w_ s i (IntKind.wrap .i64 (open_ + 1)) (IntKind.wrap .i64 (i + 1))
            else
              f85_broughamref35_last_L3 n w_ s at_ (IntKind.wrap .i64 (open_ + 1)) (IntKind.wrap .i64 (i + 1))
          else
            f85_broughamref35_last_L3 n w_ s at_ (IntKind.wrap .i64 (open_ + 1)) (IntKind.wrap .i64 (i + 1))
          else none
        else none
      else
        if (0 : Int) ≤ i ∧ i < (((w_).length : Nat) : Int) then
        if ((w_.getD i.toNat ByteArray.empty).toList == (⟨#[41]⟩ : ByteArray).toList) = true then
          if (0 : Int) ≤ i ∧ i < (((w_).length : Nat) : Int) then
          if ((w_.getD i.toNat ByteArray.empty).toList == s.toList) = true then
            if (((IntKind.wrap .i64 (open_ - 1)) : Int) == 0) = true then
              f85_broughamref35_last_L3 n w_ s i (IntKind.wrap .i64 (open_ - 1)) (IntKind.wrap .i64 (i + 1))
            else
              f85_broughamref35_last_L3 n w_ s at_ (IntKind.wrap .i64 (open_ - 1)) (IntKind.wrap .i64 (i + 1))
          else
            f85_broughamref35_last_L3 n w_ s at_ (IntKind.wrap .i64 (open_ - 1)) (IntKind.wrap .i64 (i + 1))
          else none
        else
          if (0 : Int) ≤ i ∧ i < (((w_).length : Nat) : Int) then
          if ((w_.getD i.toNat ByteArray.empty).toList == s.toList) = true then
            if ((open_ : Int) == 0) = true then
              f85_broughamref35_last_L3 n w_ s i open_ (IntKind.wrap .i64 (i + 1))
            else
              f85_broughamref35_last_L3 n w_ s at_ open_ (IntKind.wrap .i64 (i + 1))
          else
            f85_broughamref35_last_L3 n w_ s at_ open_ (IntKind.wrap .i64 (i + 1))
          else none
        else none
      else none
    else
      some (at_)
def f85_broughamref35_last_L3_k (e : Int) (o : Out) : Prop := At Tryd.prog Tryd.f85 0 11 ⟨[(5, oc (zi e))], [], [], 0⟩ o
theorem f85_broughamref35_last_L3_ok (n : Nat) : ∀ (w_ : List ByteArray) (s : ByteArray) (at_ : Int) (open_ : Int) (i : Int) (w : Int) (h : f85_broughamref35_last_L3 n w_ s at_ open_ i = some w) (o : Out) (hk : f85_broughamref35_last_L3_k w o), At Tryd.prog Tryd.f85 0 3 ⟨[(0, oc (.d (.sl .str w_))), (1, oc (.d (.str s))), (5, oc (zi at_)), (6, oc (zi open_)), (7, oc (zi i))], [], [], 0⟩ o := by
  induction n with
  | zero => intro w_ s at_ open_ i w h; rw [f85_broughamref35_last_L3] at h; cases h
  | succ n ih =>
    intro w_ s at_ open_ i w h o hk
    rw [f85_broughamref35_last_L3] at h
    rcases iteS h with ⟨b254_e0, h⟩ | ⟨b254_e0, h⟩
    · refine At.step hm ht ⟨[], [true], [], [0, 1, 5, 6, 7], []⟩ 5 ⟨[(0, oc (.d (.sl .str w_))), (1, oc (.d (.str s))), (5, oc (zi at_)), (6, oc (zi open_)), (7, oc (zi i))], [], [], 0⟩ [(decide ((i : Int) < ((w_.length : Nat) : Int))) = true] (by kernel_rfl) ⟨b254_e0, trivial⟩ ?_
      obtain ⟨g255_0, h⟩ := ifS h
      rcases iteS h with ⟨b255_e0, h⟩ | ⟨b255_e0, h⟩
      · refine At.step hm ht ⟨[], [true], [], [0, 1, 5, 6, 7], []⟩ 6 ⟨[(0, oc (.d (.sl .str w_))), (1, oc (.d (.str s))), (5, oc (zi at_)), (6, oc (zi open_)), (7, oc (zi i))], [], [], 0⟩ [(0 : Int) ≤ i ∧ i < (((w_).length : Nat) : Int), ((w_.getD i.toNat ByteArray.empty).toList == (⟨#[40]⟩ : ByteArray).toList) = true] (by kernel_rfl) ⟨g255_0, b255_e0, trivial⟩ ?_
        refine At.step hm ht ⟨[], [], [], [0, 1, 5, 6, 7], []⟩ 7 ⟨[(0, oc (.d (.sl .str w_))), (1, oc (.d (.str s))), (5, oc (zi at_)), (6, oc (zi (IntKind.wrap .i64 (open_ + 1)))), (7, oc (zi i))], [], [], 0⟩ [] (by kernel_rfl) trivial ?_
        obtain ⟨g257_0, h⟩ := ifS h
        rcases iteS h with ⟨b257_e0, h⟩ | ⟨b257_e0, h⟩
        · refine At.step hm ht ⟨[], [true], [], [0, 1, 5, 6, 7], []⟩ 8 ⟨[(0, oc (.d (.sl .str w_))), (1, oc (.d (.str s))), (5, oc (zi at_)), (6, oc (zi (IntKind.wrap .i64 (open_ + 1)))), (7, oc (zi i))], [], [], 0⟩ [(0 : Int) ≤ i ∧ i < (((w_).length : Nat) : Int), ((w_.getD i.toNat ByteArray.empty).toList == (⟨#[41]⟩ : ByteArray).toList) = true] (by kernel_rfl) ⟨g257_0, b257_e0, trivial⟩ ?_
          refine At.step hm ht ⟨[], [], [], [0, 1, 5, 6, 7], []⟩ 9 ⟨[(0, oc (.d (.sl .str w_))), (1, oc (.d (.str s))), (5, oc (zi at_)), (6, oc (zi (IntKind.wrap .i64 ((IntKind.wrap .i64 (open_ + 1)) - 1)))), (7, oc (zi i))], [], [], 0⟩ [] (by kernel_rfl) trivial ?_
          obtain ⟨g259_0, h⟩ := ifS h
          rcases iteS h with ⟨b259_6, h⟩ | ⟨b259_6, h⟩
          · rcases iteS h with ⟨b259_e0, h⟩ | ⟨b259_e0, h⟩
            · refine At.step hm ht ⟨[(6, .b true)], [true], [], [0, 1, 6, 7], []⟩ 10 ⟨[(0, oc (.d (.sl .str w_))), (1, oc (.d (.str s))), (6, oc (zi (IntKind.wrap .i64 ((IntKind.wrap .i64 (open_ + 1)) - 1)))), (7, oc (zi i))], [], [], 0⟩ [(0 : Int) ≤ i ∧ i < (((w_).length : Nat) : Int), ((w_.getD i.toNat ByteArray.empty).toList == s.toList) = true, (((IntKind.wrap .i64 ((IntKind.wrap .i64 (open_ + 1)) - 1)) : Int) == 0) = true] (by kernel_rfl) ⟨g259_0, b259_6, b259_e0, trivial⟩ ?_
              refine At.step hm ht ⟨[], [], [], [0, 1, 5, 6, 7], []⟩ 4 ⟨[(0, oc (.d (.sl .str w_))), (1, oc (.d (.str s))), (5, oc (zi i)), (6, oc (zi (IntKind.wrap .i64 ((IntKind.wrap .i64 (open_ + 1)) - 1)))), (7, oc (zi i))], [], [], 0⟩ [] (by kernel_rfl) trivial ?_
              refine At.step hm ht ⟨[], [], [], [0, 1, 5, 6, 7], []⟩ 3 ⟨[(0, oc (.d (.sl .str w_))), (1, oc (.d (.str s))), (5, oc (zi i)), (6, oc (zi (IntKind.wrap .i64 ((IntKind.wrap .i64 (open_ + 1)) - 1)))), (7, oc (zi (IntKind.wrap .i64 (i + 1))))], [], [], 0⟩ [] (by kernel_rfl) trivial ?_
              exact ih w_ s i (IntKind.wrap .i64 ((IntKind.wrap .i64 (open_ + 1)) - 1)) (IntKind.wrap .i64 (i + 1)) w h o hk
            · refine At.step hm ht ⟨[(6, .b true)], [false], [], [0, 1, 5, 6, 7], []⟩ 4 ⟨[(0, oc (.d (.sl .str w_))), (1, oc (.d (.str s))), (5, oc (zi at_)), (6, oc (zi (IntKind.wrap .i64 ((IntKind.wrap .i64 (open_ + 1)) - 1)))), (7, oc (zi i))], [], [], 0⟩ [(0 : Int) ≤ i ∧ i < (((w_).length : Nat) : Int), ((w_.getD i.toNat ByteArray.empty).toList == s.toList) = true, (((IntKind.wrap .i64 ((IntKind.wrap .i64 (open_ + 1)) - 1)) : Int) == 0) = false] (by kernel_rfl) ⟨g259_0, b259_6, b259_e0, trivial⟩ ?_
              refine At.step hm ht ⟨[], [], [], [0, 1, 5, 6, 7], []⟩ 3 ⟨[(0, oc (.d (.sl .str w_))), (1, oc (.d (.str s))), (5, oc (zi at_)), (6, oc (zi (IntKind.wrap .i64 ((IntKind.wrap .i64 (open_ + 1)) - 1)))), (7, oc (zi (IntKind.wrap .i64 (i + 1))))], [], [], 0⟩ [] (by kernel_rfl) trivial ?_
              exact ih w_ s at_ (IntKind.wrap .i64 ((IntKind.wrap .i64 (open_ + 1)) - 1)) (IntKind.wrap .i64 (i + 1)) w h o hk
          · refine At.step hm ht ⟨[(6, .b false)], [false], [], [0, 1, 5, 6, 7], []⟩ 4 ⟨[(0, oc (.d (.sl .str w_))), (1, oc (.d (.str s))), (5, oc (zi at_)), (6, oc (zi (IntKind.wrap .i64 ((IntKind.wrap .i64 (open_ + 1)) - 1)))), (7, oc (zi i))], [], [], 0⟩ [(0 : Int) ≤ i ∧ i < (((w_).length : Nat) : Int), ((w_.getD i.toNat ByteArray.empty).toList == s.toList) = false, false = false] (by kernel_rfl) ⟨g259_0, b259_6, rfl, trivial⟩ ?_
            refine At.step hm ht ⟨[], [], [], [0, 1, 5, 6, 7], []⟩ 3 ⟨[(0, oc (.d (.sl .str w_))), (1, oc (.d (.str s))), (5, oc (zi at_)), (6, oc (zi (IntKind.wrap .i64 ((IntKind.wrap .i64 (open_ + 1)) - 1)))), (7, oc (zi (IntKind.wrap .i64 (i + 1))))], [], [], 0⟩ [] (by kernel_rfl) trivial ?_
            exact ih w_ s at_ (IntKind.wrap .i64 ((IntKind.wrap .i64 (open_ + 1)) - 1)) (IntKind.wrap .i64 (i + 1)) w h o hk
        · refine At.step hm ht ⟨[], [false], [], [0, 1, 5, 6, 7], []⟩ 9 ⟨[(0, oc (.d (.sl .str w_))), (1, oc (.d (.str s))), (5, oc (zi at_)), (6, oc (zi (IntKind.wrap .i64 (open_ + 1)))), (7, oc (zi i))], [], [], 0⟩ [(0 : Int) ≤ i ∧ i < (((w_).length : Nat) : Int), ((w_.getD i.toNat ByteArray.empty).toList == (⟨#[41]⟩ : ByteArray).toList) = false] (by kernel_rfl) ⟨g257_0, b257_e0, trivial⟩ ?_
          obtain ⟨g264_0, h⟩ := ifS h
          rcases iteS h with ⟨b264_6, h⟩ | ⟨b264_6, h⟩
          · rcases iteS h with ⟨b264_e0, h⟩ | ⟨b264_e0, h⟩
            · refine At.step hm ht ⟨[(6, .b true)], [true], [], [0, 1, 6, 7], []⟩ 10 ⟨[(0, oc (.d (.sl .str w_))), (1, oc (.d (.str s))), (6, oc (zi (IntKind.wrap .i64 (open_ + 1)))), (7, oc (zi i))], [], [], 0⟩ [(0 : Int) ≤ i ∧ i < (((w_).length : Nat) : Int), ((w_.getD i.toNat ByteArray.empty).toList == s.toList) = true, (((IntKind.wrap .i64 (open_ + 1)) : Int) == 0) = true] (by kernel_rfl) ⟨g264_0, b264_6, b264_e0, trivial⟩ ?_
              refine At.step hm ht ⟨[], [], [], [0, 1, 5, 6, 7], []⟩ 4 ⟨[(0, oc (.d (.sl .str w_))), (1, oc (.d (.str s))), (5, oc (zi i)), (6, oc (zi (IntKind.wrap .i64 (open_ + 1)))), (7, oc (zi i))], [], [], 0⟩ [] (by kernel_rfl) trivial ?_
              refine At.step hm ht ⟨[], [], [], [0, 1, 5, 6, 7], []⟩ 3 ⟨[(0, oc (.d (.sl .str w_))), (1, oc (.d (.str s))), (5, oc (zi i)), (6, oc (zi (IntKind.wrap .i64 (open_ + 1)))), (7, oc (zi (IntKind.wrap .i64 (i + 1))))], [], [], 0⟩ [] (by kernel_rfl) trivial ?_
              exact ih w_ s i (IntKind.wrap .i64 (open_ + 1)) (IntKind.wrap .i64 (i + 1)) w h o hk
            · refine At.step hm ht ⟨[(6, .b true)], [false], [], [0, 1, 5, 6, 7], []⟩ 4 ⟨[(0, oc (.d (.sl .str w_))), (1, oc (.d (.str s))), (5, oc (zi at_)), (6, oc (zi (IntKind.wrap .i64 (open_ + 1)))), (7, oc (zi i))], [], [], 0⟩ [(0 : Int) ≤ i ∧ i < (((w_).length : Nat) : Int), ((w_.getD i.toNat ByteArray.empty).toList == s.toList) = true, (((IntKind.wrap .i64 (open_ + 1)) : Int) == 0) = false] (by kernel_rfl) ⟨g264_0, b264_6, b264_e0, trivial⟩ ?_
              refine At.step hm ht ⟨[], [], [], [0, 1, 5, 6, 7], []⟩ 3 ⟨[(0, oc (.d (.sl .str w_))), (1, oc (.d (.str s))), (5, oc (zi at_)), (6, oc (zi (IntKind.wrap .i64 (open_ + 1)))), (7, oc (zi (IntKind.wrap .i64 (i + 1))))], [], [], 0⟩ [] (by kernel_rfl) trivial ?_
              exact ih w_ s at_ (IntKind.wrap .i64 (open_ + 1)) (IntKind.wrap .i64 (i + 1)) w h o hk
          · refine At.step hm ht ⟨[(6, .b false)], [false], [], [0, 1, 5, 6, 7], []⟩ 4 ⟨[(0, oc (.d (.sl .str w_))), (1, oc (.d (.str s))), (5, oc (zi at_)), (6, oc (zi (IntKind.wrap .i64 (open_ + 1)))), (7, oc (zi i))], [], [], 0⟩ [(0 : Int) ≤ i ∧ i < (((w_).length : Nat) : Int), ((w_.getD i.toNat ByteArray.empty).toList == s.toList) = false, false = false] (by kernel_rfl) ⟨g264_0, b264_6, rfl, trivial⟩ ?_
            refine At.step hm ht ⟨[], [], [], [0, 1, 5, 6, 7], []⟩ 3 ⟨[(0, oc (.d (.sl .str w_))), (1, oc (.d (.str s))), (5, oc (zi at_)), (6, oc (zi (IntKind.wrap .i64 (open_ + 1)))), (7, oc (zi (IntKind.wrap .i64 (i + 1))))], [], [], 0⟩ [] (by kernel_rfl) trivial ?_
            exact ih w_ s at_ (IntKind.wrap .i64 (open_ + 1)) (IntKind.wrap .i64 (i + 1)) w h o hk
      · refine At.step hm ht ⟨[], [false], [], [0, 1, 5, 6, 7], []⟩ 7 ⟨[(0, oc (.d (.sl .str w_))), (1, oc (.d (.str s))), (5, oc (zi at_)), (6, oc (zi open_)), (7, oc (zi i))], [], [], 0⟩ [(0 : Int) ≤ i ∧ i < (((w_).length : Nat) : Int), ((w_.getD i.toNat ByteArray.empty).toList == (⟨#[40]⟩ : ByteArray).toList) = false] (by kernel_rfl) ⟨g255_0, b255_e0, trivial⟩ ?_
        obtain ⟨g269_0, h⟩ := ifS h
        rcases iteS h with ⟨b269_e0, h⟩ | ⟨b269_e0, h⟩
        · refine At.step hm ht ⟨[], [true], [], [0, 1, 5, 6, 7], []⟩ 8 ⟨[(0, oc (.d (.sl .str w_))), (1, oc (.d (.str s))), (5, oc (zi at_)), (6, oc (zi open_)), (7, oc (zi i))], [], [], 0⟩ [(0 : Int) ≤ i ∧ i < (((w_).length : Nat) : Int), ((w_.getD i.toNat ByteArray.empty).toList == (⟨#[41]⟩ : ByteArray).toList) = true] (by kernel_rfl) ⟨g269_0, b269_e0, trivial⟩ ?_
          refine At.step hm ht ⟨[], [], [], [0, 1, 5, 6, 7], []⟩ 9 ⟨[(0, oc (.d (.sl .str w_))), (1, oc (.d (.str s))), (5, oc (zi at_)), (6, oc (zi (IntKind.wrap .i64 (open_ - 1)))), (7, oc (zi i))], [], [], 0⟩ [] (by kernel_rfl) trivial ?_
          obtain ⟨g271_0, h⟩ := ifS h
          rcases iteS h with ⟨b271_6, h⟩ | ⟨b271_6, h⟩
          · rcases iteS h with ⟨b271_e0, h⟩ | ⟨b271_e0, h⟩
            · refine At.step hm ht ⟨[(6, .b true)], [true], [], [0, 1, 6, 7], []⟩ 10 ⟨[(0, oc (.d (.sl .str w_))), (1, oc (.d (.str s))), (6, oc (zi (IntKind.wrap .i64 (open_ - 1)))), (7, oc (zi i))], [], [], 0⟩ [(0 : Int) ≤ i ∧ i < (((w_).length : Nat) : Int), ((w_.getD i.toNat ByteArray.empty).toList == s.toList) = true, (((IntKind.wrap .i64 (open_ - 1)) : Int) == 0) = true] (by kernel_rfl) ⟨g271_0, b271_6, b271_e0, trivial⟩ ?_
              refine At.step hm ht ⟨[], [], [], [0, 1, 5, 6, 7], []⟩ 4 ⟨[(0, oc (.d (.sl .str w_))), (1, oc (.d (.str s))), (5, oc (zi i)), (6, oc (zi (IntKind.wrap .i64 (open_ - 1)))), (7, oc (zi i))], [], [], 0⟩ [] (by kernel_rfl) trivial ?_
              refine At.step hm ht ⟨[], [], [], [0, 1, 5, 6, 7], []⟩ 3 ⟨[(0, oc (.d (.sl .str w_))), (1, oc (.d (.str s))), (5, oc (zi i)), (6, oc (zi (IntKind.wrap .i64 (open_ - 1)))), (7, oc (zi (IntKind.wrap .i64 (i + 1))))], [], [], 0⟩ [] (by kernel_rfl) trivial ?_
              exact ih w_ s i (IntKind.wrap .i64 (open_ - 1)) (IntKind.wrap .i64 (i + 1)) w h o hk
            · refine At.step hm ht ⟨[(6, .b true)], [false], [], [0, 1, 5, 6, 7], []⟩ 4 ⟨[(0, oc (.d (.sl .str w_))), (1, oc (.d (.str s))), (5, oc (zi at_)), (6, oc (zi (IntKind.wrap .i64 (open_ - 1)))), (7, oc (zi i))], [], [], 0⟩ [(0 : Int) ≤ i ∧ i < (((w_).length : Nat) : Int), ((w_.getD i.toNat ByteArray.empty).toList == s.toList) = true, (((IntKind.wrap .i64 (open_ - 1)) : Int) == 0) = false] (by kernel_rfl) ⟨g271_0, b271_6, b271_e0, trivial⟩ ?_
              refine At.step hm ht ⟨[], [], [], [0, 1, 5, 6, 7], []⟩ 3 ⟨[(0, oc (.d (.sl .str w_))), (1, oc (.d (.str s))), (5, oc (zi at_)), (6, oc (zi (IntKind.wrap .i64 (open_ - 1)))), (7, oc (zi (IntKind.wrap .i64 (i + 1))))], [], [], 0⟩ [] (by kernel_rfl) trivial ?_
              exact ih w_ s at_ (IntKind.wrap .i64 (open_ - 1)) (IntKind.wrap .i64 (i + 1)) w h o hk
          · refine At.step hm ht ⟨[(6, .b false)], [false], [], [0, 1, 5, 6, 7], []⟩ 4 ⟨[(0, oc (.d (.sl .str w_))), (1, oc (.d (.str s))), (5, oc (zi at_)), (6, oc (zi (IntKind.wrap .i64 (open_ - 1)))), (7, oc (zi i))], [], [], 0⟩ [(0 : Int) ≤ i ∧ i < (((w_).length : Nat) : Int), ((w_.getD i.toNat ByteArray.empty).toList == s.toList) = false, false = false] (by kernel_rfl) ⟨g271_0, b271_6, rfl, trivial⟩ ?_
            refine At.step hm ht ⟨[], [], [], [0, 1, 5, 6, 7], []⟩ 3 ⟨[(0, oc (.d (.sl .str w_))), (1, oc (.d (.str s))), (5, oc (zi at_)), (6, oc (zi (IntKind.wrap .i64 (open_ - 1)))), (7, oc (zi (IntKind.wrap .i64 (i + 1))))], [], [], 0⟩ [] (by kernel_rfl) trivial ?_
            exact ih w_ s at_ (IntKind.wrap .i64 (open_ - 1)) (IntKind.wrap .i64 (i + 1)) w h o hk
        · refine At.step hm ht ⟨[], [false], [], [0, 1, 5, 6, 7], []⟩ 9 ⟨[(0, oc (.d (.sl .str w_))), (1, oc (.d (.str s))), (5, oc (zi at_)), (6, oc (zi open_)), (7, oc (zi i))], [], [], 0⟩ [(0 : Int) ≤ i ∧ i < (((w_).length : Nat) : Int), ((w_.getD i.toNat ByteArray.empty).toList == (⟨#[41]⟩ : ByteArray).toList) = false] (by kernel_rfl) ⟨g269_0, b269_e0, trivial⟩ ?_
          obtain ⟨g276_0, h⟩ := ifS h
          rcases iteS h with ⟨b276_6, h⟩ | ⟨b276_6, h⟩
          · rcases iteS h with ⟨b276_e0, h⟩ | ⟨b276_e0, h⟩
            · refine At.step hm ht ⟨[(6, .b true)], [true], [], [0, 1, 6, 7], []⟩ 10 ⟨[(0, oc (.d (.sl .str w_))), (1, oc (.d (.str s))), (6, oc (zi open_)), (7, oc (zi i))], [], [], 0⟩ [(0 : Int) ≤ i ∧ i < (((w_).length : Nat) : Int), ((w_.getD i.toNat ByteArray.empty).toList == s.toList) = true, ((open_ : Int) == 0) = true] (by kernel_rfl) ⟨g276_0, b276_6, b276_e0, trivial⟩ ?_
              refine At.step hm ht ⟨[], [], [], [0, 1, 5, 6, 7], []⟩ 4 ⟨[(0, oc (.d (.sl .str w_))), (1, oc (.d (.str s))), (5, oc (zi i)), (6, oc (zi open_)), (7, oc (zi i))], [], [], 0⟩ [] (by kernel_rfl) trivial ?_
              refine At.step hm ht ⟨[], [], [], [0, 1, 5, 6, 7], []⟩ 3 ⟨[(0, oc (.d (.sl .str w_))), (1, oc (.d (.str s))), (5, oc (zi i)), (6, oc (zi open_)), (7, oc (zi (IntKind.wrap .i64 (i + 1))))], [], [], 0⟩ [] (by kernel_rfl) trivial ?_
              exact ih w_ s i open_ (IntKind.wrap .i64 (i + 1)) w h o hk
            · refine At.step hm ht ⟨[(6, .b true)], [false], [], [0, 1, 5, 6, 7], []⟩ 4 ⟨[(0, oc (.d (.sl .str w_))), (1, oc (.d (.str s))), (5, oc (zi at_)), (6, oc (zi open_)), (7, oc (zi i))], [], [], 0⟩ [(0 : Int) ≤ i ∧ i < (((w_).length : Nat) : Int), ((w_.getD i.toNat ByteArray.empty).toList == s.toList) = true, ((open_ : Int) == 0) = false] (by kernel_rfl) ⟨g276_0, b276_6, b276_e0, trivial⟩ ?_
              refine At.step hm ht ⟨[], [], [], [0, 1, 5, 6, 7], []⟩ 3 ⟨[(0, oc (.d (.sl .str w_))), (1, oc (.d (.str s))), (5, oc (zi at_)), (6, oc (zi open_)), (7, oc (zi (IntKind.wrap .i64 (i + 1))))], [], [], 0⟩ [] (by kernel_rfl) trivial ?_
              exact ih w_ s at_ open_ (IntKind.wrap .i64 (i + 1)) w h o hk
          · refine At.step hm ht ⟨[(6, .b false)], [false], [], [0, 1, 5, 6, 7], []⟩ 4 ⟨[(0, oc (.d (.sl .str w_))), (1, oc (.d (.str s))), (5, oc (zi at_)), (6, oc (zi open_)), (7, oc (zi i))], [], [], 0⟩ [(0 : Int) ≤ i ∧ i < (((w_).length : Nat) : Int), ((w_.getD i.toNat ByteArray.empty).toList == s.toList) = false, false = false] (by kernel_rfl) ⟨g276_0, b276_6, rfl, trivial⟩ ?_
            refine At.step hm ht ⟨[], [], [], [0, 1, 5, 6, 7], []⟩ 3 ⟨[(0, oc (.d (.sl .str w_))), (1, oc (.d (.str s))), (5, oc (zi at_)), (6, oc (zi open_)), (7, oc (zi (IntKind.wrap .i64 (i + 1))))], [], [], 0⟩ [] (by kernel_rfl) trivial ?_
            exact ih w_ s at_ open_ (IntKind.wrap .i64 (i + 1)) w h o hk
    · refine At.step hm ht ⟨[], [false], [], [5], []⟩ 11 ⟨[(5, oc (zi at_))], [], [], 0⟩ [(decide ((i : Int) < ((w_.length : Nat) : Int))) = false] (by kernel_rfl) ⟨b254_e0, trivial⟩ ?_
      have h := Option.some.inj h
      subst h
      exact hk
def f85_broughamref35_last (n : Nat) (w_ : List ByteArray) (s : ByteArray) : Option (Int) :=
  (f85_broughamref35_last_L3 n w_ s (-1) 0 0).bind fun w281 =>
  some w281
theorem f85_broughamref35_last_ok (n : Nat) (w_ : List ByteArray) (s : ByteArray) (r : Int) (h : f85_broughamref35_last n w_ s = some r) : FnOK Tryd.prog 85 (f85_broughamref35_last_in w_ s) (f85_broughamref35_last_out r) := by
  unfold f85_broughamref35_last at h
  refine At.fn (r := 0) Tryd.func85 rfl (by kernel_rfl) rfl rfl (by kernel_rfl) ?_
  show At Tryd.prog Tryd.f85 0 0 ⟨[(0, oc (.d (.sl .str w_))), (1, oc (.d (.str s)))], [], [], 0⟩ _
  refine At.step hm ht ⟨[], [], [], [0, 1], []⟩ 1 ⟨[(0, oc (.d (.sl .str w_))), (1, oc (.d (.str s)))], [], [], 0⟩ [] (by kernel_rfl) trivial ?_
  refine At.step hm ht ⟨[], [], [], [0, 1, 5, 6], []⟩ 2 ⟨[(0, oc (.d (.sl .str w_))), (1, oc (.d (.str s))), (5, oc (zi (-1))), (6, oc (zi 0))], [], [], 0⟩ [] (by kernel_rfl) trivial ?_
  refine At.step hm ht ⟨[], [], [], [0, 1, 5, 6, 7], []⟩ 3 ⟨[(0, oc (.d (.sl .str w_))), (1, oc (.d (.str s))), (5, oc (zi (-1))), (6, oc (zi 0)), (7, oc (zi 0))], [], [], 0⟩ [] (by kernel_rfl) trivial ?_
  obtain ⟨w281, cw281, h⟩ := bindS h
  refine f85_broughamref35_last_L3_ok n w_ s (-1) 0 0 w281 cw281 _ ?_
  show At Tryd.prog Tryd.f85 0 11 ⟨[(5, oc (zi w281))], [], [], 0⟩ _
  have h := Option.some.inj h
  subst h
  exact At.fin hm ht ⟨[], [], [], [4], []⟩ [] (by kernel_rfl) trivial
/-! brougham/broughamref35.closes -/
def f100_broughamref35_closes_in (w_ : List ByteArray) : Inn := ⟨[.c (.d (.sl .str w_))], [], [], 0⟩
def f100_broughamref35_closes_out (r : Bool) : Out := ⟨oc (.d (.bool r)), [], [], 0⟩
def f100_broughamref35_closes_L3 : Nat → (List ByteArray) → Int → Int → Option ((Bool) ⊕ (Int))
  | 0, _, _, _ => none
  | n + 1, w_, open_, i =>
    if (decide ((i : Int) < ((w_.length : Nat) : Int))) = true then
      if (0 : Int) ≤ i ∧ i < (((w_).length : Nat) : Int) then
      if ((w_.getD i.toNat ByteArray.empty).toList == (⟨#[40]⟩ : ByteArray).toList) = true then
        if (0 : Int) ≤ i ∧ i < (((w_).length : Nat) : Int) then
        if ((w_.getD i.toNat ByteArray.empty).toList == (⟨#[41]⟩ : ByteArray).toList) = true then
          if (((IntKind.wrap .i64 ((IntKind.wrap .i64 (open_ + 1)) - 1)) : Int) == 0) = true then
            if (decide ((i : Int) < (IntKind.wrap .i64 (((w_.length : Nat) : Int) - 1)))) = true then
              some (.inl false)
            else
              f100_broughamref35_closes_L3 n w_ (IntKind.wrap .i64 ((IntKind.wrap .i64 (open_ + 1)) - 1)) (IntKind.wrap .i64 (i + 1))
          else
            f100_broughamref35_closes_L3 n w_ (IntKind.wrap .i64 ((IntKind.wrap .i64 (open_ + 1)) - 1)) (IntKind.wrap .i64 (i + 1))
        else
          if (((IntKind.wrap .i64 (open_ + 1)) : Int) == 0) = true then
            if (decide ((i : Int) < (IntKind.wrap .i64 (((w_.length : Nat) : Int) - 1)))) = true then
              some (.inl false)
            else
              f100_broughamref35_closes_L3 n w_ (IntKind.wrap .i64 (open_ + 1)) (IntKind.wrap .i64 (i + 1))
          else
            f100_broughamref35_closes_L3 n w_ (IntKind.wrap .i64 (open_ + 1)) (IntKind.wrap .i64 (i + 1))
        else none
      else
        if (0 : Int) ≤ i ∧ i < (((w_).length : Nat) : Int) then
        if ((w_.getD i.toNat ByteArray.empty).toList == (⟨#[41]⟩ : ByteArray).toList) = true then
          if (((IntKind.wrap .i64 (open_ - 1)) : Int) == 0) = true then
            if (decide ((i : Int) < (IntKind.wrap .i64 (((w_.length : Nat) : Int) - 1)))) = true then
              some (.inl false)
            else
              f100_broughamref35_closes_L3 n w_ (IntKind.wrap .i64 (open_ - 1)) (IntKind.wrap .i64 (i + 1))
          else
            f100_broughamref35_closes_L3 n w_ (IntKind.wrap .i64 (open_ - 1)) (IntKind.wrap .i64 (i + 1))
        else
          if ((open_ : Int) == 0) = true then
            if (decide ((i : Int) < (IntKind.wrap .i64 (((w_.length : Nat) : Int) - 1)))) = true then
              some (.inl false)
            else
              f100_broughamref35_closes_L3 n w_ open_ (IntKind.wrap .i64 (i + 1))
          else
            f100_broughamref35_closes_L3 n w_ open_ (IntKind.wrap .i64 (i + 1))
        else none
      else none
    else
      some (.inr open_)
def f100_broughamref35_closes_L3_k (w : (Bool) ⊕ (Int)) (o : Out) : Prop := match w with
  | .inl e => o = f100_broughamref35_closes_out e
  | .inr e => At Tryd.prog Tryd.f100 0 11 ⟨[(3, oc (zi e))], [], [], 0⟩ o
theorem f100_broughamref35_closes_L3_ok (n : Nat) : ∀ (w_ : List ByteArray) (open_ : Int) (i : Int) (w : (Bool) ⊕ (Int)) (h : f100_broughamref35_closes_L3 n w_ open_ i = some w) (o : Out) (hk : f100_broughamref35_closes_L3_k w o), At Tryd.prog Tryd.f100 0 3 ⟨[(0, oc (.d (.sl .str w_))), (3, oc (zi open_)), (4, oc (zi i))], [], [], 0⟩ o := by
  induction n with
  | zero => intro w_ open_ i w h; rw [f100_broughamref35_closes_L3] at h; cases h
  | succ n ih =>
    intro w_ open_ i w h o hk
    rw [f100_broughamref35_closes_L3] at h
    rcases iteS h with ⟨b321_e0, h⟩ | ⟨b321_e0, h⟩
    · refine At.step hm ht ⟨[], [true], [], [0, 3, 4], []⟩ 5 ⟨[(0, oc (.d (.sl .str w_))), (3, oc (zi open_)), (4, oc (zi i))], [], [], 0⟩ [(decide ((i : Int) < ((w_.length : Nat) : Int))) = true] (by kernel_rfl) ⟨b321_e0, trivial⟩ ?_
      obtain ⟨g322_0, h⟩ := ifS h
      rcases iteS h with ⟨b322_e0, h⟩ | ⟨b322_e0, h⟩
      · refine At.step hm ht ⟨[], [true], [], [0, 3, 4], []⟩ 6 ⟨[(0, oc (.d (.sl .str w_))), (3, oc (zi open_)), (4, oc (zi i))], [], [], 0⟩ [(0 : Int) ≤ i ∧ i < (((w_).length : Nat) : Int), ((w_.getD i.toNat ByteArray.empty).toList == (⟨#[40]⟩ : ByteArray).toList) = true] (by kernel_rfl) ⟨g322_0, b322_e0, trivial⟩ ?_
        refine At.step hm ht ⟨[], [], [], [0, 3, 4], []⟩ 7 ⟨[(0, oc (.d (.sl .str w_))), (3, oc (zi (IntKind.wrap .i64 (open_ + 1)))), (4, oc (zi i))], [], [], 0⟩ [] (by kernel_rfl) trivial ?_
        obtain ⟨g324_0, h⟩ := ifS h
        rcases iteS h with ⟨b324_e0, h⟩ | ⟨b324_e0, h⟩
        · refine At.step hm ht ⟨[], [true], [], [0, 3, 4], []⟩ 8 ⟨[(0, oc (.d (.sl .str w_))), (3, oc (zi (IntKind.wrap .i64 (open_ + 1)))), (4, oc (zi i))], [], [], 0⟩ [(0 : Int) ≤ i ∧ i < (((w_).length : Nat) : Int), ((w_.getD i.toNat ByteArray.empty).toList == (⟨#[41]⟩ : ByteArray).toList) = true] (by kernel_rfl) ⟨g324_0, b324_e0, trivial⟩ ?_
          refine At.step hm ht ⟨[], [], [], [0, 3, 4], []⟩ 9 ⟨[(0, oc (.d (.sl .str w_))), (3, oc (zi (IntKind.wrap .i64 ((IntKind.wrap .i64 (open_ + 1)) - 1)))), (4, oc (zi i))], [], [], 0⟩ [] (by kernel_rfl) trivial ?_
          rcases iteS h with ⟨b326_2, h⟩ | ⟨b326_2, h⟩
          · rcases iteS h with ⟨b326_e0, h⟩ | ⟨b326_e0, h⟩
            · refine At.step hm ht ⟨[(2, .b true)], [true], [], [], []⟩ 10 ⟨[], [], [], 0⟩ [(((IntKind.wrap .i64 ((IntKind.wrap .i64 (open_ + 1)) - 1)) : Int) == 0) = true, (decide ((i : Int) < (IntKind.wrap .i64 (((w_.length : Nat) : Int) - 1)))) = true] (by kernel_rfl) ⟨b326_2, b326_e0, trivial⟩ ?_
              have h := Option.some.inj h
              subst h
              have hk : o = f100_broughamref35_closes_out false := hk
              subst hk
              exact At.fin hm ht ⟨[], [], [], [2], []⟩ [] (by kernel_rfl) trivial
            · refine At.step hm ht ⟨[(2, .b true)], [false], [], [0, 3, 4], []⟩ 4 ⟨[(0, oc (.d (.sl .str w_))), (3, oc (zi (IntKind.wrap .i64 ((IntKind.wrap .i64 (open_ + 1)) - 1)))), (4, oc (zi i))], [], [], 0⟩ [(((IntKind.wrap .i64 ((IntKind.wrap .i64 (open_ + 1)) - 1)) : Int) == 0) = true, (decide ((i : Int) < (IntKind.wrap .i64 (((w_.length : Nat) : Int) - 1)))) = false] (by kernel_rfl) ⟨b326_2, b326_e0, trivial⟩ ?_
              refine At.step hm ht ⟨[], [], [], [0, 3, 4], []⟩ 3 ⟨[(0, oc (.d (.sl .str w_))), (3, oc (zi (IntKind.wrap .i64 ((IntKind.wrap .i64 (open_ + 1)) - 1)))), (4, oc (zi (IntKind.wrap .i64 (i + 1))))], [], [], 0⟩ [] (by kernel_rfl) trivial ?_
              exact ih w_ (IntKind.wrap .i64 ((IntKind.wrap .i64 (open_ + 1)) - 1)) (IntKind.wrap .i64 (i + 1)) w h o hk
          · refine At.step hm ht ⟨[(2, .b false)], [false], [], [0, 3, 4], []⟩ 4 ⟨[(0, oc (.d (.sl .str w_))), (3, oc (zi (IntKind.wrap .i64 ((IntKind.wrap .i64 (open_ + 1)) - 1)))), (4, oc (zi i))], [], [], 0⟩ [(((IntKind.wrap .i64 ((IntKind.wrap .i64 (open_ + 1)) - 1)) : Int) == 0) = false, false = false] (by kernel_rfl) ⟨b326_2, rfl, trivial⟩ ?_
            refine At.step hm ht ⟨[], [], [], [0, 3, 4], []⟩ 3 ⟨[(0, oc (.d (.sl .str w_))), (3, oc (zi (IntKind.wrap .i64 ((IntKind.wrap .i64 (open_ + 1)) - 1)))), (4, oc (zi (IntKind.wrap .i64 (i + 1))))], [], [], 0⟩ [] (by kernel_rfl) trivial ?_
            exact ih w_ (IntKind.wrap .i64 ((IntKind.wrap .i64 (open_ + 1)) - 1)) (IntKind.wrap .i64 (i + 1)) w h o hk
        · refine At.step hm ht ⟨[], [false], [], [0, 3, 4], []⟩ 9 ⟨[(0, oc (.d (.sl .str w_))), (3, oc (zi (IntKind.wrap .i64 (open_ + 1)))), (4, oc (zi i))], [], [], 0⟩ [(0 : Int) ≤ i ∧ i < (((w_).length : Nat) : Int), ((w_.getD i.toNat ByteArray.empty).toList == (⟨#[41]⟩ : ByteArray).toList) = false] (by kernel_rfl) ⟨g324_0, b324_e0, trivial⟩ ?_
          rcases iteS h with ⟨b330_2, h⟩ | ⟨b330_2, h⟩
          · rcases iteS h with ⟨b330_e0, h⟩ | ⟨b330_e0, h⟩
            · refine At.step hm ht ⟨[(2, .b true)], [true], [], [], []⟩ 10 ⟨[], [], [], 0⟩ [(((IntKind.wrap .i64 (open_ + 1)) : Int) == 0) = true, (decide ((i : Int) < (IntKind.wrap .i64 (((w_.length : Nat) : Int) - 1)))) = true] (by kernel_rfl) ⟨b330_2, b330_e0, trivial⟩ ?_
              have h := Option.some.inj h
              subst h
              have hk : o = f100_broughamref35_closes_out false := hk
              subst hk
              exact At.fin hm ht ⟨[], [], [], [2], []⟩ [] (by kernel_rfl) trivial
            · refine At.step hm ht ⟨[(2, .b true)], [false], [], [0, 3, 4], []⟩ 4 ⟨[(0, oc (.d (.sl .str w_))), (3, oc (zi (IntKind.wrap .i64 (open_ + 1)))), (4, oc (zi i))], [], [], 0⟩ [(((IntKind.wrap .i64 (open_ + 1)) : Int) == 0) = true, (decide ((i : Int) < (IntKind.wrap .i64 (((w_.length : Nat) : Int) - 1)))) = false] (by kernel_rfl) ⟨b330_2, b330_e0, trivial⟩ ?_
              refine At.step hm ht ⟨[], [], [], [0, 3, 4], []⟩ 3 ⟨[(0, oc (.d (.sl .str w_))), (3, oc (zi (IntKind.wrap .i64 (open_ + 1)))), (4, oc (zi (IntKind.wrap .i64 (i + 1))))], [], [], 0⟩ [] (by kernel_rfl) trivial ?_
              exact ih w_ (IntKind.wrap .i64 (open_ + 1)) (IntKind.wrap .i64 (i + 1)) w h o hk
          · refine At.step hm ht ⟨[(2, .b false)], [false], [], [0, 3, 4], []⟩ 4 ⟨[(0, oc (.d (.sl .str w_))), (3, oc (zi (IntKind.wrap .i64 (open_ + 1)))), (4, oc (zi i))], [], [], 0⟩ [(((IntKind.wrap .i64 (open_ + 1)) : Int) == 0) = false, false = false] (by kernel_rfl) ⟨b330_2, rfl, trivial⟩ ?_
            refine At.step hm ht ⟨[], [], [], [0, 3, 4], []⟩ 3 ⟨[(0, oc (.d (.sl .str w_))), (3, oc (zi (IntKind.wrap .i64 (open_ + 1)))), (4, oc (zi (IntKind.wrap .i64 (i + 1))))], [], [], 0⟩ [] (by kernel_rfl) trivial ?_
            exact ih w_ (IntKind.wrap .i64 (open_ + 1)) (IntKind.wrap .i64 (i + 1)) w h o hk
      · refine At.step hm ht ⟨[], [false], [], [0, 3, 4], []⟩ 7 ⟨[(0, oc (.d (.sl .str w_))), (3, oc (zi open_)), (4, oc (zi i))], [], [], 0⟩ [(0 : Int) ≤ i ∧ i < (((w_).length : Nat) : Int), ((w_.getD i.toNat ByteArray.empty).toList == (⟨#[40]⟩ : ByteArray).toList) = false] (by kernel_rfl) ⟨g322_0, b322_e0, trivial⟩ ?_
        obtain ⟨g334_0, h⟩ := ifS h
        rcases iteS h with ⟨b334_e0, h⟩ | ⟨b334_e0, h⟩
        · refine At.step hm ht ⟨[], [true], [], [0, 3, 4], []⟩ 8 ⟨[(0, oc (.d (.sl .str w_))), (3, oc (zi open_)), (4, oc (zi i))], [], [], 0⟩ [(0 : Int) ≤ i ∧ i < (((w_).length : Nat) : Int), ((w_.getD i.toNat ByteArray.empty).toList == (⟨#[41]⟩ : ByteArray).toList) = true] (by kernel_rfl) ⟨g334_0, b334_e0, trivial⟩ ?_
          refine At.step hm ht ⟨[], [], [], [0, 3, 4], []⟩ 9 ⟨[(0, oc (.d (.sl .str w_))), (3, oc (zi (IntKind.wrap .i64 (open_ - 1)))), (4, oc (zi i))], [], [], 0⟩ [] (by kernel_rfl) trivial ?_
          rcases iteS h with ⟨b336_2, h⟩ | ⟨b336_2, h⟩
          · rcases iteS h with ⟨b336_e0, h⟩ | ⟨b336_e0, h⟩
            · refine At.step hm ht ⟨[(2, .b true)], [true], [], [], []⟩ 10 ⟨[], [], [], 0⟩ [(((IntKind.wrap .i64 (open_ - 1)) : Int) == 0) = true, (decide ((i : Int) < (IntKind.wrap .i64 (((w_.length : Nat) : Int) - 1)))) = true] (by kernel_rfl) ⟨b336_2, b336_e0, trivial⟩ ?_
              have h := Option.some.inj h
              subst h
              have hk : o = f100_broughamref35_closes_out false := hk
              subst hk
              exact At.fin hm ht ⟨[], [], [], [2], []⟩ [] (by kernel_rfl) trivial
            · refine At.step hm ht ⟨[(2, .b true)], [false], [], [0, 3, 4], []⟩ 4 ⟨[(0, oc (.d (.sl .str w_))), (3, oc (zi (IntKind.wrap .i64 (open_ - 1)))), (4, oc (zi i))], [], [], 0⟩ [(((IntKind.wrap .i64 (open_ - 1)) : Int) == 0) = true, (decide ((i : Int) < (IntKind.wrap .i64 (((w_.length : Nat) : Int) - 1)))) = false] (by kernel_rfl) ⟨b336_2, b336_e0, trivial⟩ ?_
              refine At.step hm ht ⟨[], [], [], [0, 3, 4], []⟩ 3 ⟨[(0, oc (.d (.sl .str w_))), (3, oc (zi (IntKind.wrap .i64 (open_ - 1)))), (4, oc (zi (IntKind.wrap .i64 (i + 1))))], [], [], 0⟩ [] (by kernel_rfl) trivial ?_
              exact ih w_ (IntKind.wrap .i64 (open_ - 1)) (IntKind.wrap .i64 (i + 1)) w h o hk
          · refine At.step hm ht ⟨[(2, .b false)], [false], [], [0, 3, 4], []⟩ 4 ⟨[(0, oc (.d (.sl .str w_))), (3, oc (zi (IntKind.wrap .i64 (open_ - 1)))), (4, oc (zi i))], [], [], 0⟩ [(((IntKind.wrap .i64 (open_ - 1)) : Int) == 0) = false, false = false] (by kernel_rfl) ⟨b336_2, rfl, trivial⟩ ?_
            refine At.step hm ht ⟨[], [], [], [0, 3, 4], []⟩ 3 ⟨[(0, oc (.d (.sl .str w_))), (3, oc (zi (IntKind.wrap .i64 (open_ - 1)))), (4, oc (zi (IntKind.wrap .i64 (i + 1))))], [], [], 0⟩ [] (by kernel_rfl) trivial ?_
            exact ih w_ (IntKind.wrap .i64 (open_ - 1)) (IntKind.wrap .i64 (i + 1)) w h o hk
        · refine At.step hm ht ⟨[], [false], [], [0, 3, 4], []⟩ 9 ⟨[(0, oc (.d (.sl .str w_))), (3, oc (zi open_)), (4, oc (zi i))], [], [], 0⟩ [(0 : Int) ≤ i ∧ i < (((w_).length : Nat) : Int), ((w_.getD i.toNat ByteArray.empty).toList == (⟨#[41]⟩ : ByteArray).toList) = false] (by kernel_rfl) ⟨g334_0, b334_e0, trivial⟩ ?_
          rcases iteS h with ⟨b340_2, h⟩ | ⟨b340_2, h⟩
          · rcases iteS h with ⟨b340_e0, h⟩ | ⟨b340_e0, h⟩
            · refine At.step hm ht ⟨[(2, .b true)], [true], [], [], []⟩ 10 ⟨[], [], [], 0⟩ [((open_ : Int) == 0) = true, (decide ((i : Int) < (IntKind.wrap .i64 (((w_.length : Nat) : Int) - 1)))) = true] (by kernel_rfl) ⟨b340_2, b340_e0, trivial⟩ ?_
              have h := Option.some.inj h
              subst h
              have hk : o = f100_broughamref35_closes_out false := hk
              subst hk
              exact At.fin hm ht ⟨[], [], [], [2], []⟩ [] (by kernel_rfl) trivial
            · refine At.step hm ht ⟨[(2, .b true)], [false], [], [0, 3, 4], []⟩ 4 ⟨[(0, oc (.d (.sl .str w_))), (3, oc (zi open_)), (4, oc (zi i))], [], [], 0⟩ [((open_ : Int) == 0) = true, (decide ((i : Int) < (IntKind.wrap .i64 (((w_.length : Nat) : Int) - 1)))) = false] (by kernel_rfl) ⟨b340_2, b340_e0, trivial⟩ ?_
              refine At.step hm ht ⟨[], [], [], [0, 3, 4], []⟩ 3 ⟨[(0, oc (.d (.sl .str w_))), (3, oc (zi open_)), (4, oc (zi (IntKind.wrap .i64 (i + 1))))], [], [], 0⟩ [] (by kernel_rfl) trivial ?_
              exact ih w_ open_ (IntKind.wrap .i64 (i + 1)) w h o hk
          · refine At.step hm ht ⟨[(2, .b false)], [false], [], [0, 3, 4], []⟩ 4 ⟨[(0, oc (.d (.sl .str w_))), (3, oc (zi open_)), (4, oc (zi i))], [], [], 0⟩ [((open_ : Int) == 0) = false, false = false] (by kernel_rfl) ⟨b340_2, rfl, trivial⟩ ?_
            refine At.step hm ht ⟨[], [], [], [0, 3, 4], []⟩ 3 ⟨[(0, oc (.d (.sl .str w_))), (3, oc (zi open_)), (4, oc (zi (IntKind.wrap .i64 (i + 1))))], [], [], 0⟩ [] (by kernel_rfl) trivial ?_
            exact ih w_ open_ (IntKind.wrap .i64 (i + 1)) w h o hk
    · refine At.step hm ht ⟨[], [false], [], [3], []⟩ 11 ⟨[(3, oc (zi open_))], [], [], 0⟩ [(decide ((i : Int) < ((w_.length : Nat) : Int))) = false] (by kernel_rfl) ⟨b321_e0, trivial⟩ ?_
      have h := Option.some.inj h
      subst h
      exact hk
def f100_broughamref35_closes (n : Nat) (w_ : List ByteArray) : Option (Bool) :=
  (f100_broughamref35_closes_L3 n w_ 0 0).bind fun w344 =>
  match w344 with
  | .inl e345 =>
    some e345
  | .inr e346 =>
    some ((e346 : Int) == 0)
theorem f100_broughamref35_closes_ok (n : Nat) (w_ : List ByteArray) (r : Bool) (h : f100_broughamref35_closes n w_ = some r) : FnOK Tryd.prog 100 (f100_broughamref35_closes_in w_) (f100_broughamref35_closes_out r) := by
  unfold f100_broughamref35_closes at h
  refine At.fn (r := 0) Tryd.func100 rfl (by kernel_rfl) rfl rfl (by kernel_rfl) ?_
  show At Tryd.prog Tryd.f100 0 0 ⟨[(0, oc (.d (.sl .str w_)))], [], [], 0⟩ _
  refine At.step hm ht ⟨[], [], [], [0], []⟩ 1 ⟨[(0, oc (.d (.sl .str w_)))], [], [], 0⟩ [] (by kernel_rfl) trivial ?_
  refine At.step hm ht ⟨[], [], [], [0, 3], []⟩ 2 ⟨[(0, oc (.d (.sl .str w_))), (3, oc (zi 0))], [], [], 0⟩ [] (by kernel_rfl) trivial ?_
  refine At.step hm ht ⟨[], [], [], [0, 3, 4], []⟩ 3 ⟨[(0, oc (.d (.sl .str w_))), (3, oc (zi 0)), (4, oc (zi 0))], [], [], 0⟩ [] (by kernel_rfl) trivial ?_
  obtain ⟨w344, cw344, h⟩ := bindS h
  refine f100_broughamref35_closes_L3_ok n w_ 0 0 w344 cw344 _ ?_
  rcases w344 with e345 | e346
  · have h := Option.some.inj h
    subst h
    rfl
  · show At Tryd.prog Tryd.f100 0 11 ⟨[(3, oc (zi e346))], [], [], 0⟩ _
    have h := Option.some.inj h
    subst h
    exact At.fin hm ht ⟨[], [], [], [2], []⟩ [] (by kernel_rfl) trivial
/-! brougham/broughamref01.Parse -/
def f79_broughamref01_Parse_in (s : ByteArray) : Inn := ⟨[.c (.d (.str s))], [], [], 0⟩
def f79_broughamref01_Parse_out (r : Int × Int) : Out := ⟨.tup [.c (zi r.1), .c (zi r.2)], [], [], 0⟩
def f79_broughamref01_Parse_L3 : Nat → ByteArray → Int → Int → Option ((Int × Int) ⊕ (ByteArray × Int))
  | 0, _, _, _ => none
  | n + 1, s, n_, i =>
    if (decide ((i : Int) < ((s.size : Nat) : Int))) = true then
      if (decide ((i : Int) > 9)) = true then
        some (.inl (0, 10))
      else
        if (0 : Int) ≤ i ∧ i < (((s).size : Nat) : Int) then
        if (decide (((byteAt s i) : Int) < 48)) = true then
          some (.inl (0, 10))
        else
          if (0 : Int) ≤ i ∧ i < (((s).size : Nat) : Int) then
          if (decide (((byteAt s i) : Int) > 57)) = true then
            some (.inl (0, 10))
          else
            if (0 : Int) ≤ 0 ∧ 0 < (((s).size : Nat) : Int) then
            if (((byteAt s 0) : Int) == 48) = true then
              if (decide ((((s.size : Nat) : Int) : Int) > 1)) = true then
                some (.inl (0, 10))
              else
                if (0 : Int) ≤ i ∧ i < (((s).size : Nat) : Int) then
                f79_broughamref01_Parse_L3 n s (IntKind.wrap .i64 ((IntKind.wrap .i64 ((IntKind.wrap .i64 (n_ * 10)) + (IntKind.wrap .i64 (byteAt s i)))) - 48)) (IntKind.wrap .i64 (i + 1))
                else none
            else
              if (0 : Int) ≤ i ∧ i < (((s).size : Nat) : Int) then
              f79_broughamref01_Parse_L3 n s (IntKind.wrap .i64 ((IntKind.wrap .i64 ((IntKind.wrap .i64 (n_ * 10)) + (IntKind.wrap .i64 (byteAt s i)))) - 48)) (IntKind.wrap .i64 (i + 1))
              else none
            else none
          else none
        else none
    else
      some (.inr ((s, n_)))
def f79_broughamref01_Parse_L3_k (w : (Int × Int) ⊕ (ByteArray × Int)) (o : Out) : Prop := match w with
  | .inl e => o = f79_broughamref01_Parse_out e
  | .inr e => At Tryd.prog Tryd.f79 0 8 ⟨[(0, oc (.d (.str e.1))), (4, oc (zi e.2))], [], [], 0⟩ o
theorem f79_broughamref01_Parse_L3_ok (n : Nat) : ∀ (s : ByteArray) (n_ : Int) (i : Int) (w : (Int × Int) ⊕ (ByteArray × Int)) (h : f79_broughamref01_Parse_L3 n s n_ i = some w) (o : Out) (hk : f79_broughamref01_Parse_L3_k w o), At Tryd.prog Tryd.f79 0 3 ⟨[(0, oc (.d (.str s))), (4, oc (zi n_)), (5, oc (zi i))], [], [], 0⟩ o := by
  induction n with
  | zero => intro s n_ i w h; rw [f79_broughamref01_Parse_L3] at h; cases h
  | succ n ih =>
    intro s n_ i w h o hk
    rw [f79_broughamref01_Parse_L3] at h
    rcases iteS h with ⟨b368_e0, h⟩ | ⟨b368_e0, h⟩
    · refine At.step hm ht ⟨[], [true], [], [0, 4, 5], []⟩ 5 ⟨[(0, oc (.d (.str s))), (4, oc (zi n_)), (5, oc (zi i))], [], [], 0⟩ [(decide ((i : Int) < ((s.size : Nat) : Int))) = true] (by kernel_rfl) ⟨b368_e0, trivial⟩ ?_
      rcases iteS h with ⟨b369_2, h⟩ | ⟨b369_2, h⟩
      · refine At.step hm ht ⟨[(2, .b true)], [true], [], [], []⟩ 6 ⟨[], [], [], 0⟩ [(decide ((i : Int) > 9)) = true, true = true] (by kernel_rfl) ⟨b369_2, rfl, trivial⟩ ?_
        have h := Option.some.inj h
        subst h
        have hk : o = f79_broughamref01_Parse_out (0, 10) := hk
        subst hk
        exact At.fin hm ht ⟨[], [], [], [2, 3], []⟩ [] (by kernel_rfl) trivial
      · obtain ⟨g369_0, h⟩ := ifS h
        rcases iteS h with ⟨b369_8, h⟩ | ⟨b369_8, h⟩
        · refine At.step hm ht ⟨[(2, .b false), (8, .b true)], [true], [], [], []⟩ 6 ⟨[], [], [], 0⟩ [(decide ((i : Int) > 9)) = false, (0 : Int) ≤ i ∧ i < (((s).size : Nat) : Int), (decide (((byteAt s i) : Int) < 48)) = true, true = true] (by kernel_rfl) ⟨b369_2, g369_0, b369_8, rfl, trivial⟩ ?_
          have h := Option.some.inj h
          subst h
          have hk : o = f79_broughamref01_Parse_out (0, 10) := hk
          subst hk
          exact At.fin hm ht ⟨[], [], [], [2, 3], []⟩ [] (by kernel_rfl) trivial
        · obtain ⟨g369_1, h⟩ := ifS h
          rcases iteS h with ⟨b369_14, h⟩ | ⟨b369_14, h⟩
          · refine At.step hm ht ⟨[(2, .b false), (8, .b false), (14, .b true)], [true], [], [], []⟩ 6 ⟨[], [], [], 0⟩ [(decide ((i : Int) > 9)) = false, (0 : Int) ≤ i ∧ i < (((s).size : Nat) : Int), (decide (((byteAt s i) : Int) < 48)) = false, (0 : Int) ≤ i ∧ i < (((s).size : Nat) : Int), (decide (((byteAt s i) : Int) > 57)) = true, true = true] (by kernel_rfl) ⟨b369_2, g369_0, b369_8, g369_1, b369_14, rfl, trivial⟩ ?_
            have h := Option.some.inj h
            subst h
            have hk : o = f79_broughamref01_Parse_out (0, 10) := hk
            subst hk
            exact At.fin hm ht ⟨[], [], [], [2, 3], []⟩ [] (by kernel_rfl) trivial
          · obtain ⟨g369_2, h⟩ := ifS h
            rcases iteS h with ⟨b369_18, h⟩ | ⟨b369_18, h⟩
            · rcases iteS h with ⟨b369_e0, h⟩ | ⟨b369_e0, h⟩
              · refine At.step hm ht ⟨[(2, .b false), (8, .b false), (14, .b false), (18, .b true)], [true], [], [], []⟩ 6 ⟨[], [], [], 0⟩ [(decide ((i : Int) > 9)) = false, (0 : Int) ≤ i ∧ i < (((s).size : Nat) : Int), (decide (((byteAt s i) : Int) < 48)) = false, (0 : Int) ≤ i ∧ i < (((s).size : Nat) : Int), (decide (((byteAt s i) : Int) > 57)) = false, (0 : Int) ≤ 0 ∧ 0 < (((s).size : Nat) : Int), (((byteAt s 0) : Int) == 48) = true, (decide ((((s.size : Nat) : Int) : Int) > 1)) = true] (by kernel_rfl) ⟨b369_2, g369_0, b369_8, g369_1, b369_14, g369_2, b369_18, b369_e0, trivial⟩ ?_
                have h := Option.some.inj h
                subst h
                have hk : o = f79_broughamref01_Parse_out (0, 10) := hk
                subst hk
                exact At.fin hm ht ⟨[], [], [], [2, 3], []⟩ [] (by kernel_rfl) trivial
              · refine At.step hm ht ⟨[(2, .b false), (8, .b false), (14, .b false), (18, .b true)], [false], [], [0, 4, 5], []⟩ 7 ⟨[(0, oc (.d (.str s))), (4, oc (zi n_)), (5, oc (zi i))], [], [], 0⟩ [(decide ((i : Int) > 9)) = false, (0 : Int) ≤ i ∧ i < (((s).size : Nat) : Int), (decide (((byteAt s i) : Int) < 48)) = false, (0 : Int) ≤ i ∧ i < (((s).size : Nat) : Int), (decide (((byteAt s i) : Int) > 57)) = false, (0 : Int) ≤ 0 ∧ 0 < (((s).size : Nat) : Int), (((byteAt s 0) : Int) == 48) = true, (decide ((((s.size : Nat) : Int) : Int) > 1)) = false] (by kernel_rfl) ⟨b369_2, g369_0, b369_8, g369_1, b369_14, g369_2, b369_18, b369_e0, trivial⟩ ?_
                obtain ⟨g374_0, h⟩ := ifS h
                refine At.step hm ht ⟨[], [], [], [0, 4, 5], []⟩ 4 ⟨[(0, oc (.d (.str s))), (4, oc (zi (IntKind.wrap .i64 ((IntKind.wrap .i64 ((IntKind.wrap .i64 (n_ * 10)) + (IntKind.wrap .i64 (byteAt s i)))) - 48)))), (5, oc (zi i))], [], [], 0⟩ [(0 : Int) ≤ i ∧ i < (((s).size : Nat) : Int)] (by kernel_rfl) ⟨g374_0, trivial⟩ ?_
                refine At.step hm ht ⟨[], [], [], [0, 4, 5], []⟩ 3 ⟨[(0, oc (.d (.str s))), (4, oc (zi (IntKind.wrap .i64 ((IntKind.wrap .i64 ((IntKind.wrap .i64 (n_ * 10)) + (IntKind.wrap .i64 (byteAt s i)))) - 48)))), (5, oc (zi (IntKind.wrap .i64 (i + 1))))], [], [], 0⟩ [] (by kernel_rfl) trivial ?_
                exact ih s (IntKind.wrap .i64 ((IntKind.wrap .i64 ((IntKind.wrap .i64 (n_ * 10)) + (IntKind.wrap .i64 (byteAt s i)))) - 48)) (IntKind.wrap .i64 (i + 1)) w h o hk
            · refine At.step hm ht ⟨[(2, .b false), (8, .b false), (14, .b false), (18, .b false)], [false], [], [0, 4, 5], []⟩ 7 ⟨[(0, oc (.d (.str s))), (4, oc (zi n_)), (5, oc (zi i))], [], [], 0⟩ [(decide ((i : Int) > 9)) = false, (0 : Int) ≤ i ∧ i < (((s).size : Nat) : Int), (decide (((byteAt s i) : Int) < 48)) = false, (0 : Int) ≤ i ∧ i < (((s).size : Nat) : Int), (decide (((byteAt s i) : Int) > 57)) = false, (0 : Int) ≤ 0 ∧ 0 < (((s).size : Nat) : Int), (((byteAt s 0) : Int) == 48) = false, false = false] (by kernel_rfl) ⟨b369_2, g369_0, b369_8, g369_1, b369_14, g369_2, b369_18, rfl, trivial⟩ ?_
              obtain ⟨g376_0, h⟩ := ifS h
              refine At.step hm ht ⟨[], [], [], [0, 4, 5], []⟩ 4 ⟨[(0, oc (.d (.str s))), (4, oc (zi (IntKind.wrap .i64 ((IntKind.wrap .i64 ((IntKind.wrap .i64 (n_ * 10)) + (IntKind.wrap .i64 (byteAt s i)))) - 48)))), (5, oc (zi i))], [], [], 0⟩ [(0 : Int) ≤ i ∧ i < (((s).size : Nat) : Int)] (by kernel_rfl) ⟨g376_0, trivial⟩ ?_
              refine At.step hm ht ⟨[], [], [], [0, 4, 5], []⟩ 3 ⟨[(0, oc (.d (.str s))), (4, oc (zi (IntKind.wrap .i64 ((IntKind.wrap .i64 ((IntKind.wrap .i64 (n_ * 10)) + (IntKind.wrap .i64 (byteAt s i)))) - 48)))), (5, oc (zi (IntKind.wrap .i64 (i + 1))))], [], [], 0⟩ [] (by kernel_rfl) trivial ?_
              exact ih s (IntKind.wrap .i64 ((IntKind.wrap .i64 ((IntKind.wrap .i64 (n_ * 10)) + (IntKind.wrap .i64 (byteAt s i)))) - 48)) (IntKind.wrap .i64 (i + 1)) w h o hk
    · refine At.step hm ht ⟨[], [false], [], [0, 4], []⟩ 8 ⟨[(0, oc (.d (.str s))), (4, oc (zi n_))], [], [], 0⟩ [(decide ((i : Int) < ((s.size : Nat) : Int))) = false] (by kernel_rfl) ⟨b368_e0, trivial⟩ ?_
      have h := Option.some.inj h
      subst h
      exact hk
def f79_broughamref01_Parse (n : Nat) (s : ByteArray) : Option (Int × Int) :=
  (f79_broughamref01_Parse_L3 n s 0 0).bind fun w378 =>
  match w378 with
  | .inl e379 =>
    some (e379.1, e379.2)
  | .inr e380 =>
    if (e380.1.toList == (⟨#[]⟩ : ByteArray).toList) = true then
      some (0, 10)
    else
      if (decide ((e380.2 : Int) > 2147483647)) = true then
        some (0, 10)
      else
        some (e380.2, 0)
theorem f79_broughamref01_Parse_ok (n : Nat) (s : ByteArray) (r : Int × Int) (h : f79_broughamref01_Parse n s = some r) : FnOK Tryd.prog 79 (f79_broughamref01_Parse_in s) (f79_broughamref01_Parse_out r) := by
  unfold f79_broughamref01_Parse at h
  refine At.fn (r := 0) Tryd.func79 rfl (by kernel_rfl) rfl rfl (by kernel_rfl) ?_
  show At Tryd.prog Tryd.f79 0 0 ⟨[(0, oc (.d (.str s)))], [], [], 0⟩ _
  refine At.step hm ht ⟨[], [], [], [0], []⟩ 1 ⟨[(0, oc (.d (.str s)))], [], [], 0⟩ [] (by kernel_rfl) trivial ?_
  refine At.step hm ht ⟨[], [], [], [0, 4], []⟩ 2 ⟨[(0, oc (.d (.str s))), (4, oc (zi 0))], [], [], 0⟩ [] (by kernel_rfl) trivial ?_
  refine At.step hm ht ⟨[], [], [], [0, 4, 5], []⟩ 3 ⟨[(0, oc (.d (.str s))), (4, oc (zi 0)), (5, oc (zi 0))], [], [], 0⟩ [] (by kernel_rfl) trivial ?_
  obtain ⟨w378, cw378, h⟩ := bindS h
  refine f79_broughamref01_Parse_L3_ok n s 0 0 w378 cw378 _ ?_
  rcases w378 with e379 | e380
  · have h := Option.some.inj h
    subst h
    rfl
  · show At Tryd.prog Tryd.f79 0 8 ⟨[(0, oc (.d (.str e380.1))), (4, oc (zi e380.2))], [], [], 0⟩ _
    rcases iteS h with ⟨b381_2, h⟩ | ⟨b381_2, h⟩
    · refine At.step hm ht ⟨[(2, .b true)], [true], [], [], []⟩ 9 ⟨[], [], [], 0⟩ [(e380.1.toList == (⟨#[]⟩ : ByteArray).toList) = true, true = true] (by kernel_rfl) ⟨b381_2, rfl, trivial⟩ ?_
      have h := Option.some.inj h
      subst h
      exact At.fin hm ht ⟨[], [], [], [2, 3], []⟩ [] (by kernel_rfl) trivial
    · rcases iteS h with ⟨b381_e0, h⟩ | ⟨b381_e0, h⟩
      · refine At.step hm ht ⟨[(2, .b false)], [true], [], [], []⟩ 9 ⟨[], [], [], 0⟩ [(e380.1.toList == (⟨#[]⟩ : ByteArray).toList) = false, (decide ((e380.2 : Int) > 2147483647)) = true] (by kernel_rfl) ⟨b381_2, b381_e0, trivial⟩ ?_
        have h := Option.some.inj h
        subst h
        exact At.fin hm ht ⟨[], [], [], [2, 3], []⟩ [] (by kernel_rfl) trivial
      · refine At.step hm ht ⟨[(2, .b false)], [false], [], [4], []⟩ 10 ⟨[(4, oc (zi e380.2))], [], [], 0⟩ [(e380.1.toList == (⟨#[]⟩ : ByteArray).toList) = false, (decide ((e380.2 : Int) > 2147483647)) = false] (by kernel_rfl) ⟨b381_2, b381_e0, trivial⟩ ?_
        have h := Option.some.inj h
        subst h
        exact At.fin hm ht ⟨[], [], [], [2, 3], []⟩ [] (by kernel_rfl) trivial
/-! brougham/broughamref35.word -/
def f61_broughamref35_word_in (op : Int) : Inn := ⟨[.c (zi op)], [], [], 0⟩
def f61_broughamref35_word_out (r : ByteArray) : Out := ⟨oc (.d (.str r)), [], [], 0⟩
def f61_broughamref35_word (op : Int) : Option (ByteArray) :=
  if ((op : Int) == 1) = true then
    some (⟨#[97, 108, 108]⟩ : ByteArray)
  else
    if ((op : Int) == 3) = true then
      some (⟨#[112, 111, 114, 116]⟩ : ByteArray)
    else
      if ((op : Int) == 4) = true then
        some (⟨#[115, 114, 99]⟩ : ByteArray)
      else
        if ((op : Int) == 5) = true then
          some (⟨#[100, 115, 116]⟩ : ByteArray)
        else
          if ((op : Int) == 6) = true then
            some (⟨#[104, 97, 115]⟩ : ByteArray)
          else
            if ((op : Int) == 7) = true then
              some (⟨#[108, 111, 110, 103]⟩ : ByteArray)
            else
              some (⟨#[101, 109, 112, 116, 121]⟩ : ByteArray)
theorem f61_broughamref35_word_ok (op : Int) (r : ByteArray) (h : f61_broughamref35_word op = some r) : FnOK Tryd.prog 61 (f61_broughamref35_word_in op) (f61_broughamref35_word_out r) := by
  unfold f61_broughamref35_word at h
  refine At.fn (r := 0) Tryd.func61 rfl (by kernel_rfl) rfl rfl (by kernel_rfl) ?_
  show At Tryd.prog Tryd.f61 0 0 ⟨[(0, oc (zi op))], [], [], 0⟩ _
  refine At.step hm ht ⟨[], [], [], [0], []⟩ 1 ⟨[(0, oc (zi op))], [], [], 0⟩ [] (by kernel_rfl) trivial ?_
  refine At.step hm ht ⟨[], [], [], [3], []⟩ 2 ⟨[(3, oc (zi op))], [], [], 0⟩ [] (by kernel_rfl) trivial ?_
  rcases iteS h with ⟨b393_e0, h⟩ | ⟨b393_e0, h⟩
  · refine At.step hm ht ⟨[], [true], [], [], []⟩ 3 ⟨[], [], [], 0⟩ [((op : Int) == 1) = true] (by kernel_rfl) ⟨b393_e0, trivial⟩ ?_
    have h := Option.some.inj h
    subst h
    exact At.fin hm ht ⟨[], [], [], [2], []⟩ [] (by kernel_rfl) trivial
  · refine At.step hm ht ⟨[], [false], [], [3], []⟩ 4 ⟨[(3, oc (zi op))], [], [], 0⟩ [((op : Int) == 1) = false] (by kernel_rfl) ⟨b393_e0, trivial⟩ ?_
    rcases iteS h with ⟨b395_e0, h⟩ | ⟨b395_e0, h⟩
    · refine At.step hm ht ⟨[], [true], [], [], []⟩ 5 ⟨[], [], [], 0⟩ [((op : Int) == 3) = true] (by kernel_rfl) ⟨b395_e0, trivial⟩ ?_
      have h := Option.some.inj h
      subst h
      exact At.fin hm ht ⟨[], [], [], [2], []⟩ [] (by kernel_rfl) trivial
    · refine At.step hm ht ⟨[], [false], [], [3], []⟩ 6 ⟨[(3, oc (zi op))], [], [], 0⟩ [((op : Int) == 3) = false] (by kernel_rfl) ⟨b395_e0, trivial⟩ ?_
      rcases iteS h with ⟨b397_e0, h⟩ | ⟨b397_e0, h⟩
      · refine At.step hm ht ⟨[], [true], [], [], []⟩ 7 ⟨[], [], [], 0⟩ [((op : Int) == 4) = true] (by kernel_rfl) ⟨b397_e0, trivial⟩ ?_
        have h := Option.some.inj h
        subst h
        exact At.fin hm ht ⟨[], [], [], [2], []⟩ [] (by kernel_rfl) trivial
      · refine At.step hm ht ⟨[], [false], [], [3], []⟩ 8 ⟨[(3, oc (zi op))], [], [], 0⟩ [((op : Int) == 4) = false] (by kernel_rfl) ⟨b397_e0, trivial⟩ ?_
        rcases iteS h with ⟨b399_e0, h⟩ | ⟨b399_e0, h⟩
        · refine At.step hm ht ⟨[], [true], [], [], []⟩ 9 ⟨[], [], [], 0⟩ [((op : Int) == 5) = true] (by kernel_rfl) ⟨b399_e0, trivial⟩ ?_
          have h := Option.some.inj h
          subst h
          exact At.fin hm ht ⟨[], [], [], [2], []⟩ [] (by kernel_rfl) trivial
        · refine At.step hm ht ⟨[], [false], [], [3], []⟩ 10 ⟨[(3, oc (zi op))], [], [], 0⟩ [((op : Int) == 5) = false] (by kernel_rfl) ⟨b399_e0, trivial⟩ ?_
          rcases iteS h with ⟨b401_e0, h⟩ | ⟨b401_e0, h⟩
          · refine At.step hm ht ⟨[], [true], [], [], []⟩ 11 ⟨[], [], [], 0⟩ [((op : Int) == 6) = true] (by kernel_rfl) ⟨b401_e0, trivial⟩ ?_
            have h := Option.some.inj h
            subst h
            exact At.fin hm ht ⟨[], [], [], [2], []⟩ [] (by kernel_rfl) trivial
          · refine At.step hm ht ⟨[], [false], [], [3], []⟩ 12 ⟨[(3, oc (zi op))], [], [], 0⟩ [((op : Int) == 6) = false] (by kernel_rfl) ⟨b401_e0, trivial⟩ ?_
            rcases iteS h with ⟨b403_e0, h⟩ | ⟨b403_e0, h⟩
            · refine At.step hm ht ⟨[], [true], [], [], []⟩ 13 ⟨[], [], [], 0⟩ [((op : Int) == 7) = true] (by kernel_rfl) ⟨b403_e0, trivial⟩ ?_
              have h := Option.some.inj h
              subst h
              exact At.fin hm ht ⟨[], [], [], [2], []⟩ [] (by kernel_rfl) trivial
            · refine At.step hm ht ⟨[], [false], [], [], []⟩ 14 ⟨[], [], [], 0⟩ [((op : Int) == 7) = false] (by kernel_rfl) ⟨b403_e0, trivial⟩ ?_
              have h := Option.some.inj h
              subst h
              exact At.fin hm ht ⟨[], [], [], [2], []⟩ [] (by kernel_rfl) trivial
/-! brougham/broughamref35.plain -/
def f101_broughamref35_plain_in (w_ : List ByteArray) : Inn := ⟨[.c (.d (.sl .str w_))], [], [], 0⟩
def f101_broughamref35_plain_out (r : Bool × Int × Int) : Out := ⟨.tup [.agg [zi r.2.1, zi r.2.2, .d (.sl .unit [])], .c (.d (.bool r.1))], [], [(0, [zi r.2.1, zi r.2.2, .d (.sl .unit [])])], 1⟩
def f101_broughamref35_plain_L18 : Nat → (List ByteArray) → Int → Int → Int → Int → Option ((Bool × Int × Int) ⊕ (Int × Int))
  | 0, _, _, _, _, _ => none
  | n + 1, w_, n_, op, t2_0, t2_1 =>
    if (decide ((op : Int) ≤ 7)) = true then
      (f61_broughamref35_word op).bind fun r390_0 =>
      if (0 : Int) ≤ 0 ∧ 0 < (((w_).length : Nat) : Int) then
      if (r390_0.toList == (w_.getD 0 ByteArray.empty).toList) = true then
        some (.inl (true, op, n_))
      else
        f101_broughamref35_plain_L18 n w_ n_ (IntKind.wrap .i64 (op + 1)) t2_0 t2_1
      else none
    else
      some (.inr ((t2_0, t2_1)))
def f101_broughamref35_plain_L18_k (w : (Bool × Int × Int) ⊕ (Int × Int)) (o : Out) : Prop := match w with
  | .inl e => o = f101_broughamref35_plain_out e
  | .inr e => At Tryd.prog Tryd.f101 0 22 ⟨[(2, oc (.ptr 0 0))], [], [(0, [zi e.1, zi e.2, .d (.sl .unit [])])], 1⟩ o
theorem f101_broughamref35_plain_L18_ok (n : Nat) : ∀ (w_ : List ByteArray) (n_ : Int) (op : Int) (t2_0 : Int) (t2_1 : Int) (w : (Bool × Int × Int) ⊕ (Int × Int)) (h : f101_broughamref35_plain_L18 n w_ n_ op t2_0 t2_1 = some w) (o : Out) (hk : f101_broughamref35_plain_L18_k w o), At Tryd.prog Tryd.f101 0 18 ⟨[(0, oc (.d (.sl .str w_))), (2, oc (.ptr 0 0)), (4, oc (zi n_)), (6, oc (zi op))], [], [(0, [zi t2_0, zi t2_1, .d (.sl .unit [])])], 1⟩ o := by
  induction n with
  | zero => intro w_ n_ op t2_0 t2_1 w h; rw [f101_broughamref35_plain_L18] at h; cases h
  | succ n ih =>
    intro w_ n_ op t2_0 t2_1 w h o hk
    rw [f101_broughamref35_plain_L18] at h
    rcases iteS h with ⟨b389_e0, h⟩ | ⟨b389_e0, h⟩
    · refine At.step hm ht ⟨[], [true], [], [0, 2, 4, 6], [0]⟩ 20 ⟨[(0, oc (.d (.sl .str w_))), (2, oc (.ptr 0 0)), (4, oc (zi n_)), (6, oc (zi op))], [], [(0, [zi t2_0, zi t2_1, .d (.sl .unit [])])], 1⟩ [(decide ((op : Int) ≤ 7)) = true] (by kernel_rfl) ⟨b389_e0, trivial⟩ ?_
      obtain ⟨r390_0, cr390_0, h⟩ := bindS h
      obtain ⟨g390_1, h⟩ := ifS h
      rcases iteS h with ⟨b390_e0, h⟩ | ⟨b390_e0, h⟩
      · refine At.step hm ht ⟨[(1, .call [] [] (f61_broughamref35_word_out r390_0))], [true], [], [2, 4, 6], [0]⟩ 21 ⟨[(2, oc (.ptr 0 0)), (4, oc (zi n_)), (6, oc (zi op))], [], [(0, [zi t2_0, zi t2_1, .d (.sl .unit [])])], 1⟩ [FnOK Tryd.prog 61 (f61_broughamref35_word_in op) (f61_broughamref35_word_out r390_0), (0 : Int) ≤ 0 ∧ 0 < (((w_).length : Nat) : Int), (r390_0.toList == (w_.getD 0 ByteArray.empty).toList) = true] (by kernel_rfl) ⟨(f61_broughamref35_word_ok op r390_0 cr390_0), g390_1, b390_e0, trivial⟩ ?_
        have h := Option.some.inj h
        subst h
        have hk : o = f101_broughamref35_plain_out (true, op, n_) := hk
        subst hk
        exact At.fin hm ht ⟨[], [], [], [2, 3], [0]⟩ [0 + 3 ≤ 3] (by kernel_rfl) ⟨(by decide), trivial⟩
      · refine At.step hm ht ⟨[(1, .call [] [] (f61_broughamref35_word_out r390_0))], [false], [], [0, 2, 4, 6], [0]⟩ 19 ⟨[(0, oc (.d (.sl .str w_))), (2, oc (.ptr 0 0)), (4, oc (zi n_)), (6, oc (zi op))], [], [(0, [zi t2_0, zi t2_1, .d (.sl .unit [])])], 1⟩ [FnOK Tryd.prog 61 (f61_broughamref35_word_in op) (f61_broughamref35_word_out r390_0), (0 : Int) ≤ 0 ∧ 0 < (((w_).length : Nat) : Int), (r390_0.toList == (w_.getD 0 ByteArray.empty).toList) = false] (by kernel_rfl) ⟨(f61_broughamref35_word_ok op r390_0 cr390_0), g390_1, b390_e0, trivial⟩ ?_
        refine At.step hm ht ⟨[], [], [], [0, 2, 4, 6], [0]⟩ 18 ⟨[(0, oc (.d (.sl .str w_))), (2, oc (.ptr 0 0)), (4, oc (zi n_)), (6, oc (zi (IntKind.wrap .i64 (op + 1))))], [], [(0, [zi t2_0, zi t2_1, .d (.sl .unit [])])], 1⟩ [] (by kernel_rfl) trivial ?_
        exact ih w_ n_ (IntKind.wrap .i64 (op + 1)) t2_0 t2_1 w h o hk
    · refine At.step hm ht ⟨[], [false], [], [2], [0]⟩ 22 ⟨[(2, oc (.ptr 0 0))], [], [(0, [zi t2_0, zi t2_1, .d (.sl .unit [])])], 1⟩ [(decide ((op : Int) ≤ 7)) = false] (by kernel_rfl) ⟨b389_e0, trivial⟩ ?_
      have h := Option.some.inj h
      subst h
      exact hk
def f101_broughamref35_plain (n : Nat) (w_ : List ByteArray) : Option (Bool × Int × Int) :=
  if ((((w_.length : Nat) : Int) : Int) == 1) = true then
    if (0 : Int) ≤ 0 ∧ 0 < (((w_).length : Nat) : Int) then
    if ((w_.getD 0 ByteArray.empty).toList == (⟨#[97, 108, 108]⟩ : ByteArray).toList) = true then
      some (true, 1, 0)
    else
      if ((w_.getD 0 ByteArray.empty).toList == (⟨#[101, 109, 112, 116, 121]⟩ : ByteArray).toList) = true then
        some (true, 11, 0)
      else
        if ((w_.getD 0 ByteArray.empty).toList == (⟨#[115, 121, 110]⟩ : ByteArray).toList) = true then
          some (true, 2, 1)
        else
          if ((w_.getD 0 ByteArray.empty).toList == (⟨#[97, 99, 107]⟩ : ByteArray).toList) = true then
            some (true, 2, 2)
          else
            if ((w_.getD 0 ByteArray.empty).toList == (⟨#[114, 115, 116]⟩ : ByteArray).toList) = true then
              some (true, 2, 4)
            else
              some (false, 0, 0)
    else none
  else
    if (0 : Int) ≤ 1 ∧ 1 < (((w_).length : Nat) : Int) then
    (f79_broughamref01_Parse n (w_.getD 1 ByteArray.empty)).bind fun r364_1 =>
    if ((((w_.length : Nat) : Int) : Int) != 2) = true then
      some (false, 0, 0)
    else
      if ((r364_1.2 : Int) != 0) = true then
        some (false, 0, 0)
      else
        (f101_broughamref35_plain_L18 n w_ r364_1.1 3 0 0).bind fun w408 =>
        match w408 with
        | .inl e409 =>
          some (e409.1, e409.2.1, e409.2.2)
        | .inr e410 =>
          some (false, 0, 0)
    else none
theorem f101_broughamref35_plain_ok (n : Nat) (w_ : List ByteArray) (r : Bool × Int × Int) (h : f101_broughamref35_plain n w_ = some r) : FnOK Tryd.prog 101 (f101_broughamref35_plain_in w_) (f101_broughamref35_plain_out r) := by
  unfold f101_broughamref35_plain at h
  refine At.fn (r := 0) Tryd.func101 rfl (by kernel_rfl) rfl rfl (by kernel_rfl) ?_
  show At Tryd.prog Tryd.f101 0 0 ⟨[(0, oc (.d (.sl .str w_)))], [], [], 0⟩ _
  refine At.step hm ht ⟨[], [], [], [0, 2], [0]⟩ 1 ⟨[(0, oc (.d (.sl .str w_))), (2, oc (.ptr 0 0))], [], [(0, [zi 0, zi 0, .d (.sl .unit [])])], 1⟩ [] (by kernel_rfl) trivial ?_
  rcases iteS h with ⟨b351_e0, h⟩ | ⟨b351_e0, h⟩
  · refine At.step hm ht ⟨[], [true], [], [0, 2], [0]⟩ 2 ⟨[(0, oc (.d (.sl .str w_))), (2, oc (.ptr 0 0))], [], [(0, [zi 0, zi 0, .d (.sl .unit [])])], 1⟩ [((((w_.length : Nat) : Int) : Int) == 1) = true] (by kernel_rfl) ⟨b351_e0, trivial⟩ ?_
    obtain ⟨g352_0, h⟩ := ifS h
    refine At.step hm ht ⟨[], [], [], [2, 12], [0]⟩ 3 ⟨[(2, oc (.ptr 0 0)), (12, oc (.d (.str (w_.getD 0 ByteArray.empty))))], [], [(0, [zi 0, zi 0, .d (.sl .unit [])])], 1⟩ [(0 : Int) ≤ 0 ∧ 0 < (((w_).length : Nat) : Int)] (by kernel_rfl) ⟨g352_0, trivial⟩ ?_
    rcases iteS h with ⟨b353_e0, h⟩ | ⟨b353_e0, h⟩
    · refine At.step hm ht ⟨[], [true], [], [2], [0]⟩ 4 ⟨[(2, oc (.ptr 0 0))], [], [(0, [zi 0, zi 0, .d (.sl .unit [])])], 1⟩ [((w_.getD 0 ByteArray.empty).toList == (⟨#[97, 108, 108]⟩ : ByteArray).toList) = true] (by kernel_rfl) ⟨b353_e0, trivial⟩ ?_
      have h := Option.some.inj h
      subst h
      exact At.fin hm ht ⟨[], [], [], [2, 3], [0]⟩ [0 + 3 ≤ 3] (by kernel_rfl) ⟨(by decide), trivial⟩
    · refine At.step hm ht ⟨[], [false], [], [2, 12], [0]⟩ 5 ⟨[(2, oc (.ptr 0 0)), (12, oc (.d (.str (w_.getD 0 ByteArray.empty))))], [], [(0, [zi 0, zi 0, .d (.sl .unit [])])], 1⟩ [((w_.getD 0 ByteArray.empty).toList == (⟨#[97, 108, 108]⟩ : ByteArray).toList) = false] (by kernel_rfl) ⟨b353_e0, trivial⟩ ?_
      rcases iteS h with ⟨b355_e0, h⟩ | ⟨b355_e0, h⟩
      · refine At.step hm ht ⟨[], [true], [], [2], [0]⟩ 6 ⟨[(2, oc (.ptr 0 0))], [], [(0, [zi 0, zi 0, .d (.sl .unit [])])], 1⟩ [((w_.getD 0 ByteArray.empty).toList == (⟨#[101, 109, 112, 116, 121]⟩ : ByteArray).toList) = true] (by kernel_rfl) ⟨b355_e0, trivial⟩ ?_
        have h := Option.some.inj h
        subst h
        exact At.fin hm ht ⟨[], [], [], [2, 3], [0]⟩ [0 + 3 ≤ 3] (by kernel_rfl) ⟨(by decide), trivial⟩
      · refine At.step hm ht ⟨[], [false], [], [2, 12], [0]⟩ 7 ⟨[(2, oc (.ptr 0 0)), (12, oc (.d (.str (w_.getD 0 ByteArray.empty))))], [], [(0, [zi 0, zi 0, .d (.sl .unit [])])], 1⟩ [((w_.getD 0 ByteArray.empty).toList == (⟨#[101, 109, 112, 116, 121]⟩ : ByteArray).toList) = false] (by kernel_rfl) ⟨b355_e0, trivial⟩ ?_
        rcases iteS h with ⟨b357_e0, h⟩ | ⟨b357_e0, h⟩
        · refine At.step hm ht ⟨[], [true], [], [2], [0]⟩ 8 ⟨[(2, oc (.ptr 0 0))], [], [(0, [zi 0, zi 0, .d (.sl .unit [])])], 1⟩ [((w_.getD 0 ByteArray.empty).toList == (⟨#[115, 121, 110]⟩ : ByteArray).toList) = true] (by kernel_rfl) ⟨b357_e0, trivial⟩ ?_
          have h := Option.some.inj h
          subst h
          exact At.fin hm ht ⟨[], [], [], [2, 3], [0]⟩ [0 + 3 ≤ 3] (by kernel_rfl) ⟨(by decide), trivial⟩
        · refine At.step hm ht ⟨[], [false], [], [2, 12], [0]⟩ 9 ⟨[(2, oc (.ptr 0 0)), (12, oc (.d (.str (w_.getD 0 ByteArray.empty))))], [], [(0, [zi 0, zi 0, .d (.sl .unit [])])], 1⟩ [((w_.getD 0 ByteArray.empty).toList == (⟨#[115, 121, 110]⟩ : ByteArray).toList) = false] (by kernel_rfl) ⟨b357_e0, trivial⟩ ?_
          rcases iteS h with ⟨b359_e0, h⟩ | ⟨b359_e0, h⟩
          · refine At.step hm ht ⟨[], [true], [], [2], [0]⟩ 10 ⟨[(2, oc (.ptr 0 0))], [], [(0, [zi 0, zi 0, .d (.sl .unit [])])], 1⟩ [((w_.getD 0 ByteArray.empty).toList == (⟨#[97, 99, 107]⟩ : ByteArray).toList) = true] (by kernel_rfl) ⟨b359_e0, trivial⟩ ?_
            have h := Option.some.inj h
            subst h
            exact At.fin hm ht ⟨[], [], [], [2, 3], [0]⟩ [0 + 3 ≤ 3] (by kernel_rfl) ⟨(by decide), trivial⟩
          · refine At.step hm ht ⟨[], [false], [], [2, 12], [0]⟩ 11 ⟨[(2, oc (.ptr 0 0)), (12, oc (.d (.str (w_.getD 0 ByteArray.empty))))], [], [(0, [zi 0, zi 0, .d (.sl .unit [])])], 1⟩ [((w_.getD 0 ByteArray.empty).toList == (⟨#[97, 99, 107]⟩ : ByteArray).toList) = false] (by kernel_rfl) ⟨b359_e0, trivial⟩ ?_
            rcases iteS h with ⟨b361_e0, h⟩ | ⟨b361_e0, h⟩
            · refine At.step hm ht ⟨[], [true], [], [2], [0]⟩ 12 ⟨[(2, oc (.ptr 0 0))], [], [(0, [zi 0, zi 0, .d (.sl .unit [])])], 1⟩ [((w_.getD 0 ByteArray.empty).toList == (⟨#[114, 115, 116]⟩ : ByteArray).toList) = true] (by kernel_rfl) ⟨b361_e0, trivial⟩ ?_
              have h := Option.some.inj h
              subst h
              exact At.fin hm ht ⟨[], [], [], [2, 3], [0]⟩ [0 + 3 ≤ 3] (by kernel_rfl) ⟨(by decide), trivial⟩
            · refine At.step hm ht ⟨[], [false], [], [2], [0]⟩ 13 ⟨[(2, oc (.ptr 0 0))], [], [(0, [zi 0, zi 0, .d (.sl .unit [])])], 1⟩ [((w_.getD 0 ByteArray.empty).toList == (⟨#[114, 115, 116]⟩ : ByteArray).toList) = false] (by kernel_rfl) ⟨b361_e0, trivial⟩ ?_
              have h := Option.some.inj h
              subst h
              exact At.fin hm ht ⟨[], [], [], [2, 3], [0]⟩ [0 + 3 ≤ 3] (by kernel_rfl) ⟨(by decide), trivial⟩
  · refine At.step hm ht ⟨[], [false], [], [0, 2], [0]⟩ 14 ⟨[(0, oc (.d (.sl .str w_))), (2, oc (.ptr 0 0))], [], [(0, [zi 0, zi 0, .d (.sl .unit [])])], 1⟩ [((((w_.length : Nat) : Int) : Int) == 1) = false] (by kernel_rfl) ⟨b351_e0, trivial⟩ ?_
    obtain ⟨g364_0, h⟩ := ifS h
    obtain ⟨r364_1, cr364_1, h⟩ := bindS h
    refine At.step hm ht ⟨[(3, .call [] [] (f79_broughamref01_Parse_out r364_1))], [], [], [0, 2, 4, 5], [0]⟩ 15 ⟨[(0, oc (.d (.sl .str w_))), (2, oc (.ptr 0 0)), (4, oc (zi r364_1.1)), (5, oc (zi r364_1.2))], [], [(0, [zi 0, zi 0, .d (.sl .unit [])])], 1⟩ [(0 : Int) ≤ 1 ∧ 1 < (((w_).length : Nat) : Int), FnOK Tryd.prog 79 (f79_broughamref01_Parse_in (w_.getD 1 ByteArray.empty)) (f79_broughamref01_Parse_out r364_1)] (by kernel_rfl) ⟨g364_0, (f79_broughamref01_Parse_ok n (w_.getD 1 ByteArray.empty) r364_1 cr364_1), trivial⟩ ?_
    rcases iteS h with ⟨b385_3, h⟩ | ⟨b385_3, h⟩
    · refine At.step hm ht ⟨[(3, .b true)], [true], [], [2], [0]⟩ 16 ⟨[(2, oc (.ptr 0 0))], [], [(0, [zi 0, zi 0, .d (.sl .unit [])])], 1⟩ [((((w_.length : Nat) : Int) : Int) != 2) = true, true = true] (by kernel_rfl) ⟨b385_3, rfl, trivial⟩ ?_
      have h := Option.some.inj h
      subst h
      exact At.fin hm ht ⟨[], [], [], [2, 3], [0]⟩ [0 + 3 ≤ 3] (by kernel_rfl) ⟨(by decide), trivial⟩
    · rcases iteS h with ⟨b385_e0, h⟩ | ⟨b385_e0, h⟩
      · refine At.step hm ht ⟨[(3, .b false)], [true], [], [2], [0]⟩ 16 ⟨[(2, oc (.ptr 0 0))], [], [(0, [zi 0, zi 0, .d (.sl .unit [])])], 1⟩ [((((w_.length : Nat) : Int) : Int) != 2) = false, ((r364_1.2 : Int) != 0) = true] (by kernel_rfl) ⟨b385_3, b385_e0, trivial⟩ ?_
        have h := Option.some.inj h
        subst h
        exact At.fin hm ht ⟨[], [], [], [2, 3], [0]⟩ [0 + 3 ≤ 3] (by kernel_rfl) ⟨(by decide), trivial⟩
      · refine At.step hm ht ⟨[(3, .b false)], [false], [], [0, 2, 4], [0]⟩ 17 ⟨[(0, oc (.d (.sl .str w_))), (2, oc (.ptr 0 0)), (4, oc (zi r364_1.1))], [], [(0, [zi 0, zi 0, .d (.sl .unit [])])], 1⟩ [((((w_.length : Nat) : Int) : Int) != 2) = false, ((r364_1.2 : Int) != 0) = false] (by kernel_rfl) ⟨b385_3, b385_e0, trivial⟩ ?_
        refine At.step hm ht ⟨[], [], [], [0, 2, 4, 6], [0]⟩ 18 ⟨[(0, oc (.d (.sl .str w_))), (2, oc (.ptr 0 0)), (4, oc (zi r364_1.1)), (6, oc (zi 3))], [], [(0, [zi 0, zi 0, .d (.sl .unit [])])], 1⟩ [] (by kernel_rfl) trivial ?_
        obtain ⟨w408, cw408, h⟩ := bindS h
        refine f101_broughamref35_plain_L18_ok n w_ r364_1.1 3 0 0 w408 cw408 _ ?_
        rcases w408 with e409 | e410
        · have h := Option.some.inj h
          subst h
          rfl
        · show At Tryd.prog Tryd.f101 0 22 ⟨[(2, oc (.ptr 0 0))], [], [(0, [zi e410.1, zi e410.2, .d (.sl .unit [])])], 1⟩ _
          have h := Option.some.inj h
          subst h
          exact At.fin hm ht ⟨[], [], [], [2, 3], [0]⟩ [0 + 3 ≤ 3] (by kernel_rfl) ⟨(by decide), trivial⟩
/-! brougham/broughamref35.one -/
def f86_broughamref35_one_in (w_ : List ByteArray) (left : Int) : Inn := ⟨[.c (.d (.sl .str w_)), .c (zi left)], [], [], 0⟩
def f86_broughamref35_one_out (r : Bool × Int × Int × List (Int × Int × List FT)) : Out := ⟨.tup [.agg [zi r.2.1, zi r.2.2.1, .own 1 (.pair (.int .i64) (.pair (.int .i64) .wood)) r.2.2.2], .c (.d (.bool r.1))], [(1, ⟨42, 0⟩)], [(0, [zi r.2.1, zi r.2.2.1, .own 1 (.pair (.int .i64) (.pair (.int .i64) .wood)) r.2.2.2])], 2⟩
/-! brougham/broughamref35.read -/
def f55_broughamref35_read_in (w_ : List ByteArray) (left : Int) : Inn := ⟨[.c (.d (.sl .str w_)), .c (zi left)], [], [], 0⟩
def f55_broughamref35_read_out (r : Bool × Int × Int × List (Int × Int × List FT)) : Out := ⟨.tup [.agg [zi r.2.1, zi r.2.2.1, .own 1 (.pair (.int .i64) (.pair (.int .i64) .wood)) r.2.2.2], .c (.d (.bool r.1))], [(1, ⟨42, 0⟩)], [(0, [zi r.2.1, zi r.2.2.1, .own 1 (.pair (.int .i64) (.pair (.int .i64) .wood)) r.2.2.2])], 2⟩
def f86_broughamref35_one (rc_f55_broughamref35_read : (List ByteArray) → Int → Option (Bool × Int × Int × List (Int × Int × List FT))) : Nat → (List ByteArray) → Int → Option (Bool × Int × Int × List (Int × Int × List FT))
  | 0, _, _ => none
  | n + 1, w_, left =>
    if ((((w_.length : Nat) : Int) : Int) == 0) = true then
      some (false, 0, 0, [])
    else
      if (decide ((left : Int) < 1)) = true then
        some (false, 0, 0, [])
      else
        if (0 : Int) ≤ 0 ∧ 0 < (((w_).length : Nat) : Int) then
        if ((w_.getD 0 ByteArray.empty).toList == (⟨#[110, 111, 116]⟩ : ByteArray).toList) = true then
          if cutOk w_.length (some 1) none none then
          ((f86_broughamref35_one rc_f55_broughamref35_read n) ((w_.take w_.length).drop 1) (IntKind.wrap .i64 (left - 1))).bind fun r315_1 =>
          some (r315_1.1, 8, 0, [(r315_1.2.1, (r315_1.2.2.1, (r315_1.2.2.2.map FT.of)))])
          else none
        else
          if (0 : Int) ≤ 0 ∧ 0 < (((w_).length : Nat) : Int) then
          if ((w_.getD 0 ByteArray.empty).toList == (⟨#[40]⟩ : ByteArray).toList) = true then
            if (0 : Int) ≤ (IntKind.wrap .i64 (((w_.length : Nat) : Int) - 1)) ∧ (IntKind.wrap .i64 (((w_.length : Nat) : Int) - 1)) < (((w_).length : Nat) : Int) then
            if ((w_.getD (IntKind.wrap .i64 (((w_.length : Nat) : Int) - 1)).toNat ByteArray.empty).toList == (⟨#[41]⟩ : ByteArray).toList) = true then
              if (decide ((((w_.length : Nat) : Int) : Int) > 2)) = true then
                (f100_broughamref35_closes n w_).bind fun r317_2 =>
                if r317_2 = true then
                  if cutOk w_.length (some 1) (some (IntKind.wrap .i64 (((w_.length : Nat) : Int) - 1))) none then
                  (rc_f55_broughamref35_read ((w_.take (IntKind.wrap .i64 (((w_.length : Nat) : Int) - 1)).toNat).drop 1) (IntKind.wrap .i64 (left - 1))).bind fun r348_1 =>
                  some (r348_1.1, r348_1.2.1, r348_1.2.2.1, r348_1.2.2.2)
                  else none
                else
                  (f101_broughamref35_plain n w_).bind fun r349_0 =>
                  some (r349_0.1, r349_0.2.1, r349_0.2.2, [])
              else
                (f101_broughamref35_plain n w_).bind fun r412_0 =>
                some (r412_0.1, r412_0.2.1, r412_0.2.2, [])
            else
              (f101_broughamref35_plain n w_).bind fun r413_0 =>
              some (r413_0.1, r413_0.2.1, r413_0.2.2, [])
            else none
          else
            (f101_broughamref35_plain n w_).bind fun r414_0 =>
            some (r414_0.1, r414_0.2.1, r414_0.2.2, [])
          else none
        else none
theorem f86_broughamref35_one_ok (rc_f55_broughamref35_read : (List ByteArray) → Int → Option (Bool × Int × Int × List (Int × Int × List FT))) (hrc_f55_broughamref35_read : ∀ (w_ : List ByteArray) (left : Int) (r : Bool × Int × Int × List (Int × Int × List FT)) (h : rc_f55_broughamref35_read w_ left = some r), FnOK Tryd.prog 55 (f55_broughamref35_read_in w_ left) (f55_broughamref35_read_out r)) (n : Nat) : ∀ (w_ : List ByteArray) (left : Int) (r : Bool × Int × Int × List (Int × Int × List FT)) (h : f86_broughamref35_one rc_f55_broughamref35_read n w_ left = some r), FnOK Tryd.prog 86 (f86_broughamref35_one_in w_ left) (f86_broughamref35_one_out r) := by
  induction n with
  | zero => intro w_ left r h; rw [f86_broughamref35_one] at h; cases h
  | succ n ih =>
    intro w_ left r h
    rw [f86_broughamref35_one] at h
    refine At.fn (r := 0) Tryd.func86 rfl (by kernel_rfl) rfl rfl (by kernel_rfl) ?_
    show At Tryd.prog Tryd.f86 0 0 ⟨[(0, oc (.d (.sl .str w_))), (1, oc (zi left))], [], [], 0⟩ _
    refine At.step hm ht ⟨[], [], [], [0, 1, 4], [0]⟩ 1 ⟨[(0, oc (.d (.sl .str w_))), (1, oc (zi left)), (4, oc (.ptr 0 0))], [], [(0, [zi 0, zi 0, .d (.sl .unit [])])], 1⟩ [] (by kernel_rfl) trivial ?_
    rcases iteS h with ⟨b311_3, h⟩ | ⟨b311_3, h⟩
    · refine At.step hm ht ⟨[(3, .b true)], [true], [], [4], [0]⟩ 2 ⟨[(4, oc (.ptr 0 0))], [], [(0, [zi 0, zi 0, .d (.sl .unit [])])], 1⟩ [((((w_.length : Nat) : Int) : Int) == 0) = true, true = true] (by kernel_rfl) ⟨b311_3, rfl, trivial⟩ ?_
      have h := Option.some.inj h
      subst h
      exact At.fin hm ht ⟨[], [], [.nil true 0 2 (.pair (.int .i64) (.pair (.int .i64) .wood)) (some 42)], [4, 5], [0, 4]⟩ [0 + 3 ≤ 3] (by kernel_rfl) ⟨(by decide), trivial⟩
    · rcases iteS h with ⟨b311_e0, h⟩ | ⟨b311_e0, h⟩
      · refine At.step hm ht ⟨[(3, .b false)], [true], [], [4], [0]⟩ 2 ⟨[(4, oc (.ptr 0 0))], [], [(0, [zi 0, zi 0, .d (.sl .unit [])])], 1⟩ [((((w_.length : Nat) : Int) : Int) == 0) = false, (decide ((left : Int) < 1)) = true] (by kernel_rfl) ⟨b311_3, b311_e0, trivial⟩ ?_
        have h := Option.some.inj h
        subst h
        exact At.fin hm ht ⟨[], [], [.nil true 0 2 (.pair (.int .i64) (.pair (.int .i64) .wood)) (some 42)], [4, 5], [0, 4]⟩ [0 + 3 ≤ 3] (by kernel_rfl) ⟨(by decide), trivial⟩
      · refine At.step hm ht ⟨[(3, .b false)], [false], [], [0, 1, 4], [0]⟩ 3 ⟨[(0, oc (.d (.sl .str w_))), (1, oc (zi left)), (4, oc (.ptr 0 0))], [], [(0, [zi 0, zi 0, .d (.sl .unit [])])], 1⟩ [((((w_.length : Nat) : Int) : Int) == 0) = false, (decide ((left : Int) < 1)) = false] (by kernel_rfl) ⟨b311_3, b311_e0, trivial⟩ ?_
        obtain ⟨g314_0, h⟩ := ifS h
        rcases iteS h with ⟨b314_e0, h⟩ | ⟨b314_e0, h⟩
        · refine At.step hm ht ⟨[], [true], [], [0, 1, 4], [0]⟩ 4 ⟨[(0, oc (.d (.sl .str w_))), (1, oc (zi left)), (4, oc (.ptr 0 0))], [], [(0, [zi 0, zi 0, .d (.sl .unit [])])], 1⟩ [(0 : Int) ≤ 0 ∧ 0 < (((w_).length : Nat) : Int), ((w_.getD 0 ByteArray.empty).toList == (⟨#[110, 111, 116]⟩ : ByteArray).toList) = true] (by kernel_rfl) ⟨g314_0, b314_e0, trivial⟩ ?_
          obtain ⟨g315_0, h⟩ := ifS h
          obtain ⟨r315_1, cr315_1, h⟩ := bindS h
          refine At.step hm ht ⟨[(4, .call [] [] (f86_broughamref35_one_out r315_1))], [], [], [4, 6, 7], [0, 10, 6]⟩ 5 ⟨[(4, oc (.ptr 0 0)), (6, oc (.ptr 1 0)), (7, oc (.d (.bool r315_1.1)))], [(2, some ⟨42, 0⟩)], [(0, [zi 0, zi 0, .d (.sl .unit [])]), (1, [zi r315_1.2.1, zi r315_1.2.2.1, .own 2 (.pair (.int .i64) (.pair (.int .i64) .wood)) r315_1.2.2.2])], 3⟩ [cutOk w_.length (some 1) none none, FnOK Tryd.prog 86 (f86_broughamref35_one_in ((w_.take w_.length).drop 1) (IntKind.wrap .i64 (left - 1))) (f86_broughamref35_one_out r315_1), 0 + 3 ≤ 3] (by kernel_rfl) ⟨g315_0, (ih ((w_.take w_.length).drop 1) (IntKind.wrap .i64 (left - 1)) r315_1 cr315_1), (by decide), trivial⟩ ?_
          have h := Option.some.inj h
          subst h
          exact At.fin hm ht ⟨[], [], [.flag 4], [4, 5], [0, 4]⟩ [0 + 3 ≤ 3] (by kernel_rfl) ⟨(by decide), trivial⟩
        · refine At.step hm ht ⟨[], [false], [], [0, 1, 4], [0]⟩ 6 ⟨[(0, oc (.d (.sl .str w_))), (1, oc (zi left)), (4, oc (.ptr 0 0))], [], [(0, [zi 0, zi 0, .d (.sl .unit [])])], 1⟩ [(0 : Int) ≤ 0 ∧ 0 < (((w_).length : Nat) : Int), ((w_.getD 0 ByteArray.empty).toList == (⟨#[110, 111, 116]⟩ : ByteArray).toList) = false] (by kernel_rfl) ⟨g314_0, b314_e0, trivial⟩ ?_
          obtain ⟨g317_0, h⟩ := ifS h
          rcases iteS h with ⟨b317_4, h⟩ | ⟨b317_4, h⟩
          · obtain ⟨g317_1, h⟩ := ifS h
            rcases iteS h with ⟨b317_13, h⟩ | ⟨b317_13, h⟩
            · rcases iteS h with ⟨b317_18, h⟩ | ⟨b317_18, h⟩
              · obtain ⟨r317_2, cr317_2, h⟩ := bindS h
                rcases iteS h with ⟨b317_e0, h⟩ | ⟨b317_e0, h⟩
                · refine At.step hm ht ⟨[(4, .b true), (13, .b true), (18, .b true), (20, .call [] [] (f100_broughamref35_closes_out r317_2))], [true], [], [0, 1, 4], [0]⟩ 7 ⟨[(0, oc (.d (.sl .str w_))), (1, oc (zi left)), (4, oc (.ptr 0 0))], [], [(0, [zi 0, zi 0, .d (.sl .unit [])])], 1⟩ [(0 : Int) ≤ 0 ∧ 0 < (((w_).length : Nat) : Int), ((w_.getD 0 ByteArray.empty).toList == (⟨#[40]⟩ : ByteArray).toList) = true, (0 : Int) ≤ (IntKind.wrap .i64 (((w_.length : Nat) : Int) - 1)) ∧ (IntKind.wrap .i64 (((w_.length : Nat) : Int) - 1)) < (((w_).length : Nat) : Int), ((w_.getD (IntKind.wrap .i64 (((w_.length : Nat) : Int) - 1)).toNat ByteArray.empty).toList == (⟨#[41]⟩ : ByteArray).toList) = true, (decide ((((w_.length : Nat) : Int) : Int) > 2)) = true, FnOK Tryd.prog 100 (f100_broughamref35_closes_in w_) (f100_broughamref35_closes_out r317_2), r317_2 = true] (by kernel_rfl) ⟨g317_0, b317_4, g317_1, b317_13, b317_18, (f100_broughamref35_closes_ok n w_ r317_2 cr317_2), b317_e0, trivial⟩ ?_
                  obtain ⟨g348_0, h⟩ := ifS h
                  obtain ⟨r348_1, cr348_1, h⟩ := bindS h
                  have h := Option.some.inj h
                  subst h
                  exact At.fin hm ht ⟨[(7, .call [] [] (f55_broughamref35_read_out r348_1))], [], [], [4, 5], [0, 9]⟩ [cutOk w_.length (some 1) (some (IntKind.wrap .i64 (((w_.length : Nat) : Int) - 1))) none, FnOK Tryd.prog 55 (f55_broughamref35_read_in ((w_.take (IntKind.wrap .i64 (((w_.length : Nat) : Int) - 1)).toNat).drop 1) (IntKind.wrap .i64 (left - 1))) (f55_broughamref35_read_out r348_1), 0 + 3 ≤ 3] (by kernel_rfl) ⟨g348_0, (hrc_f55_broughamref35_read ((w_.take (IntKind.wrap .i64 (((w_.length : Nat) : Int) - 1)).toNat).drop 1) (IntKind.wrap .i64 (left - 1)) r348_1 cr348_1), (by decide), trivial⟩
                · refine At.step hm ht ⟨[(4, .b true), (13, .b true), (18, .b true), (20, .call [] [] (f100_broughamref35_closes_out r317_2))], [false], [], [0, 4], [0]⟩ 8 ⟨[(0, oc (.d (.sl .str w_))), (4, oc (.ptr 0 0))], [], [(0, [zi 0, zi 0, .d (.sl .unit [])])], 1⟩ [(0 : Int) ≤ 0 ∧ 0 < (((w_).length : Nat) : Int), ((w_.getD 0 ByteArray.empty).toList == (⟨#[40]⟩ : ByteArray).toList) = true, (0 : Int) ≤ (IntKind.wrap .i64 (((w_.length : Nat) : Int) - 1)) ∧ (IntKind.wrap .i64 (((w_.length : Nat) : Int) - 1)) < (((w_).length : Nat) : Int), ((w_.getD (IntKind.wrap .i64 (((w_.length : Nat) : Int) - 1)).toNat ByteArray.empty).toList == (⟨#[41]⟩ : ByteArray).toList) = true, (decide ((((w_.length : Nat) : Int) : Int) > 2)) = true, FnOK Tryd.prog 100 (f100_broughamref35_closes_in w_) (f100_broughamref35_closes_out r317_2), r317_2 = false] (by kernel_rfl) ⟨g317_0, b317_4, g317_1, b317_13, b317_18, (f100_broughamref35_closes_ok n w_ r317_2 cr317_2), b317_e0, trivial⟩ ?_
                  obtain ⟨r349_0, cr349_0, h⟩ := bindS h
                  have h := Option.some.inj h
                  subst h
                  exact At.fin hm ht ⟨[(1, .call [] [] (f101_broughamref35_plain_out r349_0))], [], [.nil true 0 2 (.pair (.int .i64) (.pair (.int .i64) .wood)) (some 42)], [4, 5], [0, 7]⟩ [FnOK Tryd.prog 101 (f101_broughamref35_plain_in w_) (f101_broughamref35_plain_out r349_0), 0 + 3 ≤ 3] (by kernel_rfl) ⟨(f101_broughamref35_plain_ok n w_ r349_0 cr349_0), (by decide), trivial⟩
              · refine At.step hm ht ⟨[(4, .b true), (13, .b true), (18, .b false)], [false], [], [0, 4], [0]⟩ 8 ⟨[(0, oc (.d (.sl .str w_))), (4, oc (.ptr 0 0))], [], [(0, [zi 0, zi 0, .d (.sl .unit [])])], 1⟩ [(0 : Int) ≤ 0 ∧ 0 < (((w_).length : Nat) : Int), ((w_.getD 0 ByteArray.empty).toList == (⟨#[40]⟩ : ByteArray).toList) = true, (0 : Int) ≤ (IntKind.wrap .i64 (((w_.length : Nat) : Int) - 1)) ∧ (IntKind.wrap .i64 (((w_.length : Nat) : Int) - 1)) < (((w_).length : Nat) : Int), ((w_.getD (IntKind.wrap .i64 (((w_.length : Nat) : Int) - 1)).toNat ByteArray.empty).toList == (⟨#[41]⟩ : ByteArray).toList) = true, (decide ((((w_.length : Nat) : Int) : Int) > 2)) = false, false = false] (by kernel_rfl) ⟨g317_0, b317_4, g317_1, b317_13, b317_18, rfl, trivial⟩ ?_
                obtain ⟨r412_0, cr412_0, h⟩ := bindS h
                have h := Option.some.inj h
                subst h
                exact At.fin hm ht ⟨[(1, .call [] [] (f101_broughamref35_plain_out r412_0))], [], [.nil true 0 2 (.pair (.int .i64) (.pair (.int .i64) .wood)) (some 42)], [4, 5], [0, 7]⟩ [FnOK Tryd.prog 101 (f101_broughamref35_plain_in w_) (f101_broughamref35_plain_out r412_0), 0 + 3 ≤ 3] (by kernel_rfl) ⟨(f101_broughamref35_plain_ok n w_ r412_0 cr412_0), (by decide), trivial⟩
            · refine At.step hm ht ⟨[(4, .b true), (13, .b false)], [false], [], [0, 4], [0]⟩ 8 ⟨[(0, oc (.d (.sl .str w_))), (4, oc (.ptr 0 0))], [], [(0, [zi 0, zi 0, .d (.sl .unit [])])], 1⟩ [(0 : Int) ≤ 0 ∧ 0 < (((w_).length : Nat) : Int), ((w_.getD 0 ByteArray.empty).toList == (⟨#[40]⟩ : ByteArray).toList) = true, (0 : Int) ≤ (IntKind.wrap .i64 (((w_.length : Nat) : Int) - 1)) ∧ (IntKind.wrap .i64 (((w_.length : Nat) : Int) - 1)) < (((w_).length : Nat) : Int), ((w_.getD (IntKind.wrap .i64 (((w_.length : Nat) : Int) - 1)).toNat ByteArray.empty).toList == (⟨#[41]⟩ : ByteArray).toList) = false, false = false] (by kernel_rfl) ⟨g317_0, b317_4, g317_1, b317_13, rfl, trivial⟩ ?_
              obtain ⟨r413_0, cr413_0, h⟩ := bindS h
              have h := Option.some.inj h
              subst h
              exact At.fin hm ht ⟨[(1, .call [] [] (f101_broughamref35_plain_out r413_0))], [], [.nil true 0 2 (.pair (.int .i64) (.pair (.int .i64) .wood)) (some 42)], [4, 5], [0, 7]⟩ [FnOK Tryd.prog 101 (f101_broughamref35_plain_in w_) (f101_broughamref35_plain_out r413_0), 0 + 3 ≤ 3] (by kernel_rfl) ⟨(f101_broughamref35_plain_ok n w_ r413_0 cr413_0), (by decide), trivial⟩
          · refine At.step hm ht ⟨[(4, .b false)], [false], [], [0, 4], [0]⟩ 8 ⟨[(0, oc (.d (.sl .str w_))), (4, oc (.ptr 0 0))], [], [(0, [zi 0, zi 0, .d (.sl .unit [])])], 1⟩ [(0 : Int) ≤ 0 ∧ 0 < (((w_).length : Nat) : Int), ((w_.getD 0 ByteArray.empty).toList == (⟨#[40]⟩ : ByteArray).toList) = false, false = false] (by kernel_rfl) ⟨g317_0, b317_4, rfl, trivial⟩ ?_
            obtain ⟨r414_0, cr414_0, h⟩ := bindS h
            have h := Option.some.inj h
            subst h
            exact At.fin hm ht ⟨[(1, .call [] [] (f101_broughamref35_plain_out r414_0))], [], [.nil true 0 2 (.pair (.int .i64) (.pair (.int .i64) .wood)) (some 42)], [4, 5], [0, 7]⟩ [FnOK Tryd.prog 101 (f101_broughamref35_plain_in w_) (f101_broughamref35_plain_out r414_0), 0 + 3 ≤ 3] (by kernel_rfl) ⟨(f101_broughamref35_plain_ok n w_ r414_0 cr414_0), (by decide), trivial⟩
def f55_broughamref35_read : Nat → (List ByteArray) → Int → Option (Bool × Int × Int × List (Int × Int × List FT))
  | 0, _, _ => none
  | n + 1, w_, left =>
    if ((((w_.length : Nat) : Int) : Int) == 0) = true then
      some (false, 0, 0, [])
    else
      if (decide ((left : Int) < 0)) = true then
        some (false, 0, 0, [])
      else
        (f85_broughamref35_last n w_ (⟨#[111, 114]⟩ : ByteArray)).bind fun r294_0 =>
        if (decide ((r294_0 : Int) < 0)) = true then
          (f85_broughamref35_last n w_ (⟨#[97, 110, 100]⟩ : ByteArray)).bind fun r296_0 =>
          if (decide ((r296_0 : Int) ≥ 0)) = true then
            if cutOk w_.length none (some r296_0) none then
            ((f55_broughamref35_read n) (w_.take r296_0.toNat) left).bind fun r298_1 =>
            if cutOk w_.length (some (IntKind.wrap .i64 (r296_0 + 1))) none none then
            ((f55_broughamref35_read n) ((w_.take w_.length).drop (IntKind.wrap .i64 (r296_0 + 1)).toNat) left).bind fun r299_1 =>
            if r298_1.1 = true then
              some (r299_1.1, 9, 0, [(r298_1.2.1, (r298_1.2.2.1, (r298_1.2.2.2.map FT.of))), (r299_1.2.1, (r299_1.2.2.1, (r299_1.2.2.2.map FT.of)))])
            else
              some (false, 9, 0, [(r298_1.2.1, (r298_1.2.2.1, (r298_1.2.2.2.map FT.of))), (r299_1.2.1, (r299_1.2.2.1, (r299_1.2.2.2.map FT.of)))])
            else none
            else none
          else
            if (0 : Int) ≤ 0 ∧ 0 < (((w_).length : Nat) : Int) then
            if ((w_.getD 0 ByteArray.empty).toList == (⟨#[110, 111, 116]⟩ : ByteArray).toList) = true then
              if cutOk w_.length (some 1) none none then
              (f86_broughamref35_one (f55_broughamref35_read n) n ((w_.take w_.length).drop 1) (IntKind.wrap .i64 (left - 1))).bind fun r302_1 =>
              some (r302_1.1, 8, 0, [(r302_1.2.1, (r302_1.2.2.1, (r302_1.2.2.2.map FT.of)))])
              else none
            else
              (f86_broughamref35_one (f55_broughamref35_read n) n w_ left).bind fun r416_0 =>
              some (r416_0.1, r416_0.2.1, r416_0.2.2.1, r416_0.2.2.2)
            else none
        else
          if (decide ((r294_0 : Int) ≥ 0)) = true then
            if cutOk w_.length none (some r294_0) none then
            ((f55_broughamref35_read n) (w_.take r294_0.toNat) left).bind fun r418_1 =>
            if cutOk w_.length (some (IntKind.wrap .i64 (r294_0 + 1))) none none then
            ((f55_broughamref35_read n) ((w_.take w_.length).drop (IntKind.wrap .i64 (r294_0 + 1)).toNat) left).bind fun r419_1 =>
            if r418_1.1 = true then
              some (r419_1.1, 10, 0, [(r418_1.2.1, (r418_1.2.2.1, (r418_1.2.2.2.map FT.of))), (r419_1.2.1, (r419_1.2.2.1, (r419_1.2.2.2.map FT.of)))])
            else
              some (false, 10, 0, [(r418_1.2.1, (r418_1.2.2.1, (r418_1.2.2.2.map FT.of))), (r419_1.2.1, (r419_1.2.2.1, (r419_1.2.2.2.map FT.of)))])
            else none
            else none
          else
            if (0 : Int) ≤ 0 ∧ 0 < (((w_).length : Nat) : Int) then
            if ((w_.getD 0 ByteArray.empty).toList == (⟨#[110, 111, 116]⟩ : ByteArray).toList) = true then
              if cutOk w_.length (some 1) none none then
              (f86_broughamref35_one (f55_broughamref35_read n) n ((w_.take w_.length).drop 1) (IntKind.wrap .i64 (left - 1))).bind fun r422_1 =>
              some (r422_1.1, 8, 0, [(r422_1.2.1, (r422_1.2.2.1, (r422_1.2.2.2.map FT.of)))])
              else none
            else
              (f86_broughamref35_one (f55_broughamref35_read n) n w_ left).bind fun r424_0 =>
              some (r424_0.1, r424_0.2.1, r424_0.2.2.1, r424_0.2.2.2)
            else none
theorem f55_broughamref35_read_ok (n : Nat) : ∀ (w_ : List ByteArray) (left : Int) (r : Bool × Int × Int × List (Int × Int × List FT)) (h : f55_broughamref35_read n w_ left = some r), FnOK Tryd.prog 55 (f55_broughamref35_read_in w_ left) (f55_broughamref35_read_out r) := by
  induction n with
  | zero => intro w_ left r h; rw [f55_broughamref35_read] at h; cases h
  | succ n ih =>
    intro w_ left r h
    rw [f55_broughamref35_read] at h
    refine At.fn (r := 0) Tryd.func55 rfl (by kernel_rfl) rfl rfl (by kernel_rfl) ?_
    show At Tryd.prog Tryd.f55 0 0 ⟨[(0, oc (.d (.sl .str w_))), (1, oc (zi left))], [], [], 0⟩ _
    refine At.step hm ht ⟨[], [], [], [0, 1, 4], [0]⟩ 1 ⟨[(0, oc (.d (.sl .str w_))), (1, oc (zi left)), (4, oc (.ptr 0 0))], [], [(0, [zi 0, zi 0, .d (.sl .unit [])])], 1⟩ [] (by kernel_rfl) trivial ?_
    rcases iteS h with ⟨b291_3, h⟩ | ⟨b291_3, h⟩
    · refine At.step hm ht ⟨[(3, .b true)], [true], [], [4], [0]⟩ 2 ⟨[(4, oc (.ptr 0 0))], [], [(0, [zi 0, zi 0, .d (.sl .unit [])])], 1⟩ [((((w_.length : Nat) : Int) : Int) == 0) = true, true = true] (by kernel_rfl) ⟨b291_3, rfl, trivial⟩ ?_
      have h := Option.some.inj h
      subst h
      exact At.fin hm ht ⟨[], [], [.nil true 0 2 (.pair (.int .i64) (.pair (.int .i64) .wood)) (some 42)], [4, 5], [0, 4]⟩ [0 + 3 ≤ 3] (by kernel_rfl) ⟨(by decide), trivial⟩
    · rcases iteS h with ⟨b291_e0, h⟩ | ⟨b291_e0, h⟩
      · refine At.step hm ht ⟨[(3, .b false)], [true], [], [4], [0]⟩ 2 ⟨[(4, oc (.ptr 0 0))], [], [(0, [zi 0, zi 0, .d (.sl .unit [])])], 1⟩ [((((w_.length : Nat) : Int) : Int) == 0) = false, (decide ((left : Int) < 0)) = true] (by kernel_rfl) ⟨b291_3, b291_e0, trivial⟩ ?_
        have h := Option.some.inj h
        subst h
        exact At.fin hm ht ⟨[], [], [.nil true 0 2 (.pair (.int .i64) (.pair (.int .i64) .wood)) (some 42)], [4, 5], [0, 4]⟩ [0 + 3 ≤ 3] (by kernel_rfl) ⟨(by decide), trivial⟩
      · refine At.step hm ht ⟨[(3, .b false)], [false], [], [0, 1, 4], [0]⟩ 3 ⟨[(0, oc (.d (.sl .str w_))), (1, oc (zi left)), (4, oc (.ptr 0 0))], [], [(0, [zi 0, zi 0, .d (.sl .unit [])])], 1⟩ [((((w_.length : Nat) : Int) : Int) == 0) = false, (decide ((left : Int) < 0)) = false] (by kernel_rfl) ⟨b291_3, b291_e0, trivial⟩ ?_
        obtain ⟨r294_0, cr294_0, h⟩ := bindS h
        refine At.step hm ht ⟨[(1, .call [] [] (f85_broughamref35_last_out r294_0))], [], [], [0, 1, 4, 6, 7], [0]⟩ 4 ⟨[(0, oc (.d (.sl .str w_))), (1, oc (zi left)), (4, oc (.ptr 0 0)), (6, oc (zi 10)), (7, oc (zi r294_0))], [], [(0, [zi 0, zi 0, .d (.sl .unit [])])], 1⟩ [FnOK Tryd.prog 85 (f85_broughamref35_last_in w_ (⟨#[111, 114]⟩ : ByteArray)) (f85_broughamref35_last_out r294_0)] (by kernel_rfl) ⟨(f85_broughamref35_last_ok n w_ (⟨#[111, 114]⟩ : ByteArray) r294_0 cr294_0), trivial⟩ ?_
        rcases iteS h with ⟨b295_e0, h⟩ | ⟨b295_e0, h⟩
        · refine At.step hm ht ⟨[], [true], [], [0, 1, 4], [0]⟩ 5 ⟨[(0, oc (.d (.sl .str w_))), (1, oc (zi left)), (4, oc (.ptr 0 0))], [], [(0, [zi 0, zi 0, .d (.sl .unit [])])], 1⟩ [(decide ((r294_0 : Int) < 0)) = true] (by kernel_rfl) ⟨b295_e0, trivial⟩ ?_
          obtain ⟨r296_0, cr296_0, h⟩ := bindS h
          refine At.step hm ht ⟨[(1, .call [] [] (f85_broughamref35_last_out r296_0))], [], [], [0, 1, 4, 6, 7], [0]⟩ 6 ⟨[(0, oc (.d (.sl .str w_))), (1, oc (zi left)), (4, oc (.ptr 0 0)), (6, oc (zi 9)), (7, oc (zi r296_0))], [], [(0, [zi 0, zi 0, .d (.sl .unit [])])], 1⟩ [FnOK Tryd.prog 85 (f85_broughamref35_last_in w_ (⟨#[97, 110, 100]⟩ : ByteArray)) (f85_broughamref35_last_out r296_0)] (by kernel_rfl) ⟨(f85_broughamref35_last_ok n w_ (⟨#[97, 110, 100]⟩ : ByteArray) r296_0 cr296_0), trivial⟩ ?_
          rcases iteS h with ⟨b297_e0, h⟩ | ⟨b297_e0, h⟩
          · refine At.step hm ht ⟨[], [true], [], [0, 1, 4, 6, 7], [0]⟩ 7 ⟨[(0, oc (.d (.sl .str w_))), (1, oc (zi left)), (4, oc (.ptr 0 0)), (6, oc (zi 9)), (7, oc (zi r296_0))], [], [(0, [zi 0, zi 0, .d (.sl .unit [])])], 1⟩ [(decide ((r296_0 : Int) ≥ 0)) = true] (by kernel_rfl) ⟨b297_e0, trivial⟩ ?_
            obtain ⟨g298_0, h⟩ := ifS h
            obtain ⟨r298_1, cr298_1, h⟩ := bindS h
            refine At.step hm ht ⟨[(4, .call [] [] (f55_broughamref35_read_out r298_1))], [], [], [0, 1, 4, 6, 7, 8, 9], [0, 10, 6]⟩ 8 ⟨[(0, oc (.d (.sl .str w_))), (1, oc (zi left)), (4, oc (.ptr 0 0)), (6, oc (zi 9)), (7, oc (zi r296_0)), (8, oc (.ptr 1 0)), (9, oc (.d (.bool r298_1.1)))], [(2, some ⟨42, 0⟩)], [(0, [zi 0, zi 0, .d (.sl .unit [])]), (1, [zi r298_1.2.1, zi r298_1.2.2.1, .own 2 (.pair (.int .i64) (.pair (.int .i64) .wood)) r298_1.2.2.2])], 3⟩ [cutOk w_.length none (some r296_0) none, FnOK Tryd.prog 55 (f55_broughamref35_read_in (w_.take r296_0.toNat) left) (f55_broughamref35_read_out r298_1), 0 + 3 ≤ 3] (by kernel_rfl) ⟨g298_0, (ih (w_.take r296_0.toNat) left r298_1 cr298_1), (by decide), trivial⟩ ?_
            obtain ⟨g299_0, h⟩ := ifS h
            obtain ⟨r299_1, cr299_1, h⟩ := bindS h
            refine At.step hm ht ⟨[(5, .call [] [] (f55_broughamref35_read_out r299_1))], [], [], [4, 6, 8, 9, 10, 11], [0, 1, 13, 2, 9]⟩ 9 ⟨[(4, oc (.ptr 0 0)), (6, oc (zi 9)), (8, oc (.ptr 1 0)), (9, oc (.d (.bool r298_1.1))), (10, oc (.ptr 2 0)), (11, oc (.d (.bool r299_1.1)))], [(3, some ⟨42, 0⟩), (4, some ⟨42, 0⟩)], [(0, [zi 0, zi 0, .d (.sl .unit [])]), (1, [zi r298_1.2.1, zi r298_1.2.2.1, .own 3 (.pair (.int .i64) (.pair (.int .i64) .wood)) r298_1.2.2.2]), (2, [zi r299_1.2.1, zi r299_1.2.2.1, .own 4 (.pair (.int .i64) (.pair (.int .i64) .wood)) r299_1.2.2.2])], 5⟩ [cutOk w_.length (some (IntKind.wrap .i64 (r296_0 + 1))) none none, FnOK Tryd.prog 55 (f55_broughamref35_read_in ((w_.take w_.length).drop (IntKind.wrap .i64 (r296_0 + 1)).toNat) left) (f55_broughamref35_read_out r299_1), 0 + 3 ≤ 3] (by kernel_rfl) ⟨g299_0, (ih ((w_.take w_.length).drop (IntKind.wrap .i64 (r296_0 + 1)).toNat) left r299_1 cr299_1), (by decide), trivial⟩ ?_
            rcases iteS h with ⟨b300_6, h⟩ | ⟨b300_6, h⟩
            · have h := Option.some.inj h
              subst h
              exact At.fin hm ht ⟨[(6, .b true)], [], [.flag 8], [4, 5], [0, 8]⟩ [r298_1.1 = true, 0 + 3 ≤ 3] (by kernel_rfl) ⟨b300_6, (by decide), trivial⟩
            · have h := Option.some.inj h
              subst h
              exact At.fin hm ht ⟨[(6, .b false)], [], [.flag 8], [4, 5], [0, 8]⟩ [r298_1.1 = false, 0 + 3 ≤ 3] (by kernel_rfl) ⟨b300_6, (by decide), trivial⟩
          · refine At.step hm ht ⟨[], [false], [], [0, 1, 4], [0]⟩ 10 ⟨[(0, oc (.d (.sl .str w_))), (1, oc (zi left)), (4, oc (.ptr 0 0))], [], [(0, [zi 0, zi 0, .d (.sl .unit [])])], 1⟩ [(decide ((r296_0 : Int) ≥ 0)) = false] (by kernel_rfl) ⟨b297_e0, trivial⟩ ?_
            obtain ⟨g301_0, h⟩ := ifS h
            rcases iteS h with ⟨b301_e0, h⟩ | ⟨b301_e0, h⟩
            · refine At.step hm ht ⟨[], [true], [], [0, 1, 4], [0]⟩ 11 ⟨[(0, oc (.d (.sl .str w_))), (1, oc (zi left)), (4, oc (.ptr 0 0))], [], [(0, [zi 0, zi 0, .d (.sl .unit [])])], 1⟩ [(0 : Int) ≤ 0 ∧ 0 < (((w_).length : Nat) : Int), ((w_.getD 0 ByteArray.empty).toList == (⟨#[110, 111, 116]⟩ : ByteArray).toList) = true] (by kernel_rfl) ⟨g301_0, b301_e0, trivial⟩ ?_
              obtain ⟨g302_0, h⟩ := ifS h
              obtain ⟨r302_1, cr302_1, h⟩ := bindS h
              refine At.step hm ht ⟨[(4, .call [] [] (f86_broughamref35_one_out r302_1))], [], [], [4, 12, 13], [0, 10, 6]⟩ 12 ⟨[(4, oc (.ptr 0 0)), (12, oc (.ptr 1 0)), (13, oc (.d (.bool r302_1.1)))], [(2, some ⟨42, 0⟩)], [(0, [zi 0, zi 0, .d (.sl .unit [])]), (1, [zi r302_1.2.1, zi r302_1.2.2.1, .own 2 (.pair (.int .i64) (.pair (.int .i64) .wood)) r302_1.2.2.2])], 3⟩ [cutOk w_.length (some 1) none none, FnOK Tryd.prog 86 (f86_broughamref35_one_in ((w_.take w_.length).drop 1) (IntKind.wrap .i64 (left - 1))) (f86_broughamref35_one_out r302_1), 0 + 3 ≤ 3] (by kernel_rfl) ⟨g302_0, (f86_broughamref35_one_ok (f55_broughamref35_read n) ih n ((w_.take w_.length).drop 1) (IntKind.wrap .i64 (left - 1)) r302_1 cr302_1), (by decide), trivial⟩ ?_
              have h := Option.some.inj h
              subst h
              exact At.fin hm ht ⟨[], [], [.flag 4], [4, 5], [0, 4]⟩ [0 + 3 ≤ 3] (by kernel_rfl) ⟨(by decide), trivial⟩
            · refine At.step hm ht ⟨[], [false], [], [0, 1, 4], [0]⟩ 13 ⟨[(0, oc (.d (.sl .str w_))), (1, oc (zi left)), (4, oc (.ptr 0 0))], [], [(0, [zi 0, zi 0, .d (.sl .unit [])])], 1⟩ [(0 : Int) ≤ 0 ∧ 0 < (((w_).length : Nat) : Int), ((w_.getD 0 ByteArray.empty).toList == (⟨#[110, 111, 116]⟩ : ByteArray).toList) = false] (by kernel_rfl) ⟨g301_0, b301_e0, trivial⟩ ?_
              obtain ⟨r416_0, cr416_0, h⟩ := bindS h
              have h := Option.some.inj h
              subst h
              exact At.fin hm ht ⟨[(2, .call [] [] (f86_broughamref35_one_out r416_0))], [], [], [4, 5], [0, 4]⟩ [FnOK Tryd.prog 86 (f86_broughamref35_one_in w_ left) (f86_broughamref35_one_out r416_0), 0 + 3 ≤ 3] (by kernel_rfl) ⟨(f86_broughamref35_one_ok (f55_broughamref35_read n) ih n w_ left r416_0 cr416_0), (by decide), trivial⟩
        · refine At.step hm ht ⟨[], [false], [], [0, 1, 4, 6, 7], [0]⟩ 6 ⟨[(0, oc (.d (.sl .str w_))), (1, oc (zi left)), (4, oc (.ptr 0 0)), (6, oc (zi 10)), (7, oc (zi r294_0))], [], [(0, [zi 0, zi 0, .d (.sl .unit [])])], 1⟩ [(decide ((r294_0 : Int) < 0)) = false] (by kernel_rfl) ⟨b295_e0, trivial⟩ ?_
          rcases iteS h with ⟨b417_e0, h⟩ | ⟨b417_e0, h⟩
          · refine At.step hm ht ⟨[], [true], [], [0, 1, 4, 6, 7], [0]⟩ 7 ⟨[(0, oc (.d (.sl .str w_))), (1, oc (zi left)), (4, oc (.ptr 0 0)), (6, oc (zi 10)), (7, oc (zi r294_0))], [], [(0, [zi 0, zi 0, .d (.sl .unit [])])], 1⟩ [(decide ((r294_0 : Int) ≥ 0)) = true] (by kernel_rfl) ⟨b417_e0, trivial⟩ ?_
            obtain ⟨g418_0, h⟩ := ifS h
            obtain ⟨r418_1, cr418_1, h⟩ := bindS h
            refine At.step hm ht ⟨[(4, .call [] [] (f55_broughamref35_read_out r418_1))], [], [], [0, 1, 4, 6, 7, 8, 9], [0, 10, 6]⟩ 8 ⟨[(0, oc (.d (.sl .str w_))), (1, oc (zi left)), (4, oc (.ptr 0 0)), (6, oc (zi 10)), (7, oc (zi r294_0)), (8, oc (.ptr 1 0)), (9, oc (.d (.bool r418_1.1)))], [(2, some ⟨42, 0⟩)], [(0, [zi 0, zi 0, .d (.sl .unit [])]), (1, [zi r418_1.2.1, zi r418_1.2.2.1, .own 2 (.pair (.int .i64) (.pair (.int .i64) .wood)) r418_1.2.2.2])], 3⟩ [cutOk w_.length none (some r294_0) none, FnOK Tryd.prog 55 (f55_broughamref35_read_in (w_.take r294_0.toNat) left) (f55_broughamref35_read_out r418_1), 0 + 3 ≤ 3] (by kernel_rfl) ⟨g418_0, (ih (w_.take r294_0.toNat) left r418_1 cr418_1), (by decide), trivial⟩ ?_
            obtain ⟨g419_0, h⟩ := ifS h
            obtain ⟨r419_1, cr419_1, h⟩ := bindS h
            refine At.step hm ht ⟨[(5, .call [] [] (f55_broughamref35_read_out r419_1))], [], [], [4, 6, 8, 9, 10, 11], [0, 1, 13, 2, 9]⟩ 9 ⟨[(4, oc (.ptr 0 0)), (6, oc (zi 10)), (8, oc (.ptr 1 0)), (9, oc (.d (.bool r418_1.1))), (10, oc (.ptr 2 0)), (11, oc (.d (.bool r419_1.1)))], [(3, some ⟨42, 0⟩), (4, some ⟨42, 0⟩)], [(0, [zi 0, zi 0, .d (.sl .unit [])]), (1, [zi r418_1.2.1, zi r418_1.2.2.1, .own 3 (.pair (.int .i64) (.pair (.int .i64) .wood)) r418_1.2.2.2]), (2, [zi r419_1.2.1, zi r419_1.2.2.1, .own 4 (.pair (.int .i64) (.pair (.int .i64) .wood)) r419_1.2.2.2])], 5⟩ [cutOk w_.length (some (IntKind.wrap .i64 (r294_0 + 1))) none none, FnOK Tryd.prog 55 (f55_broughamref35_read_in ((w_.take w_.length).drop (IntKind.wrap .i64 (r294_0 + 1)).toNat) left) (f55_broughamref35_read_out r419_1), 0 + 3 ≤ 3] (by kernel_rfl) ⟨g419_0, (ih ((w_.take w_.length).drop (IntKind.wrap .i64 (r294_0 + 1)).toNat) left r419_1 cr419_1), (by decide), trivial⟩ ?_
            rcases iteS h with ⟨b420_6, h⟩ | ⟨b420_6, h⟩
            · have h := Option.some.inj h
              subst h
              exact At.fin hm ht ⟨[(6, .b true)], [], [.flag 8], [4, 5], [0, 8]⟩ [r418_1.1 = true, 0 + 3 ≤ 3] (by kernel_rfl) ⟨b420_6, (by decide), trivial⟩
            · have h := Option.some.inj h
              subst h
              exact At.fin hm ht ⟨[(6, .b false)], [], [.flag 8], [4, 5], [0, 8]⟩ [r418_1.1 = false, 0 + 3 ≤ 3] (by kernel_rfl) ⟨b420_6, (by decide), trivial⟩
          · refine At.step hm ht ⟨[], [false], [], [0, 1, 4], [0]⟩ 10 ⟨[(0, oc (.d (.sl .str w_))), (1, oc (zi left)), (4, oc (.ptr 0 0))], [], [(0, [zi 0, zi 0, .d (.sl .unit [])])], 1⟩ [(decide ((r294_0 : Int) ≥ 0)) = false] (by kernel_rfl) ⟨b417_e0, trivial⟩ ?_
            obtain ⟨g421_0, h⟩ := ifS h
            rcases iteS h with ⟨b421_e0, h⟩ | ⟨b421_e0, h⟩
            · refine At.step hm ht ⟨[], [true], [], [0, 1, 4], [0]⟩ 11 ⟨[(0, oc (.d (.sl .str w_))), (1, oc (zi left)), (4, oc (.ptr 0 0))], [], [(0, [zi 0, zi 0, .d (.sl .unit [])])], 1⟩ [(0 : Int) ≤ 0 ∧ 0 < (((w_).length : Nat) : Int), ((w_.getD 0 ByteArray.empty).toList == (⟨#[110, 111, 116]⟩ : ByteArray).toList) = true] (by kernel_rfl) ⟨g421_0, b421_e0, trivial⟩ ?_
              obtain ⟨g422_0, h⟩ := ifS h
              obtain ⟨r422_1, cr422_1, h⟩ := bindS h
              refine At.step hm ht ⟨[(4, .call [] [] (f86_broughamref35_one_out r422_1))], [], [], [4, 12, 13], [0, 10, 6]⟩ 12 ⟨[(4, oc (.ptr 0 0)), (12, oc (.ptr 1 0)), (13, oc (.d (.bool r422_1.1)))], [(2, some ⟨42, 0⟩)], [(0, [zi 0, zi 0, .d (.sl .unit [])]), (1, [zi r422_1.2.1, zi r422_1.2.2.1, .own 2 (.pair (.int .i64) (.pair (.int .i64) .wood)) r422_1.2.2.2])], 3⟩ [cutOk w_.length (some 1) none none, FnOK Tryd.prog 86 (f86_broughamref35_one_in ((w_.take w_.length).drop 1) (IntKind.wrap .i64 (left - 1))) (f86_broughamref35_one_out r422_1), 0 + 3 ≤ 3] (by kernel_rfl) ⟨g422_0, (f86_broughamref35_one_ok (f55_broughamref35_read n) ih n ((w_.take w_.length).drop 1) (IntKind.wrap .i64 (left - 1)) r422_1 cr422_1), (by decide), trivial⟩ ?_
              have h := Option.some.inj h
              subst h
              exact At.fin hm ht ⟨[], [], [.flag 4], [4, 5], [0, 4]⟩ [0 + 3 ≤ 3] (by kernel_rfl) ⟨(by decide), trivial⟩
            · refine At.step hm ht ⟨[], [false], [], [0, 1, 4], [0]⟩ 13 ⟨[(0, oc (.d (.sl .str w_))), (1, oc (zi left)), (4, oc (.ptr 0 0))], [], [(0, [zi 0, zi 0, .d (.sl .unit [])])], 1⟩ [(0 : Int) ≤ 0 ∧ 0 < (((w_).length : Nat) : Int), ((w_.getD 0 ByteArray.empty).toList == (⟨#[110, 111, 116]⟩ : ByteArray).toList) = false] (by kernel_rfl) ⟨g421_0, b421_e0, trivial⟩ ?_
              obtain ⟨r424_0, cr424_0, h⟩ := bindS h
              have h := Option.some.inj h
              subst h
              exact At.fin hm ht ⟨[(2, .call [] [] (f86_broughamref35_one_out r424_0))], [], [], [4, 5], [0, 4]⟩ [FnOK Tryd.prog 86 (f86_broughamref35_one_in w_ left) (f86_broughamref35_one_out r424_0), 0 + 3 ≤ 3] (by kernel_rfl) ⟨(f86_broughamref35_one_ok (f55_broughamref35_read n) ih n w_ left r424_0 cr424_0), (by decide), trivial⟩
/-! brougham/broughamref35.depth -/
def f57_broughamref35_depth_in (f_0 : Int) (f_1 : Int) (f_2 : List (Int × Int × List FT)) : Inn := ⟨[.agg [zi f_0, zi f_1, .d (.sl (.pair (.int .i64) (.pair (.int .i64) .wood)) f_2)]], [], [], 0⟩
def f57_broughamref35_depth_out (r : Int) : Out := ⟨oc (zi r), [], [], 0⟩
def f57_broughamref35_depth_L3 (rc_f57_broughamref35_depth : Int → Int → (List (Int × Int × List FT)) → Option (Int)) : Nat → Int → Int → Int → Int → (List (Int × Int × List FT)) → Option (Int)
  | 0, _, _, _, _, _ => none
  | n + 1, n_, i, f_0, f_1, f_2 =>
    if (decide ((i : Int) < ((f_2.length : Nat) : Int))) = true then
      if (0 : Int) ≤ i ∧ i < (((f_2).length : Nat) : Int) then
      (rc_f57_broughamref35_depth ((f_2.getD i.toNat (0, (0, []))).1) (((f_2.getD i.toNat (0, (0, []))).2).1) ((((f_2.getD i.toNat (0, (0, []))).2).2).map FT.un)).bind fun r441_1 =>
      if (decide ((r441_1 : Int) > n_)) = true then
        f57_broughamref35_depth_L3 rc_f57_broughamref35_depth n r441_1 (IntKind.wrap .i64 (i + 1)) f_0 f_1 f_2
      else
        f57_broughamref35_depth_L3 rc_f57_broughamref35_depth n n_ (IntKind.wrap .i64 (i + 1)) f_0 f_1 f_2
      else none
    else
      some (n_)
def f57_broughamref35_depth_L3_k (e : Int) (o : Out) : Prop := At Tryd.prog Tryd.f57 0 8 ⟨[(3, oc (zi e))], [], [], 0⟩ o
theorem f57_broughamref35_depth_L3_ok (rc_f57_broughamref35_depth : Int → Int → (List (Int × Int × List FT)) → Option (Int)) (hrc_f57_broughamref35_depth : ∀ (f_0 : Int) (f_1 : Int) (f_2 : List (Int × Int × List FT)) (r : Int) (h : rc_f57_broughamref35_depth f_0 f_1 f_2 = some r), FnOK Tryd.prog 57 (f57_broughamref35_depth_in f_0 f_1 f_2) (f57_broughamref35_depth_out r)) (n : Nat) : ∀ (n_ : Int) (i : Int) (f_0 : Int) (f_1 : Int) (f_2 : List (Int × Int × List FT)) (w : Int) (h : f57_broughamref35_depth_L3 rc_f57_broughamref35_depth n n_ i f_0 f_1 f_2 = some w) (o : Out) (hk : f57_broughamref35_depth_L3_k w o), At Tryd.prog Tryd.f57 0 3 ⟨[(1, oc (.ptr 0 0)), (3, oc (zi n_)), (4, oc (zi i))], [], [(0, [zi f_0, zi f_1, .d (.sl (.pair (.int .i64) (.pair (.int .i64) .wood)) f_2)])], 1⟩ o := by
  induction n with
  | zero => intro n_ i f_0 f_1 f_2 w h; rw [f57_broughamref35_depth_L3] at h; cases h
  | succ n ih =>
    intro n_ i f_0 f_1 f_2 w h o hk
    rw [f57_broughamref35_depth_L3] at h
    rcases iteS h with ⟨b440_e0, h⟩ | ⟨b440_e0, h⟩
    · refine At.step hm ht ⟨[], [true], [], [1, 3, 4], [0]⟩ 5 ⟨[(1, oc (.ptr 0 0)), (3, oc (zi n_)), (4, oc (zi i))], [], [(0, [zi f_0, zi f_1, .d (.sl (.pair (.int .i64) (.pair (.int .i64) .wood)) f_2)])], 1⟩ [(decide ((i : Int) < ((f_2.length : Nat) : Int))) = true] (by kernel_rfl) ⟨b440_e0, trivial⟩ ?_
      obtain ⟨g441_0, h⟩ := ifS h
      obtain ⟨r441_1, cr441_1, h⟩ := bindS h
      refine At.step hm ht ⟨[(5, .call [] [] (f57_broughamref35_depth_out r441_1))], [], [], [1, 3, 4, 5], [0]⟩ 6 ⟨[(1, oc (.ptr 0 0)), (3, oc (zi n_)), (4, oc (zi i)), (5, oc (zi r441_1))], [], [(0, [zi f_0, zi f_1, .d (.sl (.pair (.int .i64) (.pair (.int .i64) .wood)) f_2)])], 1⟩ [(0 : Int) ≤ i ∧ i < (((f_2).length : Nat) : Int), FnOK Tryd.prog 57 (f57_broughamref35_depth_in ((f_2.getD i.toNat (0, (0, []))).1) (((f_2.getD i.toNat (0, (0, []))).2).1) ((((f_2.getD i.toNat (0, (0, []))).2).2).map FT.un)) (f57_broughamref35_depth_out r441_1)] (by kernel_rfl) ⟨g441_0, (hrc_f57_broughamref35_depth ((f_2.getD i.toNat (0, (0, []))).1) (((f_2.getD i.toNat (0, (0, []))).2).1) ((((f_2.getD i.toNat (0, (0, []))).2).2).map FT.un) r441_1 cr441_1), trivial⟩ ?_
      rcases iteS h with ⟨b442_e0, h⟩ | ⟨b442_e0, h⟩
      · refine At.step hm ht ⟨[], [true], [], [1, 4, 5], [0]⟩ 7 ⟨[(1, oc (.ptr 0 0)), (4, oc (zi i)), (5, oc (zi r441_1))], [], [(0, [zi f_0, zi f_1, .d (.sl (.pair (.int .i64) (.pair (.int .i64) .wood)) f_2)])], 1⟩ [(decide ((r441_1 : Int) > n_)) = true] (by kernel_rfl) ⟨b442_e0, trivial⟩ ?_
        refine At.step hm ht ⟨[], [], [], [1, 3, 4], [0]⟩ 4 ⟨[(1, oc (.ptr 0 0)), (3, oc (zi r441_1)), (4, oc (zi i))], [], [(0, [zi f_0, zi f_1, .d (.sl (.pair (.int .i64) (.pair (.int .i64) .wood)) f_2)])], 1⟩ [] (by kernel_rfl) trivial ?_
        refine At.step hm ht ⟨[], [], [], [1, 3, 4], [0]⟩ 3 ⟨[(1, oc (.ptr 0 0)), (3, oc (zi r441_1)), (4, oc (zi (IntKind.wrap .i64 (i + 1))))], [], [(0, [zi f_0, zi f_1, .d (.sl (.pair (.int .i64) (.pair (.int .i64) .wood)) f_2)])], 1⟩ [] (by kernel_rfl) trivial ?_
        exact ih r441_1 (IntKind.wrap .i64 (i + 1)) f_0 f_1 f_2 w h o hk
      · refine At.step hm ht ⟨[], [false], [], [1, 3, 4], [0]⟩ 4 ⟨[(1, oc (.ptr 0 0)), (3, oc (zi n_)), (4, oc (zi i))], [], [(0, [zi f_0, zi f_1, .d (.sl (.pair (.int .i64) (.pair (.int .i64) .wood)) f_2)])], 1⟩ [(decide ((r441_1 : Int) > n_)) = false] (by kernel_rfl) ⟨b442_e0, trivial⟩ ?_
        refine At.step hm ht ⟨[], [], [], [1, 3, 4], [0]⟩ 3 ⟨[(1, oc (.ptr 0 0)), (3, oc (zi n_)), (4, oc (zi (IntKind.wrap .i64 (i + 1))))], [], [(0, [zi f_0, zi f_1, .d (.sl (.pair (.int .i64) (.pair (.int .i64) .wood)) f_2)])], 1⟩ [] (by kernel_rfl) trivial ?_
        exact ih n_ (IntKind.wrap .i64 (i + 1)) f_0 f_1 f_2 w h o hk
    · refine At.step hm ht ⟨[], [false], [], [3], []⟩ 8 ⟨[(3, oc (zi n_))], [], [], 0⟩ [(decide ((i : Int) < ((f_2.length : Nat) : Int))) = false] (by kernel_rfl) ⟨b440_e0, trivial⟩ ?_
      have h := Option.some.inj h
      subst h
      exact hk
def f57_broughamref35_depth : Nat → Int → Int → (List (Int × Int × List FT)) → Option (Int)
  | 0, _, _, _ => none
  | n + 1, f_0, f_1, f_2 =>
    (f57_broughamref35_depth_L3 (f57_broughamref35_depth n) n 0 0 f_0 f_1 f_2).bind fun w446 =>
    some (IntKind.wrap .i64 (w446 + 1))
theorem f57_broughamref35_depth_ok (n : Nat) : ∀ (f_0 : Int) (f_1 : Int) (f_2 : List (Int × Int × List FT)) (r : Int) (h : f57_broughamref35_depth n f_0 f_1 f_2 = some r), FnOK Tryd.prog 57 (f57_broughamref35_depth_in f_0 f_1 f_2) (f57_broughamref35_depth_out r) := by
  induction n with
  | zero => intro f_0 f_1 f_2 r h; rw [f57_broughamref35_depth] at h; cases h
  | succ n ih =>
    intro f_0 f_1 f_2 r h
    rw [f57_broughamref35_depth] at h
    refine At.fn (r := 0) Tryd.func57 rfl (by kernel_rfl) rfl rfl (by kernel_rfl) ?_
    show At Tryd.prog Tryd.f57 0 0 ⟨[(0, .one (.agg [zi f_0, zi f_1, .d (.sl (.pair (.int .i64) (.pair (.int .i64) .wood)) f_2)]))], [], [], 0⟩ _
    refine At.step hm ht ⟨[], [], [], [1], [0]⟩ 1 ⟨[(1, oc (.ptr 0 0))], [], [(0, [zi f_0, zi f_1, .d (.sl (.pair (.int .i64) (.pair (.int .i64) .wood)) f_2)])], 1⟩ [] (by kernel_rfl) trivial ?_
    refine At.step hm ht ⟨[], [], [], [1, 3], [0]⟩ 2 ⟨[(1, oc (.ptr 0 0)), (3, oc (zi 0))], [], [(0, [zi f_0, zi f_1, .d (.sl (.pair (.int .i64) (.pair (.int .i64) .wood)) f_2)])], 1⟩ [] (by kernel_rfl) trivial ?_
    refine At.step hm ht ⟨[], [], [], [1, 3, 4], [0]⟩ 3 ⟨[(1, oc (.ptr 0 0)), (3, oc (zi 0)), (4, oc (zi 0))], [], [(0, [zi f_0, zi f_1, .d (.sl (.pair (.int .i64) (.pair (.int .i64) .wood)) f_2)])], 1⟩ [] (by kernel_rfl) trivial ?_
    obtain ⟨w446, cw446, h⟩ := bindS h
    refine f57_broughamref35_depth_L3_ok (f57_broughamref35_depth n) ih n 0 0 f_0 f_1 f_2 w446 cw446 _ ?_
    show At Tryd.prog Tryd.f57 0 8 ⟨[(3, oc (zi w446))], [], [], 0⟩ _
    have h := Option.some.inj h
    subst h
    exact At.fin hm ht ⟨[], [], [], [2], []⟩ [] (by kernel_rfl) trivial
end Go.Proofs.YtakamchmiakicaaDoorF35
