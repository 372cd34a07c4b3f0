/- What the functions compute, and that they do: printed by a program of this session (zgen.py), proved by Zed. -/
import Derived.Test.YtakamchmiakicaaDoorProg
import Derived.Test.YtakamchmiakicaaDoorZedYa
import Derived.Test.YtakamchmiakicaaDoorLeaf
import Derived.Test.YtakamchmiakicaaDoorSText
namespace Go.Proofs.YtakamchmiakicaaDoorF25
open Go Zed Go.Proofs.YtakamchmiakicaaDoorLeaf Go.Proofs.YtakamchmiakicaaDoorSText
set_option maxRecDepth 100000
set_option linter.unusedVariables false
def tab : Tab := [(3, ⟨.int .i64, 1, 8, [.int .i64 0], some (.int .i64), none⟩), (4, ⟨.bool, 1, 1, [.bool false], some .bool, none⟩), (5, ⟨.int .u8, 1, 1, [.int .u8 0], some (.int .u8), none⟩), (9, ⟨.str, 1, 16, [.str (⟨#[]⟩ : ByteArray)], some .str, none⟩), (22, ⟨.slice 79, 1, 24, [.sl .unit []], some (.slice (.pair (.int .i64) (.pair (.int .i64) (.pair (.int .i64) (.pair (.int .i64) (.pair (.int .i64) (.pair (.int .i64) (.slice (.int .u8))))))))), none⟩), (23, ⟨.int .i64, 1, 8, [.int .i64 0], some (.int .i64), none⟩), (31, ⟨.slice 9, 1, 24, [.sl .unit []], some (.slice .str), none⟩), (54, ⟨.slice 5, 1, 24, [.sl .unit []], some (.slice (.int .u8)), none⟩), (77, ⟨.int .i64, 1, 8, [.int .i64 0], some (.int .i64), none⟩), (79, ⟨.struct [(0, 77), (1, 3), (2, 3), (3, 3), (4, 3), (5, 3), (6, 54)], 7, 72, [.int .i64 0, .int .i64 0, .int .i64 0, .int .i64 0, .int .i64 0, .int .i64 0, .sl .unit []], some (.pair (.int .i64) (.pair (.int .i64) (.pair (.int .i64) (.pair (.int .i64) (.pair (.int .i64) (.pair (.int .i64) (.slice (.int .u8)))))))), some [(0, 77), (1, 3), (2, 3), (3, 3), (4, 3), (5, 3), (6, 54)]⟩), (114, ⟨.struct [(0, 9), (1, 9)], 2, 32, [.str (⟨#[]⟩ : ByteArray), .str (⟨#[]⟩ : ByteArray)], some (.pair .str .str), some [(0, 9), (1, 9)]⟩), (115, ⟨.arr 17 114, 34, 544, [.str (⟨#[]⟩ : ByteArray), .str (⟨#[]⟩ : ByteArray), .str (⟨#[]⟩ : ByteArray), .str (⟨#[]⟩ : ByteArray), .str (⟨#[]⟩ : ByteArray), .str (⟨#[]⟩ : ByteArray), .str (⟨#[]⟩ : ByteArray), .str (⟨#[]⟩ : ByteArray), .str (⟨#[]⟩ : ByteArray), .str (⟨#[]⟩ : ByteArray), .str (⟨#[]⟩ : ByteArray), .str (⟨#[]⟩ : ByteArray), .str (⟨#[]⟩ : ByteArray), .str (⟨#[]⟩ : ByteArray), .str (⟨#[]⟩ : ByteArray), .str (⟨#[]⟩ : ByteArray), .str (⟨#[]⟩ : ByteArray), .str (⟨#[]⟩ : ByteArray), .str (⟨#[]⟩ : ByteArray), .str (⟨#[]⟩ : ByteArray), .str (⟨#[]⟩ : ByteArray), .str (⟨#[]⟩ : ByteArray), .str (⟨#[]⟩ : ByteArray), .str (⟨#[]⟩ : ByteArray), .str (⟨#[]⟩ : ByteArray), .str (⟨#[]⟩ : ByteArray), .str (⟨#[]⟩ : ByteArray), .str (⟨#[]⟩ : ByteArray), .str (⟨#[]⟩ : ByteArray), .str (⟨#[]⟩ : ByteArray), .str (⟨#[]⟩ : ByteArray), .str (⟨#[]⟩ : ByteArray), .str (⟨#[]⟩ : ByteArray), .str (⟨#[]⟩ : ByteArray)], some (.pair (.pair .str .str) (.pair (.pair .str .str) (.pair (.pair .str .str) (.pair (.pair .str .str) (.pair (.pair .str .str) (.pair (.pair .str .str) (.pair (.pair .str .str) (.pair (.pair .str .str) (.pair (.pair .str .str) (.pair (.pair .str .str) (.pair (.pair .str .str) (.pair (.pair .str .str) (.pair (.pair .str .str) (.pair (.pair .str .str) (.pair (.pair .str .str) (.pair (.pair .str .str) (.pair .str .str))))))))))))))))), none⟩), (117, ⟨.ptr 3, 1, 8, [.nilP], none, none⟩)]
theorem ht : TabOk Go.Proofs.Tryd.prog tab := tabOk_of (ts := [3, 4, 5, 9, 22, 23, 31, 54, 77, 79, 114, 115, 117]) (by kernel_rfl)
theorem hm : Go.Proofs.Tryd.prog.follows .mixedOrders = true := by kernel_rfl
abbrev zi (n : Int) : Z1 := .d (.int .i64 n)
abbrev oc (z : Z1) : Z := .one (.c z)
/-! brougham/num.Pieces -/
def f15_num_Pieces_in (s : ByteArray) : Inn := ⟨[.c (.d (.str s))], [], [], 0⟩
def f15_num_Pieces_out (r : List ByteArray) : Out := ⟨oc (.own 0 .str r), [(0, ⟨9, 0⟩)], [], 1⟩
def f15_num_Pieces_L4 : Nat → (List ByteArray) → (List ByteArray) → Int → Int → Option (List ByteArray)
  | 0, _, _, _, _ => none
  | n + 1, out, t13, t14, t15 =>
    if (decide ((t15 : Int) < t14)) = true then
      if (0 : Int) ≤ t15 ∧ t15 < (((t13).length : Nat) : Int) then
      if (!((t13.getD t15.toNat ByteArray.empty).toList == (⟨#[]⟩ : ByteArray).toList)) = true then
        if out.length + [(t13.getD t15.toNat ByteArray.empty)].length ≤ maxLen ∧ (out.length + [(t13.getD t15.toNat ByteArray.empty)].length) * 16 ≤ 140737488355328 then
        f15_num_Pieces_L4 n (out ++ [(t13.getD t15.toNat ByteArray.empty)]) t13 t14 (IntKind.wrap .i64 (t15 + 1))
        else none
      else
        f15_num_Pieces_L4 n out t13 t14 (IntKind.wrap .i64 (t15 + 1))
      else none
    else
      some (out)
def f15_num_Pieces_L4_k (e : List ByteArray) (o : Out) : Prop := At Tryd.prog Tryd.f15 0 9 ⟨[(3, oc (.own 0 .str e))], [(0, some ⟨9, 0⟩)], [], 1⟩ o
theorem f15_num_Pieces_L4_ok (n : Nat) : ∀ (out : List ByteArray) (t13 : List ByteArray) (t14 : Int) (t15 : Int) (w : List ByteArray) (h : f15_num_Pieces_L4 n out t13 t14 t15 = some w) (o : Out) (hk : f15_num_Pieces_L4_k w o), At Tryd.prog Tryd.f15 0 4 ⟨[(3, oc (.own 0 .str out)), (13, oc (.d (.sl .str t13))), (14, oc (zi t14)), (15, oc (zi t15))], [(0, some ⟨9, 0⟩)], [], 1⟩ o := by
  induction n with
  | zero => intro out t13 t14 t15 w h; rw [f15_num_Pieces_L4] at h; cases h
  | succ n ih =>
    intro out t13 t14 t15 w h o hk
    rw [f15_num_Pieces_L4] at h
    rcases iteS h with ⟨b26_e0, h⟩ | ⟨b26_e0, h⟩
    · refine At.step hm ht ⟨[], [true], [], [3, 13, 14, 15], [0]⟩ 5 ⟨[(3, oc (.own 0 .str out)), (13, oc (.d (.sl .str t13))), (14, oc (zi t14)), (15, oc (zi t15))], [(0, some ⟨9, 0⟩)], [], 1⟩ [(decide ((t15 : Int) < t14)) = true] (by kernel_rfl) ⟨b26_e0, trivial⟩ ?_
      obtain ⟨g27_0, h⟩ := ifS h
      refine At.step hm ht ⟨[], [], [], [3, 5, 13, 14, 15], [0]⟩ 6 ⟨[(3, oc (.own 0 .str out)), (5, oc (.d (.str (t13.getD t15.toNat ByteArray.empty)))), (13, oc (.d (.sl .str t13))), (14, oc (zi t14)), (15, oc (zi t15))], [(0, some ⟨9, 0⟩)], [], 1⟩ [(0 : Int) ≤ t15 ∧ t15 < (((t13).length : Nat) : Int)] (by kernel_rfl) ⟨g27_0, trivial⟩ ?_
      rcases iteS h with ⟨b28_e0, h⟩ | ⟨b28_e0, h⟩
      · refine At.step hm ht ⟨[], [true], [], [3, 5, 13, 14, 15], [0]⟩ 7 ⟨[(3, oc (.own 0 .str out)), (5, oc (.d (.str (t13.getD t15.toNat ByteArray.empty)))), (13, oc (.d (.sl .str t13))), (14, oc (zi t14)), (15, oc (zi t15))], [(0, some ⟨9, 0⟩)], [], 1⟩ [(!((t13.getD t15.toNat ByteArray.empty).toList == (⟨#[]⟩ : ByteArray).toList)) = true] (by kernel_rfl) ⟨b28_e0, trivial⟩ ?_
        obtain ⟨g29_0, h⟩ := ifS h
        refine At.step hm ht ⟨[], [], [], [3, 13, 14, 15], [4]⟩ 8 ⟨[(3, oc (.own 0 .str (out ++ [(t13.getD t15.toNat ByteArray.empty)]))), (13, oc (.d (.sl .str t13))), (14, oc (zi t14)), (15, oc (zi t15))], [(0, some ⟨9, 0⟩)], [], 1⟩ [out.length + [(t13.getD t15.toNat ByteArray.empty)].length ≤ maxLen ∧ (out.length + [(t13.getD t15.toNat ByteArray.empty)].length) * 16 ≤ 140737488355328] (by kernel_rfl) ⟨g29_0, trivial⟩ ?_
        refine At.step hm ht ⟨[], [], [], [3, 13, 14, 15], [0]⟩ 4 ⟨[(3, oc (.own 0 .str (out ++ [(t13.getD t15.toNat ByteArray.empty)]))), (13, oc (.d (.sl .str t13))), (14, oc (zi t14)), (15, oc (zi (IntKind.wrap .i64 (t15 + 1))))], [(0, some ⟨9, 0⟩)], [], 1⟩ [] (by kernel_rfl) trivial ?_
        exact ih (out ++ [(t13.getD t15.toNat ByteArray.empty)]) t13 t14 (IntKind.wrap .i64 (t15 + 1)) w h o hk
      · refine At.step hm ht ⟨[], [false], [], [3, 13, 14, 15], [0]⟩ 8 ⟨[(3, oc (.own 0 .str out)), (13, oc (.d (.sl .str t13))), (14, oc (zi t14)), (15, oc (zi t15))], [(0, some ⟨9, 0⟩)], [], 1⟩ [(!((t13.getD t15.toNat ByteArray.empty).toList == (⟨#[]⟩ : ByteArray).toList)) = false] (by kernel_rfl) ⟨b28_e0, trivial⟩ ?_
        refine At.step hm ht ⟨[], [], [], [3, 13, 14, 15], [0]⟩ 4 ⟨[(3, oc (.own 0 .str out)), (13, oc (.d (.sl .str t13))), (14, oc (zi t14)), (15, oc (zi (IntKind.wrap .i64 (t15 + 1))))], [(0, some ⟨9, 0⟩)], [], 1⟩ [] (by kernel_rfl) trivial ?_
        exact ih out t13 t14 (IntKind.wrap .i64 (t15 + 1)) w h o hk
    · refine At.step hm ht ⟨[], [false], [], [3], [0]⟩ 9 ⟨[(3, oc (.own 0 .str out))], [(0, some ⟨9, 0⟩)], [], 1⟩ [(decide ((t15 : Int) < t14)) = false] (by kernel_rfl) ⟨b26_e0, trivial⟩ ?_
      have h := Option.some.inj h
      subst h
      exact hk
def f15_num_Pieces (n : Nat) (s : ByteArray) : Option (List ByteArray) :=
  (f49_strings_Cut s (⟨#[35]⟩ : ByteArray)).bind fun r23_0 =>
  (f45_strings_Split r23_0.1 (⟨#[32]⟩ : ByteArray)).bind fun r25_0 =>
  (f15_num_Pieces_L4 n [] r25_0 ((r25_0.length : Nat) : Int) 0).bind fun w32 =>
  some w32
theorem f15_num_Pieces_ok (n : Nat) (s : ByteArray) (r : List ByteArray) (h : f15_num_Pieces n s = some r) : FnOK Tryd.prog 15 (f15_num_Pieces_in s) (f15_num_Pieces_out r) := by
  unfold f15_num_Pieces at h
  refine At.fn (r := 0) Tryd.func15 rfl (by kernel_rfl) rfl rfl (by kernel_rfl) ?_
  show At Tryd.prog Tryd.f15 0 0 ⟨[(0, oc (.d (.str s)))], [], [], 0⟩ _
  refine At.step hm ht ⟨[], [], [], [0], []⟩ 1 ⟨[(0, oc (.d (.str s)))], [], [], 0⟩ [] (by kernel_rfl) trivial ?_
  obtain ⟨r23_0, cr23_0, h⟩ := bindS h
  refine At.step hm ht ⟨[(1, .call [] [] (f49_strings_Cut_out r23_0))], [], [], [0], []⟩ 2 ⟨[(0, oc (.d (.str r23_0.1)))], [], [], 0⟩ [FnOK Tryd.prog 49 (f49_strings_Cut_in s (⟨#[35]⟩ : ByteArray)) (f49_strings_Cut_out r23_0)] (by kernel_rfl) ⟨(f49_strings_Cut_ok s (⟨#[35]⟩ : ByteArray) r23_0 cr23_0), trivial⟩ ?_
  refine At.step hm ht ⟨[], [], [], [0, 3], []⟩ 3 ⟨[(0, oc (.d (.str r23_0.1))), (3, oc (.d (.sl .unit [])))], [], [], 0⟩ [] (by kernel_rfl) trivial ?_
  obtain ⟨r25_0, cr25_0, h⟩ := bindS h
  refine At.step hm ht ⟨[(1, .call [] [] (f45_strings_Split_out r25_0))], [], [.nil false 3 0 .str (some 9)], [3, 13, 14, 15], [3]⟩ 4 ⟨[(3, oc (.own 0 .str [])), (13, oc (.d (.sl .str r25_0))), (14, oc (zi ((r25_0.length : Nat) : Int))), (15, oc (zi 0))], [(0, some ⟨9, 0⟩)], [], 1⟩ [FnOK Tryd.prog 45 (f45_strings_Split_in r23_0.1 (⟨#[32]⟩ : ByteArray)) (f45_strings_Split_out r25_0)] (by kernel_rfl) ⟨(f45_strings_Split_ok r23_0.1 (⟨#[32]⟩ : ByteArray) r25_0 cr25_0), trivial⟩ ?_
  obtain ⟨w32, cw32, h⟩ := bindS h
  refine f15_num_Pieces_L4_ok n [] r25_0 ((r25_0.length : Nat) : Int) 0 w32 cw32 _ ?_
  show At Tryd.prog Tryd.f15 0 9 ⟨[(3, oc (.own 0 .str w32))], [(0, some ⟨9, 0⟩)], [], 1⟩ _
  have h := Option.some.inj h
  subst h
  exact At.fin hm ht ⟨[], [], [], [2], [0]⟩ [] (by kernel_rfl) trivial
/-! brougham/script.shapes -/
def f70_script_shapes_in : Inn := ⟨[], [], [], 0⟩
def f70_script_shapes_out (r : ByteArray × ByteArray × ByteArray × ByteArray × ByteArray × ByteArray × ByteArray × ByteArray × ByteArray × ByteArray × ByteArray × ByteArray × ByteArray × ByteArray × ByteArray × ByteArray × ByteArray × ByteArray × ByteArray × ByteArray × ByteArray × ByteArray × ByteArray × ByteArray × ByteArray × ByteArray × ByteArray × ByteArray × ByteArray × ByteArray × ByteArray × ByteArray × ByteArray × ByteArray) : Out := ⟨.one (.agg [.d (.str r.1), .d (.str r.2.1), .d (.str r.2.2.1), .d (.str r.2.2.2.1), .d (.str r.2.2.2.2.1), .d (.str r.2.2.2.2.2.1), .d (.str r.2.2.2.2.2.2.1), .d (.str r.2.2.2.2.2.2.2.1), .d (.str r.2.2.2.2.2.2.2.2.1), .d (.str r.2.2.2.2.2.2.2.2.2.1), .d (.str r.2.2.2.2.2.2.2.2.2.2.1), .d (.str r.2.2.2.2.2.2.2.2.2.2.2.1), .d (.str r.2.2.2.2.2.2.2.2.2.2.2.2.1), .d (.str r.2.2.2.2.2.2.2.2.2.2.2.2.2.1), .d (.str r.2.2.2.2.2.2.2.2.2.2.2.2.2.2.1), .d (.str r.2.2.2.2.2.2.2.2.2.2.2.2.2.2.2.1), .d (.str r.2.2.2.2.2.2.2.2.2.2.2.2.2.2.2.2.1), .d (.str r.2.2.2.2.2.2.2.2.2.2.2.2.2.2.2.2.2.1), .d (.str r.2.2.2.2.2.2.2.2.2.2.2.2.2.2.2.2.2.2.1), .d (.str r.2.2.2.2.2.2.2.2.2.2.2.2.2.2.2.2.2.2.2.1), .d (.str r.2.2.2.2.2.2.2.2.2.2.2.2.2.2.2.2.2.2.2.2.1), .d (.str r.2.2.2.2.2.2.2.2.2.2.2.2.2.2.2.2.2.2.2.2.2.1), .d (.str r.2.2.2.2.2.2.2.2.2.2.2.2.2.2.2.2.2.2.2.2.2.2.1), .d (.str r.2.2.2.2.2.2.2.2.2.2.2.2.2.2.2.2.2.2.2.2.2.2.2.1), .d (.str r.2.2.2.2.2.2.2.2.2.2.2.2.2.2.2.2.2.2.2.2.2.2.2.2.1), .d (.str r.2.2.2.2.2.2.2.2.2.2.2.2.2.2.2.2.2.2.2.2.2.2.2.2.2.1), .d (.str r.2.2.2.2.2.2.2.2.2.2.2.2.2.2.2.2.2.2.2.2.2.2.2.2.2.2.1), .d (.str r.2.2.2.2.2.2.2.2.2.2.2.2.2.2.2.2.2.2.2.2.2.2.2.2.2.2.2.1), .d (.str r.2.2.2.2.2.2.2.2.2.2.2.2.2.2.2.2.2.2.2.2.2.2.2.2.2.2.2.2.1), .d (.str r.2.2.2.2.2.2.2.2.2.2.2.2.2.2.2.2.2.2.2.2.2.2.2.2.2.2.2.2.2.1), .d (.str r.2.2.2.2.2.2.2.2.2.2.2.2.2.2.2.2.2.2.2.2.2.2.2.2.2.2.2.2.2.2.1), .d (.str r.2.2.2.2.2.2.2.2.2.2.2.2.2.2.2.2.2.2.2.2.2.2.2.2.2.2.2.2.2.2.2.1), .d (.str r.2.2.2.2.2.2.2.2.2.2.2.2.2.2.2.2.2.2.2.2.2.2.2.2.2.2.2.2.2.2.2.2.1), .d (.str r.2.2.2.2.2.2.2.2.2.2.2.2.2.2.2.2.2.2.2.2.2.2.2.2.2.2.2.2.2.2.2.2.2)]), [], [(0, [.d (.str r.1), .d (.str r.2.1), .d (.str r.2.2.1), .d (.str r.2.2.2.1), .d (.str r.2.2.2.2.1), .d (.str r.2.2.2.2.2.1), .d (.str r.2.2.2.2.2.2.1), .d (.str r.2.2.2.2.2.2.2.1), .d (.str r.2.2.2.2.2.2.2.2.1), .d (.str r.2.2.2.2.2.2.2.2.2.1), .d (.str r.2.2.2.2.2.2.2.2.2.2.1), .d (.str r.2.2.2.2.2.2.2.2.2.2.2.1), .d (.str r.2.2.2.2.2.2.2.2.2.2.2.2.1), .d (.str r.2.2.2.2.2.2.2.2.2.2.2.2.2.1), .d (.str r.2.2.2.2.2.2.2.2.2.2.2.2.2.2.1), .d (.str r.2.2.2.2.2.2.2.2.2.2.2.2.2.2.2.1), .d (.str r.2.2.2.2.2.2.2.2.2.2.2.2.2.2.2.2.1), .d (.str r.2.2.2.2.2.2.2.2.2.2.2.2.2.2.2.2.2.1), .d (.str r.2.2.2.2.2.2.2.2.2.2.2.2.2.2.2.2.2.2.1), .d (.str r.2.2.2.2.2.2.2.2.2.2.2.2.2.2.2.2.2.2.2.1), .d (.str r.2.2.2.2.2.2.2.2.2.2.2.2.2.2.2.2.2.2.2.2.1), .d (.str r.2.2.2.2.2.2.2.2.2.2.2.2.2.2.2.2.2.2.2.2.2.1), .d (.str r.2.2.2.2.2.2.2.2.2.2.2.2.2.2.2.2.2.2.2.2.2.2.1), .d (.str r.2.2.2.2.2.2.2.2.2.2.2.2.2.2.2.2.2.2.2.2.2.2.2.1), .d (.str r.2.2.2.2.2.2.2.2.2.2.2.2.2.2.2.2.2.2.2.2.2.2.2.2.1), .d (.str r.2.2.2.2.2.2.2.2.2.2.2.2.2.2.2.2.2.2.2.2.2.2.2.2.2.1), .d (.str r.2.2.2.2.2.2.2.2.2.2.2.2.2.2.2.2.2.2.2.2.2.2.2.2.2.2.1), .d (.str r.2.2.2.2.2.2.2.2.2.2.2.2.2.2.2.2.2.2.2.2.2.2.2.2.2.2.2.1), .d (.str r.2.2.2.2.2.2.2.2.2.2.2.2.2.2.2.2.2.2.2.2.2.2.2.2.2.2.2.2.1), .d (.str r.2.2.2.2.2.2.2.2.2.2.2.2.2.2.2.2.2.2.2.2.2.2.2.2.2.2.2.2.2.1), .d (.str r.2.2.2.2.2.2.2.2.2.2.2.2.2.2.2.2.2.2.2.2.2.2.2.2.2.2.2.2.2.2.1), .d (.str r.2.2.2.2.2.2.2.2.2.2.2.2.2.2.2.2.2.2.2.2.2.2.2.2.2.2.2.2.2.2.2.1), .d (.str r.2.2.2.2.2.2.2.2.2.2.2.2.2.2.2.2.2.2.2.2.2.2.2.2.2.2.2.2.2.2.2.2.1), .d (.str r.2.2.2.2.2.2.2.2.2.2.2.2.2.2.2.2.2.2.2.2.2.2.2.2.2.2.2.2.2.2.2.2.2)])], 1⟩
def f70_script_shapes : Option (ByteArray × ByteArray × ByteArray × ByteArray × ByteArray × ByteArray × ByteArray × ByteArray × ByteArray × ByteArray × ByteArray × ByteArray × ByteArray × ByteArray × ByteArray × ByteArray × ByteArray × ByteArray × ByteArray × ByteArray × ByteArray × ByteArray × ByteArray × ByteArray × ByteArray × ByteArray × ByteArray × ByteArray × ByteArray × ByteArray × ByteArray × ByteArray × ByteArray × ByteArray) :=
  some ((⟨#[]⟩ : ByteArray), (⟨#[]⟩ : ByteArray), (⟨#[108, 105, 115, 116, 101, 110]⟩ : ByteArray), (⟨#[104, 110]⟩ : ByteArray), (⟨#[99, 111, 110, 110, 101, 99, 116]⟩ : ByteArray), (⟨#[104, 110, 112, 119]⟩ : ByteArray), (⟨#[97, 99, 99, 101, 112, 116]⟩ : ByteArray), (⟨#[104, 110]⟩ : ByteArray), (⟨#[119, 114, 105, 116, 101]⟩ : ByteArray), (⟨#[104, 110, 98]⟩ : ByteArray), (⟨#[114, 101, 97, 100]⟩ : ByteArray), (⟨#[104, 110, 107]⟩ : ByteArray), (⟨#[99, 108, 111, 115, 101]⟩ : ByteArray), (⟨#[104, 110]⟩ : ByteArray), (⟨#[97, 98, 111, 114, 116]⟩ : ByteArray), (⟨#[104, 110]⟩ : ByteArray), (⟨#[114, 101, 108, 101, 97, 115, 101]⟩ : ByteArray), (⟨#[104, 110]⟩ : ByteArray), (⟨#[111, 102, 102, 101, 114]⟩ : ByteArray), (⟨#[104, 110, 119]⟩ : ByteArray), (⟨#[116, 105, 99, 107]⟩ : ByteArray), (⟨#[107]⟩ : ByteArray), (⟨#[100, 101, 108, 105, 118, 101, 114]⟩ : ByteArray), (⟨#[107]⟩ : ByteArray), (⟨#[100, 114, 111, 112]⟩ : ByteArray), (⟨#[107]⟩ : ByteArray), (⟨#[99, 111, 112, 121]⟩ : ByteArray), (⟨#[107]⟩ : ByteArray), (⟨#[114, 101, 112, 108, 97, 121]⟩ : ByteArray), (⟨#[119, 107]⟩ : ByteArray), (⟨#[114, 101, 102, 108, 101, 99, 116]⟩ : ByteArray), (⟨#[119, 107]⟩ : ByteArray), (⟨#[105, 110, 106, 101, 99, 116]⟩ : ByteArray), (⟨#[104, 119, 98]⟩ : ByteArray))
theorem f70_script_shapes_ok (r : ByteArray × ByteArray × ByteArray × ByteArray × ByteArray × ByteArray × ByteArray × ByteArray × ByteArray × ByteArray × ByteArray × ByteArray × ByteArray × ByteArray × ByteArray × ByteArray × ByteArray × ByteArray × ByteArray × ByteArray × ByteArray × ByteArray × ByteArray × ByteArray × ByteArray × ByteArray × ByteArray × ByteArray × ByteArray × ByteArray × ByteArray × ByteArray × ByteArray × ByteArray) (h : f70_script_shapes = some r) : FnOK Tryd.prog 70 (f70_script_shapes_in) (f70_script_shapes_out r) := by
  unfold f70_script_shapes at h
  refine At.fn (r := 0) Tryd.func70 rfl (by kernel_rfl) rfl rfl (by kernel_rfl) ?_
  show At Tryd.prog Tryd.f70 0 0 ⟨[], [], [], 0⟩ _
  refine At.step hm ht ⟨[], [], [], [0], [0]⟩ 1 ⟨[(0, oc (.ptr 0 0))], [], [(0, [.d (.str (⟨#[]⟩ : ByteArray)), .d (.str (⟨#[]⟩ : ByteArray)), .d (.str (⟨#[]⟩ : ByteArray)), .d (.str (⟨#[]⟩ : ByteArray)), .d (.str (⟨#[]⟩ : ByteArray)), .d (.str (⟨#[]⟩ : ByteArray)), .d (.str (⟨#[]⟩ : ByteArray)), .d (.str (⟨#[]⟩ : ByteArray)), .d (.str (⟨#[]⟩ : ByteArray)), .d (.str (⟨#[]⟩ : ByteArray)), .d (.str (⟨#[]⟩ : ByteArray)), .d (.str (⟨#[]⟩ : ByteArray)), .d (.str (⟨#[]⟩ : ByteArray)), .d (.str (⟨#[]⟩ : ByteArray)), .d (.str (⟨#[]⟩ : ByteArray)), .d (.str (⟨#[]⟩ : ByteArray)), .d (.str (⟨#[]⟩ : ByteArray)), .d (.str (⟨#[]⟩ : ByteArray)), .d (.str (⟨#[]⟩ : ByteArray)), .d (.str (⟨#[]⟩ : ByteArray)), .d (.str (⟨#[]⟩ : ByteArray)), .d (.str (⟨#[]⟩ : ByteArray)), .d (.str (⟨#[]⟩ : ByteArray)), .d (.str (⟨#[]⟩ : ByteArray)), .d (.str (⟨#[]⟩ : ByteArray)), .d (.str (⟨#[]⟩ : ByteArray)), .d (.str (⟨#[]⟩ : ByteArray)), .d (.str (⟨#[]⟩ : ByteArray)), .d (.str (⟨#[]⟩ : ByteArray)), .d (.str (⟨#[]⟩ : ByteArray)), .d (.str (⟨#[]⟩ : ByteArray)), .d (.str (⟨#[]⟩ : ByteArray)), .d (.str (⟨#[]⟩ : ByteArray)), .d (.str (⟨#[]⟩ : ByteArray))])], 1⟩ [] (by kernel_rfl) trivial ?_
  have h := Option.some.inj h
  subst h
  exact At.fin hm ht ⟨[], [], [], [0], [0]⟩ [0 + 34 ≤ 34] (by kernel_rfl) ⟨(by decide), trivial⟩
/-! brougham/script.part -/
def f71_script_part_in (c : Int) (s_0 : Int) (s_1 : Int) (s_2 : Int) (s_3 : Int) (s_4 : Int) (s_5 : Int) : Inn := ⟨[.c (.ptr 0 0), .c (.d (.int .u8 c))], [], [(0, [zi s_0, zi s_1, zi s_2, zi s_3, zi s_4, zi s_5, .d (.sl .unit [])])], 1⟩
def f71_script_part_out (r : (Int × Int × Int × Int × Int × Int) ⊕ (Int × Int × Int × Int × Int × Int) ⊕ (Int × Int × Int × Int × Int × Int) ⊕ (Int × Int × Int × Int × Int × Int) ⊕ (Int × Int × Int × Int × Int × Int) ⊕ (Int × Int × Int × Int × Int × Int)) : Out := match r with
  | .inl e => ⟨oc (.ptr 0 1), [], [(0, [zi e.1, zi e.2.1, zi e.2.2.1, zi e.2.2.2.1, zi e.2.2.2.2.1, zi e.2.2.2.2.2, .d (.sl .unit [])])], 1⟩
  | .inr (.inl e) => ⟨oc (.ptr 0 2), [], [(0, [zi e.1, zi e.2.1, zi e.2.2.1, zi e.2.2.2.1, zi e.2.2.2.2.1, zi e.2.2.2.2.2, .d (.sl .unit [])])], 1⟩
  | .inr (.inr (.inl e)) => ⟨oc (.ptr 0 3), [], [(0, [zi e.1, zi e.2.1, zi e.2.2.1, zi e.2.2.2.1, zi e.2.2.2.2.1, zi e.2.2.2.2.2, .d (.sl .unit [])])], 1⟩
  | .inr (.inr (.inr (.inl e))) => ⟨oc (.ptr 0 4), [], [(0, [zi e.1, zi e.2.1, zi e.2.2.1, zi e.2.2.2.1, zi e.2.2.2.2.1, zi e.2.2.2.2.2, .d (.sl .unit [])])], 1⟩
  | .inr (.inr (.inr (.inr (.inl e)))) => ⟨oc (.ptr 0 5), [], [(0, [zi e.1, zi e.2.1, zi e.2.2.1, zi e.2.2.2.1, zi e.2.2.2.2.1, zi e.2.2.2.2.2, .d (.sl .unit [])])], 1⟩
  | .inr (.inr (.inr (.inr (.inr e)))) => ⟨oc (.d (.nilP)), [], [(0, [zi e.1, zi e.2.1, zi e.2.2.1, zi e.2.2.2.1, zi e.2.2.2.2.1, zi e.2.2.2.2.2, .d (.sl .unit [])])], 1⟩
def f71_script_part (c : Int) (s_0 : Int) (s_1 : Int) (s_2 : Int) (s_3 : Int) (s_4 : Int) (s_5 : Int) : Option ((Int × Int × Int × Int × Int × Int) ⊕ (Int × Int × Int × Int × Int × Int) ⊕ (Int × Int × Int × Int × Int × Int) ⊕ (Int × Int × Int × Int × Int × Int) ⊕ (Int × Int × Int × Int × Int × Int) ⊕ (Int × Int × Int × Int × Int × Int)) :=
  if ((c : Int) == 104) = true then
    some (.inl (s_0, s_1, s_2, s_3, s_4, s_5))
  else
    if ((c : Int) == 110) = true then
      some (.inr (.inl (s_0, s_1, s_2, s_3, s_4, s_5)))
    else
      if ((c : Int) == 112) = true then
        some (.inr (.inr (.inl (s_0, s_1, s_2, s_3, s_4, s_5))))
      else
        if ((c : Int) == 119) = true then
          some (.inr (.inr (.inr (.inl (s_0, s_1, s_2, s_3, s_4, s_5)))))
        else
          if ((c : Int) == 107) = true then
            some (.inr (.inr (.inr (.inr (.inl (s_0, s_1, s_2, s_3, s_4, s_5))))))
          else
            some (.inr (.inr (.inr (.inr (.inr ((s_0, s_1, s_2, s_3, s_4, s_5)))))))
theorem f71_script_part_ok (c : Int) (s_0 : Int) (s_1 : Int) (s_2 : Int) (s_3 : Int) (s_4 : Int) (s_5 : Int) (r : (Int × Int × Int × Int × Int × Int) ⊕ (Int × Int × Int × Int × Int × Int) ⊕ (Int × Int × Int × Int × Int × Int) ⊕ (Int × Int × Int × Int × Int × Int) ⊕ (Int × Int × Int × Int × Int × Int) ⊕ (Int × Int × Int × Int × Int × Int)) (h : f71_script_part c s_0 s_1 s_2 s_3 s_4 s_5 = some r) : FnOK Tryd.prog 71 (f71_script_part_in c s_0 s_1 s_2 s_3 s_4 s_5) (f71_script_part_out r) := by
  unfold f71_script_part at h
  refine At.fn (r := 0) Tryd.func71 rfl (by kernel_rfl) rfl (by rcases r with _ | _ | _ | _ | _ | _ <;> rfl) (by kernel_rfl) ?_
  show At Tryd.prog Tryd.f71 1 0 ⟨[(0, oc (.ptr 0 0)), (1, oc (.d (.int .u8 c)))], [], [(0, [zi s_0, zi s_1, zi s_2, zi s_3, zi s_4, zi s_5, .d (.sl .unit [])])], 1⟩ _
  refine At.step hm ht ⟨[], [], [], [0, 1], [0]⟩ 1 ⟨[(0, oc (.ptr 0 0)), (1, oc (.d (.int .u8 c)))], [], [(0, [zi s_0, zi s_1, zi s_2, zi s_3, zi s_4, zi s_5, .d (.sl .unit [])])], 1⟩ [] (by kernel_rfl) trivial ?_
  refine At.step hm ht ⟨[], [], [], [0, 5], [0]⟩ 2 ⟨[(0, oc (.ptr 0 0)), (5, oc (.d (.int .u8 c)))], [], [(0, [zi s_0, zi s_1, zi s_2, zi s_3, zi s_4, zi s_5, .d (.sl .unit [])])], 1⟩ [] (by kernel_rfl) trivial ?_
  rcases iteS h with ⟨b56_e0, h⟩ | ⟨b56_e0, h⟩
  · refine At.step hm ht ⟨[], [true], [], [0], [0]⟩ 3 ⟨[(0, oc (.ptr 0 0))], [], [(0, [zi s_0, zi s_1, zi s_2, zi s_3, zi s_4, zi s_5, .d (.sl .unit [])])], 1⟩ [((c : Int) == 104) = true] (by kernel_rfl) ⟨b56_e0, trivial⟩ ?_
    have h := Option.some.inj h
    subst h
    exact At.fin hm ht ⟨[], [], [], [4], [0]⟩ [] (by kernel_rfl) trivial
  · refine At.step hm ht ⟨[], [false], [], [0, 5], [0]⟩ 4 ⟨[(0, oc (.ptr 0 0)), (5, oc (.d (.int .u8 c)))], [], [(0, [zi s_0, zi s_1, zi s_2, zi s_3, zi s_4, zi s_5, .d (.sl .unit [])])], 1⟩ [((c : Int) == 104) = false] (by kernel_rfl) ⟨b56_e0, trivial⟩ ?_
    rcases iteS h with ⟨b58_e0, h⟩ | ⟨b58_e0, h⟩
    · refine At.step hm ht ⟨[], [true], [], [0], [0]⟩ 5 ⟨[(0, oc (.ptr 0 0))], [], [(0, [zi s_0, zi s_1, zi s_2, zi s_3, zi s_4, zi s_5, .d (.sl .unit [])])], 1⟩ [((c : Int) == 110) = true] (by kernel_rfl) ⟨b58_e0, trivial⟩ ?_
      have h := Option.some.inj h
      subst h
      exact At.fin hm ht ⟨[], [], [], [4], [0]⟩ [] (by kernel_rfl) trivial
    · refine At.step hm ht ⟨[], [false], [], [0, 5], [0]⟩ 6 ⟨[(0, oc (.ptr 0 0)), (5, oc (.d (.int .u8 c)))], [], [(0, [zi s_0, zi s_1, zi s_2, zi s_3, zi s_4, zi s_5, .d (.sl .unit [])])], 1⟩ [((c : Int) == 110) = false] (by kernel_rfl) ⟨b58_e0, trivial⟩ ?_
      rcases iteS h with ⟨b60_e0, h⟩ | ⟨b60_e0, h⟩
      · refine At.step hm ht ⟨[], [true], [], [0], [0]⟩ 7 ⟨[(0, oc (.ptr 0 0))], [], [(0, [zi s_0, zi s_1, zi s_2, zi s_3, zi s_4, zi s_5, .d (.sl .unit [])])], 1⟩ [((c : Int) == 112) = true] (by kernel_rfl) ⟨b60_e0, trivial⟩ ?_
        have h := Option.some.inj h
        subst h
        exact At.fin hm ht ⟨[], [], [], [4], [0]⟩ [] (by kernel_rfl) trivial
      · refine At.step hm ht ⟨[], [false], [], [0, 5], [0]⟩ 8 ⟨[(0, oc (.ptr 0 0)), (5, oc (.d (.int .u8 c)))], [], [(0, [zi s_0, zi s_1, zi s_2, zi s_3, zi s_4, zi s_5, .d (.sl .unit [])])], 1⟩ [((c : Int) == 112) = false] (by kernel_rfl) ⟨b60_e0, trivial⟩ ?_
        rcases iteS h with ⟨b62_e0, h⟩ | ⟨b62_e0, h⟩
        · refine At.step hm ht ⟨[], [true], [], [0], [0]⟩ 9 ⟨[(0, oc (.ptr 0 0))], [], [(0, [zi s_0, zi s_1, zi s_2, zi s_3, zi s_4, zi s_5, .d (.sl .unit [])])], 1⟩ [((c : Int) == 119) = true] (by kernel_rfl) ⟨b62_e0, trivial⟩ ?_
          have h := Option.some.inj h
          subst h
          exact At.fin hm ht ⟨[], [], [], [4], [0]⟩ [] (by kernel_rfl) trivial
        · refine At.step hm ht ⟨[], [false], [], [0, 5], [0]⟩ 10 ⟨[(0, oc (.ptr 0 0)), (5, oc (.d (.int .u8 c)))], [], [(0, [zi s_0, zi s_1, zi s_2, zi s_3, zi s_4, zi s_5, .d (.sl .unit [])])], 1⟩ [((c : Int) == 119) = false] (by kernel_rfl) ⟨b62_e0, trivial⟩ ?_
          rcases iteS h with ⟨b64_e0, h⟩ | ⟨b64_e0, h⟩
          · refine At.step hm ht ⟨[], [true], [], [0], [0]⟩ 11 ⟨[(0, oc (.ptr 0 0))], [], [(0, [zi s_0, zi s_1, zi s_2, zi s_3, zi s_4, zi s_5, .d (.sl .unit [])])], 1⟩ [((c : Int) == 107) = true] (by kernel_rfl) ⟨b64_e0, trivial⟩ ?_
            have h := Option.some.inj h
            subst h
            exact At.fin hm ht ⟨[], [], [], [4], [0]⟩ [] (by kernel_rfl) trivial
          · refine At.step hm ht ⟨[], [false], [], [], [0]⟩ 12 ⟨[], [], [(0, [zi s_0, zi s_1, zi s_2, zi s_3, zi s_4, zi s_5, .d (.sl .unit [])])], 1⟩ [((c : Int) == 107) = false] (by kernel_rfl) ⟨b64_e0, trivial⟩ ?_
            have h := Option.some.inj h
            subst h
            exact At.fin hm ht ⟨[], [], [], [4], [0]⟩ [] (by kernel_rfl) trivial
/-! brougham/num.Unhex -/
def f77_num_Unhex_in (s : ByteArray) : Inn := ⟨[.c (.d (.str s))], [], [], 0⟩
def f77_num_Unhex_out (r : List Int × Int) : Out := ⟨.tup [.c (.own 0 (.int .u8) r.1), .c (zi r.2)], [(0, ⟨5, 0⟩)], [], 1⟩
def f77_num_Unhex_L5 : Nat → ByteArray → (List Int) → Int → Option ((List Int × Int) ⊕ (List Int))
  | 0, _, _, _ => none
  | n + 1, s, b, i =>
    if (decide ((i : Int) < ((s.size : Nat) : Int))) = true then
      if (((IntKind.wrap .i64 (i + 1)) : Int) == ((s.size : Nat) : Int)) = true then
        some (.inl ([], 11))
      else
        if (0 : Int) ≤ i ∧ i < (((s).size : Nat) : Int) then
        (f72_strings_IndexByte (⟨#[48, 49, 50, 51, 52, 53, 54, 55, 56, 57, 97, 98, 99, 100, 101, 102]⟩ : ByteArray) (byteAt s i)).bind fun r136_1 =>
        if (0 : Int) ≤ (IntKind.wrap .i64 (i + 1)) ∧ (IntKind.wrap .i64 (i + 1)) < (((s).size : Nat) : Int) then
        (f72_strings_IndexByte (⟨#[48, 49, 50, 51, 52, 53, 54, 55, 56, 57, 97, 98, 99, 100, 101, 102]⟩ : ByteArray) (byteAt s (IntKind.wrap .i64 (i + 1)))).bind fun r136_3 =>
        if (decide ((r136_1 : Int) < 0)) = true then
          some (.inl ([], 11))
        else
          if (decide ((r136_3 : Int) < 0)) = true then
            some (.inl ([], 11))
          else
            if b.length + [(IntKind.wrap .u8 (bits .or .i64 (IntKind.wrap .i64 (r136_1 * 2 ^ 4)) r136_3))].length ≤ maxLen ∧ (b.length + [(IntKind.wrap .u8 (bits .or .i64 (IntKind.wrap .i64 (r136_1 * 2 ^ 4)) r136_3))].length) * 1 ≤ 140737488355328 then
            f77_num_Unhex_L5 n s (b ++ [(IntKind.wrap .u8 (bits .or .i64 (IntKind.wrap .i64 (r136_1 * 2 ^ 4)) r136_3))]) (IntKind.wrap .i64 (i + 2))
            else none
        else none
        else none
    else
      some (.inr b)
def f77_num_Unhex_L5_k (w : (List Int × Int) ⊕ (List Int)) (o : Out) : Prop := match w with
  | .inl e => o = f77_num_Unhex_out e
  | .inr e => At Tryd.prog Tryd.f77 0 13 ⟨[(4, oc (.own 0 (.int .u8) e))], [(0, some ⟨5, 0⟩)], [], 1⟩ o
theorem f77_num_Unhex_L5_ok (n : Nat) : ∀ (s : ByteArray) (b : List Int) (i : Int) (w : (List Int × Int) ⊕ (List Int)) (h : f77_num_Unhex_L5 n s b i = some w) (o : Out) (hk : f77_num_Unhex_L5_k w o), At Tryd.prog Tryd.f77 0 5 ⟨[(0, oc (.d (.str s))), (4, oc (.own 0 (.int .u8) b)), (5, oc (zi i))], [(0, some ⟨5, 0⟩)], [], 1⟩ o := by
  induction n with
  | zero => intro s b i w h; rw [f77_num_Unhex_L5] at h; cases h
  | succ n ih =>
    intro s b i w h o hk
    rw [f77_num_Unhex_L5] at h
    rcases iteS h with ⟨b133_e0, h⟩ | ⟨b133_e0, h⟩
    · refine At.step hm ht ⟨[], [true], [], [0, 4, 5], [0]⟩ 7 ⟨[(0, oc (.d (.str s))), (4, oc (.own 0 (.int .u8) b)), (5, oc (zi i))], [(0, some ⟨5, 0⟩)], [], 1⟩ [(decide ((i : Int) < ((s.size : Nat) : Int))) = true] (by kernel_rfl) ⟨b133_e0, trivial⟩ ?_
      rcases iteS h with ⟨b134_e0, h⟩ | ⟨b134_e0, h⟩
      · refine At.step hm ht ⟨[], [true], [], [], []⟩ 8 ⟨[], [], [], 0⟩ [(((IntKind.wrap .i64 (i + 1)) : Int) == ((s.size : Nat) : Int)) = true] (by kernel_rfl) ⟨b134_e0, trivial⟩ ?_
        have h := Option.some.inj h
        subst h
        have hk : o = f77_num_Unhex_out ([], 11) := hk
        subst hk
        exact At.fin hm ht ⟨[], [], [.nil false 2 0 (.int .u8) (some 5)], [2, 3], [2]⟩ [] (by kernel_rfl) trivial
      · refine At.step hm ht ⟨[], [false], [], [0, 4, 5], [0]⟩ 9 ⟨[(0, oc (.d (.str s))), (4, oc (.own 0 (.int .u8) b)), (5, oc (zi i))], [(0, some ⟨5, 0⟩)], [], 1⟩ [(((IntKind.wrap .i64 (i + 1)) : Int) == ((s.size : Nat) : Int)) = false] (by kernel_rfl) ⟨b134_e0, trivial⟩ ?_
        obtain ⟨g136_0, h⟩ := ifS h
        obtain ⟨r136_1, cr136_1, h⟩ := bindS h
        obtain ⟨g136_2, h⟩ := ifS h
        obtain ⟨r136_3, cr136_3, h⟩ := bindS h
        refine At.step hm ht ⟨[(3, .call [] [] (f72_strings_IndexByte_out r136_1)), (8, .call [] [] (f72_strings_IndexByte_out r136_3))], [], [], [0, 4, 5, 6, 7], [0]⟩ 10 ⟨[(0, oc (.d (.str s))), (4, oc (.own 0 (.int .u8) b)), (5, oc (zi i)), (6, oc (zi r136_1)), (7, oc (zi r136_3))], [(0, some ⟨5, 0⟩)], [], 1⟩ [(0 : Int) ≤ i ∧ i < (((s).size : Nat) : Int), FnOK Tryd.prog 72 (f72_strings_IndexByte_in (⟨#[48, 49, 50, 51, 52, 53, 54, 55, 56, 57, 97, 98, 99, 100, 101, 102]⟩ : ByteArray) (byteAt s i)) (f72_strings_IndexByte_out r136_1), (0 : Int) ≤ (IntKind.wrap .i64 (i + 1)) ∧ (IntKind.wrap .i64 (i + 1)) < (((s).size : Nat) : Int), FnOK Tryd.prog 72 (f72_strings_IndexByte_in (⟨#[48, 49, 50, 51, 52, 53, 54, 55, 56, 57, 97, 98, 99, 100, 101, 102]⟩ : ByteArray) (byteAt s (IntKind.wrap .i64 (i + 1)))) (f72_strings_IndexByte_out r136_3)] (by kernel_rfl) ⟨g136_0, (f72_strings_IndexByte_ok (⟨#[48, 49, 50, 51, 52, 53, 54, 55, 56, 57, 97, 98, 99, 100, 101, 102]⟩ : ByteArray) (byteAt s i) r136_1 cr136_1), g136_2, (f72_strings_IndexByte_ok (⟨#[48, 49, 50, 51, 52, 53, 54, 55, 56, 57, 97, 98, 99, 100, 101, 102]⟩ : ByteArray) (byteAt s (IntKind.wrap .i64 (i + 1))) r136_3 cr136_3), trivial⟩ ?_
        rcases iteS h with ⟨b137_2, h⟩ | ⟨b137_2, h⟩
        · refine At.step hm ht ⟨[(2, .b true)], [true], [], [], []⟩ 11 ⟨[], [], [], 0⟩ [(decide ((r136_1 : Int) < 0)) = true, true = true] (by kernel_rfl) ⟨b137_2, rfl, trivial⟩ ?_
          have h := Option.some.inj h
          subst h
          have hk : o = f77_num_Unhex_out ([], 11) := hk
          subst hk
          exact At.fin hm ht ⟨[], [], [.nil false 2 0 (.int .u8) (some 5)], [2, 3], [2]⟩ [] (by kernel_rfl) trivial
        · rcases iteS h with ⟨b137_e0, h⟩ | ⟨b137_e0, h⟩
          · refine At.step hm ht ⟨[(2, .b false)], [true], [], [], []⟩ 11 ⟨[], [], [], 0⟩ [(decide ((r136_1 : Int) < 0)) = false, (decide ((r136_3 : Int) < 0)) = true] (by kernel_rfl) ⟨b137_2, b137_e0, trivial⟩ ?_
            have h := Option.some.inj h
            subst h
            have hk : o = f77_num_Unhex_out ([], 11) := hk
            subst hk
            exact At.fin hm ht ⟨[], [], [.nil false 2 0 (.int .u8) (some 5)], [2, 3], [2]⟩ [] (by kernel_rfl) trivial
          · refine At.step hm ht ⟨[(2, .b false)], [false], [], [0, 4, 5, 6, 7], [0]⟩ 12 ⟨[(0, oc (.d (.str s))), (4, oc (.own 0 (.int .u8) b)), (5, oc (zi i)), (6, oc (zi r136_1)), (7, oc (zi r136_3))], [(0, some ⟨5, 0⟩)], [], 1⟩ [(decide ((r136_1 : Int) < 0)) = false, (decide ((r136_3 : Int) < 0)) = false] (by kernel_rfl) ⟨b137_2, b137_e0, trivial⟩ ?_
            obtain ⟨g140_0, h⟩ := ifS h
            refine At.step hm ht ⟨[], [], [], [0, 4, 5], [8]⟩ 6 ⟨[(0, oc (.d (.str s))), (4, oc (.own 0 (.int .u8) (b ++ [(IntKind.wrap .u8 (bits .or .i64 (IntKind.wrap .i64 (r136_1 * 2 ^ 4)) r136_3))]))), (5, oc (zi i))], [(0, some ⟨5, 0⟩)], [], 1⟩ [(0 : Int) ≤ 4, b.length + [(IntKind.wrap .u8 (bits .or .i64 (IntKind.wrap .i64 (r136_1 * 2 ^ 4)) r136_3))].length ≤ maxLen ∧ (b.length + [(IntKind.wrap .u8 (bits .or .i64 (IntKind.wrap .i64 (r136_1 * 2 ^ 4)) r136_3))].length) * 1 ≤ 140737488355328] (by kernel_rfl) ⟨(by decide), g140_0, trivial⟩ ?_
            refine At.step hm ht ⟨[], [], [], [0, 4, 5], [0]⟩ 5 ⟨[(0, oc (.d (.str s))), (4, oc (.own 0 (.int .u8) (b ++ [(IntKind.wrap .u8 (bits .or .i64 (IntKind.wrap .i64 (r136_1 * 2 ^ 4)) r136_3))]))), (5, oc (zi (IntKind.wrap .i64 (i + 2))))], [(0, some ⟨5, 0⟩)], [], 1⟩ [] (by kernel_rfl) trivial ?_
            exact ih s (b ++ [(IntKind.wrap .u8 (bits .or .i64 (IntKind.wrap .i64 (r136_1 * 2 ^ 4)) r136_3))]) (IntKind.wrap .i64 (i + 2)) w h o hk
    · refine At.step hm ht ⟨[], [false], [], [4], [0]⟩ 13 ⟨[(4, oc (.own 0 (.int .u8) b))], [(0, some ⟨5, 0⟩)], [], 1⟩ [(decide ((i : Int) < ((s.size : Nat) : Int))) = false] (by kernel_rfl) ⟨b133_e0, trivial⟩ ?_
      have h := Option.some.inj h
      subst h
      exact hk
def f77_num_Unhex (n : Nat) (s : ByteArray) : Option (List Int × Int) :=
  if (s.toList == (⟨#[45]⟩ : ByteArray).toList) = true then
    some ([], 0)
  else
    (f77_num_Unhex_L5 n s [] 0).bind fun w142 =>
    match w142 with
    | .inl e143 =>
      some (e143.1, e143.2)
    | .inr e144 =>
      if ((((e144.length : Nat) : Int) : Int) == 0) = true then
        some ([], 11)
      else
        some (e144, 0)
theorem f77_num_Unhex_ok (n : Nat) (s : ByteArray) (r : List Int × Int) (h : f77_num_Unhex n s = some r) : FnOK Tryd.prog 77 (f77_num_Unhex_in s) (f77_num_Unhex_out r) := by
  unfold f77_num_Unhex at h
  refine At.fn (r := 0) Tryd.func77 rfl (by kernel_rfl) rfl rfl (by kernel_rfl) ?_
  show At Tryd.prog Tryd.f77 0 0 ⟨[(0, oc (.d (.str s)))], [], [], 0⟩ _
  refine At.step hm ht ⟨[], [], [], [0], []⟩ 1 ⟨[(0, oc (.d (.str s)))], [], [], 0⟩ [] (by kernel_rfl) trivial ?_
  rcases iteS h with ⟨b129_e0, h⟩ | ⟨b129_e0, h⟩
  · refine At.step hm ht ⟨[], [true], [], [], []⟩ 2 ⟨[], [], [], 0⟩ [(s.toList == (⟨#[45]⟩ : ByteArray).toList) = true] (by kernel_rfl) ⟨b129_e0, trivial⟩ ?_
    have h := Option.some.inj h
    subst h
    exact At.fin hm ht ⟨[], [], [.nil false 2 0 (.int .u8) (some 5)], [2, 3], [2]⟩ [] (by kernel_rfl) trivial
  · refine At.step hm ht ⟨[], [false], [], [0], []⟩ 3 ⟨[(0, oc (.d (.str s)))], [], [], 0⟩ [(s.toList == (⟨#[45]⟩ : ByteArray).toList) = false] (by kernel_rfl) ⟨b129_e0, trivial⟩ ?_
    refine At.step hm ht ⟨[], [], [], [0, 4], []⟩ 4 ⟨[(0, oc (.d (.str s))), (4, oc (.d (.sl .unit [])))], [], [], 0⟩ [] (by kernel_rfl) trivial ?_
    refine At.step hm ht ⟨[], [], [.nil false 4 0 (.int .u8) (some 5)], [0, 4, 5], [1]⟩ 5 ⟨[(0, oc (.d (.str s))), (4, oc (.own 0 (.int .u8) [])), (5, oc (zi 0))], [(0, some ⟨5, 0⟩)], [], 1⟩ [] (by kernel_rfl) trivial ?_
    obtain ⟨w142, cw142, h⟩ := bindS h
    refine f77_num_Unhex_L5_ok n s [] 0 w142 cw142 _ ?_
    rcases w142 with e143 | e144
    · have h := Option.some.inj h
      subst h
      rfl
    · show At Tryd.prog Tryd.f77 0 13 ⟨[(4, oc (.own 0 (.int .u8) e144))], [(0, some ⟨5, 0⟩)], [], 1⟩ _
      rcases iteS h with ⟨b145_e0, h⟩ | ⟨b145_e0, h⟩
      · refine At.step hm ht ⟨[], [true], [], [], []⟩ 14 ⟨[], [], [], 0⟩ [((((e144.length : Nat) : Int) : Int) == 0) = true] (by kernel_rfl) ⟨b145_e0, trivial⟩ ?_
        have h := Option.some.inj h
        subst h
        exact At.fin hm ht ⟨[], [], [.nil false 2 0 (.int .u8) (some 5)], [2, 3], [2]⟩ [] (by kernel_rfl) trivial
      · refine At.step hm ht ⟨[], [false], [], [4], [0]⟩ 15 ⟨[(4, oc (.own 0 (.int .u8) e144))], [(0, some ⟨5, 0⟩)], [], 1⟩ [((((e144.length : Nat) : Int) : Int) == 0) = false] (by kernel_rfl) ⟨b145_e0, trivial⟩ ?_
        have h := Option.some.inj h
        subst h
        exact At.fin hm ht ⟨[], [], [], [2, 3], [0]⟩ [] (by kernel_rfl) trivial
/-! brougham/script.part -/
def f71_script_part_v2_in (c : Int) (s_0 : Int) (s_1 : Int) (s_2 : Int) (s_3 : Int) (s_4 : Int) (s_5 : Int) (s_6 : List Int) : Inn := ⟨[.c (.ptr 0 0), .c (.d (.int .u8 c))], [(1, ⟨5, 0⟩)], [(0, [zi s_0, zi s_1, zi s_2, zi s_3, zi s_4, zi s_5, .own 1 (.int .u8) s_6])], 2⟩
def f71_script_part_v2_out (r : (Int × Int × Int × Int × Int × Int × List Int) ⊕ (Int × Int × Int × Int × Int × Int × List Int) ⊕ (Int × Int × Int × Int × Int × Int × List Int) ⊕ (Int × Int × Int × Int × Int × Int × List Int) ⊕ (Int × Int × Int × Int × Int × Int × List Int) ⊕ (Int × Int × Int × Int × Int × Int × List Int)) : Out := match r with
  | .inl e => ⟨oc (.ptr 0 1), [(1, ⟨5, 0⟩)], [(0, [zi e.1, zi e.2.1, zi e.2.2.1, zi e.2.2.2.1, zi e.2.2.2.2.1, zi e.2.2.2.2.2.1, .own 1 (.int .u8) e.2.2.2.2.2.2])], 2⟩
  | .inr (.inl e) => ⟨oc (.ptr 0 2), [(1, ⟨5, 0⟩)], [(0, [zi e.1, zi e.2.1, zi e.2.2.1, zi e.2.2.2.1, zi e.2.2.2.2.1, zi e.2.2.2.2.2.1, .own 1 (.int .u8) e.2.2.2.2.2.2])], 2⟩
  | .inr (.inr (.inl e)) => ⟨oc (.ptr 0 3), [(1, ⟨5, 0⟩)], [(0, [zi e.1, zi e.2.1, zi e.2.2.1, zi e.2.2.2.1, zi e.2.2.2.2.1, zi e.2.2.2.2.2.1, .own 1 (.int .u8) e.2.2.2.2.2.2])], 2⟩
  | .inr (.inr (.inr (.inl e))) => ⟨oc (.ptr 0 4), [(1, ⟨5, 0⟩)], [(0, [zi e.1, zi e.2.1, zi e.2.2.1, zi e.2.2.2.1, zi e.2.2.2.2.1, zi e.2.2.2.2.2.1, .own 1 (.int .u8) e.2.2.2.2.2.2])], 2⟩
  | .inr (.inr (.inr (.inr (.inl e)))) => ⟨oc (.ptr 0 5), [(1, ⟨5, 0⟩)], [(0, [zi e.1, zi e.2.1, zi e.2.2.1, zi e.2.2.2.1, zi e.2.2.2.2.1, zi e.2.2.2.2.2.1, .own 1 (.int .u8) e.2.2.2.2.2.2])], 2⟩
  | .inr (.inr (.inr (.inr (.inr e)))) => ⟨oc (.d (.nilP)), [(1, ⟨5, 0⟩)], [(0, [zi e.1, zi e.2.1, zi e.2.2.1, zi e.2.2.2.1, zi e.2.2.2.2.1, zi e.2.2.2.2.2.1, .own 1 (.int .u8) e.2.2.2.2.2.2])], 2⟩
def f71_script_part_v2 (c : Int) (s_0 : Int) (s_1 : Int) (s_2 : Int) (s_3 : Int) (s_4 : Int) (s_5 : Int) (s_6 : List Int) : Option ((Int × Int × Int × Int × Int × Int × List Int) ⊕ (Int × Int × Int × Int × Int × Int × List Int) ⊕ (Int × Int × Int × Int × Int × Int × List Int) ⊕ (Int × Int × Int × Int × Int × Int × List Int) ⊕ (Int × Int × Int × Int × Int × Int × List Int) ⊕ (Int × Int × Int × Int × Int × Int × List Int)) :=
  if ((c : Int) == 104) = true then
    some (.inl (s_0, s_1, s_2, s_3, s_4, s_5, s_6))
  else
    if ((c : Int) == 110) = true then
      some (.inr (.inl (s_0, s_1, s_2, s_3, s_4, s_5, s_6)))
    else
      if ((c : Int) == 112) = true then
        some (.inr (.inr (.inl (s_0, s_1, s_2, s_3, s_4, s_5, s_6))))
      else
        if ((c : Int) == 119) = true then
          some (.inr (.inr (.inr (.inl (s_0, s_1, s_2, s_3, s_4, s_5, s_6)))))
        else
          if ((c : Int) == 107) = true then
            some (.inr (.inr (.inr (.inr (.inl (s_0, s_1, s_2, s_3, s_4, s_5, s_6))))))
          else
            some (.inr (.inr (.inr (.inr (.inr ((s_0, s_1, s_2, s_3, s_4, s_5, s_6)))))))
theorem f71_script_part_v2_ok (c : Int) (s_0 : Int) (s_1 : Int) (s_2 : Int) (s_3 : Int) (s_4 : Int) (s_5 : Int) (s_6 : List Int) (r : (Int × Int × Int × Int × Int × Int × List Int) ⊕ (Int × Int × Int × Int × Int × Int × List Int) ⊕ (Int × Int × Int × Int × Int × Int × List Int) ⊕ (Int × Int × Int × Int × Int × Int × List Int) ⊕ (Int × Int × Int × Int × Int × Int × List Int) ⊕ (Int × Int × Int × Int × Int × Int × List Int)) (h : f71_script_part_v2 c s_0 s_1 s_2 s_3 s_4 s_5 s_6 = some r) : FnOK Tryd.prog 71 (f71_script_part_v2_in c s_0 s_1 s_2 s_3 s_4 s_5 s_6) (f71_script_part_v2_out r) := by
  unfold f71_script_part_v2 at h
  refine At.fn (r := 0) Tryd.func71 rfl (by kernel_rfl) rfl (by rcases r with _ | _ | _ | _ | _ | _ <;> rfl) (by kernel_rfl) ?_
  show At Tryd.prog Tryd.f71 2 0 ⟨[(0, oc (.ptr 0 0)), (1, oc (.d (.int .u8 c)))], [(1, some ⟨5, 0⟩)], [(0, [zi s_0, zi s_1, zi s_2, zi s_3, zi s_4, zi s_5, .own 1 (.int .u8) s_6])], 2⟩ _
  refine At.step hm ht ⟨[], [], [], [0, 1], [0, 1]⟩ 1 ⟨[(0, oc (.ptr 0 0)), (1, oc (.d (.int .u8 c)))], [(1, some ⟨5, 0⟩)], [(0, [zi s_0, zi s_1, zi s_2, zi s_3, zi s_4, zi s_5, .own 1 (.int .u8) s_6])], 2⟩ [] (by kernel_rfl) trivial ?_
  refine At.step hm ht ⟨[], [], [], [0, 5], [0, 1]⟩ 2 ⟨[(0, oc (.ptr 0 0)), (5, oc (.d (.int .u8 c)))], [(1, some ⟨5, 0⟩)], [(0, [zi s_0, zi s_1, zi s_2, zi s_3, zi s_4, zi s_5, .own 1 (.int .u8) s_6])], 2⟩ [] (by kernel_rfl) trivial ?_
  rcases iteS h with ⟨b167_e0, h⟩ | ⟨b167_e0, h⟩
  · refine At.step hm ht ⟨[], [true], [], [0], [0, 1]⟩ 3 ⟨[(0, oc (.ptr 0 0))], [(1, some ⟨5, 0⟩)], [(0, [zi s_0, zi s_1, zi s_2, zi s_3, zi s_4, zi s_5, .own 1 (.int .u8) s_6])], 2⟩ [((c : Int) == 104) = true] (by kernel_rfl) ⟨b167_e0, trivial⟩ ?_
    have h := Option.some.inj h
    subst h
    exact At.fin hm ht ⟨[], [], [], [4], [0, 1]⟩ [] (by kernel_rfl) trivial
  · refine At.step hm ht ⟨[], [false], [], [0, 5], [0, 1]⟩ 4 ⟨[(0, oc (.ptr 0 0)), (5, oc (.d (.int .u8 c)))], [(1, some ⟨5, 0⟩)], [(0, [zi s_0, zi s_1, zi s_2, zi s_3, zi s_4, zi s_5, .own 1 (.int .u8) s_6])], 2⟩ [((c : Int) == 104) = false] (by kernel_rfl) ⟨b167_e0, trivial⟩ ?_
    rcases iteS h with ⟨b169_e0, h⟩ | ⟨b169_e0, h⟩
    · refine At.step hm ht ⟨[], [true], [], [0], [0, 1]⟩ 5 ⟨[(0, oc (.ptr 0 0))], [(1, some ⟨5, 0⟩)], [(0, [zi s_0, zi s_1, zi s_2, zi s_3, zi s_4, zi s_5, .own 1 (.int .u8) s_6])], 2⟩ [((c : Int) == 110) = true] (by kernel_rfl) ⟨b169_e0, trivial⟩ ?_
      have h := Option.some.inj h
      subst h
      exact At.fin hm ht ⟨[], [], [], [4], [0, 1]⟩ [] (by kernel_rfl) trivial
    · refine At.step hm ht ⟨[], [false], [], [0, 5], [0, 1]⟩ 6 ⟨[(0, oc (.ptr 0 0)), (5, oc (.d (.int .u8 c)))], [(1, some ⟨5, 0⟩)], [(0, [zi s_0, zi s_1, zi s_2, zi s_3, zi s_4, zi s_5, .own 1 (.int .u8) s_6])], 2⟩ [((c : Int) == 110) = false] (by kernel_rfl) ⟨b169_e0, trivial⟩ ?_
      rcases iteS h with ⟨b171_e0, h⟩ | ⟨b171_e0, h⟩
      · refine At.step hm ht ⟨[], [true], [], [0], [0, 1]⟩ 7 ⟨[(0, oc (.ptr 0 0))], [(1, some ⟨5, 0⟩)], [(0, [zi s_0, zi s_1, zi s_2, zi s_3, zi s_4, zi s_5, .own 1 (.int .u8) s_6])], 2⟩ [((c : Int) == 112) = true] (by kernel_rfl) ⟨b171_e0, trivial⟩ ?_
        have h := Option.some.inj h
        subst h
        exact At.fin hm ht ⟨[], [], [], [4], [0, 1]⟩ [] (by kernel_rfl) trivial
      · refine At.step hm ht ⟨[], [false], [], [0, 5], [0, 1]⟩ 8 ⟨[(0, oc (.ptr 0 0)), (5, oc (.d (.int .u8 c)))], [(1, some ⟨5, 0⟩)], [(0, [zi s_0, zi s_1, zi s_2, zi s_3, zi s_4, zi s_5, .own 1 (.int .u8) s_6])], 2⟩ [((c : Int) == 112) = false] (by kernel_rfl) ⟨b171_e0, trivial⟩ ?_
        rcases iteS h with ⟨b173_e0, h⟩ | ⟨b173_e0, h⟩
        · refine At.step hm ht ⟨[], [true], [], [0], [0, 1]⟩ 9 ⟨[(0, oc (.ptr 0 0))], [(1, some ⟨5, 0⟩)], [(0, [zi s_0, zi s_1, zi s_2, zi s_3, zi s_4, zi s_5, .own 1 (.int .u8) s_6])], 2⟩ [((c : Int) == 119) = true] (by kernel_rfl) ⟨b173_e0, trivial⟩ ?_
          have h := Option.some.inj h
          subst h
          exact At.fin hm ht ⟨[], [], [], [4], [0, 1]⟩ [] (by kernel_rfl) trivial
        · refine At.step hm ht ⟨[], [false], [], [0, 5], [0, 1]⟩ 10 ⟨[(0, oc (.ptr 0 0)), (5, oc (.d (.int .u8 c)))], [(1, some ⟨5, 0⟩)], [(0, [zi s_0, zi s_1, zi s_2, zi s_3, zi s_4, zi s_5, .own 1 (.int .u8) s_6])], 2⟩ [((c : Int) == 119) = false] (by kernel_rfl) ⟨b173_e0, trivial⟩ ?_
          rcases iteS h with ⟨b175_e0, h⟩ | ⟨b175_e0, h⟩
          · refine At.step hm ht ⟨[], [true], [], [0], [0, 1]⟩ 11 ⟨[(0, oc (.ptr 0 0))], [(1, some ⟨5, 0⟩)], [(0, [zi s_0, zi s_1, zi s_2, zi s_3, zi s_4, zi s_5, .own 1 (.int .u8) s_6])], 2⟩ [((c : Int) == 107) = true] (by kernel_rfl) ⟨b175_e0, trivial⟩ ?_
            have h := Option.some.inj h
            subst h
            exact At.fin hm ht ⟨[], [], [], [4], [0, 1]⟩ [] (by kernel_rfl) trivial
          · refine At.step hm ht ⟨[], [false], [], [], [0, 1]⟩ 12 ⟨[], [(1, some ⟨5, 0⟩)], [(0, [zi s_0, zi s_1, zi s_2, zi s_3, zi s_4, zi s_5, .own 1 (.int .u8) s_6])], 2⟩ [((c : Int) == 107) = false] (by kernel_rfl) ⟨b175_e0, trivial⟩ ?_
            have h := Option.some.inj h
            subst h
            exact At.fin hm ht ⟨[], [], [], [4], [0, 1]⟩ [] (by kernel_rfl) trivial
/-! brougham/script.step -/
def f46_script_step_in (w_ : List ByteArray) : Inn := ⟨[.c (.d (.sl .str w_))], [], [], 0⟩
def f46_script_step_out (r : Bool × Int × Int × Int × Int × Int × Int × List Int) : Out := ⟨.tup [.agg [zi r.2.1, zi r.2.2.1, zi r.2.2.2.1, zi r.2.2.2.2.1, zi r.2.2.2.2.2.1, zi r.2.2.2.2.2.2.1, .own 1 (.int .u8) r.2.2.2.2.2.2.2], .c (.d (.bool r.1))], [(1, ⟨5, 0⟩)], [(0, [zi r.2.1, zi r.2.2.1, zi r.2.2.2.1, zi r.2.2.2.2.1, zi r.2.2.2.2.2.1, zi r.2.2.2.2.2.2.1, .own 1 (.int .u8) r.2.2.2.2.2.2.2])], 2⟩
def f46_script_step_L7 : Nat → (List ByteArray) → Int → Int → Int → Int → Int → Int → Int → Int → ByteArray → ByteArray → Int → Int → Int → Int → Int → Int → (List Int) → Option ((Bool × Int × Int × Int × Int × Int × Int × List Int) ⊕ (Int × Int × Int × Int × Int × Int × Int × Int × Int × Int × Int × Int × List Int))
  | 0, _, _, _, _, _, _, _, _, _, _, _, _, _, _, _, _, _, _ => none
  | n + 1, w_, t38, t39, t2_0, t2_1, t2_2, t2_3, t2_4, t2_5, x_0, x_1, s_0, s_1, s_2, s_3, s_4, s_5, s_6 =>
    if (decide ((t39 : Int) < t38)) = true then
      if (0 : Int) ≤ t39 ∧ t39 < (((x_1).size : Nat) : Int) then
      (f71_script_part_v2 (byteAt x_1 t39) s_0 s_1 s_2 s_3 s_4 s_5 s_6).bind fun r225_1 =>
      match r225_1 with
      | .inl er225_1_0 =>
        if (0 : Int) ≤ (IntKind.wrap .i64 (t39 + 1)) ∧ (IntKind.wrap .i64 (t39 + 1)) < (((w_).length : Nat) : Int) then
        (f51_num_Parse (w_.getD (IntKind.wrap .i64 (t39 + 1)).toNat ByteArray.empty)).bind fun r227_1 =>
        if ((r227_1.2 : Int) != 0) = true then
          some (.inl (false, 0, 0, 0, 0, 0, 0, []))
        else
          f46_script_step_L7 n w_ t38 (IntKind.wrap .i64 (t39 + 1)) t2_0 t2_1 t2_2 t2_3 t2_4 t2_5 x_0 x_1 er225_1_0.1 r227_1.1 er225_1_0.2.2.1 er225_1_0.2.2.2.1 er225_1_0.2.2.2.2.1 er225_1_0.2.2.2.2.2.1 er225_1_0.2.2.2.2.2.2
        else none
      | .inr (.inl er225_1_1) =>
        if (0 : Int) ≤ (IntKind.wrap .i64 (t39 + 1)) ∧ (IntKind.wrap .i64 (t39 + 1)) < (((w_).length : Nat) : Int) then
        (f51_num_Parse (w_.getD (IntKind.wrap .i64 (t39 + 1)).toNat ByteArray.empty)).bind fun r232_1 =>
        if ((r232_1.2 : Int) != 0) = true then
          some (.inl (false, 0, 0, 0, 0, 0, 0, []))
        else
          f46_script_step_L7 n w_ t38 (IntKind.wrap .i64 (t39 + 1)) t2_0 t2_1 t2_2 t2_3 t2_4 t2_5 x_0 x_1 er225_1_1.1 er225_1_1.2.1 r232_1.1 er225_1_1.2.2.2.1 er225_1_1.2.2.2.2.1 er225_1_1.2.2.2.2.2.1 er225_1_1.2.2.2.2.2.2
        else none
      | .inr (.inr (.inl er225_1_2)) =>
        if (0 : Int) ≤ (IntKind.wrap .i64 (t39 + 1)) ∧ (IntKind.wrap .i64 (t39 + 1)) < (((w_).length : Nat) : Int) then
        (f51_num_Parse (w_.getD (IntKind.wrap .i64 (t39 + 1)).toNat ByteArray.empty)).bind fun r237_1 =>
        if ((r237_1.2 : Int) != 0) = true then
          some (.inl (false, 0, 0, 0, 0, 0, 0, []))
        else
          f46_script_step_L7 n w_ t38 (IntKind.wrap .i64 (t39 + 1)) t2_0 t2_1 t2_2 t2_3 t2_4 t2_5 x_0 x_1 er225_1_2.1 er225_1_2.2.1 er225_1_2.2.2.1 r237_1.1 er225_1_2.2.2.2.2.1 er225_1_2.2.2.2.2.2.1 er225_1_2.2.2.2.2.2.2
        else none
      | .inr (.inr (.inr (.inl er225_1_3))) =>
        if (0 : Int) ≤ (IntKind.wrap .i64 (t39 + 1)) ∧ (IntKind.wrap .i64 (t39 + 1)) < (((w_).length : Nat) : Int) then
        (f51_num_Parse (w_.getD (IntKind.wrap .i64 (t39 + 1)).toNat ByteArray.empty)).bind fun r242_1 =>
        if ((r242_1.2 : Int) != 0) = true then
          some (.inl (false, 0, 0, 0, 0, 0, 0, []))
        else
          f46_script_step_L7 n w_ t38 (IntKind.wrap .i64 (t39 + 1)) t2_0 t2_1 t2_2 t2_3 t2_4 t2_5 x_0 x_1 er225_1_3.1 er225_1_3.2.1 er225_1_3.2.2.1 er225_1_3.2.2.2.1 r242_1.1 er225_1_3.2.2.2.2.2.1 er225_1_3.2.2.2.2.2.2
        else none
      | .inr (.inr (.inr (.inr (.inl er225_1_4)))) =>
        if (0 : Int) ≤ (IntKind.wrap .i64 (t39 + 1)) ∧ (IntKind.wrap .i64 (t39 + 1)) < (((w_).length : Nat) : Int) then
        (f51_num_Parse (w_.getD (IntKind.wrap .i64 (t39 + 1)).toNat ByteArray.empty)).bind fun r247_1 =>
        if ((r247_1.2 : Int) != 0) = true then
          some (.inl (false, 0, 0, 0, 0, 0, 0, []))
        else
          f46_script_step_L7 n w_ t38 (IntKind.wrap .i64 (t39 + 1)) t2_0 t2_1 t2_2 t2_3 t2_4 t2_5 x_0 x_1 er225_1_4.1 er225_1_4.2.1 er225_1_4.2.2.1 er225_1_4.2.2.2.1 er225_1_4.2.2.2.2.1 r247_1.1 er225_1_4.2.2.2.2.2.2
        else none
      | .inr (.inr (.inr (.inr (.inr er225_1_5)))) =>
        if (0 : Int) ≤ (IntKind.wrap .i64 (t39 + 1)) ∧ (IntKind.wrap .i64 (t39 + 1)) < (((w_).length : Nat) : Int) then
        (f77_num_Unhex n (w_.getD (IntKind.wrap .i64 (t39 + 1)).toNat ByteArray.empty)).bind fun r252_1 =>
        if ((r252_1.2 : Int) != 0) = true then
          some (.inl (false, 0, 0, 0, 0, 0, 0, []))
        else
          f46_script_step_L7 n w_ t38 (IntKind.wrap .i64 (t39 + 1)) t2_0 t2_1 t2_2 t2_3 t2_4 t2_5 x_0 x_1 er225_1_5.1 er225_1_5.2.1 er225_1_5.2.2.1 er225_1_5.2.2.2.1 er225_1_5.2.2.2.2.1 er225_1_5.2.2.2.2.2.1 r252_1.1
        else none
      else none
    else
      some (.inr ((t2_0, t2_1, t2_2, t2_3, t2_4, t2_5, s_0, s_1, s_2, s_3, s_4, s_5, s_6)))
def f46_script_step_L7_k (w : (Bool × Int × Int × Int × Int × Int × Int × List Int) ⊕ (Int × Int × Int × Int × Int × Int × Int × Int × Int × Int × Int × Int × List Int)) (o : Out) : Prop := match w with
  | .inl e => o = f46_script_step_out e
  | .inr e => At Tryd.prog Tryd.f46 0 17 ⟨[(2, oc (.ptr 0 0)), (6, oc (.ptr 1 0))], [(2, some ⟨5, 0⟩)], [(0, [zi e.1, zi e.2.1, zi e.2.2.1, zi e.2.2.2.1, zi e.2.2.2.2.1, zi e.2.2.2.2.2.1, .d (.sl .unit [])]), (1, [zi e.2.2.2.2.2.2.1, zi e.2.2.2.2.2.2.2.1, zi e.2.2.2.2.2.2.2.2.1, zi e.2.2.2.2.2.2.2.2.2.1, zi e.2.2.2.2.2.2.2.2.2.2.1, zi e.2.2.2.2.2.2.2.2.2.2.2.1, .own 2 (.int .u8) e.2.2.2.2.2.2.2.2.2.2.2.2])], 3⟩ o
theorem f46_script_step_L7_ok (n : Nat) : ∀ (w_ : List ByteArray) (t38 : Int) (t39 : Int) (t2_0 : Int) (t2_1 : Int) (t2_2 : Int) (t2_3 : Int) (t2_4 : Int) (t2_5 : Int) (x_0 : ByteArray) (x_1 : ByteArray) (s_0 : Int) (s_1 : Int) (s_2 : Int) (s_3 : Int) (s_4 : Int) (s_5 : Int) (s_6 : List Int) (w : (Bool × Int × Int × Int × Int × Int × Int × List Int) ⊕ (Int × Int × Int × Int × Int × Int × Int × Int × Int × Int × Int × Int × List Int)) (h : f46_script_step_L7 n w_ t38 t39 t2_0 t2_1 t2_2 t2_3 t2_4 t2_5 x_0 x_1 s_0 s_1 s_2 s_3 s_4 s_5 s_6 = some w) (o : Out) (hk : f46_script_step_L7_k w o), At Tryd.prog Tryd.f46 0 7 ⟨[(0, oc (.d (.sl .str w_))), (2, oc (.ptr 0 0)), (5, oc (.ptr 1 0)), (6, oc (.ptr 2 0)), (38, oc (zi t38)), (39, oc (zi t39))], [(3, some ⟨5, 0⟩)], [(0, [zi t2_0, zi t2_1, zi t2_2, zi t2_3, zi t2_4, zi t2_5, .d (.sl .unit [])]), (1, [.d (.str x_0), .d (.str x_1)]), (2, [zi s_0, zi s_1, zi s_2, zi s_3, zi s_4, zi s_5, .own 3 (.int .u8) s_6])], 4⟩ o := by
  induction n with
  | zero => intro w_ t38 t39 t2_0 t2_1 t2_2 t2_3 t2_4 t2_5 x_0 x_1 s_0 s_1 s_2 s_3 s_4 s_5 s_6 w h; rw [f46_script_step_L7] at h; cases h
  | succ n ih =>
    intro w_ t38 t39 t2_0 t2_1 t2_2 t2_3 t2_4 t2_5 x_0 x_1 s_0 s_1 s_2 s_3 s_4 s_5 s_6 w h o hk
    rw [f46_script_step_L7] at h
    rcases iteS h with ⟨b222_e0, h⟩ | ⟨b222_e0, h⟩
    · refine At.step hm ht ⟨[], [true], [], [0, 2, 5, 6, 38, 39], [0, 1, 2, 3]⟩ 8 ⟨[(0, oc (.d (.sl .str w_))), (2, oc (.ptr 0 0)), (5, oc (.ptr 1 0)), (6, oc (.ptr 2 0)), (38, oc (zi t38)), (39, oc (zi t39))], [(3, some ⟨5, 0⟩)], [(0, [zi t2_0, zi t2_1, zi t2_2, zi t2_3, zi t2_4, zi t2_5, .d (.sl .unit [])]), (1, [.d (.str x_0), .d (.str x_1)]), (2, [zi s_0, zi s_1, zi s_2, zi s_3, zi s_4, zi s_5, .own 3 (.int .u8) s_6])], 4⟩ [(decide ((t39 : Int) < t38)) = true] (by kernel_rfl) ⟨b222_e0, trivial⟩ ?_
      refine At.step hm ht ⟨[], [], [], [0, 2, 5, 6, 7, 38, 39], [0, 1, 2, 3]⟩ 9 ⟨[(0, oc (.d (.sl .str w_))), (2, oc (.ptr 0 0)), (5, oc (.ptr 1 0)), (6, oc (.ptr 2 0)), (7, oc (zi t39)), (38, oc (zi t38)), (39, oc (zi t39))], [(3, some ⟨5, 0⟩)], [(0, [zi t2_0, zi t2_1, zi t2_2, zi t2_3, zi t2_4, zi t2_5, .d (.sl .unit [])]), (1, [.d (.str x_0), .d (.str x_1)]), (2, [zi s_0, zi s_1, zi s_2, zi s_3, zi s_4, zi s_5, .own 3 (.int .u8) s_6])], 4⟩ [] (by kernel_rfl) trivial ?_
      refine At.step hm ht ⟨[], [], [], [0, 2, 5, 6, 7, 38, 39], [0, 1, 2, 3]⟩ 10 ⟨[(0, oc (.d (.sl .str w_))), (2, oc (.ptr 0 0)), (5, oc (.ptr 1 0)), (6, oc (.ptr 2 0)), (7, oc (zi t39)), (38, oc (zi t38)), (39, oc (zi t39))], [(3, some ⟨5, 0⟩)], [(0, [zi t2_0, zi t2_1, zi t2_2, zi t2_3, zi t2_4, zi t2_5, .d (.sl .unit [])]), (1, [.d (.str x_0), .d (.str x_1)]), (2, [zi s_0, zi s_1, zi s_2, zi s_3, zi s_4, zi s_5, .own 3 (.int .u8) s_6])], 4⟩ [] (by kernel_rfl) trivial ?_
      obtain ⟨g225_0, h⟩ := ifS h
      obtain ⟨r225_1, cr225_1, h⟩ := bindS h
      rcases r225_1 with er225_1_0 | er225_1_1 | er225_1_2 | er225_1_3 | er225_1_4 | er225_1_5
      · refine At.step hm ht ⟨[(4, .call [2, 3] [] (f71_script_part_v2_out (.inl er225_1_0)))], [], [], [0, 2, 5, 6, 7, 9, 38, 39], [0, 1, 2, 3]⟩ 11 ⟨[(0, oc (.d (.sl .str w_))), (2, oc (.ptr 0 0)), (5, oc (.ptr 1 0)), (6, oc (.ptr 2 0)), (7, oc (zi t39)), (9, oc (.ptr 2 1)), (38, oc (zi t38)), (39, oc (zi t39))], [(3, some ⟨5, 0⟩)], [(0, [zi t2_0, zi t2_1, zi t2_2, zi t2_3, zi t2_4, zi t2_5, .d (.sl .unit [])]), (1, [.d (.str x_0), .d (.str x_1)]), (2, [zi er225_1_0.1, zi er225_1_0.2.1, zi er225_1_0.2.2.1, zi er225_1_0.2.2.2.1, zi er225_1_0.2.2.2.2.1, zi er225_1_0.2.2.2.2.2.1, .own 3 (.int .u8) er225_1_0.2.2.2.2.2.2])], 4⟩ [(0 : Int) ≤ t39 ∧ t39 < (((x_1).size : Nat) : Int), FnOK Tryd.prog 71 (f71_script_part_v2_in (byteAt x_1 t39) s_0 s_1 s_2 s_3 s_4 s_5 s_6) (f71_script_part_v2_out (.inl er225_1_0))] (by kernel_rfl) ⟨g225_0, (f71_script_part_v2_ok (byteAt x_1 t39) s_0 s_1 s_2 s_3 s_4 s_5 s_6 (.inl er225_1_0) cr225_1), trivial⟩ ?_
        refine At.step hm ht ⟨[], [true], [], [0, 2, 5, 6, 7, 9, 38, 39], [0, 1, 2, 3]⟩ 12 ⟨[(0, oc (.d (.sl .str w_))), (2, oc (.ptr 0 0)), (5, oc (.ptr 1 0)), (6, oc (.ptr 2 0)), (7, oc (zi t39)), (9, oc (.ptr 2 1)), (38, oc (zi t38)), (39, oc (zi t39))], [(3, some ⟨5, 0⟩)], [(0, [zi t2_0, zi t2_1, zi t2_2, zi t2_3, zi t2_4, zi t2_5, .d (.sl .unit [])]), (1, [.d (.str x_0), .d (.str x_1)]), (2, [zi er225_1_0.1, zi er225_1_0.2.1, zi er225_1_0.2.2.1, zi er225_1_0.2.2.2.1, zi er225_1_0.2.2.2.2.1, zi er225_1_0.2.2.2.2.2.1, .own 3 (.int .u8) er225_1_0.2.2.2.2.2.2])], 4⟩ [true = true] (by kernel_rfl) ⟨rfl, trivial⟩ ?_
        obtain ⟨g227_0, h⟩ := ifS h
        obtain ⟨r227_1, cr227_1, h⟩ := bindS h
        refine At.step hm ht ⟨[(6, .call [] [] (f51_num_Parse_out r227_1))], [], [], [0, 2, 5, 6, 8, 38, 39], [0, 1, 2, 3]⟩ 14 ⟨[(0, oc (.d (.sl .str w_))), (2, oc (.ptr 0 0)), (5, oc (.ptr 1 0)), (6, oc (.ptr 2 0)), (8, oc (zi r227_1.2)), (38, oc (zi t38)), (39, oc (zi t39))], [(3, some ⟨5, 0⟩)], [(0, [zi t2_0, zi t2_1, zi t2_2, zi t2_3, zi t2_4, zi t2_5, .d (.sl .unit [])]), (1, [.d (.str x_0), .d (.str x_1)]), (2, [zi er225_1_0.1, zi r227_1.1, zi er225_1_0.2.2.1, zi er225_1_0.2.2.2.1, zi er225_1_0.2.2.2.2.1, zi er225_1_0.2.2.2.2.2.1, .own 3 (.int .u8) er225_1_0.2.2.2.2.2.2])], 4⟩ [(0 : Int) ≤ (IntKind.wrap .i64 (t39 + 1)) ∧ (IntKind.wrap .i64 (t39 + 1)) < (((w_).length : Nat) : Int), FnOK Tryd.prog 51 (f51_num_Parse_in (w_.getD (IntKind.wrap .i64 (t39 + 1)).toNat ByteArray.empty)) (f51_num_Parse_out r227_1), 1 + 1 ≤ 7] (by kernel_rfl) ⟨g227_0, (f51_num_Parse_ok (w_.getD (IntKind.wrap .i64 (t39 + 1)).toNat ByteArray.empty) r227_1 cr227_1), (by decide), trivial⟩ ?_
        rcases iteS h with ⟨b228_e0, h⟩ | ⟨b228_e0, h⟩
        · refine At.step hm ht ⟨[], [true], [], [2], [0]⟩ 15 ⟨[(2, oc (.ptr 0 0))], [], [(0, [zi t2_0, zi t2_1, zi t2_2, zi t2_3, zi t2_4, zi t2_5, .d (.sl .unit [])])], 1⟩ [((r227_1.2 : Int) != 0) = true] (by kernel_rfl) ⟨b228_e0, trivial⟩ ?_
          have h := Option.some.inj h
          subst h
          have hk : o = f46_script_step_out (false, 0, 0, 0, 0, 0, 0, []) := hk
          subst hk
          exact At.fin hm ht ⟨[], [], [.nil true 0 6 (.int .u8) (some 5)], [2, 3], [0, 4]⟩ [0 + 7 ≤ 7] (by kernel_rfl) ⟨(by decide), trivial⟩
        · refine At.step hm ht ⟨[], [false], [], [0, 2, 5, 6, 38, 39], [0, 1, 2, 3]⟩ 16 ⟨[(0, oc (.d (.sl .str w_))), (2, oc (.ptr 0 0)), (5, oc (.ptr 1 0)), (6, oc (.ptr 2 0)), (38, oc (zi t38)), (39, oc (zi t39))], [(3, some ⟨5, 0⟩)], [(0, [zi t2_0, zi t2_1, zi t2_2, zi t2_3, zi t2_4, zi t2_5, .d (.sl .unit [])]), (1, [.d (.str x_0), .d (.str x_1)]), (2, [zi er225_1_0.1, zi r227_1.1, zi er225_1_0.2.2.1, zi er225_1_0.2.2.2.1, zi er225_1_0.2.2.2.2.1, zi er225_1_0.2.2.2.2.2.1, .own 3 (.int .u8) er225_1_0.2.2.2.2.2.2])], 4⟩ [((r227_1.2 : Int) != 0) = false] (by kernel_rfl) ⟨b228_e0, trivial⟩ ?_
          refine At.step hm ht ⟨[], [], [], [0, 2, 5, 6, 38, 39], [0, 1, 2, 3]⟩ 7 ⟨[(0, oc (.d (.sl .str w_))), (2, oc (.ptr 0 0)), (5, oc (.ptr 1 0)), (6, oc (.ptr 2 0)), (38, oc (zi t38)), (39, oc (zi (IntKind.wrap .i64 (t39 + 1))))], [(3, some ⟨5, 0⟩)], [(0, [zi t2_0, zi t2_1, zi t2_2, zi t2_3, zi t2_4, zi t2_5, .d (.sl .unit [])]), (1, [.d (.str x_0), .d (.str x_1)]), (2, [zi er225_1_0.1, zi r227_1.1, zi er225_1_0.2.2.1, zi er225_1_0.2.2.2.1, zi er225_1_0.2.2.2.2.1, zi er225_1_0.2.2.2.2.2.1, .own 3 (.int .u8) er225_1_0.2.2.2.2.2.2])], 4⟩ [] (by kernel_rfl) trivial ?_
          exact ih w_ t38 (IntKind.wrap .i64 (t39 + 1)) t2_0 t2_1 t2_2 t2_3 t2_4 t2_5 x_0 x_1 er225_1_0.1 r227_1.1 er225_1_0.2.2.1 er225_1_0.2.2.2.1 er225_1_0.2.2.2.2.1 er225_1_0.2.2.2.2.2.1 er225_1_0.2.2.2.2.2.2 w h o hk
      · refine At.step hm ht ⟨[(4, .call [2, 3] [] (f71_script_part_v2_out (.inr (.inl er225_1_1))))], [], [], [0, 2, 5, 6, 7, 9, 38, 39], [0, 1, 2, 3]⟩ 11 ⟨[(0, oc (.d (.sl .str w_))), (2, oc (.ptr 0 0)), (5, oc (.ptr 1 0)), (6, oc (.ptr 2 0)), (7, oc (zi t39)), (9, oc (.ptr 2 2)), (38, oc (zi t38)), (39, oc (zi t39))], [(3, some ⟨5, 0⟩)], [(0, [zi t2_0, zi t2_1, zi t2_2, zi t2_3, zi t2_4, zi t2_5, .d (.sl .unit [])]), (1, [.d (.str x_0), .d (.str x_1)]), (2, [zi er225_1_1.1, zi er225_1_1.2.1, zi er225_1_1.2.2.1, zi er225_1_1.2.2.2.1, zi er225_1_1.2.2.2.2.1, zi er225_1_1.2.2.2.2.2.1, .own 3 (.int .u8) er225_1_1.2.2.2.2.2.2])], 4⟩ [(0 : Int) ≤ t39 ∧ t39 < (((x_1).size : Nat) : Int), FnOK Tryd.prog 71 (f71_script_part_v2_in (byteAt x_1 t39) s_0 s_1 s_2 s_3 s_4 s_5 s_6) (f71_script_part_v2_out (.inr (.inl er225_1_1)))] (by kernel_rfl) ⟨g225_0, (f71_script_part_v2_ok (byteAt x_1 t39) s_0 s_1 s_2 s_3 s_4 s_5 s_6 (.inr (.inl er225_1_1)) cr225_1), trivial⟩ ?_
        refine At.step hm ht ⟨[], [true], [], [0, 2, 5, 6, 7, 9, 38, 39], [0, 1, 2, 3]⟩ 12 ⟨[(0, oc (.d (.sl .str w_))), (2, oc (.ptr 0 0)), (5, oc (.ptr 1 0)), (6, oc (.ptr 2 0)), (7, oc (zi t39)), (9, oc (.ptr 2 2)), (38, oc (zi t38)), (39, oc (zi t39))], [(3, some ⟨5, 0⟩)], [(0, [zi t2_0, zi t2_1, zi t2_2, zi t2_3, zi t2_4, zi t2_5, .d (.sl .unit [])]), (1, [.d (.str x_0), .d (.str x_1)]), (2, [zi er225_1_1.1, zi er225_1_1.2.1, zi er225_1_1.2.2.1, zi er225_1_1.2.2.2.1, zi er225_1_1.2.2.2.2.1, zi er225_1_1.2.2.2.2.2.1, .own 3 (.int .u8) er225_1_1.2.2.2.2.2.2])], 4⟩ [true = true] (by kernel_rfl) ⟨rfl, trivial⟩ ?_
        obtain ⟨g232_0, h⟩ := ifS h
        obtain ⟨r232_1, cr232_1, h⟩ := bindS h
        refine At.step hm ht ⟨[(6, .call [] [] (f51_num_Parse_out r232_1))], [], [], [0, 2, 5, 6, 8, 38, 39], [0, 1, 2, 3]⟩ 14 ⟨[(0, oc (.d (.sl .str w_))), (2, oc (.ptr 0 0)), (5, oc (.ptr 1 0)), (6, oc (.ptr 2 0)), (8, oc (zi r232_1.2)), (38, oc (zi t38)), (39, oc (zi t39))], [(3, some ⟨5, 0⟩)], [(0, [zi t2_0, zi t2_1, zi t2_2, zi t2_3, zi t2_4, zi t2_5, .d (.sl .unit [])]), (1, [.d (.str x_0), .d (.str x_1)]), (2, [zi er225_1_1.1, zi er225_1_1.2.1, zi r232_1.1, zi er225_1_1.2.2.2.1, zi er225_1_1.2.2.2.2.1, zi er225_1_1.2.2.2.2.2.1, .own 3 (.int .u8) er225_1_1.2.2.2.2.2.2])], 4⟩ [(0 : Int) ≤ (IntKind.wrap .i64 (t39 + 1)) ∧ (IntKind.wrap .i64 (t39 + 1)) < (((w_).length : Nat) : Int), FnOK Tryd.prog 51 (f51_num_Parse_in (w_.getD (IntKind.wrap .i64 (t39 + 1)).toNat ByteArray.empty)) (f51_num_Parse_out r232_1), 2 + 1 ≤ 7] (by kernel_rfl) ⟨g232_0, (f51_num_Parse_ok (w_.getD (IntKind.wrap .i64 (t39 + 1)).toNat ByteArray.empty) r232_1 cr232_1), (by decide), trivial⟩ ?_
        rcases iteS h with ⟨b233_e0, h⟩ | ⟨b233_e0, h⟩
        · refine At.step hm ht ⟨[], [true], [], [2], [0]⟩ 15 ⟨[(2, oc (.ptr 0 0))], [], [(0, [zi t2_0, zi t2_1, zi t2_2, zi t2_3, zi t2_4, zi t2_5, .d (.sl .unit [])])], 1⟩ [((r232_1.2 : Int) != 0) = true] (by kernel_rfl) ⟨b233_e0, trivial⟩ ?_
          have h := Option.some.inj h
          subst h
          have hk : o = f46_script_step_out (false, 0, 0, 0, 0, 0, 0, []) := hk
          subst hk
          exact At.fin hm ht ⟨[], [], [.nil true 0 6 (.int .u8) (some 5)], [2, 3], [0, 4]⟩ [0 + 7 ≤ 7] (by kernel_rfl) ⟨(by decide), trivial⟩
        · refine At.step hm ht ⟨[], [false], [], [0, 2, 5, 6, 38, 39], [0, 1, 2, 3]⟩ 16 ⟨[(0, oc (.d (.sl .str w_))), (2, oc (.ptr 0 0)), (5, oc (.ptr 1 0)), (6, oc (.ptr 2 0)), (38, oc (zi t38)), (39, oc (zi t39))], [(3, some ⟨5, 0⟩)], [(0, [zi t2_0, zi t2_1, zi t2_2, zi t2_3, zi t2_4, zi t2_5, .d (.sl .unit [])]), (1, [.d (.str x_0), .d (.str x_1)]), (2, [zi er225_1_1.1, zi er225_1_1.2.1, zi r232_1.1, zi er225_1_1.2.2.2.1, zi er225_1_1.2.2.2.2.1, zi er225_1_1.2.2.2.2.2.1, .own 3 (.int .u8) er225_1_1.2.2.2.2.2.2])], 4⟩ [((r232_1.2 : Int) != 0) = false] (by kernel_rfl) ⟨b233_e0, trivial⟩ ?_
          refine At.step hm ht ⟨[], [], [], [0, 2, 5, 6, 38, 39], [0, 1, 2, 3]⟩ 7 ⟨[(0, oc (.d (.sl .str w_))), (2, oc (.ptr 0 0)), (5, oc (.ptr 1 0)), (6, oc (.ptr 2 0)), (38, oc (zi t38)), (39, oc (zi (IntKind.wrap .i64 (t39 + 1))))], [(3, some ⟨5, 0⟩)], [(0, [zi t2_0, zi t2_1, zi t2_2, zi t2_3, zi t2_4, zi t2_5, .d (.sl .unit [])]), (1, [.d (.str x_0), .d (.str x_1)]), (2, [zi er225_1_1.1, zi er225_1_1.2.1, zi r232_1.1, zi er225_1_1.2.2.2.1, zi er225_1_1.2.2.2.2.1, zi er225_1_1.2.2.2.2.2.1, .own 3 (.int .u8) er225_1_1.2.2.2.2.2.2])], 4⟩ [] (by kernel_rfl) trivial ?_
          exact ih w_ t38 (IntKind.wrap .i64 (t39 + 1)) t2_0 t2_1 t2_2 t2_3 t2_4 t2_5 x_0 x_1 er225_1_1.1 er225_1_1.2.1 r232_1.1 er225_1_1.2.2.2.1 er225_1_1.2.2.2.2.1 er225_1_1.2.2.2.2.2.1 er225_1_1.2.2.2.2.2.2 w h o hk
      · refine At.step hm ht ⟨[(4, .call [2, 3] [] (f71_script_part_v2_out (.inr (.inr (.inl er225_1_2)))))], [], [], [0, 2, 5, 6, 7, 9, 38, 39], [0, 1, 2, 3]⟩ 11 ⟨[(0, oc (.d (.sl .str w_))), (2, oc (.ptr 0 0)), (5, oc (.ptr 1 0)), (6, oc (.ptr 2 0)), (7, oc (zi t39)), (9, oc (.ptr 2 3)), (38, oc (zi t38)), (39, oc (zi t39))], [(3, some ⟨5, 0⟩)], [(0, [zi t2_0, zi t2_1, zi t2_2, zi t2_3, zi t2_4, zi t2_5, .d (.sl .unit [])]), (1, [.d (.str x_0), .d (.str x_1)]), (2, [zi er225_1_2.1, zi er225_1_2.2.1, zi er225_1_2.2.2.1, zi er225_1_2.2.2.2.1, zi er225_1_2.2.2.2.2.1, zi er225_1_2.2.2.2.2.2.1, .own 3 (.int .u8) er225_1_2.2.2.2.2.2.2])], 4⟩ [(0 : Int) ≤ t39 ∧ t39 < (((x_1).size : Nat) : Int), FnOK Tryd.prog 71 (f71_script_part_v2_in (byteAt x_1 t39) s_0 s_1 s_2 s_3 s_4 s_5 s_6) (f71_script_part_v2_out (.inr (.inr (.inl er225_1_2))))] (by kernel_rfl) ⟨g225_0, (f71_script_part_v2_ok (byteAt x_1 t39) s_0 s_1 s_2 s_3 s_4 s_5 s_6 (.inr (.inr (.inl er225_1_2))) cr225_1), trivial⟩ ?_
        refine At.step hm ht ⟨[], [true], [], [0, 2, 5, 6, 7, 9, 38, 39], [0, 1, 2, 3]⟩ 12 ⟨[(0, oc (.d (.sl .str w_))), (2, oc (.ptr 0 0)), (5, oc (.ptr 1 0)), (6, oc (.ptr 2 0)), (7, oc (zi t39)), (9, oc (.ptr 2 3)), (38, oc (zi t38)), (39, oc (zi t39))], [(3, some ⟨5, 0⟩)], [(0, [zi t2_0, zi t2_1, zi t2_2, zi t2_3, zi t2_4, zi t2_5, .d (.sl .unit [])]), (1, [.d (.str x_0), .d (.str x_1)]), (2, [zi er225_1_2.1, zi er225_1_2.2.1, zi er225_1_2.2.2.1, zi er225_1_2.2.2.2.1, zi er225_1_2.2.2.2.2.1, zi er225_1_2.2.2.2.2.2.1, .own 3 (.int .u8) er225_1_2.2.2.2.2.2.2])], 4⟩ [true = true] (by kernel_rfl) ⟨rfl, trivial⟩ ?_
        obtain ⟨g237_0, h⟩ := ifS h
        obtain ⟨r237_1, cr237_1, h⟩ := bindS h
        refine At.step hm ht ⟨[(6, .call [] [] (f51_num_Parse_out r237_1))], [], [], [0, 2, 5, 6, 8, 38, 39], [0, 1, 2, 3]⟩ 14 ⟨[(0, oc (.d (.sl .str w_))), (2, oc (.ptr 0 0)), (5, oc (.ptr 1 0)), (6, oc (.ptr 2 0)), (8, oc (zi r237_1.2)), (38, oc (zi t38)), (39, oc (zi t39))], [(3, some ⟨5, 0⟩)], [(0, [zi t2_0, zi t2_1, zi t2_2, zi t2_3, zi t2_4, zi t2_5, .d (.sl .unit [])]), (1, [.d (.str x_0), .d (.str x_1)]), (2, [zi er225_1_2.1, zi er225_1_2.2.1, zi er225_1_2.2.2.1, zi r237_1.1, zi er225_1_2.2.2.2.2.1, zi er225_1_2.2.2.2.2.2.1, .own 3 (.int .u8) er225_1_2.2.2.2.2.2.2])], 4⟩ [(0 : Int) ≤ (IntKind.wrap .i64 (t39 + 1)) ∧ (IntKind.wrap .i64 (t39 + 1)) < (((w_).length : Nat) : Int), FnOK Tryd.prog 51 (f51_num_Parse_in (w_.getD (IntKind.wrap .i64 (t39 + 1)).toNat ByteArray.empty)) (f51_num_Parse_out r237_1), 3 + 1 ≤ 7] (by kernel_rfl) ⟨g237_0, (f51_num_Parse_ok (w_.getD (IntKind.wrap .i64 (t39 + 1)).toNat ByteArray.empty) r237_1 cr237_1), (by decide), trivial⟩ ?_
        rcases iteS h with ⟨b238_e0, h⟩ | ⟨b238_e0, h⟩
        · refine At.step hm ht ⟨[], [true], [], [2], [0]⟩ 15 ⟨[(2, oc (.ptr 0 0))], [], [(0, [zi t2_0, zi t2_1, zi t2_2, zi t2_3, zi t2_4, zi t2_5, .d (.sl .unit [])])], 1⟩ [((r237_1.2 : Int) != 0) = true] (by kernel_rfl) ⟨b238_e0, trivial⟩ ?_
          have h := Option.some.inj h
          subst h
          have hk : o = f46_script_step_out (false, 0, 0, 0, 0, 0, 0, []) := hk
          subst hk
          exact At.fin hm ht ⟨[], [], [.nil true 0 6 (.int .u8) (some 5)], [2, 3], [0, 4]⟩ [0 + 7 ≤ 7] (by kernel_rfl) ⟨(by decide), trivial⟩
        · refine At.step hm ht ⟨[], [false], [], [0, 2, 5, 6, 38, 39], [0, 1, 2, 3]⟩ 16 ⟨[(0, oc (.d (.sl .str w_))), (2, oc (.ptr 0 0)), (5, oc (.ptr 1 0)), (6, oc (.ptr 2 0)), (38, oc (zi t38)), (39, oc (zi t39))], [(3, some ⟨5, 0⟩)], [(0, [zi t2_0, zi t2_1, zi t2_2, zi t2_3, zi t2_4, zi t2_5, .d (.sl .unit [])]), (1, [.d (.str x_0), .d (.str x_1)]), (2, [zi er225_1_2.1, zi er225_1_2.2.1, zi er225_1_2.2.2.1, zi r237_1.1, zi er225_1_2.2.2.2.2.1, zi er225_1_2.2.2.2.2.2.1, .own 3 (.int .u8) er225_1_2.2.2.2.2.2.2])], 4⟩ [((r237_1.2 : Int) != 0) = false] (by kernel_rfl) ⟨b238_e0, trivial⟩ ?_
          refine At.step hm ht ⟨[], [], [], [0, 2, 5, 6, 38, 39], [0, 1, 2, 3]⟩ 7 ⟨[(0, oc (.d (.sl .str w_))), (2, oc (.ptr 0 0)), (5, oc (.ptr 1 0)), (6, oc (.ptr 2 0)), (38, oc (zi t38)), (39, oc (zi (IntKind.wrap .i64 (t39 + 1))))], [(3, some ⟨5, 0⟩)], [(0, [zi t2_0, zi t2_1, zi t2_2, zi t2_3, zi t2_4, zi t2_5, .d (.sl .unit [])]), (1, [.d (.str x_0), .d (.str x_1)]), (2, [zi er225_1_2.1, zi er225_1_2.2.1, zi er225_1_2.2.2.1, zi r237_1.1, zi er225_1_2.2.2.2.2.1, zi er225_1_2.2.2.2.2.2.1, .own 3 (.int .u8) er225_1_2.2.2.2.2.2.2])], 4⟩ [] (by kernel_rfl) trivial ?_
          exact ih w_ t38 (IntKind.wrap .i64 (t39 + 1)) t2_0 t2_1 t2_2 t2_3 t2_4 t2_5 x_0 x_1 er225_1_2.1 er225_1_2.2.1 er225_1_2.2.2.1 r237_1.1 er225_1_2.2.2.2.2.1 er225_1_2.2.2.2.2.2.1 er225_1_2.2.2.2.2.2.2 w h o hk
      · refine At.step hm ht ⟨[(4, .call [2, 3] [] (f71_script_part_v2_out (.inr (.inr (.inr (.inl er225_1_3))))))], [], [], [0, 2, 5, 6, 7, 9, 38, 39], [0, 1, 2, 3]⟩ 11 ⟨[(0, oc (.d (.sl .str w_))), (2, oc (.ptr 0 0)), (5, oc (.ptr 1 0)), (6, oc (.ptr 2 0)), (7, oc (zi t39)), (9, oc (.ptr 2 4)), (38, oc (zi t38)), (39, oc (zi t39))], [(3, some ⟨5, 0⟩)], [(0, [zi t2_0, zi t2_1, zi t2_2, zi t2_3, zi t2_4, zi t2_5, .d (.sl .unit [])]), (1, [.d (.str x_0), .d (.str x_1)]), (2, [zi er225_1_3.1, zi er225_1_3.2.1, zi er225_1_3.2.2.1, zi er225_1_3.2.2.2.1, zi er225_1_3.2.2.2.2.1, zi er225_1_3.2.2.2.2.2.1, .own 3 (.int .u8) er225_1_3.2.2.2.2.2.2])], 4⟩ [(0 : Int) ≤ t39 ∧ t39 < (((x_1).size : Nat) : Int), FnOK Tryd.prog 71 (f71_script_part_v2_in (byteAt x_1 t39) s_0 s_1 s_2 s_3 s_4 s_5 s_6) (f71_script_part_v2_out (.inr (.inr (.inr (.inl er225_1_3)))))] (by kernel_rfl) ⟨g225_0, (f71_script_part_v2_ok (byteAt x_1 t39) s_0 s_1 s_2 s_3 s_4 s_5 s_6 (.inr (.inr (.inr (.inl er225_1_3)))) cr225_1), trivial⟩ ?_
        refine At.step hm ht ⟨[], [true], [], [0, 2, 5, 6, 7, 9, 38, 39], [0, 1, 2, 3]⟩ 12 ⟨[(0, oc (.d (.sl .str w_))), (2, oc (.ptr 0 0)), (5, oc (.ptr 1 0)), (6, oc (.ptr 2 0)), (7, oc (zi t39)), (9, oc (.ptr 2 4)), (38, oc (zi t38)), (39, oc (zi t39))], [(3, some ⟨5, 0⟩)], [(0, [zi t2_0, zi t2_1, zi t2_2, zi t2_3, zi t2_4, zi t2_5, .d (.sl .unit [])]), (1, [.d (.str x_0), .d (.str x_1)]), (2, [zi er225_1_3.1, zi er225_1_3.2.1, zi er225_1_3.2.2.1, zi er225_1_3.2.2.2.1, zi er225_1_3.2.2.2.2.1, zi er225_1_3.2.2.2.2.2.1, .own 3 (.int .u8) er225_1_3.2.2.2.2.2.2])], 4⟩ [true = true] (by kernel_rfl) ⟨rfl, trivial⟩ ?_
        obtain ⟨g242_0, h⟩ := ifS h
        obtain ⟨r242_1, cr242_1, h⟩ := bindS h
        refine At.step hm ht ⟨[(6, .call [] [] (f51_num_Parse_out r242_1))], [], [], [0, 2, 5, 6, 8, 38, 39], [0, 1, 2, 3]⟩ 14 ⟨[(0, oc (.d (.sl .str w_))), (2, oc (.ptr 0 0)), (5, oc (.ptr 1 0)), (6, oc (.ptr 2 0)), (8, oc (zi r242_1.2)), (38, oc (zi t38)), (39, oc (zi t39))], [(3, some ⟨5, 0⟩)], [(0, [zi t2_0, zi t2_1, zi t2_2, zi t2_3, zi t2_4, zi t2_5, .d (.sl .unit [])]), (1, [.d (.str x_0), .d (.str x_1)]), (2, [zi er225_1_3.1, zi er225_1_3.2.1, zi er225_1_3.2.2.1, zi er225_1_3.2.2.2.1, zi r242_1.1, zi er225_1_3.2.2.2.2.2.1, .own 3 (.int .u8) er225_1_3.2.2.2.2.2.2])], 4⟩ [(0 : Int) ≤ (IntKind.wrap .i64 (t39 + 1)) ∧ (IntKind.wrap .i64 (t39 + 1)) < (((w_).length : Nat) : Int), FnOK Tryd.prog 51 (f51_num_Parse_in (w_.getD (IntKind.wrap .i64 (t39 + 1)).toNat ByteArray.empty)) (f51_num_Parse_out r242_1), 4 + 1 ≤ 7] (by kernel_rfl) ⟨g242_0, (f51_num_Parse_ok (w_.getD (IntKind.wrap .i64 (t39 + 1)).toNat ByteArray.empty) r242_1 cr242_1), (by decide), trivial⟩ ?_
        rcases iteS h with ⟨b243_e0, h⟩ | ⟨b243_e0, h⟩
        · refine At.step hm ht ⟨[], [true], [], [2], [0]⟩ 15 ⟨[(2, oc (.ptr 0 0))], [], [(0, [zi t2_0, zi t2_1, zi t2_2, zi t2_3, zi t2_4, zi t2_5, .d (.sl .unit [])])], 1⟩ [((r242_1.2 : Int) != 0) = true] (by kernel_rfl) ⟨b243_e0, trivial⟩ ?_
          have h := Option.some.inj h
          subst h
          have hk : o = f46_script_step_out (false, 0, 0, 0, 0, 0, 0, []) := hk
          subst hk
          exact At.fin hm ht ⟨[], [], [.nil true 0 6 (.int .u8) (some 5)], [2, 3], [0, 4]⟩ [0 + 7 ≤ 7] (by kernel_rfl) ⟨(by decide), trivial⟩
        · refine At.step hm ht ⟨[], [false], [], [0, 2, 5, 6, 38, 39], [0, 1, 2, 3]⟩ 16 ⟨[(0, oc (.d (.sl .str w_))), (2, oc (.ptr 0 0)), (5, oc (.ptr 1 0)), (6, oc (.ptr 2 0)), (38, oc (zi t38)), (39, oc (zi t39))], [(3, some ⟨5, 0⟩)], [(0, [zi t2_0, zi t2_1, zi t2_2, zi t2_3, zi t2_4, zi t2_5, .d (.sl .unit [])]), (1, [.d (.str x_0), .d (.str x_1)]), (2, [zi er225_1_3.1, zi er225_1_3.2.1, zi er225_1_3.2.2.1, zi er225_1_3.2.2.2.1, zi r242_1.1, zi er225_1_3.2.2.2.2.2.1, .own 3 (.int .u8) er225_1_3.2.2.2.2.2.2])], 4⟩ [((r242_1.2 : Int) != 0) = false] (by kernel_rfl) ⟨b243_e0, trivial⟩ ?_
          refine At.step hm ht ⟨[], [], [], [0, 2, 5, 6, 38, 39], [0, 1, 2, 3]⟩ 7 ⟨[(0, oc (.d (.sl .str w_))), (2, oc (.ptr 0 0)), (5, oc (.ptr 1 0)), (6, oc (.ptr 2 0)), (38, oc (zi t38)), (39, oc (zi (IntKind.wrap .i64 (t39 + 1))))], [(3, some ⟨5, 0⟩)], [(0, [zi t2_0, zi t2_1, zi t2_2, zi t2_3, zi t2_4, zi t2_5, .d (.sl .unit [])]), (1, [.d (.str x_0), .d (.str x_1)]), (2, [zi er225_1_3.1, zi er225_1_3.2.1, zi er225_1_3.2.2.1, zi er225_1_3.2.2.2.1, zi r242_1.1, zi er225_1_3.2.2.2.2.2.1, .own 3 (.int .u8) er225_1_3.2.2.2.2.2.2])], 4⟩ [] (by kernel_rfl) trivial ?_
          exact ih w_ t38 (IntKind.wrap .i64 (t39 + 1)) t2_0 t2_1 t2_2 t2_3 t2_4 t2_5 x_0 x_1 er225_1_3.1 er225_1_3.2.1 er225_1_3.2.2.1 er225_1_3.2.2.2.1 r242_1.1 er225_1_3.2.2.2.2.2.1 er225_1_3.2.2.2.2.2.2 w h o hk
      · refine At.step hm ht ⟨[(4, .call [2, 3] [] (f71_script_part_v2_out (.inr (.inr (.inr (.inr (.inl er225_1_4)))))))], [], [], [0, 2, 5, 6, 7, 9, 38, 39], [0, 1, 2, 3]⟩ 11 ⟨[(0, oc (.d (.sl .str w_))), (2, oc (.ptr 0 0)), (5, oc (.ptr 1 0)), (6, oc (.ptr 2 0)), (7, oc (zi t39)), (9, oc (.ptr 2 5)), (38, oc (zi t38)), (39, oc (zi t39))], [(3, some ⟨5, 0⟩)], [(0, [zi t2_0, zi t2_1, zi t2_2, zi t2_3, zi t2_4, zi t2_5, .d (.sl .unit [])]), (1, [.d (.str x_0), .d (.str x_1)]), (2, [zi er225_1_4.1, zi er225_1_4.2.1, zi er225_1_4.2.2.1, zi er225_1_4.2.2.2.1, zi er225_1_4.2.2.2.2.1, zi er225_1_4.2.2.2.2.2.1, .own 3 (.int .u8) er225_1_4.2.2.2.2.2.2])], 4⟩ [(0 : Int) ≤ t39 ∧ t39 < (((x_1).size : Nat) : Int), FnOK Tryd.prog 71 (f71_script_part_v2_in (byteAt x_1 t39) s_0 s_1 s_2 s_3 s_4 s_5 s_6) (f71_script_part_v2_out (.inr (.inr (.inr (.inr (.inl er225_1_4))))))] (by kernel_rfl) ⟨g225_0, (f71_script_part_v2_ok (byteAt x_1 t39) s_0 s_1 s_2 s_3 s_4 s_5 s_6 (.inr (.inr (.inr (.inr (.inl er225_1_4))))) cr225_1), trivial⟩ ?_
        refine At.step hm ht ⟨[], [true], [], [0, 2, 5, 6, 7, 9, 38, 39], [0, 1, 2, 3]⟩ 12 ⟨[(0, oc (.d (.sl .str w_))), (2, oc (.ptr 0 0)), (5, oc (.ptr 1 0)), (6, oc (.ptr 2 0)), (7, oc (zi t39)), (9, oc (.ptr 2 5)), (38, oc (zi t38)), (39, oc (zi t39))], [(3, some ⟨5, 0⟩)], [(0, [zi t2_0, zi t2_1, zi t2_2, zi t2_3, zi t2_4, zi t2_5, .d (.sl .unit [])]), (1, [.d (.str x_0), .d (.str x_1)]), (2, [zi er225_1_4.1, zi er225_1_4.2.1, zi er225_1_4.2.2.1, zi er225_1_4.2.2.2.1, zi er225_1_4.2.2.2.2.1, zi er225_1_4.2.2.2.2.2.1, .own 3 (.int .u8) er225_1_4.2.2.2.2.2.2])], 4⟩ [true = true] (by kernel_rfl) ⟨rfl, trivial⟩ ?_
        obtain ⟨g247_0, h⟩ := ifS h
        obtain ⟨r247_1, cr247_1, h⟩ := bindS h
        refine At.step hm ht ⟨[(6, .call [] [] (f51_num_Parse_out r247_1))], [], [], [0, 2, 5, 6, 8, 38, 39], [0, 1, 2, 3]⟩ 14 ⟨[(0, oc (.d (.sl .str w_))), (2, oc (.ptr 0 0)), (5, oc (.ptr 1 0)), (6, oc (.ptr 2 0)), (8, oc (zi r247_1.2)), (38, oc (zi t38)), (39, oc (zi t39))], [(3, some ⟨5, 0⟩)], [(0, [zi t2_0, zi t2_1, zi t2_2, zi t2_3, zi t2_4, zi t2_5, .d (.sl .unit [])]), (1, [.d (.str x_0), .d (.str x_1)]), (2, [zi er225_1_4.1, zi er225_1_4.2.1, zi er225_1_4.2.2.1, zi er225_1_4.2.2.2.1, zi er225_1_4.2.2.2.2.1, zi r247_1.1, .own 3 (.int .u8) er225_1_4.2.2.2.2.2.2])], 4⟩ [(0 : Int) ≤ (IntKind.wrap .i64 (t39 + 1)) ∧ (IntKind.wrap .i64 (t39 + 1)) < (((w_).length : Nat) : Int), FnOK Tryd.prog 51 (f51_num_Parse_in (w_.getD (IntKind.wrap .i64 (t39 + 1)).toNat ByteArray.empty)) (f51_num_Parse_out r247_1), 5 + 1 ≤ 7] (by kernel_rfl) ⟨g247_0, (f51_num_Parse_ok (w_.getD (IntKind.wrap .i64 (t39 + 1)).toNat ByteArray.empty) r247_1 cr247_1), (by decide), trivial⟩ ?_
        rcases iteS h with ⟨b248_e0, h⟩ | ⟨b248_e0, h⟩
        · refine At.step hm ht ⟨[], [true], [], [2], [0]⟩ 15 ⟨[(2, oc (.ptr 0 0))], [], [(0, [zi t2_0, zi t2_1, zi t2_2, zi t2_3, zi t2_4, zi t2_5, .d (.sl .unit [])])], 1⟩ [((r247_1.2 : Int) != 0) = true] (by kernel_rfl) ⟨b248_e0, trivial⟩ ?_
          have h := Option.some.inj h
          subst h
          have hk : o = f46_script_step_out (false, 0, 0, 0, 0, 0, 0, []) := hk
          subst hk
          exact At.fin hm ht ⟨[], [], [.nil true 0 6 (.int .u8) (some 5)], [2, 3], [0, 4]⟩ [0 + 7 ≤ 7] (by kernel_rfl) ⟨(by decide), trivial⟩
        · refine At.step hm ht ⟨[], [false], [], [0, 2, 5, 6, 38, 39], [0, 1, 2, 3]⟩ 16 ⟨[(0, oc (.d (.sl .str w_))), (2, oc (.ptr 0 0)), (5, oc (.ptr 1 0)), (6, oc (.ptr 2 0)), (38, oc (zi t38)), (39, oc (zi t39))], [(3, some ⟨5, 0⟩)], [(0, [zi t2_0, zi t2_1, zi t2_2, zi t2_3, zi t2_4, zi t2_5, .d (.sl .unit [])]), (1, [.d (.str x_0), .d (.str x_1)]), (2, [zi er225_1_4.1, zi er225_1_4.2.1, zi er225_1_4.2.2.1, zi er225_1_4.2.2.2.1, zi er225_1_4.2.2.2.2.1, zi r247_1.1, .own 3 (.int .u8) er225_1_4.2.2.2.2.2.2])], 4⟩ [((r247_1.2 : Int) != 0) = false] (by kernel_rfl) ⟨b248_e0, trivial⟩ ?_
          refine At.step hm ht ⟨[], [], [], [0, 2, 5, 6, 38, 39], [0, 1, 2, 3]⟩ 7 ⟨[(0, oc (.d (.sl .str w_))), (2, oc (.ptr 0 0)), (5, oc (.ptr 1 0)), (6, oc (.ptr 2 0)), (38, oc (zi t38)), (39, oc (zi (IntKind.wrap .i64 (t39 + 1))))], [(3, some ⟨5, 0⟩)], [(0, [zi t2_0, zi t2_1, zi t2_2, zi t2_3, zi t2_4, zi t2_5, .d (.sl .unit [])]), (1, [.d (.str x_0), .d (.str x_1)]), (2, [zi er225_1_4.1, zi er225_1_4.2.1, zi er225_1_4.2.2.1, zi er225_1_4.2.2.2.1, zi er225_1_4.2.2.2.2.1, zi r247_1.1, .own 3 (.int .u8) er225_1_4.2.2.2.2.2.2])], 4⟩ [] (by kernel_rfl) trivial ?_
          exact ih w_ t38 (IntKind.wrap .i64 (t39 + 1)) t2_0 t2_1 t2_2 t2_3 t2_4 t2_5 x_0 x_1 er225_1_4.1 er225_1_4.2.1 er225_1_4.2.2.1 er225_1_4.2.2.2.1 er225_1_4.2.2.2.2.1 r247_1.1 er225_1_4.2.2.2.2.2.2 w h o hk
      · refine At.step hm ht ⟨[(4, .call [2, 3] [] (f71_script_part_v2_out (.inr (.inr (.inr (.inr (.inr er225_1_5)))))))], [], [], [0, 2, 5, 6, 7, 9, 38, 39], [0, 1, 2, 3]⟩ 11 ⟨[(0, oc (.d (.sl .str w_))), (2, oc (.ptr 0 0)), (5, oc (.ptr 1 0)), (6, oc (.ptr 2 0)), (7, oc (zi t39)), (9, oc (.d (.nilP))), (38, oc (zi t38)), (39, oc (zi t39))], [(3, some ⟨5, 0⟩)], [(0, [zi t2_0, zi t2_1, zi t2_2, zi t2_3, zi t2_4, zi t2_5, .d (.sl .unit [])]), (1, [.d (.str x_0), .d (.str x_1)]), (2, [zi er225_1_5.1, zi er225_1_5.2.1, zi er225_1_5.2.2.1, zi er225_1_5.2.2.2.1, zi er225_1_5.2.2.2.2.1, zi er225_1_5.2.2.2.2.2.1, .own 3 (.int .u8) er225_1_5.2.2.2.2.2.2])], 4⟩ [(0 : Int) ≤ t39 ∧ t39 < (((x_1).size : Nat) : Int), FnOK Tryd.prog 71 (f71_script_part_v2_in (byteAt x_1 t39) s_0 s_1 s_2 s_3 s_4 s_5 s_6) (f71_script_part_v2_out (.inr (.inr (.inr (.inr (.inr er225_1_5))))))] (by kernel_rfl) ⟨g225_0, (f71_script_part_v2_ok (byteAt x_1 t39) s_0 s_1 s_2 s_3 s_4 s_5 s_6 (.inr (.inr (.inr (.inr (.inr er225_1_5))))) cr225_1), trivial⟩ ?_
        refine At.step hm ht ⟨[], [false], [], [0, 2, 5, 6, 7, 38, 39], [0, 1, 2, 3]⟩ 13 ⟨[(0, oc (.d (.sl .str w_))), (2, oc (.ptr 0 0)), (5, oc (.ptr 1 0)), (6, oc (.ptr 2 0)), (7, oc (zi t39)), (38, oc (zi t38)), (39, oc (zi t39))], [(3, some ⟨5, 0⟩)], [(0, [zi t2_0, zi t2_1, zi t2_2, zi t2_3, zi t2_4, zi t2_5, .d (.sl .unit [])]), (1, [.d (.str x_0), .d (.str x_1)]), (2, [zi er225_1_5.1, zi er225_1_5.2.1, zi er225_1_5.2.2.1, zi er225_1_5.2.2.2.1, zi er225_1_5.2.2.2.2.1, zi er225_1_5.2.2.2.2.2.1, .own 3 (.int .u8) er225_1_5.2.2.2.2.2.2])], 4⟩ [false = false] (by kernel_rfl) ⟨rfl, trivial⟩ ?_
        obtain ⟨g252_0, h⟩ := ifS h
        obtain ⟨r252_1, cr252_1, h⟩ := bindS h
        refine At.step hm ht ⟨[(5, .call [] [] (f77_num_Unhex_out r252_1))], [], [], [0, 2, 5, 6, 8, 38, 39], [0, 1, 2, 9]⟩ 14 ⟨[(0, oc (.d (.sl .str w_))), (2, oc (.ptr 0 0)), (5, oc (.ptr 1 0)), (6, oc (.ptr 2 0)), (8, oc (zi r252_1.2)), (38, oc (zi t38)), (39, oc (zi t39))], [(3, some ⟨5, 0⟩)], [(0, [zi t2_0, zi t2_1, zi t2_2, zi t2_3, zi t2_4, zi t2_5, .d (.sl .unit [])]), (1, [.d (.str x_0), .d (.str x_1)]), (2, [zi er225_1_5.1, zi er225_1_5.2.1, zi er225_1_5.2.2.1, zi er225_1_5.2.2.2.1, zi er225_1_5.2.2.2.2.1, zi er225_1_5.2.2.2.2.2.1, .own 3 (.int .u8) r252_1.1])], 4⟩ [(0 : Int) ≤ (IntKind.wrap .i64 (t39 + 1)) ∧ (IntKind.wrap .i64 (t39 + 1)) < (((w_).length : Nat) : Int), FnOK Tryd.prog 77 (f77_num_Unhex_in (w_.getD (IntKind.wrap .i64 (t39 + 1)).toNat ByteArray.empty)) (f77_num_Unhex_out r252_1), 6 + 1 ≤ 7] (by kernel_rfl) ⟨g252_0, (f77_num_Unhex_ok n (w_.getD (IntKind.wrap .i64 (t39 + 1)).toNat ByteArray.empty) r252_1 cr252_1), (by decide), trivial⟩ ?_
        rcases iteS h with ⟨b253_e0, h⟩ | ⟨b253_e0, h⟩
        · refine At.step hm ht ⟨[], [true], [], [2], [0]⟩ 15 ⟨[(2, oc (.ptr 0 0))], [], [(0, [zi t2_0, zi t2_1, zi t2_2, zi t2_3, zi t2_4, zi t2_5, .d (.sl .unit [])])], 1⟩ [((r252_1.2 : Int) != 0) = true] (by kernel_rfl) ⟨b253_e0, trivial⟩ ?_
          have h := Option.some.inj h
          subst h
          have hk : o = f46_script_step_out (false, 0, 0, 0, 0, 0, 0, []) := hk
          subst hk
          exact At.fin hm ht ⟨[], [], [.nil true 0 6 (.int .u8) (some 5)], [2, 3], [0, 4]⟩ [0 + 7 ≤ 7] (by kernel_rfl) ⟨(by decide), trivial⟩
        · refine At.step hm ht ⟨[], [false], [], [0, 2, 5, 6, 38, 39], [0, 1, 2, 3]⟩ 16 ⟨[(0, oc (.d (.sl .str w_))), (2, oc (.ptr 0 0)), (5, oc (.ptr 1 0)), (6, oc (.ptr 2 0)), (38, oc (zi t38)), (39, oc (zi t39))], [(3, some ⟨5, 0⟩)], [(0, [zi t2_0, zi t2_1, zi t2_2, zi t2_3, zi t2_4, zi t2_5, .d (.sl .unit [])]), (1, [.d (.str x_0), .d (.str x_1)]), (2, [zi er225_1_5.1, zi er225_1_5.2.1, zi er225_1_5.2.2.1, zi er225_1_5.2.2.2.1, zi er225_1_5.2.2.2.2.1, zi er225_1_5.2.2.2.2.2.1, .own 3 (.int .u8) r252_1.1])], 4⟩ [((r252_1.2 : Int) != 0) = false] (by kernel_rfl) ⟨b253_e0, trivial⟩ ?_
          refine At.step hm ht ⟨[], [], [], [0, 2, 5, 6, 38, 39], [0, 1, 2, 3]⟩ 7 ⟨[(0, oc (.d (.sl .str w_))), (2, oc (.ptr 0 0)), (5, oc (.ptr 1 0)), (6, oc (.ptr 2 0)), (38, oc (zi t38)), (39, oc (zi (IntKind.wrap .i64 (t39 + 1))))], [(3, some ⟨5, 0⟩)], [(0, [zi t2_0, zi t2_1, zi t2_2, zi t2_3, zi t2_4, zi t2_5, .d (.sl .unit [])]), (1, [.d (.str x_0), .d (.str x_1)]), (2, [zi er225_1_5.1, zi er225_1_5.2.1, zi er225_1_5.2.2.1, zi er225_1_5.2.2.2.1, zi er225_1_5.2.2.2.2.1, zi er225_1_5.2.2.2.2.2.1, .own 3 (.int .u8) r252_1.1])], 4⟩ [] (by kernel_rfl) trivial ?_
          exact ih w_ t38 (IntKind.wrap .i64 (t39 + 1)) t2_0 t2_1 t2_2 t2_3 t2_4 t2_5 x_0 x_1 er225_1_5.1 er225_1_5.2.1 er225_1_5.2.2.1 er225_1_5.2.2.2.1 er225_1_5.2.2.2.2.1 er225_1_5.2.2.2.2.2.1 r252_1.1 w h o hk
    · refine At.step hm ht ⟨[], [false], [], [2, 6], [0, 2, 3]⟩ 17 ⟨[(2, oc (.ptr 0 0)), (6, oc (.ptr 1 0))], [(2, some ⟨5, 0⟩)], [(0, [zi t2_0, zi t2_1, zi t2_2, zi t2_3, zi t2_4, zi t2_5, .d (.sl .unit [])]), (1, [zi s_0, zi s_1, zi s_2, zi s_3, zi s_4, zi s_5, .own 2 (.int .u8) s_6])], 3⟩ [(decide ((t39 : Int) < t38)) = false] (by kernel_rfl) ⟨b222_e0, trivial⟩ ?_
      have h := Option.some.inj h
      subst h
      exact hk
def f46_script_step_L2 : Nat → (List ByteArray) → ByteArray → ByteArray → ByteArray → ByteArray → ByteArray → ByteArray → ByteArray → ByteArray → ByteArray → ByteArray → ByteArray → ByteArray → ByteArray → ByteArray → ByteArray → ByteArray → ByteArray → ByteArray → ByteArray → ByteArray → ByteArray → ByteArray → ByteArray → ByteArray → ByteArray → ByteArray → ByteArray → ByteArray → ByteArray → ByteArray → ByteArray → ByteArray → ByteArray → ByteArray → Int → Int → Int → Int → Int → Int → Int → Option ((Bool × Int × Int × Int × Int × Int × Int × List Int) ⊕ (Int × Int × Int × Int × Int × Int))
  | 0, _, _, _, _, _, _, _, _, _, _, _, _, _, _, _, _, _, _, _, _, _, _, _, _, _, _, _, _, _, _, _, _, _, _, _, _, _, _, _, _, _, _ => none
  | n + 1, w_, t10_0, t10_1, t10_2, t10_3, t10_4, t10_5, t10_6, t10_7, t10_8, t10_9, t10_10, t10_11, t10_12, t10_13, t10_14, t10_15, t10_16, t10_17, t10_18, t10_19, t10_20, t10_21, t10_22, t10_23, t10_24, t10_25, t10_26, t10_27, t10_28, t10_29, t10_30, t10_31, t10_32, t10_33, t11, t2_0, t2_1, t2_2, t2_3, t2_4, t2_5 =>
    if (decide ((t11 : Int) < 17)) = true then
      if (0 : Int) ≤ t11 ∧ t11 < 17 then
      if ((t11 : Int) == 0) = true then
        f46_script_step_L2 n w_ t10_0 t10_1 t10_2 t10_3 t10_4 t10_5 t10_6 t10_7 t10_8 t10_9 t10_10 t10_11 t10_12 t10_13 t10_14 t10_15 t10_16 t10_17 t10_18 t10_19 t10_20 t10_21 t10_22 t10_23 t10_24 t10_25 t10_26 t10_27 t10_28 t10_29 t10_30 t10_31 t10_32 t10_33 (IntKind.wrap .i64 (t11 + 1)) t2_0 t2_1 t2_2 t2_3 t2_4 t2_5
      else
        if (0 : Int) ≤ 0 ∧ 0 < (((w_).length : Nat) : Int) then
        if (!((([t10_0, t10_1, t10_2, t10_3, t10_4, t10_5, t10_6, t10_7, t10_8, t10_9, t10_10, t10_11, t10_12, t10_13, t10_14, t10_15, t10_16, t10_17, t10_18, t10_19, t10_20, t10_21, t10_22, t10_23, t10_24, t10_25, t10_26, t10_27, t10_28, t10_29, t10_30, t10_31, t10_32, t10_33] : List ByteArray).getD (t11.toNat * 2 + 0) ByteArray.empty).toList == (w_.getD 0 ByteArray.empty).toList)) = true then
          f46_script_step_L2 n w_ t10_0 t10_1 t10_2 t10_3 t10_4 t10_5 t10_6 t10_7 t10_8 t10_9 t10_10 t10_11 t10_12 t10_13 t10_14 t10_15 t10_16 t10_17 t10_18 t10_19 t10_20 t10_21 t10_22 t10_23 t10_24 t10_25 t10_26 t10_27 t10_28 t10_29 t10_30 t10_31 t10_32 t10_33 (IntKind.wrap .i64 (t11 + 1)) t2_0 t2_1 t2_2 t2_3 t2_4 t2_5
        else
          if ((((w_.length : Nat) : Int) : Int) != (IntKind.wrap .i64 (1 + (((([t10_0, t10_1, t10_2, t10_3, t10_4, t10_5, t10_6, t10_7, t10_8, t10_9, t10_10, t10_11, t10_12, t10_13, t10_14, t10_15, t10_16, t10_17, t10_18, t10_19, t10_20, t10_21, t10_22, t10_23, t10_24, t10_25, t10_26, t10_27, t10_28, t10_29, t10_30, t10_31, t10_32, t10_33] : List ByteArray).getD (t11.toNat * 2 + 1) ByteArray.empty).size : Nat) : Int)))) = true then
            f46_script_step_L2 n w_ t10_0 t10_1 t10_2 t10_3 t10_4 t10_5 t10_6 t10_7 t10_8 t10_9 t10_10 t10_11 t10_12 t10_13 t10_14 t10_15 t10_16 t10_17 t10_18 t10_19 t10_20 t10_21 t10_22 t10_23 t10_24 t10_25 t10_26 t10_27 t10_28 t10_29 t10_30 t10_31 t10_32 t10_33 (IntKind.wrap .i64 (t11 + 1)) t2_0 t2_1 t2_2 t2_3 t2_4 t2_5
          else
            (f46_script_step_L7 n w_ (((([t10_0, t10_1, t10_2, t10_3, t10_4, t10_5, t10_6, t10_7, t10_8, t10_9, t10_10, t10_11, t10_12, t10_13, t10_14, t10_15, t10_16, t10_17, t10_18, t10_19, t10_20, t10_21, t10_22, t10_23, t10_24, t10_25, t10_26, t10_27, t10_28, t10_29, t10_30, t10_31, t10_32, t10_33] : List ByteArray).getD (t11.toNat * 2 + 1) ByteArray.empty).size : Nat) : Int) 0 t2_0 t2_1 t2_2 t2_3 t2_4 t2_5 (([t10_0, t10_1, t10_2, t10_3, t10_4, t10_5, t10_6, t10_7, t10_8, t10_9, t10_10, t10_11, t10_12, t10_13, t10_14, t10_15, t10_16, t10_17, t10_18, t10_19, t10_20, t10_21, t10_22, t10_23, t10_24, t10_25, t10_26, t10_27, t10_28, t10_29, t10_30, t10_31, t10_32, t10_33] : List ByteArray).getD (t11.toNat * 2 + 0) ByteArray.empty) (([t10_0, t10_1, t10_2, t10_3, t10_4, t10_5, t10_6, t10_7, t10_8, t10_9, t10_10, t10_11, t10_12, t10_13, t10_14, t10_15, t10_16, t10_17, t10_18, t10_19, t10_20, t10_21, t10_22, t10_23, t10_24, t10_25, t10_26, t10_27, t10_28, t10_29, t10_30, t10_31, t10_32, t10_33] : List ByteArray).getD (t11.toNat * 2 + 1) ByteArray.empty) t11 0 0 0 0 0 []).bind fun w256 =>
            match w256 with
            | .inl e257 =>
              some (.inl (e257.1, e257.2.1, e257.2.2.1, e257.2.2.2.1, e257.2.2.2.2.1, e257.2.2.2.2.2.1, e257.2.2.2.2.2.2.1, e257.2.2.2.2.2.2.2))
            | .inr e258 =>
              some (.inl (true, e258.2.2.2.2.2.2.1, e258.2.2.2.2.2.2.2.1, e258.2.2.2.2.2.2.2.2.1, e258.2.2.2.2.2.2.2.2.2.1, e258.2.2.2.2.2.2.2.2.2.2.1, e258.2.2.2.2.2.2.2.2.2.2.2.1, e258.2.2.2.2.2.2.2.2.2.2.2.2))
        else none
      else none
    else
      some (.inr ((t2_0, t2_1, t2_2, t2_3, t2_4, t2_5)))
def f46_script_step_L2_k (w : (Bool × Int × Int × Int × Int × Int × Int × List Int) ⊕ (Int × Int × Int × Int × Int × Int)) (o : Out) : Prop := match w with
  | .inl e => o = f46_script_step_out e
  | .inr e => At Tryd.prog Tryd.f46 0 19 ⟨[(2, oc (.ptr 0 0))], [], [(0, [zi e.1, zi e.2.1, zi e.2.2.1, zi e.2.2.2.1, zi e.2.2.2.2.1, zi e.2.2.2.2.2, .d (.sl .unit [])])], 1⟩ o
theorem f46_script_step_L2_ok (n : Nat) : ∀ (w_ : List ByteArray) (t10_0 : ByteArray) (t10_1 : ByteArray) (t10_2 : ByteArray) (t10_3 : ByteArray) (t10_4 : ByteArray) (t10_5 : ByteArray) (t10_6 : ByteArray) (t10_7 : ByteArray) (t10_8 : ByteArray) (t10_9 : ByteArray) (t10_10 : ByteArray) (t10_11 : ByteArray) (t10_12 : ByteArray) (t10_13 : ByteArray) (t10_14 : ByteArray) (t10_15 : ByteArray) (t10_16 : ByteArray) (t10_17 : ByteArray) (t10_18 : ByteArray) (t10_19 : ByteArray) (t10_20 : ByteArray) (t10_21 : ByteArray) (t10_22 : ByteArray) (t10_23 : ByteArray) (t10_24 : ByteArray) (t10_25 : ByteArray) (t10_26 : ByteArray) (t10_27 : ByteArray) (t10_28 : ByteArray) (t10_29 : ByteArray) (t10_30 : ByteArray) (t10_31 : ByteArray) (t10_32 : ByteArray) (t10_33 : ByteArray) (t11 : Int) (t2_0 : Int) (t2_1 : Int) (t2_2 : Int) (t2_3 : Int) (t2_4 : Int) (t2_5 : Int) (w : (Bool × Int × Int × Int × Int × Int × Int × List Int) ⊕ (Int × Int × Int × Int × Int × Int)) (h : f46_script_step_L2 n w_ t10_0 t10_1 t10_2 t10_3 t10_4 t10_5 t10_6 t10_7 t10_8 t10_9 t10_10 t10_11 t10_12 t10_13 t10_14 t10_15 t10_16 t10_17 t10_18 t10_19 t10_20 t10_21 t10_22 t10_23 t10_24 t10_25 t10_26 t10_27 t10_28 t10_29 t10_30 t10_31 t10_32 t10_33 t11 t2_0 t2_1 t2_2 t2_3 t2_4 t2_5 = some w) (o : Out) (hk : f46_script_step_L2_k w o), At Tryd.prog Tryd.f46 0 2 ⟨[(0, oc (.d (.sl .str w_))), (2, oc (.ptr 0 0)), (10, .one (.agg [.d (.str t10_0), .d (.str t10_1), .d (.str t10_2), .d (.str t10_3), .d (.str t10_4), .d (.str t10_5), .d (.str t10_6), .d (.str t10_7), .d (.str t10_8), .d (.str t10_9), .d (.str t10_10), .d (.str t10_11), .d (.str t10_12), .d (.str t10_13), .d (.str t10_14), .d (.str t10_15), .d (.str t10_16), .d (.str t10_17), .d (.str t10_18), .d (.str t10_19), .d (.str t10_20), .d (.str t10_21), .d (.str t10_22), .d (.str t10_23), .d (.str t10_24), .d (.str t10_25), .d (.str t10_26), .d (.str t10_27), .d (.str t10_28), .d (.str t10_29), .d (.str t10_30), .d (.str t10_31), .d (.str t10_32), .d (.str t10_33)])), (11, oc (zi t11))], [], [(0, [zi t2_0, zi t2_1, zi t2_2, zi t2_3, zi t2_4, zi t2_5, .d (.sl .unit [])])], 1⟩ o := by
  induction n with
  | zero => intro w_ t10_0 t10_1 t10_2 t10_3 t10_4 t10_5 t10_6 t10_7 t10_8 t10_9 t10_10 t10_11 t10_12 t10_13 t10_14 t10_15 t10_16 t10_17 t10_18 t10_19 t10_20 t10_21 t10_22 t10_23 t10_24 t10_25 t10_26 t10_27 t10_28 t10_29 t10_30 t10_31 t10_32 t10_33 t11 t2_0 t2_1 t2_2 t2_3 t2_4 t2_5 w h; rw [f46_script_step_L2] at h; cases h
  | succ n ih =>
    intro w_ t10_0 t10_1 t10_2 t10_3 t10_4 t10_5 t10_6 t10_7 t10_8 t10_9 t10_10 t10_11 t10_12 t10_13 t10_14 t10_15 t10_16 t10_17 t10_18 t10_19 t10_20 t10_21 t10_22 t10_23 t10_24 t10_25 t10_26 t10_27 t10_28 t10_29 t10_30 t10_31 t10_32 t10_33 t11 t2_0 t2_1 t2_2 t2_3 t2_4 t2_5 w h o hk
    rw [f46_script_step_L2] at h
    rcases iteS h with ⟨b214_e0, h⟩ | ⟨b214_e0, h⟩
    · refine At.step hm ht ⟨[], [true], [], [0, 2, 10, 11], [0]⟩ 3 ⟨[(0, oc (.d (.sl .str w_))), (2, oc (.ptr 0 0)), (10, .one (.agg [.d (.str t10_0), .d (.str t10_1), .d (.str t10_2), .d (.str t10_3), .d (.str t10_4), .d (.str t10_5), .d (.str t10_6), .d (.str t10_7), .d (.str t10_8), .d (.str t10_9), .d (.str t10_10), .d (.str t10_11), .d (.str t10_12), .d (.str t10_13), .d (.str t10_14), .d (.str t10_15), .d (.str t10_16), .d (.str t10_17), .d (.str t10_18), .d (.str t10_19), .d (.str t10_20), .d (.str t10_21), .d (.str t10_22), .d (.str t10_23), .d (.str t10_24), .d (.str t10_25), .d (.str t10_26), .d (.str t10_27), .d (.str t10_28), .d (.str t10_29), .d (.str t10_30), .d (.str t10_31), .d (.str t10_32), .d (.str t10_33)])), (11, oc (zi t11))], [], [(0, [zi t2_0, zi t2_1, zi t2_2, zi t2_3, zi t2_4, zi t2_5, .d (.sl .unit [])])], 1⟩ [(decide ((t11 : Int) < 17)) = true] (by kernel_rfl) ⟨b214_e0, trivial⟩ ?_
      obtain ⟨g215_0, h⟩ := ifS h
      refine At.step hm ht ⟨[], [], [], [0, 2, 4, 5, 10, 11], [0, 3]⟩ 4 ⟨[(0, oc (.d (.sl .str w_))), (2, oc (.ptr 0 0)), (4, oc (zi t11)), (5, oc (.ptr 1 0)), (10, .one (.agg [.d (.str t10_0), .d (.str t10_1), .d (.str t10_2), .d (.str t10_3), .d (.str t10_4), .d (.str t10_5), .d (.str t10_6), .d (.str t10_7), .d (.str t10_8), .d (.str t10_9), .d (.str t10_10), .d (.str t10_11), .d (.str t10_12), .d (.str t10_13), .d (.str t10_14), .d (.str t10_15), .d (.str t10_16), .d (.str t10_17), .d (.str t10_18), .d (.str t10_19), .d (.str t10_20), .d (.str t10_21), .d (.str t10_22), .d (.str t10_23), .d (.str t10_24), .d (.str t10_25), .d (.str t10_26), .d (.str t10_27), .d (.str t10_28), .d (.str t10_29), .d (.str t10_30), .d (.str t10_31), .d (.str t10_32), .d (.str t10_33)])), (11, oc (zi t11))], [], [(0, [zi t2_0, zi t2_1, zi t2_2, zi t2_3, zi t2_4, zi t2_5, .d (.sl .unit [])]), (1, [.d (.str (([t10_0, t10_1, t10_2, t10_3, t10_4, t10_5, t10_6, t10_7, t10_8, t10_9, t10_10, t10_11, t10_12, t10_13, t10_14, t10_15, t10_16, t10_17, t10_18, t10_19, t10_20, t10_21, t10_22, t10_23, t10_24, t10_25, t10_26, t10_27, t10_28, t10_29, t10_30, t10_31, t10_32, t10_33] : List ByteArray).getD (t11.toNat * 2 + 0) ByteArray.empty)), .d (.str (([t10_0, t10_1, t10_2, t10_3, t10_4, t10_5, t10_6, t10_7, t10_8, t10_9, t10_10, t10_11, t10_12, t10_13, t10_14, t10_15, t10_16, t10_17, t10_18, t10_19, t10_20, t10_21, t10_22, t10_23, t10_24, t10_25, t10_26, t10_27, t10_28, t10_29, t10_30, t10_31, t10_32, t10_33] : List ByteArray).getD (t11.toNat * 2 + 1) ByteArray.empty))])], 2⟩ [(0 : Int) ≤ t11 ∧ t11 < 17, 0 + 2 ≤ 2] (by kernel_rfl) ⟨g215_0, (by decide), trivial⟩ ?_
      rcases iteS h with ⟨b216_2, h⟩ | ⟨b216_2, h⟩
      · refine At.step hm ht ⟨[(2, .b true)], [true], [], [0, 2, 10, 11], [0]⟩ 18 ⟨[(0, oc (.d (.sl .str w_))), (2, oc (.ptr 0 0)), (10, .one (.agg [.d (.str t10_0), .d (.str t10_1), .d (.str t10_2), .d (.str t10_3), .d (.str t10_4), .d (.str t10_5), .d (.str t10_6), .d (.str t10_7), .d (.str t10_8), .d (.str t10_9), .d (.str t10_10), .d (.str t10_11), .d (.str t10_12), .d (.str t10_13), .d (.str t10_14), .d (.str t10_15), .d (.str t10_16), .d (.str t10_17), .d (.str t10_18), .d (.str t10_19), .d (.str t10_20), .d (.str t10_21), .d (.str t10_22), .d (.str t10_23), .d (.str t10_24), .d (.str t10_25), .d (.str t10_26), .d (.str t10_27), .d (.str t10_28), .d (.str t10_29), .d (.str t10_30), .d (.str t10_31), .d (.str t10_32), .d (.str t10_33)])), (11, oc (zi t11))], [], [(0, [zi t2_0, zi t2_1, zi t2_2, zi t2_3, zi t2_4, zi t2_5, .d (.sl .unit [])])], 1⟩ [((t11 : Int) == 0) = true, true = true] (by kernel_rfl) ⟨b216_2, rfl, trivial⟩ ?_
        refine At.step hm ht ⟨[], [], [], [0, 2, 10, 11], [0]⟩ 2 ⟨[(0, oc (.d (.sl .str w_))), (2, oc (.ptr 0 0)), (10, .one (.agg [.d (.str t10_0), .d (.str t10_1), .d (.str t10_2), .d (.str t10_3), .d (.str t10_4), .d (.str t10_5), .d (.str t10_6), .d (.str t10_7), .d (.str t10_8), .d (.str t10_9), .d (.str t10_10), .d (.str t10_11), .d (.str t10_12), .d (.str t10_13), .d (.str t10_14), .d (.str t10_15), .d (.str t10_16), .d (.str t10_17), .d (.str t10_18), .d (.str t10_19), .d (.str t10_20), .d (.str t10_21), .d (.str t10_22), .d (.str t10_23), .d (.str t10_24), .d (.str t10_25), .d (.str t10_26), .d (.str t10_27), .d (.str t10_28), .d (.str t10_29), .d (.str t10_30), .d (.str t10_31), .d (.str t10_32), .d (.str t10_33)])), (11, oc (zi (IntKind.wrap .i64 (t11 + 1))))], [], [(0, [zi t2_0, zi t2_1, zi t2_2, zi t2_3, zi t2_4, zi t2_5, .d (.sl .unit [])])], 1⟩ [] (by kernel_rfl) trivial ?_
        exact ih w_ t10_0 t10_1 t10_2 t10_3 t10_4 t10_5 t10_6 t10_7 t10_8 t10_9 t10_10 t10_11 t10_12 t10_13 t10_14 t10_15 t10_16 t10_17 t10_18 t10_19 t10_20 t10_21 t10_22 t10_23 t10_24 t10_25 t10_26 t10_27 t10_28 t10_29 t10_30 t10_31 t10_32 t10_33 (IntKind.wrap .i64 (t11 + 1)) t2_0 t2_1 t2_2 t2_3 t2_4 t2_5 w h o hk
      · obtain ⟨g216_0, h⟩ := ifS h
        rcases iteS h with ⟨b216_10, h⟩ | ⟨b216_10, h⟩
        · refine At.step hm ht ⟨[(2, .b false), (10, .b true)], [true], [], [0, 2, 10, 11], [0]⟩ 18 ⟨[(0, oc (.d (.sl .str w_))), (2, oc (.ptr 0 0)), (10, .one (.agg [.d (.str t10_0), .d (.str t10_1), .d (.str t10_2), .d (.str t10_3), .d (.str t10_4), .d (.str t10_5), .d (.str t10_6), .d (.str t10_7), .d (.str t10_8), .d (.str t10_9), .d (.str t10_10), .d (.str t10_11), .d (.str t10_12), .d (.str t10_13), .d (.str t10_14), .d (.str t10_15), .d (.str t10_16), .d (.str t10_17), .d (.str t10_18), .d (.str t10_19), .d (.str t10_20), .d (.str t10_21), .d (.str t10_22), .d (.str t10_23), .d (.str t10_24), .d (.str t10_25), .d (.str t10_26), .d (.str t10_27), .d (.str t10_28), .d (.str t10_29), .d (.str t10_30), .d (.str t10_31), .d (.str t10_32), .d (.str t10_33)])), (11, oc (zi t11))], [], [(0, [zi t2_0, zi t2_1, zi t2_2, zi t2_3, zi t2_4, zi t2_5, .d (.sl .unit [])])], 1⟩ [((t11 : Int) == 0) = false, (0 : Int) ≤ 0 ∧ 0 < (((w_).length : Nat) : Int), (!((([t10_0, t10_1, t10_2, t10_3, t10_4, t10_5, t10_6, t10_7, t10_8, t10_9, t10_10, t10_11, t10_12, t10_13, t10_14, t10_15, t10_16, t10_17, t10_18, t10_19, t10_20, t10_21, t10_22, t10_23, t10_24, t10_25, t10_26, t10_27, t10_28, t10_29, t10_30, t10_31, t10_32, t10_33] : List ByteArray).getD (t11.toNat * 2 + 0) ByteArray.empty).toList == (w_.getD 0 ByteArray.empty).toList)) = true, true = true] (by kernel_rfl) ⟨b216_2, g216_0, b216_10, rfl, trivial⟩ ?_
          refine At.step hm ht ⟨[], [], [], [0, 2, 10, 11], [0]⟩ 2 ⟨[(0, oc (.d (.sl .str w_))), (2, oc (.ptr 0 0)), (10, .one (.agg [.d (.str t10_0), .d (.str t10_1), .d (.str t10_2), .d (.str t10_3), .d (.str t10_4), .d (.str t10_5), .d (.str t10_6), .d (.str t10_7), .d (.str t10_8), .d (.str t10_9), .d (.str t10_10), .d (.str t10_11), .d (.str t10_12), .d (.str t10_13), .d (.str t10_14), .d (.str t10_15), .d (.str t10_16), .d (.str t10_17), .d (.str t10_18), .d (.str t10_19), .d (.str t10_20), .d (.str t10_21), .d (.str t10_22), .d (.str t10_23), .d (.str t10_24), .d (.str t10_25), .d (.str t10_26), .d (.str t10_27), .d (.str t10_28), .d (.str t10_29), .d (.str t10_30), .d (.str t10_31), .d (.str t10_32), .d (.str t10_33)])), (11, oc (zi (IntKind.wrap .i64 (t11 + 1))))], [], [(0, [zi t2_0, zi t2_1, zi t2_2, zi t2_3, zi t2_4, zi t2_5, .d (.sl .unit [])])], 1⟩ [] (by kernel_rfl) trivial ?_
          exact ih w_ t10_0 t10_1 t10_2 t10_3 t10_4 t10_5 t10_6 t10_7 t10_8 t10_9 t10_10 t10_11 t10_12 t10_13 t10_14 t10_15 t10_16 t10_17 t10_18 t10_19 t10_20 t10_21 t10_22 t10_23 t10_24 t10_25 t10_26 t10_27 t10_28 t10_29 t10_30 t10_31 t10_32 t10_33 (IntKind.wrap .i64 (t11 + 1)) t2_0 t2_1 t2_2 t2_3 t2_4 t2_5 w h o hk
        · rcases iteS h with ⟨b216_e0, h⟩ | ⟨b216_e0, h⟩
          · refine At.step hm ht ⟨[(2, .b false), (10, .b false)], [true], [], [0, 2, 10, 11], [0]⟩ 18 ⟨[(0, oc (.d (.sl .str w_))), (2, oc (.ptr 0 0)), (10, .one (.agg [.d (.str t10_0), .d (.str t10_1), .d (.str t10_2), .d (.str t10_3), .d (.str t10_4), .d (.str t10_5), .d (.str t10_6), .d (.str t10_7), .d (.str t10_8), .d (.str t10_9), .d (.str t10_10), .d (.str t10_11), .d (.str t10_12), .d (.str t10_13), .d (.str t10_14), .d (.str t10_15), .d (.str t10_16), .d (.str t10_17), .d (.str t10_18), .d (.str t10_19), .d (.str t10_20), .d (.str t10_21), .d (.str t10_22), .d (.str t10_23), .d (.str t10_24), .d (.str t10_25), .d (.str t10_26), .d (.str t10_27), .d (.str t10_28), .d (.str t10_29), .d (.str t10_30), .d (.str t10_31), .d (.str t10_32), .d (.str t10_33)])), (11, oc (zi t11))], [], [(0, [zi t2_0, zi t2_1, zi t2_2, zi t2_3, zi t2_4, zi t2_5, .d (.sl .unit [])])], 1⟩ [((t11 : Int) == 0) = false, (0 : Int) ≤ 0 ∧ 0 < (((w_).length : Nat) : Int), (!((([t10_0, t10_1, t10_2, t10_3, t10_4, t10_5, t10_6, t10_7, t10_8, t10_9, t10_10, t10_11, t10_12, t10_13, t10_14, t10_15, t10_16, t10_17, t10_18, t10_19, t10_20, t10_21, t10_22, t10_23, t10_24, t10_25, t10_26, t10_27, t10_28, t10_29, t10_30, t10_31, t10_32, t10_33] : List ByteArray).getD (t11.toNat * 2 + 0) ByteArray.empty).toList == (w_.getD 0 ByteArray.empty).toList)) = false, ((((w_.length : Nat) : Int) : Int) != (IntKind.wrap .i64 (1 + (((([t10_0, t10_1, t10_2, t10_3, t10_4, t10_5, t10_6, t10_7, t10_8, t10_9, t10_10, t10_11, t10_12, t10_13, t10_14, t10_15, t10_16, t10_17, t10_18, t10_19, t10_20, t10_21, t10_22, t10_23, t10_24, t10_25, t10_26, t10_27, t10_28, t10_29, t10_30, t10_31, t10_32, t10_33] : List ByteArray).getD (t11.toNat * 2 + 1) ByteArray.empty).size : Nat) : Int)))) = true] (by kernel_rfl) ⟨b216_2, g216_0, b216_10, b216_e0, trivial⟩ ?_
            refine At.step hm ht ⟨[], [], [], [0, 2, 10, 11], [0]⟩ 2 ⟨[(0, oc (.d (.sl .str w_))), (2, oc (.ptr 0 0)), (10, .one (.agg [.d (.str t10_0), .d (.str t10_1), .d (.str t10_2), .d (.str t10_3), .d (.str t10_4), .d (.str t10_5), .d (.str t10_6), .d (.str t10_7), .d (.str t10_8), .d (.str t10_9), .d (.str t10_10), .d (.str t10_11), .d (.str t10_12), .d (.str t10_13), .d (.str t10_14), .d (.str t10_15), .d (.str t10_16), .d (.str t10_17), .d (.str t10_18), .d (.str t10_19), .d (.str t10_20), .d (.str t10_21), .d (.str t10_22), .d (.str t10_23), .d (.str t10_24), .d (.str t10_25), .d (.str t10_26), .d (.str t10_27), .d (.str t10_28), .d (.str t10_29), .d (.str t10_30), .d (.str t10_31), .d (.str t10_32), .d (.str t10_33)])), (11, oc (zi (IntKind.wrap .i64 (t11 + 1))))], [], [(0, [zi t2_0, zi t2_1, zi t2_2, zi t2_3, zi t2_4, zi t2_5, .d (.sl .unit [])])], 1⟩ [] (by kernel_rfl) trivial ?_
            exact ih w_ t10_0 t10_1 t10_2 t10_3 t10_4 t10_5 t10_6 t10_7 t10_8 t10_9 t10_10 t10_11 t10_12 t10_13 t10_14 t10_15 t10_16 t10_17 t10_18 t10_19 t10_20 t10_21 t10_22 t10_23 t10_24 t10_25 t10_26 t10_27 t10_28 t10_29 t10_30 t10_31 t10_32 t10_33 (IntKind.wrap .i64 (t11 + 1)) t2_0 t2_1 t2_2 t2_3 t2_4 t2_5 w h o hk
          · refine At.step hm ht ⟨[(2, .b false), (10, .b false)], [false], [], [0, 2, 4, 5], [0, 1]⟩ 5 ⟨[(0, oc (.d (.sl .str w_))), (2, oc (.ptr 0 0)), (4, oc (zi t11)), (5, oc (.ptr 1 0))], [], [(0, [zi t2_0, zi t2_1, zi t2_2, zi t2_3, zi t2_4, zi t2_5, .d (.sl .unit [])]), (1, [.d (.str (([t10_0, t10_1, t10_2, t10_3, t10_4, t10_5, t10_6, t10_7, t10_8, t10_9, t10_10, t10_11, t10_12, t10_13, t10_14, t10_15, t10_16, t10_17, t10_18, t10_19, t10_20, t10_21, t10_22, t10_23, t10_24, t10_25, t10_26, t10_27, t10_28, t10_29, t10_30, t10_31, t10_32, t10_33] : List ByteArray).getD (t11.toNat * 2 + 0) ByteArray.empty)), .d (.str (([t10_0, t10_1, t10_2, t10_3, t10_4, t10_5, t10_6, t10_7, t10_8, t10_9, t10_10, t10_11, t10_12, t10_13, t10_14, t10_15, t10_16, t10_17, t10_18, t10_19, t10_20, t10_21, t10_22, t10_23, t10_24, t10_25, t10_26, t10_27, t10_28, t10_29, t10_30, t10_31, t10_32, t10_33] : List ByteArray).getD (t11.toNat * 2 + 1) ByteArray.empty))])], 2⟩ [((t11 : Int) == 0) = false, (0 : Int) ≤ 0 ∧ 0 < (((w_).length : Nat) : Int), (!((([t10_0, t10_1, t10_2, t10_3, t10_4, t10_5, t10_6, t10_7, t10_8, t10_9, t10_10, t10_11, t10_12, t10_13, t10_14, t10_15, t10_16, t10_17, t10_18, t10_19, t10_20, t10_21, t10_22, t10_23, t10_24, t10_25, t10_26, t10_27, t10_28, t10_29, t10_30, t10_31, t10_32, t10_33] : List ByteArray).getD (t11.toNat * 2 + 0) ByteArray.empty).toList == (w_.getD 0 ByteArray.empty).toList)) = false, ((((w_.length : Nat) : Int) : Int) != (IntKind.wrap .i64 (1 + (((([t10_0, t10_1, t10_2, t10_3, t10_4, t10_5, t10_6, t10_7, t10_8, t10_9, t10_10, t10_11, t10_12, t10_13, t10_14, t10_15, t10_16, t10_17, t10_18, t10_19, t10_20, t10_21, t10_22, t10_23, t10_24, t10_25, t10_26, t10_27, t10_28, t10_29, t10_30, t10_31, t10_32, t10_33] : List ByteArray).getD (t11.toNat * 2 + 1) ByteArray.empty).size : Nat) : Int)))) = false] (by kernel_rfl) ⟨b216_2, g216_0, b216_10, b216_e0, trivial⟩ ?_
            refine At.step hm ht ⟨[], [], [], [0, 2, 5, 6], [0, 1, 4]⟩ 6 ⟨[(0, oc (.d (.sl .str w_))), (2, oc (.ptr 0 0)), (5, oc (.ptr 1 0)), (6, oc (.ptr 2 0))], [], [(0, [zi t2_0, zi t2_1, zi t2_2, zi t2_3, zi t2_4, zi t2_5, .d (.sl .unit [])]), (1, [.d (.str (([t10_0, t10_1, t10_2, t10_3, t10_4, t10_5, t10_6, t10_7, t10_8, t10_9, t10_10, t10_11, t10_12, t10_13, t10_14, t10_15, t10_16, t10_17, t10_18, t10_19, t10_20, t10_21, t10_22, t10_23, t10_24, t10_25, t10_26, t10_27, t10_28, t10_29, t10_30, t10_31, t10_32, t10_33] : List ByteArray).getD (t11.toNat * 2 + 0) ByteArray.empty)), .d (.str (([t10_0, t10_1, t10_2, t10_3, t10_4, t10_5, t10_6, t10_7, t10_8, t10_9, t10_10, t10_11, t10_12, t10_13, t10_14, t10_15, t10_16, t10_17, t10_18, t10_19, t10_20, t10_21, t10_22, t10_23, t10_24, t10_25, t10_26, t10_27, t10_28, t10_29, t10_30, t10_31, t10_32, t10_33] : List ByteArray).getD (t11.toNat * 2 + 1) ByteArray.empty))]), (2, [zi t11, zi 0, zi 0, zi 0, zi 0, zi 0, .d (.sl .unit [])])], 3⟩ [0 + 7 ≤ 7] (by kernel_rfl) ⟨(by decide), trivial⟩ ?_
            refine At.step hm ht ⟨[], [], [.nil true 2 6 (.int .u8) (some 5)], [0, 2, 5, 6, 38, 39], [0, 1, 2, 7]⟩ 7 ⟨[(0, oc (.d (.sl .str w_))), (2, oc (.ptr 0 0)), (5, oc (.ptr 1 0)), (6, oc (.ptr 2 0)), (38, oc (zi (((([t10_0, t10_1, t10_2, t10_3, t10_4, t10_5, t10_6, t10_7, t10_8, t10_9, t10_10, t10_11, t10_12, t10_13, t10_14, t10_15, t10_16, t10_17, t10_18, t10_19, t10_20, t10_21, t10_22, t10_23, t10_24, t10_25, t10_26, t10_27, t10_28, t10_29, t10_30, t10_31, t10_32, t10_33] : List ByteArray).getD (t11.toNat * 2 + 1) ByteArray.empty).size : Nat) : Int))), (39, oc (zi 0))], [(3, some ⟨5, 0⟩)], [(0, [zi t2_0, zi t2_1, zi t2_2, zi t2_3, zi t2_4, zi t2_5, .d (.sl .unit [])]), (1, [.d (.str (([t10_0, t10_1, t10_2, t10_3, t10_4, t10_5, t10_6, t10_7, t10_8, t10_9, t10_10, t10_11, t10_12, t10_13, t10_14, t10_15, t10_16, t10_17, t10_18, t10_19, t10_20, t10_21, t10_22, t10_23, t10_24, t10_25, t10_26, t10_27, t10_28, t10_29, t10_30, t10_31, t10_32, t10_33] : List ByteArray).getD (t11.toNat * 2 + 0) ByteArray.empty)), .d (.str (([t10_0, t10_1, t10_2, t10_3, t10_4, t10_5, t10_6, t10_7, t10_8, t10_9, t10_10, t10_11, t10_12, t10_13, t10_14, t10_15, t10_16, t10_17, t10_18, t10_19, t10_20, t10_21, t10_22, t10_23, t10_24, t10_25, t10_26, t10_27, t10_28, t10_29, t10_30, t10_31, t10_32, t10_33] : List ByteArray).getD (t11.toNat * 2 + 1) ByteArray.empty))]), (2, [zi t11, zi 0, zi 0, zi 0, zi 0, zi 0, .own 3 (.int .u8) []])], 4⟩ [] (by kernel_rfl) trivial ?_
            obtain ⟨w256, cw256, h⟩ := bindS h
            refine f46_script_step_L7_ok n w_ (((([t10_0, t10_1, t10_2, t10_3, t10_4, t10_5, t10_6, t10_7, t10_8, t10_9, t10_10, t10_11, t10_12, t10_13, t10_14, t10_15, t10_16, t10_17, t10_18, t10_19, t10_20, t10_21, t10_22, t10_23, t10_24, t10_25, t10_26, t10_27, t10_28, t10_29, t10_30, t10_31, t10_32, t10_33] : List ByteArray).getD (t11.toNat * 2 + 1) ByteArray.empty).size : Nat) : Int) 0 t2_0 t2_1 t2_2 t2_3 t2_4 t2_5 (([t10_0, t10_1, t10_2, t10_3, t10_4, t10_5, t10_6, t10_7, t10_8, t10_9, t10_10, t10_11, t10_12, t10_13, t10_14, t10_15, t10_16, t10_17, t10_18, t10_19, t10_20, t10_21, t10_22, t10_23, t10_24, t10_25, t10_26, t10_27, t10_28, t10_29, t10_30, t10_31, t10_32, t10_33] : List ByteArray).getD (t11.toNat * 2 + 0) ByteArray.empty) (([t10_0, t10_1, t10_2, t10_3, t10_4, t10_5, t10_6, t10_7, t10_8, t10_9, t10_10, t10_11, t10_12, t10_13, t10_14, t10_15, t10_16, t10_17, t10_18, t10_19, t10_20, t10_21, t10_22, t10_23, t10_24, t10_25, t10_26, t10_27, t10_28, t10_29, t10_30, t10_31, t10_32, t10_33] : List ByteArray).getD (t11.toNat * 2 + 1) ByteArray.empty) t11 0 0 0 0 0 [] w256 cw256 _ ?_
            rcases w256 with e257 | e258
            · have h := Option.some.inj h
              subst h
              exact hk
            · show At Tryd.prog Tryd.f46 0 17 ⟨[(2, oc (.ptr 0 0)), (6, oc (.ptr 1 0))], [(2, some ⟨5, 0⟩)], [(0, [zi e258.1, zi e258.2.1, zi e258.2.2.1, zi e258.2.2.2.1, zi e258.2.2.2.2.1, zi e258.2.2.2.2.2.1, .d (.sl .unit [])]), (1, [zi e258.2.2.2.2.2.2.1, zi e258.2.2.2.2.2.2.2.1, zi e258.2.2.2.2.2.2.2.2.1, zi e258.2.2.2.2.2.2.2.2.2.1, zi e258.2.2.2.2.2.2.2.2.2.2.1, zi e258.2.2.2.2.2.2.2.2.2.2.2.1, .own 2 (.int .u8) e258.2.2.2.2.2.2.2.2.2.2.2.2])], 3⟩ _
              have h := Option.some.inj h
              subst h
              have hk : o = f46_script_step_out (true, e258.2.2.2.2.2.2.1, e258.2.2.2.2.2.2.2.1, e258.2.2.2.2.2.2.2.2.1, e258.2.2.2.2.2.2.2.2.2.1, e258.2.2.2.2.2.2.2.2.2.2.1, e258.2.2.2.2.2.2.2.2.2.2.2.1, e258.2.2.2.2.2.2.2.2.2.2.2.2) := hk
              subst hk
              exact At.fin hm ht ⟨[], [], [], [2, 3], [0, 2]⟩ [0 + 7 ≤ 7] (by kernel_rfl) ⟨(by decide), trivial⟩
    · refine At.step hm ht ⟨[], [false], [], [2], [0]⟩ 19 ⟨[(2, oc (.ptr 0 0))], [], [(0, [zi t2_0, zi t2_1, zi t2_2, zi t2_3, zi t2_4, zi t2_5, .d (.sl .unit [])])], 1⟩ [(decide ((t11 : Int) < 17)) = false] (by kernel_rfl) ⟨b214_e0, trivial⟩ ?_
      have h := Option.some.inj h
      subst h
      exact hk
def f46_script_step (n : Nat) (w_ : List ByteArray) : Option (Bool × Int × Int × Int × Int × Int × Int × List Int) :=
  (f70_script_shapes).bind fun r213_0 =>
  (f46_script_step_L2 n w_ r213_0.1 r213_0.2.1 r213_0.2.2.1 r213_0.2.2.2.1 r213_0.2.2.2.2.1 r213_0.2.2.2.2.2.1 r213_0.2.2.2.2.2.2.1 r213_0.2.2.2.2.2.2.2.1 r213_0.2.2.2.2.2.2.2.2.1 r213_0.2.2.2.2.2.2.2.2.2.1 r213_0.2.2.2.2.2.2.2.2.2.2.1 r213_0.2.2.2.2.2.2.2.2.2.2.2.1 r213_0.2.2.2.2.2.2.2.2.2.2.2.2.1 r213_0.2.2.2.2.2.2.2.2.2.2.2.2.2.1 r213_0.2.2.2.2.2.2.2.2.2.2.2.2.2.2.1 r213_0.2.2.2.2.2.2.2.2.2.2.2.2.2.2.2.1 r213_0.2.2.2.2.2.2.2.2.2.2.2.2.2.2.2.2.1 r213_0.2.2.2.2.2.2.2.2.2.2.2.2.2.2.2.2.2.1 r213_0.2.2.2.2.2.2.2.2.2.2.2.2.2.2.2.2.2.2.1 r213_0.2.2.2.2.2.2.2.2.2.2.2.2.2.2.2.2.2.2.2.1 r213_0.2.2.2.2.2.2.2.2.2.2.2.2.2.2.2.2.2.2.2.2.1 r213_0.2.2.2.2.2.2.2.2.2.2.2.2.2.2.2.2.2.2.2.2.2.1 r213_0.2.2.2.2.2.2.2.2.2.2.2.2.2.2.2.2.2.2.2.2.2.2.1 r213_0.2.2.2.2.2.2.2.2.2.2.2.2.2.2.2.2.2.2.2.2.2.2.2.1 r213_0.2.2.2.2.2.2.2.2.2.2.2.2.2.2.2.2.2.2.2.2.2.2.2.2.1 r213_0.2.2.2.2.2.2.2.2.2.2.2.2.2.2.2.2.2.2.2.2.2.2.2.2.2.1 r213_0.2.2.2.2.2.2.2.2.2.2.2.2.2.2.2.2.2.2.2.2.2.2.2.2.2.2.1 r213_0.2.2.2.2.2.2.2.2.2.2.2.2.2.2.2.2.2.2.2.2.2.2.2.2.2.2.2.1 r213_0.2.2.2.2.2.2.2.2.2.2.2.2.2.2.2.2.2.2.2.2.2.2.2.2.2.2.2.2.1 r213_0.2.2.2.2.2.2.2.2.2.2.2.2.2.2.2.2.2.2.2.2.2.2.2.2.2.2.2.2.2.1 r213_0.2.2.2.2.2.2.2.2.2.2.2.2.2.2.2.2.2.2.2.2.2.2.2.2.2.2.2.2.2.2.1 r213_0.2.2.2.2.2.2.2.2.2.2.2.2.2.2.2.2.2.2.2.2.2.2.2.2.2.2.2.2.2.2.2.1 r213_0.2.2.2.2.2.2.2.2.2.2.2.2.2.2.2.2.2.2.2.2.2.2.2.2.2.2.2.2.2.2.2.2.1 r213_0.2.2.2.2.2.2.2.2.2.2.2.2.2.2.2.2.2.2.2.2.2.2.2.2.2.2.2.2.2.2.2.2.2 0 0 0 0 0 0 0).bind fun w260 =>
  match w260 with
  | .inl e261 =>
    some (e261.1, e261.2.1, e261.2.2.1, e261.2.2.2.1, e261.2.2.2.2.1, e261.2.2.2.2.2.1, e261.2.2.2.2.2.2.1, e261.2.2.2.2.2.2.2)
  | .inr e262 =>
    some (false, 0, 0, 0, 0, 0, 0, [])
theorem f46_script_step_ok (n : Nat) (w_ : List ByteArray) (r : Bool × Int × Int × Int × Int × Int × Int × List Int) (h : f46_script_step n w_ = some r) : FnOK Tryd.prog 46 (f46_script_step_in w_) (f46_script_step_out r) := by
  unfold f46_script_step at h
  refine At.fn (r := 0) Tryd.func46 rfl (by kernel_rfl) rfl rfl (by kernel_rfl) ?_
  show At Tryd.prog Tryd.f46 0 0 ⟨[(0, oc (.d (.sl .str w_)))], [], [], 0⟩ _
  refine At.step hm ht ⟨[], [], [], [0, 2], [0]⟩ 1 ⟨[(0, oc (.d (.sl .str w_))), (2, oc (.ptr 0 0))], [], [(0, [zi 0, zi 0, zi 0, zi 0, zi 0, zi 0, .d (.sl .unit [])])], 1⟩ [] (by kernel_rfl) trivial ?_
  obtain ⟨r213_0, cr213_0, h⟩ := bindS h
  refine At.step hm ht ⟨[(0, .call [] [] (f70_script_shapes_out r213_0))], [], [], [0, 2, 10, 11], [0]⟩ 2 ⟨[(0, oc (.d (.sl .str w_))), (2, oc (.ptr 0 0)), (10, .one (.agg [.d (.str r213_0.1), .d (.str r213_0.2.1), .d (.str r213_0.2.2.1), .d (.str r213_0.2.2.2.1), .d (.str r213_0.2.2.2.2.1), .d (.str r213_0.2.2.2.2.2.1), .d (.str r213_0.2.2.2.2.2.2.1), .d (.str r213_0.2.2.2.2.2.2.2.1), .d (.str r213_0.2.2.2.2.2.2.2.2.1), .d (.str r213_0.2.2.2.2.2.2.2.2.2.1), .d (.str r213_0.2.2.2.2.2.2.2.2.2.2.1), .d (.str r213_0.2.2.2.2.2.2.2.2.2.2.2.1), .d (.str r213_0.2.2.2.2.2.2.2.2.2.2.2.2.1), .d (.str r213_0.2.2.2.2.2.2.2.2.2.2.2.2.2.1), .d (.str r213_0.2.2.2.2.2.2.2.2.2.2.2.2.2.2.1), .d (.str r213_0.2.2.2.2.2.2.2.2.2.2.2.2.2.2.2.1), .d (.str r213_0.2.2.2.2.2.2.2.2.2.2.2.2.2.2.2.2.1), .d (.str r213_0.2.2.2.2.2.2.2.2.2.2.2.2.2.2.2.2.2.1), .d (.str r213_0.2.2.2.2.2.2.2.2.2.2.2.2.2.2.2.2.2.2.1), .d (.str r213_0.2.2.2.2.2.2.2.2.2.2.2.2.2.2.2.2.2.2.2.1), .d (.str r213_0.2.2.2.2.2.2.2.2.2.2.2.2.2.2.2.2.2.2.2.2.1), .d (.str r213_0.2.2.2.2.2.2.2.2.2.2.2.2.2.2.2.2.2.2.2.2.2.1), .d (.str r213_0.2.2.2.2.2.2.2.2.2.2.2.2.2.2.2.2.2.2.2.2.2.2.1), .d (.str r213_0.2.2.2.2.2.2.2.2.2.2.2.2.2.2.2.2.2.2.2.2.2.2.2.1), .d (.str r213_0.2.2.2.2.2.2.2.2.2.2.2.2.2.2.2.2.2.2.2.2.2.2.2.2.1), .d (.str r213_0.2.2.2.2.2.2.2.2.2.2.2.2.2.2.2.2.2.2.2.2.2.2.2.2.2.1), .d (.str r213_0.2.2.2.2.2.2.2.2.2.2.2.2.2.2.2.2.2.2.2.2.2.2.2.2.2.2.1), .d (.str r213_0.2.2.2.2.2.2.2.2.2.2.2.2.2.2.2.2.2.2.2.2.2.2.2.2.2.2.2.1), .d (.str r213_0.2.2.2.2.2.2.2.2.2.2.2.2.2.2.2.2.2.2.2.2.2.2.2.2.2.2.2.2.1), .d (.str r213_0.2.2.2.2.2.2.2.2.2.2.2.2.2.2.2.2.2.2.2.2.2.2.2.2.2.2.2.2.2.1), .d (.str r213_0.2.2.2.2.2.2.2.2.2.2.2.2.2.2.2.2.2.2.2.2.2.2.2.2.2.2.2.2.2.2.1), .d (.str r213_0.2.2.2.2.2.2.2.2.2.2.2.2.2.2.2.2.2.2.2.2.2.2.2.2.2.2.2.2.2.2.2.1), .d (.str r213_0.2.2.2.2.2.2.2.2.2.2.2.2.2.2.2.2.2.2.2.2.2.2.2.2.2.2.2.2.2.2.2.2.1), .d (.str r213_0.2.2.2.2.2.2.2.2.2.2.2.2.2.2.2.2.2.2.2.2.2.2.2.2.2.2.2.2.2.2.2.2.2)])), (11, oc (zi 0))], [], [(0, [zi 0, zi 0, zi 0, zi 0, zi 0, zi 0, .d (.sl .unit [])])], 1⟩ [FnOK Tryd.prog 70 (f70_script_shapes_in) (f70_script_shapes_out r213_0)] (by kernel_rfl) ⟨(f70_script_shapes_ok r213_0 cr213_0), trivial⟩ ?_
  obtain ⟨w260, cw260, h⟩ := bindS h
  refine f46_script_step_L2_ok n w_ r213_0.1 r213_0.2.1 r213_0.2.2.1 r213_0.2.2.2.1 r213_0.2.2.2.2.1 r213_0.2.2.2.2.2.1 r213_0.2.2.2.2.2.2.1 r213_0.2.2.2.2.2.2.2.1 r213_0.2.2.2.2.2.2.2.2.1 r213_0.2.2.2.2.2.2.2.2.2.1 r213_0.2.2.2.2.2.2.2.2.2.2.1 r213_0.2.2.2.2.2.2.2.2.2.2.2.1 r213_0.2.2.2.2.2.2.2.2.2.2.2.2.1 r213_0.2.2.2.2.2.2.2.2.2.2.2.2.2.1 r213_0.2.2.2.2.2.2.2.2.2.2.2.2.2.2.1 r213_0.2.2.2.2.2.2.2.2.2.2.2.2.2.2.2.1 r213_0.2.2.2.2.2.2.2.2.2.2.2.2.2.2.2.2.1 r213_0.2.2.2.2.2.2.2.2.2.2.2.2.2.2.2.2.2.1 r213_0.2.2.2.2.2.2.2.2.2.2.2.2.2.2.2.2.2.2.1 r213_0.2.2.2.2.2.2.2.2.2.2.2.2.2.2.2.2.2.2.2.1 r213_0.2.2.2.2.2.2.2.2.2.2.2.2.2.2.2.2.2.2.2.2.1 r213_0.2.2.2.2.2.2.2.2.2.2.2.2.2.2.2.2.2.2.2.2.2.1 r213_0.2.2.2.2.2.2.2.2.2.2.2.2.2.2.2.2.2.2.2.2.2.2.1 r213_0.2.2.2.2.2.2.2.2.2.2.2.2.2.2.2.2.2.2.2.2.2.2.2.1 r213_0.2.2.2.2.2.2.2.2.2.2.2.2.2.2.2.2.2.2.2.2.2.2.2.2.1 r213_0.2.2.2.2.2.2.2.2.2.2.2.2.2.2.2.2.2.2.2.2.2.2.2.2.2.1 r213_0.2.2.2.2.2.2.2.2.2.2.2.2.2.2.2.2.2.2.2.2.2.2.2.2.2.2.1 r213_0.2.2.2.2.2.2.2.2.2.2.2.2.2.2.2.2.2.2.2.2.2.2.2.2.2.2.2.1 r213_0.2.2.2.2.2.2.2.2.2.2.2.2.2.2.2.2.2.2.2.2.2.2.2.2.2.2.2.2.1 r213_0.2.2.2.2.2.2.2.2.2.2.2.2.2.2.2.2.2.2.2.2.2.2.2.2.2.2.2.2.2.1 r213_0.2.2.2.2.2.2.2.2.2.2.2.2.2.2.2.2.2.2.2.2.2.2.2.2.2.2.2.2.2.2.1 r213_0.2.2.2.2.2.2.2.2.2.2.2.2.2.2.2.2.2.2.2.2.2.2.2.2.2.2.2.2.2.2.2.1 r213_0.2.2.2.2.2.2.2.2.2.2.2.2.2.2.2.2.2.2.2.2.2.2.2.2.2.2.2.2.2.2.2.2.1 r213_0.2.2.2.2.2.2.2.2.2.2.2.2.2.2.2.2.2.2.2.2.2.2.2.2.2.2.2.2.2.2.2.2.2 0 0 0 0 0 0 0 w260 cw260 _ ?_
  rcases w260 with e261 | e262
  · have h := Option.some.inj h
    subst h
    rfl
  · show At Tryd.prog Tryd.f46 0 19 ⟨[(2, oc (.ptr 0 0))], [], [(0, [zi e262.1, zi e262.2.1, zi e262.2.2.1, zi e262.2.2.2.1, zi e262.2.2.2.2.1, zi e262.2.2.2.2.2, .d (.sl .unit [])])], 1⟩ _
    have h := Option.some.inj h
    subst h
    exact At.fin hm ht ⟨[], [], [.nil true 0 6 (.int .u8) (some 5)], [2, 3], [0, 4]⟩ [0 + 7 ≤ 7] (by kernel_rfl) ⟨(by decide), trivial⟩
/-! brougham/script.Parse -/
def f11_script_Parse_in (s : ByteArray) : Inn := ⟨[.c (.d (.str s))], [], [], 0⟩
def f11_script_Parse_out (r : (List (Int × Int × Int × Int × Int × Int × List Int)) × Int × Int) : Out := ⟨.tup [.c (.own 0 (.pair (.int .i64) (.pair (.int .i64) (.pair (.int .i64) (.pair (.int .i64) (.pair (.int .i64) (.pair (.int .i64) (.slice (.int .u8)))))))) r.1), .c (zi r.2.1), .c (zi r.2.2)], [(0, ⟨79, 0⟩)], [], 1⟩
def f11_script_Parse_L5 : Nat → (List (Int × Int × Int × Int × Int × Int × List Int)) → (List ByteArray) → Int → Int → Option (((List (Int × Int × Int × Int × Int × Int × List Int)) × Int × Int) ⊕ (List (Int × Int × Int × Int × Int × Int × List Int)))
  | 0, _, _, _, _ => none
  | n + 1, out, t15, t16, t17 =>
    if (decide ((t17 : Int) < t16)) = true then
      if (0 : Int) ≤ t17 ∧ t17 < (((t15).length : Nat) : Int) then
      (f15_num_Pieces n (t15.getD t17.toNat ByteArray.empty)).bind fun r296_0 =>
      if ((((r296_0.length : Nat) : Int) : Int) == 0) = true then
        f11_script_Parse_L5 n out t15 t16 (IntKind.wrap .i64 (t17 + 1))
      else
        (f46_script_step n r296_0).bind fun r299_0 =>
        if (!r299_0.1) = true then
          some (.inl ([], (IntKind.wrap .i64 (t17 + 1)), 230))
        else
          if ((((out.length : Nat) : Int) : Int) == 512) = true then
            some (.inl ([], (IntKind.wrap .i64 (t17 + 1)), 230))
          else
            if out.length + [r299_0.2].length ≤ maxLen ∧ (out.length + [r299_0.2].length) * 72 ≤ 140737488355328 then
            f11_script_Parse_L5 n (out ++ [r299_0.2]) t15 t16 (IntKind.wrap .i64 (t17 + 1))
            else none
      else none
    else
      some (.inr out)
def f11_script_Parse_L5_k (w : ((List (Int × Int × Int × Int × Int × Int × List Int)) × Int × Int) ⊕ (List (Int × Int × Int × Int × Int × Int × List Int))) (o : Out) : Prop := match w with
  | .inl e => o = f11_script_Parse_out e
  | .inr e => At Tryd.prog Tryd.f11 0 14 ⟨[(5, oc (.own 0 (.pair (.int .i64) (.pair (.int .i64) (.pair (.int .i64) (.pair (.int .i64) (.pair (.int .i64) (.pair (.int .i64) (.slice (.int .u8)))))))) e))], [(0, some ⟨79, 0⟩)], [], 1⟩ o
theorem f11_script_Parse_L5_ok (n : Nat) : ∀ (out : List (Int × Int × Int × Int × Int × Int × List Int)) (t15 : List ByteArray) (t16 : Int) (t17 : Int) (w : ((List (Int × Int × Int × Int × Int × Int × List Int)) × Int × Int) ⊕ (List (Int × Int × Int × Int × Int × Int × List Int))) (h : f11_script_Parse_L5 n out t15 t16 t17 = some w) (o : Out) (hk : f11_script_Parse_L5_k w o), At Tryd.prog Tryd.f11 0 5 ⟨[(5, oc (.own 0 (.pair (.int .i64) (.pair (.int .i64) (.pair (.int .i64) (.pair (.int .i64) (.pair (.int .i64) (.pair (.int .i64) (.slice (.int .u8)))))))) out)), (15, oc (.d (.sl .str t15))), (16, oc (zi t16)), (17, oc (zi t17))], [(0, some ⟨79, 0⟩)], [], 1⟩ o := by
  induction n with
  | zero => intro out t15 t16 t17 w h; rw [f11_script_Parse_L5] at h; cases h
  | succ n ih =>
    intro out t15 t16 t17 w h o hk
    rw [f11_script_Parse_L5] at h
    rcases iteS h with ⟨b294_e0, h⟩ | ⟨b294_e0, h⟩
    · refine At.step hm ht ⟨[], [true], [], [5, 15, 16, 17], [0]⟩ 6 ⟨[(5, oc (.own 0 (.pair (.int .i64) (.pair (.int .i64) (.pair (.int .i64) (.pair (.int .i64) (.pair (.int .i64) (.pair (.int .i64) (.slice (.int .u8)))))))) out)), (15, oc (.d (.sl .str t15))), (16, oc (zi t16)), (17, oc (zi t17))], [(0, some ⟨79, 0⟩)], [], 1⟩ [(decide ((t17 : Int) < t16)) = true] (by kernel_rfl) ⟨b294_e0, trivial⟩ ?_
      obtain ⟨g295_0, h⟩ := ifS h
      refine At.step hm ht ⟨[], [], [], [5, 6, 7, 15, 16, 17], [0]⟩ 7 ⟨[(5, oc (.own 0 (.pair (.int .i64) (.pair (.int .i64) (.pair (.int .i64) (.pair (.int .i64) (.pair (.int .i64) (.pair (.int .i64) (.slice (.int .u8)))))))) out)), (6, oc (zi t17)), (7, oc (.d (.str (t15.getD t17.toNat ByteArray.empty)))), (15, oc (.d (.sl .str t15))), (16, oc (zi t16)), (17, oc (zi t17))], [(0, some ⟨79, 0⟩)], [], 1⟩ [(0 : Int) ≤ t17 ∧ t17 < (((t15).length : Nat) : Int)] (by kernel_rfl) ⟨g295_0, trivial⟩ ?_
      obtain ⟨r296_0, cr296_0, h⟩ := bindS h
      refine At.step hm ht ⟨[(1, .call [] [] (f15_num_Pieces_out r296_0))], [], [], [5, 6, 8, 15, 16, 17], [0, 2]⟩ 8 ⟨[(5, oc (.own 0 (.pair (.int .i64) (.pair (.int .i64) (.pair (.int .i64) (.pair (.int .i64) (.pair (.int .i64) (.pair (.int .i64) (.slice (.int .u8)))))))) out)), (6, oc (zi t17)), (8, oc (.own 1 .str r296_0)), (15, oc (.d (.sl .str t15))), (16, oc (zi t16)), (17, oc (zi t17))], [(0, some ⟨79, 0⟩), (1, some ⟨9, 0⟩)], [], 2⟩ [FnOK Tryd.prog 15 (f15_num_Pieces_in (t15.getD t17.toNat ByteArray.empty)) (f15_num_Pieces_out r296_0)] (by kernel_rfl) ⟨(f15_num_Pieces_ok n (t15.getD t17.toNat ByteArray.empty) r296_0 cr296_0), trivial⟩ ?_
      rcases iteS h with ⟨b297_e0, h⟩ | ⟨b297_e0, h⟩
      · refine At.step hm ht ⟨[], [true], [], [5, 15, 16, 17], [0]⟩ 13 ⟨[(5, oc (.own 0 (.pair (.int .i64) (.pair (.int .i64) (.pair (.int .i64) (.pair (.int .i64) (.pair (.int .i64) (.pair (.int .i64) (.slice (.int .u8)))))))) out)), (15, oc (.d (.sl .str t15))), (16, oc (zi t16)), (17, oc (zi t17))], [(0, some ⟨79, 0⟩)], [], 1⟩ [((((r296_0.length : Nat) : Int) : Int) == 0) = true] (by kernel_rfl) ⟨b297_e0, trivial⟩ ?_
        refine At.step hm ht ⟨[], [], [], [5, 15, 16, 17], [0]⟩ 5 ⟨[(5, oc (.own 0 (.pair (.int .i64) (.pair (.int .i64) (.pair (.int .i64) (.pair (.int .i64) (.pair (.int .i64) (.pair (.int .i64) (.slice (.int .u8)))))))) out)), (15, oc (.d (.sl .str t15))), (16, oc (zi t16)), (17, oc (zi (IntKind.wrap .i64 (t17 + 1))))], [(0, some ⟨79, 0⟩)], [], 1⟩ [] (by kernel_rfl) trivial ?_
        exact ih out t15 t16 (IntKind.wrap .i64 (t17 + 1)) w h o hk
      · refine At.step hm ht ⟨[], [false], [], [5, 6, 8, 15, 16, 17], [0, 1]⟩ 9 ⟨[(5, oc (.own 0 (.pair (.int .i64) (.pair (.int .i64) (.pair (.int .i64) (.pair (.int .i64) (.pair (.int .i64) (.pair (.int .i64) (.slice (.int .u8)))))))) out)), (6, oc (zi t17)), (8, oc (.own 1 .str r296_0)), (15, oc (.d (.sl .str t15))), (16, oc (zi t16)), (17, oc (zi t17))], [(0, some ⟨79, 0⟩), (1, some ⟨9, 0⟩)], [], 2⟩ [((((r296_0.length : Nat) : Int) : Int) == 0) = false] (by kernel_rfl) ⟨b297_e0, trivial⟩ ?_
        obtain ⟨r299_0, cr299_0, h⟩ := bindS h
        refine At.step hm ht ⟨[(1, .call [] [] (f46_script_step_out r299_0))], [], [], [5, 6, 9, 10, 15, 16, 17], [0, 8, 4]⟩ 10 ⟨[(5, oc (.own 0 (.pair (.int .i64) (.pair (.int .i64) (.pair (.int .i64) (.pair (.int .i64) (.pair (.int .i64) (.pair (.int .i64) (.slice (.int .u8)))))))) out)), (6, oc (zi t17)), (9, oc (.ptr 1 0)), (10, oc (.d (.bool r299_0.1))), (15, oc (.d (.sl .str t15))), (16, oc (zi t16)), (17, oc (zi t17))], [(0, some ⟨79, 0⟩), (2, some ⟨5, 0⟩)], [(1, [zi r299_0.2.1, zi r299_0.2.2.1, zi r299_0.2.2.2.1, zi r299_0.2.2.2.2.1, zi r299_0.2.2.2.2.2.1, zi r299_0.2.2.2.2.2.2.1, .own 2 (.int .u8) r299_0.2.2.2.2.2.2.2])], 3⟩ [FnOK Tryd.prog 46 (f46_script_step_in r296_0) (f46_script_step_out r299_0), 0 + 7 ≤ 7] (by kernel_rfl) ⟨(f46_script_step_ok n r296_0 r299_0 cr299_0), (by decide), trivial⟩ ?_
        rcases iteS h with ⟨b300_2, h⟩ | ⟨b300_2, h⟩
        · refine At.step hm ht ⟨[(2, .b true)], [true], [], [6], []⟩ 11 ⟨[(6, oc (zi t17))], [], [], 0⟩ [(!r299_0.1) = true, true = true] (by kernel_rfl) ⟨b300_2, rfl, trivial⟩ ?_
          have h := Option.some.inj h
          subst h
          have hk : o = f11_script_Parse_out ([], (IntKind.wrap .i64 (t17 + 1)), 230) := hk
          subst hk
          exact At.fin hm ht ⟨[], [], [.nil false 2 0 (.pair (.int .i64) (.pair (.int .i64) (.pair (.int .i64) (.pair (.int .i64) (.pair (.int .i64) (.pair (.int .i64) (.slice (.int .u8)))))))) (some 79)], [2, 3, 4], [5]⟩ [] (by kernel_rfl) trivial
        · rcases iteS h with ⟨b300_e0, h⟩ | ⟨b300_e0, h⟩
          · refine At.step hm ht ⟨[(2, .b false)], [true], [], [6], []⟩ 11 ⟨[(6, oc (zi t17))], [], [], 0⟩ [(!r299_0.1) = false, ((((out.length : Nat) : Int) : Int) == 512) = true] (by kernel_rfl) ⟨b300_2, b300_e0, trivial⟩ ?_
            have h := Option.some.inj h
            subst h
            have hk : o = f11_script_Parse_out ([], (IntKind.wrap .i64 (t17 + 1)), 230) := hk
            subst hk
            exact At.fin hm ht ⟨[], [], [.nil false 2 0 (.pair (.int .i64) (.pair (.int .i64) (.pair (.int .i64) (.pair (.int .i64) (.pair (.int .i64) (.pair (.int .i64) (.slice (.int .u8)))))))) (some 79)], [2, 3, 4], [5]⟩ [] (by kernel_rfl) trivial
          · refine At.step hm ht ⟨[(2, .b false)], [false], [], [5, 9, 15, 16, 17], [0, 1, 2]⟩ 12 ⟨[(5, oc (.own 0 (.pair (.int .i64) (.pair (.int .i64) (.pair (.int .i64) (.pair (.int .i64) (.pair (.int .i64) (.pair (.int .i64) (.slice (.int .u8)))))))) out)), (9, oc (.ptr 1 0)), (15, oc (.d (.sl .str t15))), (16, oc (zi t16)), (17, oc (zi t17))], [(0, some ⟨79, 0⟩), (2, some ⟨5, 0⟩)], [(1, [zi r299_0.2.1, zi r299_0.2.2.1, zi r299_0.2.2.2.1, zi r299_0.2.2.2.2.1, zi r299_0.2.2.2.2.2.1, zi r299_0.2.2.2.2.2.2.1, .own 2 (.int .u8) r299_0.2.2.2.2.2.2.2])], 3⟩ [(!r299_0.1) = false, ((((out.length : Nat) : Int) : Int) == 512) = false] (by kernel_rfl) ⟨b300_2, b300_e0, trivial⟩ ?_
            obtain ⟨g303_0, h⟩ := ifS h
            refine At.step hm ht ⟨[], [], [], [5, 15, 16, 17], [6]⟩ 13 ⟨[(5, oc (.own 0 (.pair (.int .i64) (.pair (.int .i64) (.pair (.int .i64) (.pair (.int .i64) (.pair (.int .i64) (.pair (.int .i64) (.slice (.int .u8)))))))) (out ++ [r299_0.2]))), (15, oc (.d (.sl .str t15))), (16, oc (zi t16)), (17, oc (zi t17))], [(0, some ⟨79, 0⟩)], [], 1⟩ [out.length + [r299_0.2].length ≤ maxLen ∧ (out.length + [r299_0.2].length) * 72 ≤ 140737488355328] (by kernel_rfl) ⟨g303_0, trivial⟩ ?_
            refine At.step hm ht ⟨[], [], [], [5, 15, 16, 17], [0]⟩ 5 ⟨[(5, oc (.own 0 (.pair (.int .i64) (.pair (.int .i64) (.pair (.int .i64) (.pair (.int .i64) (.pair (.int .i64) (.pair (.int .i64) (.slice (.int .u8)))))))) (out ++ [r299_0.2]))), (15, oc (.d (.sl .str t15))), (16, oc (zi t16)), (17, oc (zi (IntKind.wrap .i64 (t17 + 1))))], [(0, some ⟨79, 0⟩)], [], 1⟩ [] (by kernel_rfl) trivial ?_
            exact ih (out ++ [r299_0.2]) t15 t16 (IntKind.wrap .i64 (t17 + 1)) w h o hk
    · refine At.step hm ht ⟨[], [false], [], [5], [0]⟩ 14 ⟨[(5, oc (.own 0 (.pair (.int .i64) (.pair (.int .i64) (.pair (.int .i64) (.pair (.int .i64) (.pair (.int .i64) (.pair (.int .i64) (.slice (.int .u8)))))))) out))], [(0, some ⟨79, 0⟩)], [], 1⟩ [(decide ((t17 : Int) < t16)) = false] (by kernel_rfl) ⟨b294_e0, trivial⟩ ?_
      have h := Option.some.inj h
      subst h
      exact hk
def f11_script_Parse (n : Nat) (s : ByteArray) : Option ((List (Int × Int × Int × Int × Int × Int × List Int)) × Int × Int) :=
  if (decide ((((s.size : Nat) : Int) : Int) > 65536)) = true then
    some ([], 0, 230)
  else
    (f45_strings_Split s (⟨#[10]⟩ : ByteArray)).bind fun r293_0 =>
    (f11_script_Parse_L5 n [] r293_0 ((r293_0.length : Nat) : Int) 0).bind fun w305 =>
    match w305 with
    | .inl e306 =>
      some (e306.1, e306.2.1, e306.2.2)
    | .inr e307 =>
      some (e307, 0, 0)
theorem f11_script_Parse_ok (n : Nat) (s : ByteArray) (r : (List (Int × Int × Int × Int × Int × Int × List Int)) × Int × Int) (h : f11_script_Parse n s = some r) : FnOK Tryd.prog 11 (f11_script_Parse_in s) (f11_script_Parse_out r) := by
  unfold f11_script_Parse at h
  refine At.fn (r := 0) Tryd.func11 rfl (by kernel_rfl) rfl rfl (by kernel_rfl) ?_
  show At Tryd.prog Tryd.f11 0 0 ⟨[(0, oc (.d (.str s)))], [], [], 0⟩ _
  refine At.step hm ht ⟨[], [], [], [0], []⟩ 1 ⟨[(0, oc (.d (.str s)))], [], [], 0⟩ [] (by kernel_rfl) trivial ?_
  rcases iteS h with ⟨b290_e0, h⟩ | ⟨b290_e0, h⟩
  · refine At.step hm ht ⟨[], [true], [], [], []⟩ 2 ⟨[], [], [], 0⟩ [(decide ((((s.size : Nat) : Int) : Int) > 65536)) = true] (by kernel_rfl) ⟨b290_e0, trivial⟩ ?_
    have h := Option.some.inj h
    subst h
    exact At.fin hm ht ⟨[], [], [.nil false 2 0 (.pair (.int .i64) (.pair (.int .i64) (.pair (.int .i64) (.pair (.int .i64) (.pair (.int .i64) (.pair (.int .i64) (.slice (.int .u8)))))))) (some 79)], [2, 3, 4], [3]⟩ [] (by kernel_rfl) trivial
  · refine At.step hm ht ⟨[], [false], [], [0], []⟩ 3 ⟨[(0, oc (.d (.str s)))], [], [], 0⟩ [(decide ((((s.size : Nat) : Int) : Int) > 65536)) = false] (by kernel_rfl) ⟨b290_e0, trivial⟩ ?_
    refine At.step hm ht ⟨[], [], [], [0, 5], []⟩ 4 ⟨[(0, oc (.d (.str s))), (5, oc (.d (.sl .unit [])))], [], [], 0⟩ [] (by kernel_rfl) trivial ?_
    obtain ⟨r293_0, cr293_0, h⟩ := bindS h
    refine At.step hm ht ⟨[(1, .call [] [] (f45_strings_Split_out r293_0))], [], [.nil false 5 0 (.pair (.int .i64) (.pair (.int .i64) (.pair (.int .i64) (.pair (.int .i64) (.pair (.int .i64) (.pair (.int .i64) (.slice (.int .u8)))))))) (some 79)], [5, 15, 16, 17], [3]⟩ 5 ⟨[(5, oc (.own 0 (.pair (.int .i64) (.pair (.int .i64) (.pair (.int .i64) (.pair (.int .i64) (.pair (.int .i64) (.pair (.int .i64) (.slice (.int .u8)))))))) [])), (15, oc (.d (.sl .str r293_0))), (16, oc (zi ((r293_0.length : Nat) : Int))), (17, oc (zi 0))], [(0, some ⟨79, 0⟩)], [], 1⟩ [FnOK Tryd.prog 45 (f45_strings_Split_in s (⟨#[10]⟩ : ByteArray)) (f45_strings_Split_out r293_0)] (by kernel_rfl) ⟨(f45_strings_Split_ok s (⟨#[10]⟩ : ByteArray) r293_0 cr293_0), trivial⟩ ?_
    obtain ⟨w305, cw305, h⟩ := bindS h
    refine f11_script_Parse_L5_ok n [] r293_0 ((r293_0.length : Nat) : Int) 0 w305 cw305 _ ?_
    rcases w305 with e306 | e307
    · have h := Option.some.inj h
      subst h
      rfl
    · show At Tryd.prog Tryd.f11 0 14 ⟨[(5, oc (.own 0 (.pair (.int .i64) (.pair (.int .i64) (.pair (.int .i64) (.pair (.int .i64) (.pair (.int .i64) (.pair (.int .i64) (.slice (.int .u8)))))))) e307))], [(0, some ⟨79, 0⟩)], [], 1⟩ _
      have h := Option.some.inj h
      subst h
      exact At.fin hm ht ⟨[], [], [], [2, 3, 4], [0]⟩ [] (by kernel_rfl) trivial
/-! brougham/broughamref01.Lines -/
def f47_broughamref01_Lines_in (s : ByteArray) : Inn := ⟨[.c (.d (.str s))], [], [], 0⟩
def f47_broughamref01_Lines_out (r : List ByteArray) : Out := ⟨oc (.own 0 .str r), [(0, ⟨9, 0⟩)], [], 1⟩
def f47_broughamref01_Lines_L4 : Nat → ByteArray → (List ByteArray) → Int → Int → Option (ByteArray × List ByteArray × Int)
  | 0, _, _, _, _ => none
  | n + 1, s, out, from_, i =>
    if (decide ((i : Int) < ((s.size : Nat) : Int))) = true then
      if (0 : Int) ≤ i ∧ i < (((s).size : Nat) : Int) then
      if (((byteAt s i) : Int) == 10) = true then
        if cutOk s.size (some from_) (some i) none then
        if out.length + [(s.extract from_.toNat i.toNat)].length ≤ maxLen ∧ (out.length + [(s.extract from_.toNat i.toNat)].length) * 16 ≤ 140737488355328 then
        f47_broughamref01_Lines_L4 n s (out ++ [(s.extract from_.toNat i.toNat)]) (IntKind.wrap .i64 (i + 1)) (IntKind.wrap .i64 (i + 1))
        else none
        else none
      else
        f47_broughamref01_Lines_L4 n s out from_ (IntKind.wrap .i64 (i + 1))
      else none
    else
      some ((s, out, from_))
def f47_broughamref01_Lines_L4_k (e : ByteArray × List ByteArray × Int) (o : Out) : Prop := At Tryd.prog Tryd.f47 0 9 ⟨[(0, oc (.d (.str e.1))), (3, oc (.own 0 .str e.2.1)), (4, oc (zi e.2.2))], [(0, some ⟨9, 0⟩)], [], 1⟩ o
theorem f47_broughamref01_Lines_L4_ok (n : Nat) : ∀ (s : ByteArray) (out : List ByteArray) (from_ : Int) (i : Int) (w : ByteArray × List ByteArray × Int) (h : f47_broughamref01_Lines_L4 n s out from_ i = some w) (o : Out) (hk : f47_broughamref01_Lines_L4_k w o), At Tryd.prog Tryd.f47 0 4 ⟨[(0, oc (.d (.str s))), (3, oc (.own 0 .str out)), (4, oc (zi from_)), (5, oc (zi i))], [(0, some ⟨9, 0⟩)], [], 1⟩ o := by
  induction n with
  | zero => intro s out from_ i w h; rw [f47_broughamref01_Lines_L4] at h; cases h
  | succ n ih =>
    intro s out from_ i w h o hk
    rw [f47_broughamref01_Lines_L4] at h
    rcases iteS h with ⟨b328_e0, h⟩ | ⟨b328_e0, h⟩
    · refine At.step hm ht ⟨[], [true], [], [0, 3, 4, 5], [0]⟩ 6 ⟨[(0, oc (.d (.str s))), (3, oc (.own 0 .str out)), (4, oc (zi from_)), (5, oc (zi i))], [(0, some ⟨9, 0⟩)], [], 1⟩ [(decide ((i : Int) < ((s.size : Nat) : Int))) = true] (by kernel_rfl) ⟨b328_e0, trivial⟩ ?_
      obtain ⟨g329_0, h⟩ := ifS h
      rcases iteS h with ⟨b329_e0, h⟩ | ⟨b329_e0, h⟩
      · refine At.step hm ht ⟨[], [true], [], [0, 3, 4, 5], [0]⟩ 7 ⟨[(0, oc (.d (.str s))), (3, oc (.own 0 .str out)), (4, oc (zi from_)), (5, oc (zi i))], [(0, some ⟨9, 0⟩)], [], 1⟩ [(0 : Int) ≤ i ∧ i < (((s).size : Nat) : Int), (((byteAt s i) : Int) == 10) = true] (by kernel_rfl) ⟨g329_0, b329_e0, trivial⟩ ?_
        obtain ⟨g330_0, h⟩ := ifS h
        obtain ⟨g330_1, h⟩ := ifS h
        refine At.step hm ht ⟨[], [], [], [0, 3, 5], [7]⟩ 8 ⟨[(0, oc (.d (.str s))), (3, oc (.own 0 .str (out ++ [(s.extract from_.toNat i.toNat)]))), (5, oc (zi i))], [(0, some ⟨9, 0⟩)], [], 1⟩ [cutOk s.size (some from_) (some i) none, out.length + [(s.extract from_.toNat i.toNat)].length ≤ maxLen ∧ (out.length + [(s.extract from_.toNat i.toNat)].length) * 16 ≤ 140737488355328] (by kernel_rfl) ⟨g330_0, g330_1, trivial⟩ ?_
        refine At.step hm ht ⟨[], [], [], [0, 3, 4, 5], [0]⟩ 5 ⟨[(0, oc (.d (.str s))), (3, oc (.own 0 .str (out ++ [(s.extract from_.toNat i.toNat)]))), (4, oc (zi (IntKind.wrap .i64 (i + 1)))), (5, oc (zi i))], [(0, some ⟨9, 0⟩)], [], 1⟩ [] (by kernel_rfl) trivial ?_
        refine At.step hm ht ⟨[], [], [], [0, 3, 4, 5], [0]⟩ 4 ⟨[(0, oc (.d (.str s))), (3, oc (.own 0 .str (out ++ [(s.extract from_.toNat i.toNat)]))), (4, oc (zi (IntKind.wrap .i64 (i + 1)))), (5, oc (zi (IntKind.wrap .i64 (i + 1))))], [(0, some ⟨9, 0⟩)], [], 1⟩ [] (by kernel_rfl) trivial ?_
        exact ih s (out ++ [(s.extract from_.toNat i.toNat)]) (IntKind.wrap .i64 (i + 1)) (IntKind.wrap .i64 (i + 1)) w h o hk
      · refine At.step hm ht ⟨[], [false], [], [0, 3, 4, 5], [0]⟩ 5 ⟨[(0, oc (.d (.str s))), (3, oc (.own 0 .str out)), (4, oc (zi from_)), (5, oc (zi i))], [(0, some ⟨9, 0⟩)], [], 1⟩ [(0 : Int) ≤ i ∧ i < (((s).size : Nat) : Int), (((byteAt s i) : Int) == 10) = false] (by kernel_rfl) ⟨g329_0, b329_e0, trivial⟩ ?_
        refine At.step hm ht ⟨[], [], [], [0, 3, 4, 5], [0]⟩ 4 ⟨[(0, oc (.d (.str s))), (3, oc (.own 0 .str out)), (4, oc (zi from_)), (5, oc (zi (IntKind.wrap .i64 (i + 1))))], [(0, some ⟨9, 0⟩)], [], 1⟩ [] (by kernel_rfl) trivial ?_
        exact ih s out from_ (IntKind.wrap .i64 (i + 1)) w h o hk
    · refine At.step hm ht ⟨[], [false], [], [0, 3, 4], [0]⟩ 9 ⟨[(0, oc (.d (.str s))), (3, oc (.own 0 .str out)), (4, oc (zi from_))], [(0, some ⟨9, 0⟩)], [], 1⟩ [(decide ((i : Int) < ((s.size : Nat) : Int))) = false] (by kernel_rfl) ⟨b328_e0, trivial⟩ ?_
      have h := Option.some.inj h
      subst h
      exact hk
def f47_broughamref01_Lines (n : Nat) (s : ByteArray) : Option (List ByteArray) :=
  (f47_broughamref01_Lines_L4 n s [] 0 0).bind fun w334 =>
  if cutOk w334.1.size (some w334.2.2) none none then
  if w334.2.1.length + [(w334.1.extract w334.2.2.toNat w334.1.size)].length ≤ maxLen ∧ (w334.2.1.length + [(w334.1.extract w334.2.2.toNat w334.1.size)].length) * 16 ≤ 140737488355328 then
  some (w334.2.1 ++ [(w334.1.extract w334.2.2.toNat w334.1.size)])
  else none
  else none
theorem f47_broughamref01_Lines_ok (n : Nat) (s : ByteArray) (r : List ByteArray) (h : f47_broughamref01_Lines n s = some r) : FnOK Tryd.prog 47 (f47_broughamref01_Lines_in s) (f47_broughamref01_Lines_out r) := by
  unfold f47_broughamref01_Lines at h
  refine At.fn (r := 0) Tryd.func47 rfl (by kernel_rfl) rfl rfl (by kernel_rfl) ?_
  show At Tryd.prog Tryd.f47 0 0 ⟨[(0, oc (.d (.str s)))], [], [], 0⟩ _
  refine At.step hm ht ⟨[], [], [], [0], []⟩ 1 ⟨[(0, oc (.d (.str s)))], [], [], 0⟩ [] (by kernel_rfl) trivial ?_
  refine At.step hm ht ⟨[], [], [], [0, 3], []⟩ 2 ⟨[(0, oc (.d (.str s))), (3, oc (.d (.sl .unit [])))], [], [], 0⟩ [] (by kernel_rfl) trivial ?_
  refine At.step hm ht ⟨[], [], [], [0, 3, 4], []⟩ 3 ⟨[(0, oc (.d (.str s))), (3, oc (.d (.sl .unit []))), (4, oc (zi 0))], [], [], 0⟩ [] (by kernel_rfl) trivial ?_
  refine At.step hm ht ⟨[], [], [.nil false 3 0 .str (some 9)], [0, 3, 4, 5], [1]⟩ 4 ⟨[(0, oc (.d (.str s))), (3, oc (.own 0 .str [])), (4, oc (zi 0)), (5, oc (zi 0))], [(0, some ⟨9, 0⟩)], [], 1⟩ [] (by kernel_rfl) trivial ?_
  obtain ⟨w334, cw334, h⟩ := bindS h
  refine f47_broughamref01_Lines_L4_ok n s [] 0 0 w334 cw334 _ ?_
  show At Tryd.prog Tryd.f47 0 9 ⟨[(0, oc (.d (.str w334.1))), (3, oc (.own 0 .str w334.2.1)), (4, oc (zi w334.2.2))], [(0, some ⟨9, 0⟩)], [], 1⟩ _
  obtain ⟨g336_0, h⟩ := ifS h
  obtain ⟨g336_1, h⟩ := ifS h
  have h := Option.some.inj h
  subst h
  exact At.fin hm ht ⟨[], [], [], [2], [6]⟩ [cutOk w334.1.size (some w334.2.2) none none, w334.2.1.length + [(w334.1.extract w334.2.2.toNat w334.1.size)].length ≤ maxLen ∧ (w334.2.1.length + [(w334.1.extract w334.2.2.toNat w334.1.size)].length) * 16 ≤ 140737488355328] (by kernel_rfl) ⟨g336_0, g336_1, trivial⟩
/-! brougham/broughamref01.Pieces -/
def f19_broughamref01_Pieces_in (s : ByteArray) : Inn := ⟨[.c (.d (.str s))], [], [], 0⟩
def f19_broughamref01_Pieces_out (r : List ByteArray) : Out := ⟨oc (.own 0 .str r), [(0, ⟨9, 0⟩)], [], 1⟩
def f19_broughamref01_Pieces_L4 : Nat → ByteArray → (List ByteArray) → ByteArray → Int → Option (List ByteArray × ByteArray)
  | 0, _, _, _, _ => none
  | n + 1, s, out, now, i =>
    if (decide ((i : Int) < ((s.size : Nat) : Int))) = true then
      if (0 : Int) ≤ i ∧ i < (((s).size : Nat) : Int) then
      if (((byteAt s i) : Int) != 35) = true then
        if (0 : Int) ≤ i ∧ i < (((s).size : Nat) : Int) then
        if (((byteAt s i) : Int) != 32) = true then
          if cutOk s.size (some i) (some (IntKind.wrap .i64 (i + 1))) none then
          if now.size + (s.extract i.toNat (IntKind.wrap .i64 (i + 1)).toNat).size ≤ 9223372036854775807 then
          f19_broughamref01_Pieces_L4 n s out (now ++ (s.extract i.toNat (IntKind.wrap .i64 (i + 1)).toNat)) (IntKind.wrap .i64 (i + 1))
          else none
          else none
        else
          if (!(now.toList == (⟨#[]⟩ : ByteArray).toList)) = true then
            if out.length + [now].length ≤ maxLen ∧ (out.length + [now].length) * 16 ≤ 140737488355328 then
            f19_broughamref01_Pieces_L4 n s (out ++ [now]) (⟨#[]⟩ : ByteArray) (IntKind.wrap .i64 (i + 1))
            else none
          else
            f19_broughamref01_Pieces_L4 n s out (⟨#[]⟩ : ByteArray) (IntKind.wrap .i64 (i + 1))
        else none
      else
        some ((out, now))
      else none
    else
      some ((out, now))
def f19_broughamref01_Pieces_L4_k (e : List ByteArray × ByteArray) (o : Out) : Prop := At Tryd.prog Tryd.f19 0 11 ⟨[(3, oc (.own 0 .str e.1)), (4, oc (.d (.str e.2)))], [(0, some ⟨9, 0⟩)], [], 1⟩ o
theorem f19_broughamref01_Pieces_L4_ok (n : Nat) : ∀ (s : ByteArray) (out : List ByteArray) (now : ByteArray) (i : Int) (w : List ByteArray × ByteArray) (h : f19_broughamref01_Pieces_L4 n s out now i = some w) (o : Out) (hk : f19_broughamref01_Pieces_L4_k w o), At Tryd.prog Tryd.f19 0 4 ⟨[(0, oc (.d (.str s))), (3, oc (.own 0 .str out)), (4, oc (.d (.str now))), (5, oc (zi i))], [(0, some ⟨9, 0⟩)], [], 1⟩ o := by
  induction n with
  | zero => intro s out now i w h; rw [f19_broughamref01_Pieces_L4] at h; cases h
  | succ n ih =>
    intro s out now i w h o hk
    rw [f19_broughamref01_Pieces_L4] at h
    rcases iteS h with ⟨b356_4, h⟩ | ⟨b356_4, h⟩
    · obtain ⟨g356_0, h⟩ := ifS h
      rcases iteS h with ⟨b356_e0, h⟩ | ⟨b356_e0, h⟩
      · refine At.step hm ht ⟨[(4, .b true)], [true], [], [0, 3, 4, 5], [0]⟩ 6 ⟨[(0, oc (.d (.str s))), (3, oc (.own 0 .str out)), (4, oc (.d (.str now))), (5, oc (zi i))], [(0, some ⟨9, 0⟩)], [], 1⟩ [(decide ((i : Int) < ((s.size : Nat) : Int))) = true, (0 : Int) ≤ i ∧ i < (((s).size : Nat) : Int), (((byteAt s i) : Int) != 35) = true] (by kernel_rfl) ⟨b356_4, g356_0, b356_e0, trivial⟩ ?_
        obtain ⟨g357_0, h⟩ := ifS h
        rcases iteS h with ⟨b357_e0, h⟩ | ⟨b357_e0, h⟩
        · refine At.step hm ht ⟨[], [true], [], [0, 3, 4, 5], [0]⟩ 7 ⟨[(0, oc (.d (.str s))), (3, oc (.own 0 .str out)), (4, oc (.d (.str now))), (5, oc (zi i))], [(0, some ⟨9, 0⟩)], [], 1⟩ [(0 : Int) ≤ i ∧ i < (((s).size : Nat) : Int), (((byteAt s i) : Int) != 32) = true] (by kernel_rfl) ⟨g357_0, b357_e0, trivial⟩ ?_
          obtain ⟨g358_0, h⟩ := ifS h
          obtain ⟨g358_1, h⟩ := ifS h
          refine At.step hm ht ⟨[], [], [], [0, 3, 4, 5], [0]⟩ 5 ⟨[(0, oc (.d (.str s))), (3, oc (.own 0 .str out)), (4, oc (.d (.str (now ++ (s.extract i.toNat (IntKind.wrap .i64 (i + 1)).toNat))))), (5, oc (zi i))], [(0, some ⟨9, 0⟩)], [], 1⟩ [cutOk s.size (some i) (some (IntKind.wrap .i64 (i + 1))) none, now.size + (s.extract i.toNat (IntKind.wrap .i64 (i + 1)).toNat).size ≤ 9223372036854775807] (by kernel_rfl) ⟨g358_0, g358_1, trivial⟩ ?_
          refine At.step hm ht ⟨[], [], [], [0, 3, 4, 5], [0]⟩ 4 ⟨[(0, oc (.d (.str s))), (3, oc (.own 0 .str out)), (4, oc (.d (.str (now ++ (s.extract i.toNat (IntKind.wrap .i64 (i + 1)).toNat))))), (5, oc (zi (IntKind.wrap .i64 (i + 1))))], [(0, some ⟨9, 0⟩)], [], 1⟩ [] (by kernel_rfl) trivial ?_
          exact ih s out (now ++ (s.extract i.toNat (IntKind.wrap .i64 (i + 1)).toNat)) (IntKind.wrap .i64 (i + 1)) w h o hk
        · refine At.step hm ht ⟨[], [false], [], [0, 3, 4, 5], [0]⟩ 8 ⟨[(0, oc (.d (.str s))), (3, oc (.own 0 .str out)), (4, oc (.d (.str now))), (5, oc (zi i))], [(0, some ⟨9, 0⟩)], [], 1⟩ [(0 : Int) ≤ i ∧ i < (((s).size : Nat) : Int), (((byteAt s i) : Int) != 32) = false] (by kernel_rfl) ⟨g357_0, b357_e0, trivial⟩ ?_
          rcases iteS h with ⟨b360_e0, h⟩ | ⟨b360_e0, h⟩
          · refine At.step hm ht ⟨[], [true], [], [0, 3, 4, 5], [0]⟩ 9 ⟨[(0, oc (.d (.str s))), (3, oc (.own 0 .str out)), (4, oc (.d (.str now))), (5, oc (zi i))], [(0, some ⟨9, 0⟩)], [], 1⟩ [(!(now.toList == (⟨#[]⟩ : ByteArray).toList)) = true] (by kernel_rfl) ⟨b360_e0, trivial⟩ ?_
            obtain ⟨g361_0, h⟩ := ifS h
            refine At.step hm ht ⟨[], [], [], [0, 3, 5], [4]⟩ 10 ⟨[(0, oc (.d (.str s))), (3, oc (.own 0 .str (out ++ [now]))), (5, oc (zi i))], [(0, some ⟨9, 0⟩)], [], 1⟩ [out.length + [now].length ≤ maxLen ∧ (out.length + [now].length) * 16 ≤ 140737488355328] (by kernel_rfl) ⟨g361_0, trivial⟩ ?_
            refine At.step hm ht ⟨[], [], [], [0, 3, 4, 5], [0]⟩ 5 ⟨[(0, oc (.d (.str s))), (3, oc (.own 0 .str (out ++ [now]))), (4, oc (.d (.str (⟨#[]⟩ : ByteArray)))), (5, oc (zi i))], [(0, some ⟨9, 0⟩)], [], 1⟩ [] (by kernel_rfl) trivial ?_
            refine At.step hm ht ⟨[], [], [], [0, 3, 4, 5], [0]⟩ 4 ⟨[(0, oc (.d (.str s))), (3, oc (.own 0 .str (out ++ [now]))), (4, oc (.d (.str (⟨#[]⟩ : ByteArray)))), (5, oc (zi (IntKind.wrap .i64 (i + 1))))], [(0, some ⟨9, 0⟩)], [], 1⟩ [] (by kernel_rfl) trivial ?_
            exact ih s (out ++ [now]) (⟨#[]⟩ : ByteArray) (IntKind.wrap .i64 (i + 1)) w h o hk
          · refine At.step hm ht ⟨[], [false], [], [0, 3, 5], [0]⟩ 10 ⟨[(0, oc (.d (.str s))), (3, oc (.own 0 .str out)), (5, oc (zi i))], [(0, some ⟨9, 0⟩)], [], 1⟩ [(!(now.toList == (⟨#[]⟩ : ByteArray).toList)) = false] (by kernel_rfl) ⟨b360_e0, trivial⟩ ?_
            refine At.step hm ht ⟨[], [], [], [0, 3, 4, 5], [0]⟩ 5 ⟨[(0, oc (.d (.str s))), (3, oc (.own 0 .str out)), (4, oc (.d (.str (⟨#[]⟩ : ByteArray)))), (5, oc (zi i))], [(0, some ⟨9, 0⟩)], [], 1⟩ [] (by kernel_rfl) trivial ?_
            refine At.step hm ht ⟨[], [], [], [0, 3, 4, 5], [0]⟩ 4 ⟨[(0, oc (.d (.str s))), (3, oc (.own 0 .str out)), (4, oc (.d (.str (⟨#[]⟩ : ByteArray)))), (5, oc (zi (IntKind.wrap .i64 (i + 1))))], [(0, some ⟨9, 0⟩)], [], 1⟩ [] (by kernel_rfl) trivial ?_
            exact ih s out (⟨#[]⟩ : ByteArray) (IntKind.wrap .i64 (i + 1)) w h o hk
      · refine At.step hm ht ⟨[(4, .b true)], [false], [], [3, 4], [0]⟩ 11 ⟨[(3, oc (.own 0 .str out)), (4, oc (.d (.str now)))], [(0, some ⟨9, 0⟩)], [], 1⟩ [(decide ((i : Int) < ((s.size : Nat) : Int))) = true, (0 : Int) ≤ i ∧ i < (((s).size : Nat) : Int), (((byteAt s i) : Int) != 35) = false] (by kernel_rfl) ⟨b356_4, g356_0, b356_e0, trivial⟩ ?_
        have h := Option.some.inj h
        subst h
        exact hk
    · refine At.step hm ht ⟨[(4, .b false)], [false], [], [3, 4], [0]⟩ 11 ⟨[(3, oc (.own 0 .str out)), (4, oc (.d (.str now)))], [(0, some ⟨9, 0⟩)], [], 1⟩ [(decide ((i : Int) < ((s.size : Nat) : Int))) = false, false = false] (by kernel_rfl) ⟨b356_4, rfl, trivial⟩ ?_
      have h := Option.some.inj h
      subst h
      exact hk
def f19_broughamref01_Pieces (n : Nat) (s : ByteArray) : Option (List ByteArray) :=
  (f19_broughamref01_Pieces_L4 n s [] (⟨#[]⟩ : ByteArray) 0).bind fun w366 =>
  if (!(w366.2.toList == (⟨#[]⟩ : ByteArray).toList)) = true then
    if w366.1.length + [w366.2].length ≤ maxLen ∧ (w366.1.length + [w366.2].length) * 16 ≤ 140737488355328 then
    some (w366.1 ++ [w366.2])
    else none
  else
    some w366.1
theorem f19_broughamref01_Pieces_ok (n : Nat) (s : ByteArray) (r : List ByteArray) (h : f19_broughamref01_Pieces n s = some r) : FnOK Tryd.prog 19 (f19_broughamref01_Pieces_in s) (f19_broughamref01_Pieces_out r) := by
  unfold f19_broughamref01_Pieces at h
  refine At.fn (r := 0) Tryd.func19 rfl (by kernel_rfl) rfl rfl (by kernel_rfl) ?_
  show At Tryd.prog Tryd.f19 0 0 ⟨[(0, oc (.d (.str s)))], [], [], 0⟩ _
  refine At.step hm ht ⟨[], [], [], [0], []⟩ 1 ⟨[(0, oc (.d (.str s)))], [], [], 0⟩ [] (by kernel_rfl) trivial ?_
  refine At.step hm ht ⟨[], [], [], [0, 3], []⟩ 2 ⟨[(0, oc (.d (.str s))), (3, oc (.d (.sl .unit [])))], [], [], 0⟩ [] (by kernel_rfl) trivial ?_
  refine At.step hm ht ⟨[], [], [], [0, 3, 4], []⟩ 3 ⟨[(0, oc (.d (.str s))), (3, oc (.d (.sl .unit []))), (4, oc (.d (.str (⟨#[]⟩ : ByteArray))))], [], [], 0⟩ [] (by kernel_rfl) trivial ?_
  refine At.step hm ht ⟨[], [], [.nil false 3 0 .str (some 9)], [0, 3, 4, 5], [1]⟩ 4 ⟨[(0, oc (.d (.str s))), (3, oc (.own 0 .str [])), (4, oc (.d (.str (⟨#[]⟩ : ByteArray)))), (5, oc (zi 0))], [(0, some ⟨9, 0⟩)], [], 1⟩ [] (by kernel_rfl) trivial ?_
  obtain ⟨w366, cw366, h⟩ := bindS h
  refine f19_broughamref01_Pieces_L4_ok n s [] (⟨#[]⟩ : ByteArray) 0 w366 cw366 _ ?_
  show At Tryd.prog Tryd.f19 0 11 ⟨[(3, oc (.own 0 .str w366.1)), (4, oc (.d (.str w366.2)))], [(0, some ⟨9, 0⟩)], [], 1⟩ _
  rcases iteS h with ⟨b368_e0, h⟩ | ⟨b368_e0, h⟩
  · refine At.step hm ht ⟨[], [true], [], [3, 4], [0]⟩ 12 ⟨[(3, oc (.own 0 .str w366.1)), (4, oc (.d (.str w366.2)))], [(0, some ⟨9, 0⟩)], [], 1⟩ [(!(w366.2.toList == (⟨#[]⟩ : ByteArray).toList)) = true] (by kernel_rfl) ⟨b368_e0, trivial⟩ ?_
    obtain ⟨g369_0, h⟩ := ifS h
    refine At.step hm ht ⟨[], [], [], [3], [4]⟩ 13 ⟨[(3, oc (.own 0 .str (w366.1 ++ [w366.2])))], [(0, some ⟨9, 0⟩)], [], 1⟩ [w366.1.length + [w366.2].length ≤ maxLen ∧ (w366.1.length + [w366.2].length) * 16 ≤ 140737488355328] (by kernel_rfl) ⟨g369_0, trivial⟩ ?_
    have h := Option.some.inj h
    subst h
    exact At.fin hm ht ⟨[], [], [], [2], [0]⟩ [] (by kernel_rfl) trivial
  · refine At.step hm ht ⟨[], [false], [], [3], [0]⟩ 13 ⟨[(3, oc (.own 0 .str w366.1))], [(0, some ⟨9, 0⟩)], [], 1⟩ [(!(w366.2.toList == (⟨#[]⟩ : ByteArray).toList)) = false] (by kernel_rfl) ⟨b368_e0, trivial⟩ ?_
    have h := Option.some.inj h
    subst h
    exact At.fin hm ht ⟨[], [], [], [2], [0]⟩ [] (by kernel_rfl) trivial
/-! brougham/broughamref25.word -/
def f73_broughamref25_word_in (kind : Int) : Inn := ⟨[.c (zi kind)], [], [], 0⟩
def f73_broughamref25_word_out (r : ByteArray × ByteArray) : Out := ⟨.tup [.c (.d (.str r.1)), .c (.d (.str r.2))], [], [], 0⟩
def f73_broughamref25_word (kind : Int) : Option (ByteArray × ByteArray) :=
  if (decide ((kind : Int) < 1)) = true then
    some ((⟨#[]⟩ : ByteArray), (⟨#[]⟩ : ByteArray))
  else
    if (decide ((kind : Int) > 16)) = true then
      some ((⟨#[]⟩ : ByteArray), (⟨#[]⟩ : ByteArray))
    else
      if (0 : Int) ≤ kind ∧ kind < ((([(⟨#[]⟩ : ByteArray), (⟨#[108, 105, 115, 116, 101, 110]⟩ : ByteArray), (⟨#[99, 111, 110, 110, 101, 99, 116]⟩ : ByteArray), (⟨#[97, 99, 99, 101, 112, 116]⟩ : ByteArray), (⟨#[119, 114, 105, 116, 101]⟩ : ByteArray), (⟨#[114, 101, 97, 100]⟩ : ByteArray), (⟨#[99, 108, 111, 115, 101]⟩ : ByteArray), (⟨#[97, 98, 111, 114, 116]⟩ : ByteArray), (⟨#[114, 101, 108, 101, 97, 115, 101]⟩ : ByteArray), (⟨#[111, 102, 102, 101, 114]⟩ : ByteArray), (⟨#[116, 105, 99, 107]⟩ : ByteArray), (⟨#[100, 101, 108, 105, 118, 101, 114]⟩ : ByteArray), (⟨#[100, 114, 111, 112]⟩ : ByteArray), (⟨#[99, 111, 112, 121]⟩ : ByteArray), (⟨#[114, 101, 112, 108, 97, 121]⟩ : ByteArray), (⟨#[114, 101, 102, 108, 101, 99, 116]⟩ : ByteArray), (⟨#[105, 110, 106, 101, 99, 116]⟩ : ByteArray)]).length : Nat) : Int) then
      if (0 : Int) ≤ kind ∧ kind < ((([(⟨#[]⟩ : ByteArray), (⟨#[104, 110]⟩ : ByteArray), (⟨#[104, 110, 112, 119]⟩ : ByteArray), (⟨#[104, 110]⟩ : ByteArray), (⟨#[104, 110, 98]⟩ : ByteArray), (⟨#[104, 110, 107]⟩ : ByteArray), (⟨#[104, 110]⟩ : ByteArray), (⟨#[104, 110]⟩ : ByteArray), (⟨#[104, 110]⟩ : ByteArray), (⟨#[104, 110, 119]⟩ : ByteArray), (⟨#[107]⟩ : ByteArray), (⟨#[107]⟩ : ByteArray), (⟨#[107]⟩ : ByteArray), (⟨#[107]⟩ : ByteArray), (⟨#[119, 107]⟩ : ByteArray), (⟨#[119, 107]⟩ : ByteArray), (⟨#[104, 119, 98]⟩ : ByteArray)]).length : Nat) : Int) then
      some (([(⟨#[]⟩ : ByteArray), (⟨#[108, 105, 115, 116, 101, 110]⟩ : ByteArray), (⟨#[99, 111, 110, 110, 101, 99, 116]⟩ : ByteArray), (⟨#[97, 99, 99, 101, 112, 116]⟩ : ByteArray), (⟨#[119, 114, 105, 116, 101]⟩ : ByteArray), (⟨#[114, 101, 97, 100]⟩ : ByteArray), (⟨#[99, 108, 111, 115, 101]⟩ : ByteArray), (⟨#[97, 98, 111, 114, 116]⟩ : ByteArray), (⟨#[114, 101, 108, 101, 97, 115, 101]⟩ : ByteArray), (⟨#[111, 102, 102, 101, 114]⟩ : ByteArray), (⟨#[116, 105, 99, 107]⟩ : ByteArray), (⟨#[100, 101, 108, 105, 118, 101, 114]⟩ : ByteArray), (⟨#[100, 114, 111, 112]⟩ : ByteArray), (⟨#[99, 111, 112, 121]⟩ : ByteArray), (⟨#[114, 101, 112, 108, 97, 121]⟩ : ByteArray), (⟨#[114, 101, 102, 108, 101, 99, 116]⟩ : ByteArray), (⟨#[105, 110, 106, 101, 99, 116]⟩ : ByteArray)].getD kind.toNat ByteArray.empty), ([(⟨#[]⟩ : ByteArray), (⟨#[104, 110]⟩ : ByteArray), (⟨#[104, 110, 112, 119]⟩ : ByteArray), (⟨#[104, 110]⟩ : ByteArray), (⟨#[104, 110, 98]⟩ : ByteArray), (⟨#[104, 110, 107]⟩ : ByteArray), (⟨#[104, 110]⟩ : ByteArray), (⟨#[104, 110]⟩ : ByteArray), (⟨#[104, 110]⟩ : ByteArray), (⟨#[104, 110, 119]⟩ : ByteArray), (⟨#[107]⟩ : ByteArray), (⟨#[107]⟩ : ByteArray), (⟨#[107]⟩ : ByteArray), (⟨#[107]⟩ : ByteArray), (⟨#[119, 107]⟩ : ByteArray), (⟨#[119, 107]⟩ : ByteArray), (⟨#[104, 119, 98]⟩ : ByteArray)].getD kind.toNat ByteArray.empty))
      else none
      else none
theorem f73_broughamref25_word_ok (kind : Int) (r : ByteArray × ByteArray) (h : f73_broughamref25_word kind = some r) : FnOK Tryd.prog 73 (f73_broughamref25_word_in kind) (f73_broughamref25_word_out r) := by
  unfold f73_broughamref25_word at h
  refine At.fn (r := 0) Tryd.func73 rfl (by kernel_rfl) rfl rfl (by kernel_rfl) ?_
  show At Tryd.prog Tryd.f73 0 0 ⟨[(0, oc (zi kind))], [], [], 0⟩ _
  refine At.step hm ht ⟨[], [], [], [0], []⟩ 1 ⟨[(0, oc (zi kind))], [], [], 0⟩ [] (by kernel_rfl) trivial ?_
  refine At.step hm ht ⟨[], [], [], [0, 4], [0]⟩ 2 ⟨[(0, oc (zi kind)), (4, oc (.own 0 .str ([(⟨#[]⟩ : ByteArray), (⟨#[108, 105, 115, 116, 101, 110]⟩ : ByteArray), (⟨#[99, 111, 110, 110, 101, 99, 116]⟩ : ByteArray), (⟨#[97, 99, 99, 101, 112, 116]⟩ : ByteArray), (⟨#[119, 114, 105, 116, 101]⟩ : ByteArray), (⟨#[114, 101, 97, 100]⟩ : ByteArray), (⟨#[99, 108, 111, 115, 101]⟩ : ByteArray), (⟨#[97, 98, 111, 114, 116]⟩ : ByteArray), (⟨#[114, 101, 108, 101, 97, 115, 101]⟩ : ByteArray), (⟨#[111, 102, 102, 101, 114]⟩ : ByteArray), (⟨#[116, 105, 99, 107]⟩ : ByteArray), (⟨#[100, 101, 108, 105, 118, 101, 114]⟩ : ByteArray), (⟨#[100, 114, 111, 112]⟩ : ByteArray), (⟨#[99, 111, 112, 121]⟩ : ByteArray), (⟨#[114, 101, 112, 108, 97, 121]⟩ : ByteArray), (⟨#[114, 101, 102, 108, 101, 99, 116]⟩ : ByteArray), (⟨#[105, 110, 106, 101, 99, 116]⟩ : ByteArray)] : List ByteArray)))], [(0, some ⟨9, 1⟩)], [], 1⟩ [] (by kernel_rfl) trivial ?_
  refine At.step hm ht ⟨[], [], [], [0, 4, 5], [0, 1]⟩ 3 ⟨[(0, oc (zi kind)), (4, oc (.own 0 .str ([(⟨#[]⟩ : ByteArray), (⟨#[108, 105, 115, 116, 101, 110]⟩ : ByteArray), (⟨#[99, 111, 110, 110, 101, 99, 116]⟩ : ByteArray), (⟨#[97, 99, 99, 101, 112, 116]⟩ : ByteArray), (⟨#[119, 114, 105, 116, 101]⟩ : ByteArray), (⟨#[114, 101, 97, 100]⟩ : ByteArray), (⟨#[99, 108, 111, 115, 101]⟩ : ByteArray), (⟨#[97, 98, 111, 114, 116]⟩ : ByteArray), (⟨#[114, 101, 108, 101, 97, 115, 101]⟩ : ByteArray), (⟨#[111, 102, 102, 101, 114]⟩ : ByteArray), (⟨#[116, 105, 99, 107]⟩ : ByteArray), (⟨#[100, 101, 108, 105, 118, 101, 114]⟩ : ByteArray), (⟨#[100, 114, 111, 112]⟩ : ByteArray), (⟨#[99, 111, 112, 121]⟩ : ByteArray), (⟨#[114, 101, 112, 108, 97, 121]⟩ : ByteArray), (⟨#[114, 101, 102, 108, 101, 99, 116]⟩ : ByteArray), (⟨#[105, 110, 106, 101, 99, 116]⟩ : ByteArray)] : List ByteArray))), (5, oc (.own 1 .str ([(⟨#[]⟩ : ByteArray), (⟨#[104, 110]⟩ : ByteArray), (⟨#[104, 110, 112, 119]⟩ : ByteArray), (⟨#[104, 110]⟩ : ByteArray), (⟨#[104, 110, 98]⟩ : ByteArray), (⟨#[104, 110, 107]⟩ : ByteArray), (⟨#[104, 110]⟩ : ByteArray), (⟨#[104, 110]⟩ : ByteArray), (⟨#[104, 110]⟩ : ByteArray), (⟨#[104, 110, 119]⟩ : ByteArray), (⟨#[107]⟩ : ByteArray), (⟨#[107]⟩ : ByteArray), (⟨#[107]⟩ : ByteArray), (⟨#[107]⟩ : ByteArray), (⟨#[119, 107]⟩ : ByteArray), (⟨#[119, 107]⟩ : ByteArray), (⟨#[104, 119, 98]⟩ : ByteArray)] : List ByteArray)))], [(0, some ⟨9, 1⟩), (1, some ⟨9, 1⟩)], [], 2⟩ [] (by kernel_rfl) trivial ?_
  rcases iteS h with ⟨b382_2, h⟩ | ⟨b382_2, h⟩
  · refine At.step hm ht ⟨[(2, .b true)], [true], [], [], []⟩ 4 ⟨[], [], [], 0⟩ [(decide ((kind : Int) < 1)) = true, true = true] (by kernel_rfl) ⟨b382_2, rfl, trivial⟩ ?_
    have h := Option.some.inj h
    subst h
    exact At.fin hm ht ⟨[], [], [], [2, 3], []⟩ [] (by kernel_rfl) trivial
  · rcases iteS h with ⟨b382_e0, h⟩ | ⟨b382_e0, h⟩
    · refine At.step hm ht ⟨[(2, .b false)], [true], [], [], []⟩ 4 ⟨[], [], [], 0⟩ [(decide ((kind : Int) < 1)) = false, (decide ((kind : Int) > 16)) = true] (by kernel_rfl) ⟨b382_2, b382_e0, trivial⟩ ?_
      have h := Option.some.inj h
      subst h
      exact At.fin hm ht ⟨[], [], [], [2, 3], []⟩ [] (by kernel_rfl) trivial
    · refine At.step hm ht ⟨[(2, .b false)], [false], [], [0, 4, 5], [0, 1]⟩ 5 ⟨[(0, oc (zi kind)), (4, oc (.own 0 .str ([(⟨#[]⟩ : ByteArray), (⟨#[108, 105, 115, 116, 101, 110]⟩ : ByteArray), (⟨#[99, 111, 110, 110, 101, 99, 116]⟩ : ByteArray), (⟨#[97, 99, 99, 101, 112, 116]⟩ : ByteArray), (⟨#[119, 114, 105, 116, 101]⟩ : ByteArray), (⟨#[114, 101, 97, 100]⟩ : ByteArray), (⟨#[99, 108, 111, 115, 101]⟩ : ByteArray), (⟨#[97, 98, 111, 114, 116]⟩ : ByteArray), (⟨#[114, 101, 108, 101, 97, 115, 101]⟩ : ByteArray), (⟨#[111, 102, 102, 101, 114]⟩ : ByteArray), (⟨#[116, 105, 99, 107]⟩ : ByteArray), (⟨#[100, 101, 108, 105, 118, 101, 114]⟩ : ByteArray), (⟨#[100, 114, 111, 112]⟩ : ByteArray), (⟨#[99, 111, 112, 121]⟩ : ByteArray), (⟨#[114, 101, 112, 108, 97, 121]⟩ : ByteArray), (⟨#[114, 101, 102, 108, 101, 99, 116]⟩ : ByteArray), (⟨#[105, 110, 106, 101, 99, 116]⟩ : ByteArray)] : List ByteArray))), (5, oc (.own 1 .str ([(⟨#[]⟩ : ByteArray), (⟨#[104, 110]⟩ : ByteArray), (⟨#[104, 110, 112, 119]⟩ : ByteArray), (⟨#[104, 110]⟩ : ByteArray), (⟨#[104, 110, 98]⟩ : ByteArray), (⟨#[104, 110, 107]⟩ : ByteArray), (⟨#[104, 110]⟩ : ByteArray), (⟨#[104, 110]⟩ : ByteArray), (⟨#[104, 110]⟩ : ByteArray), (⟨#[104, 110, 119]⟩ : ByteArray), (⟨#[107]⟩ : ByteArray), (⟨#[107]⟩ : ByteArray), (⟨#[107]⟩ : ByteArray), (⟨#[107]⟩ : ByteArray), (⟨#[119, 107]⟩ : ByteArray), (⟨#[119, 107]⟩ : ByteArray), (⟨#[104, 119, 98]⟩ : ByteArray)] : List ByteArray)))], [(0, some ⟨9, 1⟩), (1, some ⟨9, 1⟩)], [], 2⟩ [(decide ((kind : Int) < 1)) = false, (decide ((kind : Int) > 16)) = false] (by kernel_rfl) ⟨b382_2, b382_e0, trivial⟩ ?_
      obtain ⟨g385_0, h⟩ := ifS h
      obtain ⟨g385_1, h⟩ := ifS h
      have h := Option.some.inj h
      subst h
      exact At.fin hm ht ⟨[], [], [], [2, 3], []⟩ [(0 : Int) ≤ kind ∧ kind < ((([(⟨#[]⟩ : ByteArray), (⟨#[108, 105, 115, 116, 101, 110]⟩ : ByteArray), (⟨#[99, 111, 110, 110, 101, 99, 116]⟩ : ByteArray), (⟨#[97, 99, 99, 101, 112, 116]⟩ : ByteArray), (⟨#[119, 114, 105, 116, 101]⟩ : ByteArray), (⟨#[114, 101, 97, 100]⟩ : ByteArray), (⟨#[99, 108, 111, 115, 101]⟩ : ByteArray), (⟨#[97, 98, 111, 114, 116]⟩ : ByteArray), (⟨#[114, 101, 108, 101, 97, 115, 101]⟩ : ByteArray), (⟨#[111, 102, 102, 101, 114]⟩ : ByteArray), (⟨#[116, 105, 99, 107]⟩ : ByteArray), (⟨#[100, 101, 108, 105, 118, 101, 114]⟩ : ByteArray), (⟨#[100, 114, 111, 112]⟩ : ByteArray), (⟨#[99, 111, 112, 121]⟩ : ByteArray), (⟨#[114, 101, 112, 108, 97, 121]⟩ : ByteArray), (⟨#[114, 101, 102, 108, 101, 99, 116]⟩ : ByteArray), (⟨#[105, 110, 106, 101, 99, 116]⟩ : ByteArray)]).length : Nat) : Int), (0 : Int) ≤ kind ∧ kind < ((([(⟨#[]⟩ : ByteArray), (⟨#[104, 110]⟩ : ByteArray), (⟨#[104, 110, 112, 119]⟩ : ByteArray), (⟨#[104, 110]⟩ : ByteArray), (⟨#[104, 110, 98]⟩ : ByteArray), (⟨#[104, 110, 107]⟩ : ByteArray), (⟨#[104, 110]⟩ : ByteArray), (⟨#[104, 110]⟩ : ByteArray), (⟨#[104, 110]⟩ : ByteArray), (⟨#[104, 110, 119]⟩ : ByteArray), (⟨#[107]⟩ : ByteArray), (⟨#[107]⟩ : ByteArray), (⟨#[107]⟩ : ByteArray), (⟨#[107]⟩ : ByteArray), (⟨#[119, 107]⟩ : ByteArray), (⟨#[119, 107]⟩ : ByteArray), (⟨#[104, 119, 98]⟩ : ByteArray)]).length : Nat) : Int)] (by kernel_rfl) ⟨g385_0, g385_1, trivial⟩
/-! brougham/broughamref01.digit -/
def f96_broughamref01_digit_in (c : Int) : Inn := ⟨[.c (.d (.int .u8 c))], [], [], 0⟩
def f96_broughamref01_digit_out (r : Int) : Out := ⟨oc (zi r), [], [], 0⟩
def f96_broughamref01_digit (c : Int) : Option (Int) :=
  if (decide ((c : Int) ≥ 48)) = true then
    if (decide ((c : Int) ≤ 57)) = true then
      some (IntKind.wrap .i64 ((IntKind.wrap .i64 c) - 48))
    else
      if (decide ((c : Int) ≥ 97)) = true then
        if (decide ((c : Int) ≤ 102)) = true then
          some (IntKind.wrap .i64 ((IntKind.wrap .i64 ((IntKind.wrap .i64 c) - 97)) + 10))
        else
          some (-1)
      else
        some (-1)
  else
    if (decide ((c : Int) ≥ 97)) = true then
      if (decide ((c : Int) ≤ 102)) = true then
        some (IntKind.wrap .i64 ((IntKind.wrap .i64 ((IntKind.wrap .i64 c) - 97)) + 10))
      else
        some (-1)
    else
      some (-1)
theorem f96_broughamref01_digit_ok (c : Int) (r : Int) (h : f96_broughamref01_digit c = some r) : FnOK Tryd.prog 96 (f96_broughamref01_digit_in c) (f96_broughamref01_digit_out r) := by
  unfold f96_broughamref01_digit at h
  refine At.fn (r := 0) Tryd.func96 rfl (by kernel_rfl) rfl rfl (by kernel_rfl) ?_
  show At Tryd.prog Tryd.f96 0 0 ⟨[(0, oc (.d (.int .u8 c)))], [], [], 0⟩ _
  refine At.step hm ht ⟨[], [], [], [0], []⟩ 1 ⟨[(0, oc (.d (.int .u8 c)))], [], [], 0⟩ [] (by kernel_rfl) trivial ?_
  rcases iteS h with ⟨b406_2, h⟩ | ⟨b406_2, h⟩
  · rcases iteS h with ⟨b406_e0, h⟩ | ⟨b406_e0, h⟩
    · refine At.step hm ht ⟨[(2, .b true)], [true], [], [0], []⟩ 2 ⟨[(0, oc (.d (.int .u8 c)))], [], [], 0⟩ [(decide ((c : Int) ≥ 48)) = true, (decide ((c : Int) ≤ 57)) = true] (by kernel_rfl) ⟨b406_2, b406_e0, trivial⟩ ?_
      have h := Option.some.inj h
      subst h
      exact At.fin hm ht ⟨[], [], [], [2], []⟩ [] (by kernel_rfl) trivial
    · refine At.step hm ht ⟨[(2, .b true)], [false], [], [0], []⟩ 3 ⟨[(0, oc (.d (.int .u8 c)))], [], [], 0⟩ [(decide ((c : Int) ≥ 48)) = true, (decide ((c : Int) ≤ 57)) = false] (by kernel_rfl) ⟨b406_2, b406_e0, trivial⟩ ?_
      rcases iteS h with ⟨b408_2, h⟩ | ⟨b408_2, h⟩
      · rcases iteS h with ⟨b408_e0, h⟩ | ⟨b408_e0, h⟩
        · refine At.step hm ht ⟨[(2, .b true)], [true], [], [0], []⟩ 4 ⟨[(0, oc (.d (.int .u8 c)))], [], [], 0⟩ [(decide ((c : Int) ≥ 97)) = true, (decide ((c : Int) ≤ 102)) = true] (by kernel_rfl) ⟨b408_2, b408_e0, trivial⟩ ?_
          have h := Option.some.inj h
          subst h
          exact At.fin hm ht ⟨[], [], [], [2], []⟩ [] (by kernel_rfl) trivial
        · refine At.step hm ht ⟨[(2, .b true)], [false], [], [], []⟩ 5 ⟨[], [], [], 0⟩ [(decide ((c : Int) ≥ 97)) = true, (decide ((c : Int) ≤ 102)) = false] (by kernel_rfl) ⟨b408_2, b408_e0, trivial⟩ ?_
          have h := Option.some.inj h
          subst h
          exact At.fin hm ht ⟨[], [], [], [2], []⟩ [] (by kernel_rfl) trivial
      · refine At.step hm ht ⟨[(2, .b false)], [false], [], [], []⟩ 5 ⟨[], [], [], 0⟩ [(decide ((c : Int) ≥ 97)) = false, false = false] (by kernel_rfl) ⟨b408_2, rfl, trivial⟩ ?_
        have h := Option.some.inj h
        subst h
        exact At.fin hm ht ⟨[], [], [], [2], []⟩ [] (by kernel_rfl) trivial
  · refine At.step hm ht ⟨[(2, .b false)], [false], [], [0], []⟩ 3 ⟨[(0, oc (.d (.int .u8 c)))], [], [], 0⟩ [(decide ((c : Int) ≥ 48)) = false, false = false] (by kernel_rfl) ⟨b406_2, rfl, trivial⟩ ?_
    rcases iteS h with ⟨b412_2, h⟩ | ⟨b412_2, h⟩
    · rcases iteS h with ⟨b412_e0, h⟩ | ⟨b412_e0, h⟩
      · refine At.step hm ht ⟨[(2, .b true)], [true], [], [0], []⟩ 4 ⟨[(0, oc (.d (.int .u8 c)))], [], [], 0⟩ [(decide ((c : Int) ≥ 97)) = true, (decide ((c : Int) ≤ 102)) = true] (by kernel_rfl) ⟨b412_2, b412_e0, trivial⟩ ?_
        have h := Option.some.inj h
        subst h
        exact At.fin hm ht ⟨[], [], [], [2], []⟩ [] (by kernel_rfl) trivial
      · refine At.step hm ht ⟨[(2, .b true)], [false], [], [], []⟩ 5 ⟨[], [], [], 0⟩ [(decide ((c : Int) ≥ 97)) = true, (decide ((c : Int) ≤ 102)) = false] (by kernel_rfl) ⟨b412_2, b412_e0, trivial⟩ ?_
        have h := Option.some.inj h
        subst h
        exact At.fin hm ht ⟨[], [], [], [2], []⟩ [] (by kernel_rfl) trivial
    · refine At.step hm ht ⟨[(2, .b false)], [false], [], [], []⟩ 5 ⟨[], [], [], 0⟩ [(decide ((c : Int) ≥ 97)) = false, false = false] (by kernel_rfl) ⟨b412_2, rfl, trivial⟩ ?_
      have h := Option.some.inj h
      subst h
      exact At.fin hm ht ⟨[], [], [], [2], []⟩ [] (by kernel_rfl) trivial
/-! brougham/broughamref01.Unhex -/
def f78_broughamref01_Unhex_in (s : ByteArray) : Inn := ⟨[.c (.d (.str s))], [], [], 0⟩
def f78_broughamref01_Unhex_out (r : List Int × Int) : Out := ⟨.tup [.c (.own 0 (.int .u8) r.1), .c (zi r.2)], [(0, ⟨5, 0⟩)], [], 1⟩
def f78_broughamref01_Unhex_L7 : Nat → ByteArray → (List Int) → Int → Option ((List Int × Int) ⊕ (List Int))
  | 0, _, _, _ => none
  | n + 1, s, b, i =>
    if (decide ((i : Int) < ((s.size : Nat) : Int))) = true then
      if (0 : Int) ≤ i ∧ i < (((s).size : Nat) : Int) then
      (f96_broughamref01_digit (byteAt s i)).bind fun r447_1 =>
      if (decide ((r447_1 : Int) < 0)) = true then
        some (.inl ([], 11))
      else
        if (0 : Int) ≤ (IntKind.wrap .i64 (i + 1)) ∧ (IntKind.wrap .i64 (i + 1)) < (((s).size : Nat) : Int) then
        (f96_broughamref01_digit (byteAt s (IntKind.wrap .i64 (i + 1)))).bind fun r447_3 =>
        if (decide ((r447_3 : Int) < 0)) = true then
          some (.inl ([], 11))
        else
          if (0 : Int) ≤ i ∧ i < (((s).size : Nat) : Int) then
          (f96_broughamref01_digit (byteAt s i)).bind fun r450_1 =>
          if (0 : Int) ≤ (IntKind.wrap .i64 (i + 1)) ∧ (IntKind.wrap .i64 (i + 1)) < (((s).size : Nat) : Int) then
          (f96_broughamref01_digit (byteAt s (IntKind.wrap .i64 (i + 1)))).bind fun r450_3 =>
          if b.length + [(IntKind.wrap .u8 (IntKind.wrap .i64 ((IntKind.wrap .i64 (r450_1 * 16)) + r450_3)))].length ≤ maxLen ∧ (b.length + [(IntKind.wrap .u8 (IntKind.wrap .i64 ((IntKind.wrap .i64 (r450_1 * 16)) + r450_3)))].length) * 1 ≤ 140737488355328 then
          f78_broughamref01_Unhex_L7 n s (b ++ [(IntKind.wrap .u8 (IntKind.wrap .i64 ((IntKind.wrap .i64 (r450_1 * 16)) + r450_3)))]) (IntKind.wrap .i64 (i + 2))
          else none
          else none
          else none
        else none
      else none
    else
      some (.inr b)
def f78_broughamref01_Unhex_L7_k (w : (List Int × Int) ⊕ (List Int)) (o : Out) : Prop := match w with
  | .inl e => o = f78_broughamref01_Unhex_out e
  | .inr e => At Tryd.prog Tryd.f78 0 12 ⟨[(4, oc (.own 0 (.int .u8) e))], [(0, some ⟨5, 0⟩)], [], 1⟩ o
theorem f78_broughamref01_Unhex_L7_ok (n : Nat) : ∀ (s : ByteArray) (b : List Int) (i : Int) (w : (List Int × Int) ⊕ (List Int)) (h : f78_broughamref01_Unhex_L7 n s b i = some w) (o : Out) (hk : f78_broughamref01_Unhex_L7_k w o), At Tryd.prog Tryd.f78 0 7 ⟨[(0, oc (.d (.str s))), (4, oc (.own 0 (.int .u8) b)), (5, oc (zi i))], [(0, some ⟨5, 0⟩)], [], 1⟩ o := by
  induction n with
  | zero => intro s b i w h; rw [f78_broughamref01_Unhex_L7] at h; cases h
  | succ n ih =>
    intro s b i w h o hk
    rw [f78_broughamref01_Unhex_L7] at h
    rcases iteS h with ⟨b446_e0, h⟩ | ⟨b446_e0, h⟩
    · refine At.step hm ht ⟨[], [true], [], [0, 4, 5], [0]⟩ 9 ⟨[(0, oc (.d (.str s))), (4, oc (.own 0 (.int .u8) b)), (5, oc (zi i))], [(0, some ⟨5, 0⟩)], [], 1⟩ [(decide ((i : Int) < ((s.size : Nat) : Int))) = true] (by kernel_rfl) ⟨b446_e0, trivial⟩ ?_
      obtain ⟨g447_0, h⟩ := ifS h
      obtain ⟨r447_1, cr447_1, h⟩ := bindS h
      rcases iteS h with ⟨b447_5, h⟩ | ⟨b447_5, h⟩
      · refine At.step hm ht ⟨[(3, .call [] [] (f96_broughamref01_digit_out r447_1)), (5, .b true)], [true], [], [], []⟩ 10 ⟨[], [], [], 0⟩ [(0 : Int) ≤ i ∧ i < (((s).size : Nat) : Int), FnOK Tryd.prog 96 (f96_broughamref01_digit_in (byteAt s i)) (f96_broughamref01_digit_out r447_1), (decide ((r447_1 : Int) < 0)) = true, true = true] (by kernel_rfl) ⟨g447_0, (f96_broughamref01_digit_ok (byteAt s i) r447_1 cr447_1), b447_5, rfl, trivial⟩ ?_
        have h := Option.some.inj h
        subst h
        have hk : o = f78_broughamref01_Unhex_out ([], 11) := hk
        subst hk
        exact At.fin hm ht ⟨[], [], [.nil false 2 0 (.int .u8) (some 5)], [2, 3], [2]⟩ [] (by kernel_rfl) trivial
      · obtain ⟨g447_2, h⟩ := ifS h
        obtain ⟨r447_3, cr447_3, h⟩ := bindS h
        rcases iteS h with ⟨b447_e0, h⟩ | ⟨b447_e0, h⟩
        · refine At.step hm ht ⟨[(3, .call [] [] (f96_broughamref01_digit_out r447_1)), (5, .b false), (10, .call [] [] (f96_broughamref01_digit_out r447_3))], [true], [], [], []⟩ 10 ⟨[], [], [], 0⟩ [(0 : Int) ≤ i ∧ i < (((s).size : Nat) : Int), FnOK Tryd.prog 96 (f96_broughamref01_digit_in (byteAt s i)) (f96_broughamref01_digit_out r447_1), (decide ((r447_1 : Int) < 0)) = false, (0 : Int) ≤ (IntKind.wrap .i64 (i + 1)) ∧ (IntKind.wrap .i64 (i + 1)) < (((s).size : Nat) : Int), FnOK Tryd.prog 96 (f96_broughamref01_digit_in (byteAt s (IntKind.wrap .i64 (i + 1)))) (f96_broughamref01_digit_out r447_3), (decide ((r447_3 : Int) < 0)) = true] (by kernel_rfl) ⟨g447_0, (f96_broughamref01_digit_ok (byteAt s i) r447_1 cr447_1), b447_5, g447_2, (f96_broughamref01_digit_ok (byteAt s (IntKind.wrap .i64 (i + 1))) r447_3 cr447_3), b447_e0, trivial⟩ ?_
          have h := Option.some.inj h
          subst h
          have hk : o = f78_broughamref01_Unhex_out ([], 11) := hk
          subst hk
          exact At.fin hm ht ⟨[], [], [.nil false 2 0 (.int .u8) (some 5)], [2, 3], [2]⟩ [] (by kernel_rfl) trivial
        · refine At.step hm ht ⟨[(3, .call [] [] (f96_broughamref01_digit_out r447_1)), (5, .b false), (10, .call [] [] (f96_broughamref01_digit_out r447_3))], [false], [], [0, 4, 5], [0]⟩ 11 ⟨[(0, oc (.d (.str s))), (4, oc (.own 0 (.int .u8) b)), (5, oc (zi i))], [(0, some ⟨5, 0⟩)], [], 1⟩ [(0 : Int) ≤ i ∧ i < (((s).size : Nat) : Int), FnOK Tryd.prog 96 (f96_broughamref01_digit_in (byteAt s i)) (f96_broughamref01_digit_out r447_1), (decide ((r447_1 : Int) < 0)) = false, (0 : Int) ≤ (IntKind.wrap .i64 (i + 1)) ∧ (IntKind.wrap .i64 (i + 1)) < (((s).size : Nat) : Int), FnOK Tryd.prog 96 (f96_broughamref01_digit_in (byteAt s (IntKind.wrap .i64 (i + 1)))) (f96_broughamref01_digit_out r447_3), (decide ((r447_3 : Int) < 0)) = false] (by kernel_rfl) ⟨g447_0, (f96_broughamref01_digit_ok (byteAt s i) r447_1 cr447_1), b447_5, g447_2, (f96_broughamref01_digit_ok (byteAt s (IntKind.wrap .i64 (i + 1))) r447_3 cr447_3), b447_e0, trivial⟩ ?_
          obtain ⟨g450_0, h⟩ := ifS h
          obtain ⟨r450_1, cr450_1, h⟩ := bindS h
          obtain ⟨g450_2, h⟩ := ifS h
          obtain ⟨r450_3, cr450_3, h⟩ := bindS h
          obtain ⟨g450_4, h⟩ := ifS h
          refine At.step hm ht ⟨[(4, .call [] [] (f96_broughamref01_digit_out r450_1)), (10, .call [] [] (f96_broughamref01_digit_out r450_3))], [], [], [0, 4, 5], [13]⟩ 8 ⟨[(0, oc (.d (.str s))), (4, oc (.own 0 (.int .u8) (b ++ [(IntKind.wrap .u8 (IntKind.wrap .i64 ((IntKind.wrap .i64 (r450_1 * 16)) + r450_3)))]))), (5, oc (zi i))], [(0, some ⟨5, 0⟩)], [], 1⟩ [(0 : Int) ≤ i ∧ i < (((s).size : Nat) : Int), FnOK Tryd.prog 96 (f96_broughamref01_digit_in (byteAt s i)) (f96_broughamref01_digit_out r450_1), (0 : Int) ≤ (IntKind.wrap .i64 (i + 1)) ∧ (IntKind.wrap .i64 (i + 1)) < (((s).size : Nat) : Int), FnOK Tryd.prog 96 (f96_broughamref01_digit_in (byteAt s (IntKind.wrap .i64 (i + 1)))) (f96_broughamref01_digit_out r450_3), b.length + [(IntKind.wrap .u8 (IntKind.wrap .i64 ((IntKind.wrap .i64 (r450_1 * 16)) + r450_3)))].length ≤ maxLen ∧ (b.length + [(IntKind.wrap .u8 (IntKind.wrap .i64 ((IntKind.wrap .i64 (r450_1 * 16)) + r450_3)))].length) * 1 ≤ 140737488355328] (by kernel_rfl) ⟨g450_0, (f96_broughamref01_digit_ok (byteAt s i) r450_1 cr450_1), g450_2, (f96_broughamref01_digit_ok (byteAt s (IntKind.wrap .i64 (i + 1))) r450_3 cr450_3), g450_4, trivial⟩ ?_
          refine At.step hm ht ⟨[], [], [], [0, 4, 5], [0]⟩ 7 ⟨[(0, oc (.d (.str s))), (4, oc (.own 0 (.int .u8) (b ++ [(IntKind.wrap .u8 (IntKind.wrap .i64 ((IntKind.wrap .i64 (r450_1 * 16)) + r450_3)))]))), (5, oc (zi (IntKind.wrap .i64 (i + 2))))], [(0, some ⟨5, 0⟩)], [], 1⟩ [] (by kernel_rfl) trivial ?_
          exact ih s (b ++ [(IntKind.wrap .u8 (IntKind.wrap .i64 ((IntKind.wrap .i64 (r450_1 * 16)) + r450_3)))]) (IntKind.wrap .i64 (i + 2)) w h o hk
    · refine At.step hm ht ⟨[], [false], [], [4], [0]⟩ 12 ⟨[(4, oc (.own 0 (.int .u8) b))], [(0, some ⟨5, 0⟩)], [], 1⟩ [(decide ((i : Int) < ((s.size : Nat) : Int))) = false] (by kernel_rfl) ⟨b446_e0, trivial⟩ ?_
      have h := Option.some.inj h
      subst h
      exact hk
def f78_broughamref01_Unhex (n : Nat) (s : ByteArray) : Option (List Int × Int) :=
  if (s.toList == (⟨#[45]⟩ : ByteArray).toList) = true then
    some ([], 0)
  else
    if (s.toList == (⟨#[]⟩ : ByteArray).toList) = true then
      some ([], 11)
    else
      if (((Int.tmod ((s.size : Nat) : Int) 2) : Int) == 1) = true then
        some ([], 11)
      else
        (f78_broughamref01_Unhex_L7 n s [] 0).bind fun w452 =>
        match w452 with
        | .inl e453 =>
          some (e453.1, e453.2)
        | .inr e454 =>
          some (e454, 0)
theorem f78_broughamref01_Unhex_ok (n : Nat) (s : ByteArray) (r : List Int × Int) (h : f78_broughamref01_Unhex n s = some r) : FnOK Tryd.prog 78 (f78_broughamref01_Unhex_in s) (f78_broughamref01_Unhex_out r) := by
  unfold f78_broughamref01_Unhex at h
  refine At.fn (r := 0) Tryd.func78 rfl (by kernel_rfl) rfl rfl (by kernel_rfl) ?_
  show At Tryd.prog Tryd.f78 0 0 ⟨[(0, oc (.d (.str s)))], [], [], 0⟩ _
  refine At.step hm ht ⟨[], [], [], [0], []⟩ 1 ⟨[(0, oc (.d (.str s)))], [], [], 0⟩ [] (by kernel_rfl) trivial ?_
  rcases iteS h with ⟨b439_e0, h⟩ | ⟨b439_e0, h⟩
  · refine At.step hm ht ⟨[], [true], [], [], []⟩ 2 ⟨[], [], [], 0⟩ [(s.toList == (⟨#[45]⟩ : ByteArray).toList) = true] (by kernel_rfl) ⟨b439_e0, trivial⟩ ?_
    have h := Option.some.inj h
    subst h
    exact At.fin hm ht ⟨[], [], [.nil false 2 0 (.int .u8) (some 5)], [2, 3], [2]⟩ [] (by kernel_rfl) trivial
  · refine At.step hm ht ⟨[], [false], [], [0], []⟩ 3 ⟨[(0, oc (.d (.str s)))], [], [], 0⟩ [(s.toList == (⟨#[45]⟩ : ByteArray).toList) = false] (by kernel_rfl) ⟨b439_e0, trivial⟩ ?_
    rcases iteS h with ⟨b441_2, h⟩ | ⟨b441_2, h⟩
    · refine At.step hm ht ⟨[(2, .b true)], [true], [], [], []⟩ 4 ⟨[], [], [], 0⟩ [(s.toList == (⟨#[]⟩ : ByteArray).toList) = true, true = true] (by kernel_rfl) ⟨b441_2, rfl, trivial⟩ ?_
      have h := Option.some.inj h
      subst h
      exact At.fin hm ht ⟨[], [], [.nil false 2 0 (.int .u8) (some 5)], [2, 3], [2]⟩ [] (by kernel_rfl) trivial
    · rcases iteS h with ⟨b441_e0, h⟩ | ⟨b441_e0, h⟩
      · refine At.step hm ht ⟨[(2, .b false)], [true], [], [], []⟩ 4 ⟨[], [], [], 0⟩ [(s.toList == (⟨#[]⟩ : ByteArray).toList) = false, (2 : Int) ≠ 0, (((Int.tmod ((s.size : Nat) : Int) 2) : Int) == 1) = true] (by kernel_rfl) ⟨b441_2, (by decide), b441_e0, trivial⟩ ?_
        have h := Option.some.inj h
        subst h
        exact At.fin hm ht ⟨[], [], [.nil false 2 0 (.int .u8) (some 5)], [2, 3], [2]⟩ [] (by kernel_rfl) trivial
      · refine At.step hm ht ⟨[(2, .b false)], [false], [], [0], []⟩ 5 ⟨[(0, oc (.d (.str s)))], [], [], 0⟩ [(s.toList == (⟨#[]⟩ : ByteArray).toList) = false, (2 : Int) ≠ 0, (((Int.tmod ((s.size : Nat) : Int) 2) : Int) == 1) = false] (by kernel_rfl) ⟨b441_2, (by decide), b441_e0, trivial⟩ ?_
        refine At.step hm ht ⟨[], [], [], [0, 4], []⟩ 6 ⟨[(0, oc (.d (.str s))), (4, oc (.d (.sl .unit [])))], [], [], 0⟩ [] (by kernel_rfl) trivial ?_
        refine At.step hm ht ⟨[], [], [.nil false 4 0 (.int .u8) (some 5)], [0, 4, 5], [1]⟩ 7 ⟨[(0, oc (.d (.str s))), (4, oc (.own 0 (.int .u8) [])), (5, oc (zi 0))], [(0, some ⟨5, 0⟩)], [], 1⟩ [] (by kernel_rfl) trivial ?_
        obtain ⟨w452, cw452, h⟩ := bindS h
        refine f78_broughamref01_Unhex_L7_ok n s [] 0 w452 cw452 _ ?_
        rcases w452 with e453 | e454
        · have h := Option.some.inj h
          subst h
          rfl
        · show At Tryd.prog Tryd.f78 0 12 ⟨[(4, oc (.own 0 (.int .u8) e454))], [(0, some ⟨5, 0⟩)], [], 1⟩ _
          have h := Option.some.inj h
          subst h
          exact At.fin hm ht ⟨[], [], [], [2, 3], [0]⟩ [] (by kernel_rfl) trivial
/-! brougham/broughamref01.Parse -/
def f79_broughamref01_Parse_in (s : ByteArray) : Inn := ⟨[.c (.d (.str s))], [], [], 0⟩
def f79_broughamref01_Parse_out (r : Int × Int) : Out := ⟨.tup [.c (zi r.1), .c (zi r.2)], [], [], 0⟩
def f79_broughamref01_Parse_L3 : Nat → ByteArray → Int → Int → Option ((Int × Int) ⊕ (ByteArray × Int))
  | 0, _, _, _ => none
  | n + 1, s, n_, i =>
    if (decide ((i : Int) < ((s.size : Nat) : Int))) = true then
      if (decide ((i : Int) > 9)) = true then
        some (.inl (0, 10))
      else
        if (0 : Int) ≤ i ∧ i < (((s).size : Nat) : Int) then
        if (decide (((byteAt s i) : Int) < 48)) = true then
          some (.inl (0, 10))
        else
          if (0 : Int) ≤ i ∧ i < (((s).size : Nat) : Int) then
          if (decide (((byteAt s i) : Int) > 57)) = true then
            some (.inl (0, 10))
          else
            if (0 : Int) ≤ 0 ∧ 0 < (((s).size : Nat) : Int) then
            if (((byteAt s 0) : Int) == 48) = true then
              if (decide ((((s.size : Nat) : Int) : Int) > 1)) = true then
                some (.inl (0, 10))
              else
                if (0 : Int) ≤ i ∧ i < (((s).size : Nat) : Int) then
                f79_broughamref01_Parse_L3 n s (IntKind.wrap .i64 ((IntKind.wrap .i64 ((IntKind.wrap .i64 (n_ * 10)) + (IntKind.wrap .i64 (byteAt s i)))) - 48)) (IntKind.wrap .i64 (i + 1))
                else none
            else
              if (0 : Int) ≤ i ∧ i < (((s).size : Nat) : Int) then
              f79_broughamref01_Parse_L3 n s (IntKind.wrap .i64 ((IntKind.wrap .i64 ((IntKind.wrap .i64 (n_ * 10)) + (IntKind.wrap .i64 (byteAt s i)))) - 48)) (IntKind.wrap .i64 (i + 1))
              else none
            else none
          else none
        else none
    else
      some (.inr ((s, n_)))
def f79_broughamref01_Parse_L3_k (w : (Int × Int) ⊕ (ByteArray × Int)) (o : Out) : Prop := match w with
  | .inl e => o = f79_broughamref01_Parse_out e
  | .inr e => At Tryd.prog Tryd.f79 0 8 ⟨[(0, oc (.d (.str e.1))), (4, oc (zi e.2))], [], [], 0⟩ o
theorem f79_broughamref01_Parse_L3_ok (n : Nat) : ∀ (s : ByteArray) (n_ : Int) (i : Int) (w : (Int × Int) ⊕ (ByteArray × Int)) (h : f79_broughamref01_Parse_L3 n s n_ i = some w) (o : Out) (hk : f79_broughamref01_Parse_L3_k w o), At Tryd.prog Tryd.f79 0 3 ⟨[(0, oc (.d (.str s))), (4, oc (zi n_)), (5, oc (zi i))], [], [], 0⟩ o := by
  induction n with
  | zero => intro s n_ i w h; rw [f79_broughamref01_Parse_L3] at h; cases h
  | succ n ih =>
    intro s n_ i w h o hk
    rw [f79_broughamref01_Parse_L3] at h
    rcases iteS h with ⟨b479_e0, h⟩ | ⟨b479_e0, h⟩
    · refine At.step hm ht ⟨[], [true], [], [0, 4, 5], []⟩ 5 ⟨[(0, oc (.d (.str s))), (4, oc (zi n_)), (5, oc (zi i))], [], [], 0⟩ [(decide ((i : Int) < ((s.size : Nat) : Int))) = true] (by kernel_rfl) ⟨b479_e0, trivial⟩ ?_
      rcases iteS h with ⟨b480_2, h⟩ | ⟨b480_2, h⟩
      · refine At.step hm ht ⟨[(2, .b true)], [true], [], [], []⟩ 6 ⟨[], [], [], 0⟩ [(decide ((i : Int) > 9)) = true, true = true] (by kernel_rfl) ⟨b480_2, rfl, trivial⟩ ?_
        have h := Option.some.inj h
        subst h
        have hk : o = f79_broughamref01_Parse_out (0, 10) := hk
        subst hk
        exact At.fin hm ht ⟨[], [], [], [2, 3], []⟩ [] (by kernel_rfl) trivial
      · obtain ⟨g480_0, h⟩ := ifS h
        rcases iteS h with ⟨b480_8, h⟩ | ⟨b480_8, h⟩
        · refine At.step hm ht ⟨[(2, .b false), (8, .b true)], [true], [], [], []⟩ 6 ⟨[], [], [], 0⟩ [(decide ((i : Int) > 9)) = false, (0 : Int) ≤ i ∧ i < (((s).size : Nat) : Int), (decide (((byteAt s i) : Int) < 48)) = true, true = true] (by kernel_rfl) ⟨b480_2, g480_0, b480_8, rfl, trivial⟩ ?_
          have h := Option.some.inj h
          subst h
          have hk : o = f79_broughamref01_Parse_out (0, 10) := hk
          subst hk
          exact At.fin hm ht ⟨[], [], [], [2, 3], []⟩ [] (by kernel_rfl) trivial
        · obtain ⟨g480_1, h⟩ := ifS h
          rcases iteS h with ⟨b480_14, h⟩ | ⟨b480_14, h⟩
          · refine At.step hm ht ⟨[(2, .b false), (8, .b false), (14, .b true)], [true], [], [], []⟩ 6 ⟨[], [], [], 0⟩ [(decide ((i : Int) > 9)) = false, (0 : Int) ≤ i ∧ i < (((s).size : Nat) : Int), (decide (((byteAt s i) : Int) < 48)) = false, (0 : Int) ≤ i ∧ i < (((s).size : Nat) : Int), (decide (((byteAt s i) : Int) > 57)) = true, true = true] (by kernel_rfl) ⟨b480_2, g480_0, b480_8, g480_1, b480_14, rfl, trivial⟩ ?_
            have h := Option.some.inj h
            subst h
            have hk : o = f79_broughamref01_Parse_out (0, 10) := hk
            subst hk
            exact At.fin hm ht ⟨[], [], [], [2, 3], []⟩ [] (by kernel_rfl) trivial
          · obtain ⟨g480_2, h⟩ := ifS h
            rcases iteS h with ⟨b480_18, h⟩ | ⟨b480_18, h⟩
            · rcases iteS h with ⟨b480_e0, h⟩ | ⟨b480_e0, h⟩
              · refine At.step hm ht ⟨[(2, .b false), (8, .b false), (14, .b false), (18, .b true)], [true], [], [], []⟩ 6 ⟨[], [], [], 0⟩ [(decide ((i : Int) > 9)) = false, (0 : Int) ≤ i ∧ i < (((s).size : Nat) : Int), (decide (((byteAt s i) : Int) < 48)) = false, (0 : Int) ≤ i ∧ i < (((s).size : Nat) : Int), (decide (((byteAt s i) : Int) > 57)) = false, (0 : Int) ≤ 0 ∧ 0 < (((s).size : Nat) : Int), (((byteAt s 0) : Int) == 48) = true, (decide ((((s.size : Nat) : Int) : Int) > 1)) = true] (by kernel_rfl) ⟨b480_2, g480_0, b480_8, g480_1, b480_14, g480_2, b480_18, b480_e0, trivial⟩ ?_
                have h := Option.some.inj h
                subst h
                have hk : o = f79_broughamref01_Parse_out (0, 10) := hk
                subst hk
                exact At.fin hm ht ⟨[], [], [], [2, 3], []⟩ [] (by kernel_rfl) trivial
              · refine At.step hm ht ⟨[(2, .b false), (8, .b false), (14, .b false), (18, .b true)], [false], [], [0, 4, 5], []⟩ 7 ⟨[(0, oc (.d (.str s))), (4, oc (zi n_)), (5, oc (zi i))], [], [], 0⟩ [(decide ((i : Int) > 9)) = false, (0 : Int) ≤ i ∧ i < (((s).size : Nat) : Int), (decide (((byteAt s i) : Int) < 48)) = false, (0 : Int) ≤ i ∧ i < (((s).size : Nat) : Int), (decide (((byteAt s i) : Int) > 57)) = false, (0 : Int) ≤ 0 ∧ 0 < (((s).size : Nat) : Int), (((byteAt s 0) : Int) == 48) = true, (decide ((((s.size : Nat) : Int) : Int) > 1)) = false] (by kernel_rfl) ⟨b480_2, g480_0, b480_8, g480_1, b480_14, g480_2, b480_18, b480_e0, trivial⟩ ?_
                obtain ⟨g485_0, h⟩ := ifS h
                refine At.step hm ht ⟨[], [], [], [0, 4, 5], []⟩ 4 ⟨[(0, oc (.d (.str s))), (4, oc (zi (IntKind.wrap .i64 ((IntKind.wrap .i64 ((IntKind.wrap .i64 (n_ * 10)) + (IntKind.wrap .i64 (byteAt s i)))) - 48)))), (5, oc (zi i))], [], [], 0⟩ [(0 : Int) ≤ i ∧ i < (((s).size : Nat) : Int)] (by kernel_rfl) ⟨g485_0, trivial⟩ ?_
                refine At.step hm ht ⟨[], [], [], [0, 4, 5], []⟩ 3 ⟨[(0, oc (.d (.str s))), (4, oc (zi (IntKind.wrap .i64 ((IntKind.wrap .i64 ((IntKind.wrap .i64 (n_ * 10)) + (IntKind.wrap .i64 (byteAt s i)))) - 48)))), (5, oc (zi (IntKind.wrap .i64 (i + 1))))], [], [], 0⟩ [] (by kernel_rfl) trivial ?_
                exact ih s (IntKind.wrap .i64 ((IntKind.wrap .i64 ((IntKind.wrap .i64 (n_ * 10)) + (IntKind.wrap .i64 (byteAt s i)))) - 48)) (IntKind.wrap .i64 (i + 1)) w h o hk
            · refine At.step hm ht ⟨[(2, .b false), (8, .b false), (14, .b false), (18, .b false)], [false], [], [0, 4, 5], []⟩ 7 ⟨[(0, oc (.d (.str s))), (4, oc (zi n_)), (5, oc (zi i))], [], [], 0⟩ [(decide ((i : Int) > 9)) = false, (0 : Int) ≤ i ∧ i < (((s).size : Nat) : Int), (decide (((byteAt s i) : Int) < 48)) = false, (0 : Int) ≤ i ∧ i < (((s).size : Nat) : Int), (decide (((byteAt s i) : Int) > 57)) = false, (0 : Int) ≤ 0 ∧ 0 < (((s).size : Nat) : Int), (((byteAt s 0) : Int) == 48) = false, false = false] (by kernel_rfl) ⟨b480_2, g480_0, b480_8, g480_1, b480_14, g480_2, b480_18, rfl, trivial⟩ ?_
              obtain ⟨g487_0, h⟩ := ifS h
              refine At.step hm ht ⟨[], [], [], [0, 4, 5], []⟩ 4 ⟨[(0, oc (.d (.str s))), (4, oc (zi (IntKind.wrap .i64 ((IntKind.wrap .i64 ((IntKind.wrap .i64 (n_ * 10)) + (IntKind.wrap .i64 (byteAt s i)))) - 48)))), (5, oc (zi i))], [], [], 0⟩ [(0 : Int) ≤ i ∧ i < (((s).size : Nat) : Int)] (by kernel_rfl) ⟨g487_0, trivial⟩ ?_
              refine At.step hm ht ⟨[], [], [], [0, 4, 5], []⟩ 3 ⟨[(0, oc (.d (.str s))), (4, oc (zi (IntKind.wrap .i64 ((IntKind.wrap .i64 ((IntKind.wrap .i64 (n_ * 10)) + (IntKind.wrap .i64 (byteAt s i)))) - 48)))), (5, oc (zi (IntKind.wrap .i64 (i + 1))))], [], [], 0⟩ [] (by kernel_rfl) trivial ?_
              exact ih s (IntKind.wrap .i64 ((IntKind.wrap .i64 ((IntKind.wrap .i64 (n_ * 10)) + (IntKind.wrap .i64 (byteAt s i)))) - 48)) (IntKind.wrap .i64 (i + 1)) w h o hk
    · refine At.step hm ht ⟨[], [false], [], [0, 4], []⟩ 8 ⟨[(0, oc (.d (.str s))), (4, oc (zi n_))], [], [], 0⟩ [(decide ((i : Int) < ((s.size : Nat) : Int))) = false] (by kernel_rfl) ⟨b479_e0, trivial⟩ ?_
      have h := Option.some.inj h
      subst h
      exact hk
def f79_broughamref01_Parse (n : Nat) (s : ByteArray) : Option (Int × Int) :=
  (f79_broughamref01_Parse_L3 n s 0 0).bind fun w489 =>
  match w489 with
  | .inl e490 =>
    some (e490.1, e490.2)
  | .inr e491 =>
    if (e491.1.toList == (⟨#[]⟩ : ByteArray).toList) = true then
      some (0, 10)
    else
      if (decide ((e491.2 : Int) > 2147483647)) = true then
        some (0, 10)
      else
        some (e491.2, 0)
theorem f79_broughamref01_Parse_ok (n : Nat) (s : ByteArray) (r : Int × Int) (h : f79_broughamref01_Parse n s = some r) : FnOK Tryd.prog 79 (f79_broughamref01_Parse_in s) (f79_broughamref01_Parse_out r) := by
  unfold f79_broughamref01_Parse at h
  refine At.fn (r := 0) Tryd.func79 rfl (by kernel_rfl) rfl rfl (by kernel_rfl) ?_
  show At Tryd.prog Tryd.f79 0 0 ⟨[(0, oc (.d (.str s)))], [], [], 0⟩ _
  refine At.step hm ht ⟨[], [], [], [0], []⟩ 1 ⟨[(0, oc (.d (.str s)))], [], [], 0⟩ [] (by kernel_rfl) trivial ?_
  refine At.step hm ht ⟨[], [], [], [0, 4], []⟩ 2 ⟨[(0, oc (.d (.str s))), (4, oc (zi 0))], [], [], 0⟩ [] (by kernel_rfl) trivial ?_
  refine At.step hm ht ⟨[], [], [], [0, 4, 5], []⟩ 3 ⟨[(0, oc (.d (.str s))), (4, oc (zi 0)), (5, oc (zi 0))], [], [], 0⟩ [] (by kernel_rfl) trivial ?_
  obtain ⟨w489, cw489, h⟩ := bindS h
  refine f79_broughamref01_Parse_L3_ok n s 0 0 w489 cw489 _ ?_
  rcases w489 with e490 | e491
  · have h := Option.some.inj h
    subst h
    rfl
  · show At Tryd.prog Tryd.f79 0 8 ⟨[(0, oc (.d (.str e491.1))), (4, oc (zi e491.2))], [], [], 0⟩ _
    rcases iteS h with ⟨b492_2, h⟩ | ⟨b492_2, h⟩
    · refine At.step hm ht ⟨[(2, .b true)], [true], [], [], []⟩ 9 ⟨[], [], [], 0⟩ [(e491.1.toList == (⟨#[]⟩ : ByteArray).toList) = true, true = true] (by kernel_rfl) ⟨b492_2, rfl, trivial⟩ ?_
      have h := Option.some.inj h
      subst h
      exact At.fin hm ht ⟨[], [], [], [2, 3], []⟩ [] (by kernel_rfl) trivial
    · rcases iteS h with ⟨b492_e0, h⟩ | ⟨b492_e0, h⟩
      · refine At.step hm ht ⟨[(2, .b false)], [true], [], [], []⟩ 9 ⟨[], [], [], 0⟩ [(e491.1.toList == (⟨#[]⟩ : ByteArray).toList) = false, (decide ((e491.2 : Int) > 2147483647)) = true] (by kernel_rfl) ⟨b492_2, b492_e0, trivial⟩ ?_
        have h := Option.some.inj h
        subst h
        exact At.fin hm ht ⟨[], [], [], [2, 3], []⟩ [] (by kernel_rfl) trivial
      · refine At.step hm ht ⟨[(2, .b false)], [false], [], [4], []⟩ 10 ⟨[(4, oc (zi e491.2))], [], [], 0⟩ [(e491.1.toList == (⟨#[]⟩ : ByteArray).toList) = false, (decide ((e491.2 : Int) > 2147483647)) = false] (by kernel_rfl) ⟨b492_2, b492_e0, trivial⟩ ?_
        have h := Option.some.inj h
        subst h
        exact At.fin hm ht ⟨[], [], [], [2, 3], []⟩ [] (by kernel_rfl) trivial
/-! brougham/broughamref25.set -/
def f80_broughamref25_set_in (s_0 : Int) (s_1 : Int) (s_2 : Int) (s_3 : Int) (s_4 : Int) (s_5 : Int) (s_6 : List Int) (c : Int) (n_ : Int) : Inn := ⟨[.agg [zi s_0, zi s_1, zi s_2, zi s_3, zi s_4, zi s_5, .d (.sl (.int .u8) s_6)], .c (.d (.int .u8 c)), .c (zi n_)], [], [], 0⟩
def f80_broughamref25_set_out (r : Int × Int × Int × Int × Int × Int × List Int) : Out := ⟨.one (.agg [zi r.1, zi r.2.1, zi r.2.2.1, zi r.2.2.2.1, zi r.2.2.2.2.1, zi r.2.2.2.2.2.1, .d (.sl (.int .u8) r.2.2.2.2.2.2)]), [], [(0, [zi r.1, zi r.2.1, zi r.2.2.1, zi r.2.2.2.1, zi r.2.2.2.2.1, zi r.2.2.2.2.2.1, .d (.sl (.int .u8) r.2.2.2.2.2.2)])], 1⟩
def f80_broughamref25_set (s_0 : Int) (s_1 : Int) (s_2 : Int) (s_3 : Int) (s_4 : Int) (s_5 : Int) (s_6 : List Int) (c : Int) (n_ : Int) : Option (Int × Int × Int × Int × Int × Int × List Int) :=
  if ((c : Int) == 104) = true then
    some (s_0, n_, s_2, s_3, s_4, s_5, s_6)
  else
    if ((c : Int) == 110) = true then
      some (s_0, s_1, n_, s_3, s_4, s_5, s_6)
    else
      if ((c : Int) == 112) = true then
        some (s_0, s_1, s_2, n_, s_4, s_5, s_6)
      else
        if ((c : Int) == 119) = true then
          some (s_0, s_1, s_2, s_3, n_, s_5, s_6)
        else
          some (s_0, s_1, s_2, s_3, s_4, n_, s_6)
theorem f80_broughamref25_set_ok (s_0 : Int) (s_1 : Int) (s_2 : Int) (s_3 : Int) (s_4 : Int) (s_5 : Int) (s_6 : List Int) (c : Int) (n_ : Int) (r : Int × Int × Int × Int × Int × Int × List Int) (h : f80_broughamref25_set s_0 s_1 s_2 s_3 s_4 s_5 s_6 c n_ = some r) : FnOK Tryd.prog 80 (f80_broughamref25_set_in s_0 s_1 s_2 s_3 s_4 s_5 s_6 c n_) (f80_broughamref25_set_out r) := by
  unfold f80_broughamref25_set at h
  refine At.fn (r := 0) Tryd.func80 rfl (by kernel_rfl) rfl rfl (by kernel_rfl) ?_
  show At Tryd.prog Tryd.f80 0 0 ⟨[(0, .one (.agg [zi s_0, zi s_1, zi s_2, zi s_3, zi s_4, zi s_5, .d (.sl (.int .u8) s_6)])), (1, oc (.d (.int .u8 c))), (2, oc (zi n_))], [], [], 0⟩ _
  refine At.step hm ht ⟨[], [], [], [1, 2, 3, 6], [0, 1]⟩ 1 ⟨[(1, oc (.d (.int .u8 c))), (2, oc (zi n_)), (3, oc (.ptr 0 0)), (6, oc (.ptr 1 0))], [], [(0, [zi s_0, zi s_1, zi s_2, zi s_3, zi s_4, zi s_5, .d (.sl (.int .u8) s_6)]), (1, [zi 0, zi 0, zi 0, zi 0, zi 0, zi 0, .d (.sl .unit [])])], 2⟩ [] (by kernel_rfl) trivial ?_
  refine At.step hm ht ⟨[], [], [], [2, 3, 6, 7], [0, 1]⟩ 3 ⟨[(2, oc (zi n_)), (3, oc (.ptr 0 0)), (6, oc (.ptr 1 0)), (7, oc (.d (.int .u8 c)))], [], [(0, [zi s_0, zi s_1, zi s_2, zi s_3, zi s_4, zi s_5, .d (.sl (.int .u8) s_6)]), (1, [zi 0, zi 0, zi 0, zi 0, zi 0, zi 0, .d (.sl .unit [])])], 2⟩ [] (by kernel_rfl) trivial ?_
  rcases iteS h with ⟨b499_e0, h⟩ | ⟨b499_e0, h⟩
  · refine At.step hm ht ⟨[], [true], [], [2, 3, 6], [0, 1]⟩ 4 ⟨[(2, oc (zi n_)), (3, oc (.ptr 0 0)), (6, oc (.ptr 1 0))], [], [(0, [zi s_0, zi s_1, zi s_2, zi s_3, zi s_4, zi s_5, .d (.sl (.int .u8) s_6)]), (1, [zi 0, zi 0, zi 0, zi 0, zi 0, zi 0, .d (.sl .unit [])])], 2⟩ [((c : Int) == 104) = true] (by kernel_rfl) ⟨b499_e0, trivial⟩ ?_
    refine At.step hm ht ⟨[], [], [], [3, 6], [0, 1]⟩ 11 ⟨[(3, oc (.ptr 0 0)), (6, oc (.ptr 1 0))], [], [(0, [zi s_0, zi n_, zi s_2, zi s_3, zi s_4, zi s_5, .d (.sl (.int .u8) s_6)]), (1, [zi 0, zi 0, zi 0, zi 0, zi 0, zi 0, .d (.sl .unit [])])], 2⟩ [1 + 1 ≤ 7] (by kernel_rfl) ⟨(by decide), trivial⟩ ?_
    have h := Option.some.inj h
    subst h
    exact At.fin hm ht ⟨[], [], [], [6], [1]⟩ [0 + 7 ≤ 7] (by kernel_rfl) ⟨(by decide), trivial⟩
  · refine At.step hm ht ⟨[], [false], [], [2, 3, 6, 7], [0, 1]⟩ 5 ⟨[(2, oc (zi n_)), (3, oc (.ptr 0 0)), (6, oc (.ptr 1 0)), (7, oc (.d (.int .u8 c)))], [], [(0, [zi s_0, zi s_1, zi s_2, zi s_3, zi s_4, zi s_5, .d (.sl (.int .u8) s_6)]), (1, [zi 0, zi 0, zi 0, zi 0, zi 0, zi 0, .d (.sl .unit [])])], 2⟩ [((c : Int) == 104) = false] (by kernel_rfl) ⟨b499_e0, trivial⟩ ?_
    rcases iteS h with ⟨b502_e0, h⟩ | ⟨b502_e0, h⟩
    · refine At.step hm ht ⟨[], [true], [], [2, 3, 6], [0, 1]⟩ 6 ⟨[(2, oc (zi n_)), (3, oc (.ptr 0 0)), (6, oc (.ptr 1 0))], [], [(0, [zi s_0, zi s_1, zi s_2, zi s_3, zi s_4, zi s_5, .d (.sl (.int .u8) s_6)]), (1, [zi 0, zi 0, zi 0, zi 0, zi 0, zi 0, .d (.sl .unit [])])], 2⟩ [((c : Int) == 110) = true] (by kernel_rfl) ⟨b502_e0, trivial⟩ ?_
      refine At.step hm ht ⟨[], [], [], [3, 6], [0, 1]⟩ 11 ⟨[(3, oc (.ptr 0 0)), (6, oc (.ptr 1 0))], [], [(0, [zi s_0, zi s_1, zi n_, zi s_3, zi s_4, zi s_5, .d (.sl (.int .u8) s_6)]), (1, [zi 0, zi 0, zi 0, zi 0, zi 0, zi 0, .d (.sl .unit [])])], 2⟩ [2 + 1 ≤ 7] (by kernel_rfl) ⟨(by decide), trivial⟩ ?_
      have h := Option.some.inj h
      subst h
      exact At.fin hm ht ⟨[], [], [], [6], [1]⟩ [0 + 7 ≤ 7] (by kernel_rfl) ⟨(by decide), trivial⟩
    · refine At.step hm ht ⟨[], [false], [], [2, 3, 6, 7], [0, 1]⟩ 7 ⟨[(2, oc (zi n_)), (3, oc (.ptr 0 0)), (6, oc (.ptr 1 0)), (7, oc (.d (.int .u8 c)))], [], [(0, [zi s_0, zi s_1, zi s_2, zi s_3, zi s_4, zi s_5, .d (.sl (.int .u8) s_6)]), (1, [zi 0, zi 0, zi 0, zi 0, zi 0, zi 0, .d (.sl .unit [])])], 2⟩ [((c : Int) == 110) = false] (by kernel_rfl) ⟨b502_e0, trivial⟩ ?_
      rcases iteS h with ⟨b505_e0, h⟩ | ⟨b505_e0, h⟩
      · refine At.step hm ht ⟨[], [true], [], [2, 3, 6], [0, 1]⟩ 8 ⟨[(2, oc (zi n_)), (3, oc (.ptr 0 0)), (6, oc (.ptr 1 0))], [], [(0, [zi s_0, zi s_1, zi s_2, zi s_3, zi s_4, zi s_5, .d (.sl (.int .u8) s_6)]), (1, [zi 0, zi 0, zi 0, zi 0, zi 0, zi 0, .d (.sl .unit [])])], 2⟩ [((c : Int) == 112) = true] (by kernel_rfl) ⟨b505_e0, trivial⟩ ?_
        refine At.step hm ht ⟨[], [], [], [3, 6], [0, 1]⟩ 11 ⟨[(3, oc (.ptr 0 0)), (6, oc (.ptr 1 0))], [], [(0, [zi s_0, zi s_1, zi s_2, zi n_, zi s_4, zi s_5, .d (.sl (.int .u8) s_6)]), (1, [zi 0, zi 0, zi 0, zi 0, zi 0, zi 0, .d (.sl .unit [])])], 2⟩ [3 + 1 ≤ 7] (by kernel_rfl) ⟨(by decide), trivial⟩ ?_
        have h := Option.some.inj h
        subst h
        exact At.fin hm ht ⟨[], [], [], [6], [1]⟩ [0 + 7 ≤ 7] (by kernel_rfl) ⟨(by decide), trivial⟩
      · refine At.step hm ht ⟨[], [false], [], [2, 3, 6, 7], [0, 1]⟩ 9 ⟨[(2, oc (zi n_)), (3, oc (.ptr 0 0)), (6, oc (.ptr 1 0)), (7, oc (.d (.int .u8 c)))], [], [(0, [zi s_0, zi s_1, zi s_2, zi s_3, zi s_4, zi s_5, .d (.sl (.int .u8) s_6)]), (1, [zi 0, zi 0, zi 0, zi 0, zi 0, zi 0, .d (.sl .unit [])])], 2⟩ [((c : Int) == 112) = false] (by kernel_rfl) ⟨b505_e0, trivial⟩ ?_
        rcases iteS h with ⟨b508_e0, h⟩ | ⟨b508_e0, h⟩
        · refine At.step hm ht ⟨[], [true], [], [2, 3, 6], [0, 1]⟩ 10 ⟨[(2, oc (zi n_)), (3, oc (.ptr 0 0)), (6, oc (.ptr 1 0))], [], [(0, [zi s_0, zi s_1, zi s_2, zi s_3, zi s_4, zi s_5, .d (.sl (.int .u8) s_6)]), (1, [zi 0, zi 0, zi 0, zi 0, zi 0, zi 0, .d (.sl .unit [])])], 2⟩ [((c : Int) == 119) = true] (by kernel_rfl) ⟨b508_e0, trivial⟩ ?_
          refine At.step hm ht ⟨[], [], [], [3, 6], [0, 1]⟩ 11 ⟨[(3, oc (.ptr 0 0)), (6, oc (.ptr 1 0))], [], [(0, [zi s_0, zi s_1, zi s_2, zi s_3, zi n_, zi s_5, .d (.sl (.int .u8) s_6)]), (1, [zi 0, zi 0, zi 0, zi 0, zi 0, zi 0, .d (.sl .unit [])])], 2⟩ [4 + 1 ≤ 7] (by kernel_rfl) ⟨(by decide), trivial⟩ ?_
          have h := Option.some.inj h
          subst h
          exact At.fin hm ht ⟨[], [], [], [6], [1]⟩ [0 + 7 ≤ 7] (by kernel_rfl) ⟨(by decide), trivial⟩
        · refine At.step hm ht ⟨[], [false], [], [2, 3, 6], [0, 1]⟩ 2 ⟨[(2, oc (zi n_)), (3, oc (.ptr 0 0)), (6, oc (.ptr 1 0))], [], [(0, [zi s_0, zi s_1, zi s_2, zi s_3, zi s_4, zi s_5, .d (.sl (.int .u8) s_6)]), (1, [zi 0, zi 0, zi 0, zi 0, zi 0, zi 0, .d (.sl .unit [])])], 2⟩ [((c : Int) == 119) = false] (by kernel_rfl) ⟨b508_e0, trivial⟩ ?_
          refine At.step hm ht ⟨[], [], [], [3, 6], [0, 1]⟩ 11 ⟨[(3, oc (.ptr 0 0)), (6, oc (.ptr 1 0))], [], [(0, [zi s_0, zi s_1, zi s_2, zi s_3, zi s_4, zi n_, .d (.sl (.int .u8) s_6)]), (1, [zi 0, zi 0, zi 0, zi 0, zi 0, zi 0, .d (.sl .unit [])])], 2⟩ [5 + 1 ≤ 7] (by kernel_rfl) ⟨(by decide), trivial⟩ ?_
          have h := Option.some.inj h
          subst h
          exact At.fin hm ht ⟨[], [], [], [6], [1]⟩ [0 + 7 ≤ 7] (by kernel_rfl) ⟨(by decide), trivial⟩
/-! brougham/broughamref25.step -/
def f48_broughamref25_step_in (l : List ByteArray) : Inn := ⟨[.c (.d (.sl .str l))], [], [], 0⟩
def f48_broughamref25_step_out (r : Bool × Int × Int × Int × Int × Int × Int × List Int) : Out := ⟨.tup [.agg [zi r.2.1, zi r.2.2.1, zi r.2.2.2.1, zi r.2.2.2.2.1, zi r.2.2.2.2.2.1, zi r.2.2.2.2.2.2.1, .d (.sl (.int .u8) r.2.2.2.2.2.2.2)], .c (.d (.bool r.1))], [], [(0, [zi r.2.1, zi r.2.2.1, zi r.2.2.2.1, zi r.2.2.2.2.1, zi r.2.2.2.2.2.1, zi r.2.2.2.2.2.2.1, .d (.sl (.int .u8) r.2.2.2.2.2.2.2)])], 1⟩
def f48_broughamref25_step_L8 : Nat → (List ByteArray) → ByteArray → Int → Int → Int → Int → Int → Int → Int → Int → Int → Int → Int → Int → Int → (List Int) → Option ((Bool × Int × Int × Int × Int × Int × Int × List Int) ⊕ (Int × Int × Int × Int × Int × Int × Int × Int × Int × Int × Int × Int × List Int))
  | 0, _, _, _, _, _, _, _, _, _, _, _, _, _, _, _, _ => none
  | n + 1, l, parts, i, t2_0, t2_1, t2_2, t2_3, t2_4, t2_5, s_0, s_1, s_2, s_3, s_4, s_5, s_6 =>
    if (decide ((i : Int) < ((parts.size : Nat) : Int))) = true then
      if (0 : Int) ≤ i ∧ i < (((parts).size : Nat) : Int) then
      if (((byteAt parts i) : Int) == 98) = true then
        if (0 : Int) ≤ (IntKind.wrap .i64 (i + 1)) ∧ (IntKind.wrap .i64 (i + 1)) < (((l).length : Nat) : Int) then
        (f78_broughamref01_Unhex n (l.getD (IntKind.wrap .i64 (i + 1)).toNat ByteArray.empty)).bind fun r553_1 =>
        if ((r553_1.2 : Int) != 0) = true then
          some (.inl (false, 0, 0, 0, 0, 0, 0, []))
        else
          f48_broughamref25_step_L8 n l parts (IntKind.wrap .i64 (i + 1)) t2_0 t2_1 t2_2 t2_3 t2_4 t2_5 s_0 s_1 s_2 s_3 s_4 s_5 r553_1.1
        else none
      else
        if (0 : Int) ≤ (IntKind.wrap .i64 (i + 1)) ∧ (IntKind.wrap .i64 (i + 1)) < (((l).length : Nat) : Int) then
        (f79_broughamref01_Parse n (l.getD (IntKind.wrap .i64 (i + 1)).toNat ByteArray.empty)).bind fun r557_1 =>
        if (0 : Int) ≤ i ∧ i < (((parts).size : Nat) : Int) then
        (f80_broughamref25_set s_0 s_1 s_2 s_3 s_4 s_5 s_6 (byteAt parts i) r557_1.1).bind fun r558_1 =>
        if ((r557_1.2 : Int) != 0) = true then
          some (.inl (false, 0, 0, 0, 0, 0, 0, []))
        else
          f48_broughamref25_step_L8 n l parts (IntKind.wrap .i64 (i + 1)) t2_0 t2_1 t2_2 t2_3 t2_4 t2_5 r558_1.1 r558_1.2.1 r558_1.2.2.1 r558_1.2.2.2.1 r558_1.2.2.2.2.1 r558_1.2.2.2.2.2.1 r558_1.2.2.2.2.2.2
        else none
        else none
      else none
    else
      some (.inr ((t2_0, t2_1, t2_2, t2_3, t2_4, t2_5, s_0, s_1, s_2, s_3, s_4, s_5, s_6)))
def f48_broughamref25_step_L8_k (w : (Bool × Int × Int × Int × Int × Int × Int × List Int) ⊕ (Int × Int × Int × Int × Int × Int × Int × Int × Int × Int × Int × Int × List Int)) (o : Out) : Prop := match w with
  | .inl e => o = f48_broughamref25_step_out e
  | .inr e => At Tryd.prog Tryd.f48 0 17 ⟨[(2, oc (.ptr 0 0)), (7, oc (.ptr 1 0))], [], [(0, [zi e.1, zi e.2.1, zi e.2.2.1, zi e.2.2.2.1, zi e.2.2.2.2.1, zi e.2.2.2.2.2.1, .d (.sl .unit [])]), (1, [zi e.2.2.2.2.2.2.1, zi e.2.2.2.2.2.2.2.1, zi e.2.2.2.2.2.2.2.2.1, zi e.2.2.2.2.2.2.2.2.2.1, zi e.2.2.2.2.2.2.2.2.2.2.1, zi e.2.2.2.2.2.2.2.2.2.2.2.1, .d (.sl (.int .u8) e.2.2.2.2.2.2.2.2.2.2.2.2)])], 2⟩ o
theorem f48_broughamref25_step_L8_ok (n : Nat) : ∀ (l : List ByteArray) (parts : ByteArray) (i : Int) (t2_0 : Int) (t2_1 : Int) (t2_2 : Int) (t2_3 : Int) (t2_4 : Int) (t2_5 : Int) (s_0 : Int) (s_1 : Int) (s_2 : Int) (s_3 : Int) (s_4 : Int) (s_5 : Int) (s_6 : List Int) (w : (Bool × Int × Int × Int × Int × Int × Int × List Int) ⊕ (Int × Int × Int × Int × Int × Int × Int × Int × Int × Int × Int × Int × List Int)) (h : f48_broughamref25_step_L8 n l parts i t2_0 t2_1 t2_2 t2_3 t2_4 t2_5 s_0 s_1 s_2 s_3 s_4 s_5 s_6 = some w) (o : Out) (hk : f48_broughamref25_step_L8_k w o), At Tryd.prog Tryd.f48 0 8 ⟨[(0, oc (.d (.sl .str l))), (2, oc (.ptr 0 0)), (6, oc (.d (.str parts))), (7, oc (.ptr 1 0)), (8, oc (zi i))], [], [(0, [zi t2_0, zi t2_1, zi t2_2, zi t2_3, zi t2_4, zi t2_5, .d (.sl .unit [])]), (1, [zi s_0, zi s_1, zi s_2, zi s_3, zi s_4, zi s_5, .d (.sl (.int .u8) s_6)])], 2⟩ o := by
  induction n with
  | zero => intro l parts i t2_0 t2_1 t2_2 t2_3 t2_4 t2_5 s_0 s_1 s_2 s_3 s_4 s_5 s_6 w h; rw [f48_broughamref25_step_L8] at h; cases h
  | succ n ih =>
    intro l parts i t2_0 t2_1 t2_2 t2_3 t2_4 t2_5 s_0 s_1 s_2 s_3 s_4 s_5 s_6 w h o hk
    rw [f48_broughamref25_step_L8] at h
    rcases iteS h with ⟨b550_e0, h⟩ | ⟨b550_e0, h⟩
    · refine At.step hm ht ⟨[], [true], [], [0, 2, 6, 7, 8], [0, 1]⟩ 10 ⟨[(0, oc (.d (.sl .str l))), (2, oc (.ptr 0 0)), (6, oc (.d (.str parts))), (7, oc (.ptr 1 0)), (8, oc (zi i))], [], [(0, [zi t2_0, zi t2_1, zi t2_2, zi t2_3, zi t2_4, zi t2_5, .d (.sl .unit [])]), (1, [zi s_0, zi s_1, zi s_2, zi s_3, zi s_4, zi s_5, .d (.sl (.int .u8) s_6)])], 2⟩ [(decide ((i : Int) < ((parts.size : Nat) : Int))) = true] (by kernel_rfl) ⟨b550_e0, trivial⟩ ?_
      refine At.step hm ht ⟨[], [], [], [0, 2, 6, 7, 8], [0, 1]⟩ 11 ⟨[(0, oc (.d (.sl .str l))), (2, oc (.ptr 0 0)), (6, oc (.d (.str parts))), (7, oc (.ptr 1 0)), (8, oc (zi i))], [], [(0, [zi t2_0, zi t2_1, zi t2_2, zi t2_3, zi t2_4, zi t2_5, .d (.sl .unit [])]), (1, [zi s_0, zi s_1, zi s_2, zi s_3, zi s_4, zi s_5, .d (.sl (.int .u8) s_6)])], 2⟩ [] (by kernel_rfl) trivial ?_
      obtain ⟨g552_0, h⟩ := ifS h
      rcases iteS h with ⟨b552_e0, h⟩ | ⟨b552_e0, h⟩
      · refine At.step hm ht ⟨[], [true], [], [0, 2, 6, 7, 8], [0, 1]⟩ 12 ⟨[(0, oc (.d (.sl .str l))), (2, oc (.ptr 0 0)), (6, oc (.d (.str parts))), (7, oc (.ptr 1 0)), (8, oc (zi i))], [], [(0, [zi t2_0, zi t2_1, zi t2_2, zi t2_3, zi t2_4, zi t2_5, .d (.sl .unit [])]), (1, [zi s_0, zi s_1, zi s_2, zi s_3, zi s_4, zi s_5, .d (.sl (.int .u8) s_6)])], 2⟩ [(0 : Int) ≤ i ∧ i < (((parts).size : Nat) : Int), (((byteAt parts i) : Int) == 98) = true] (by kernel_rfl) ⟨g552_0, b552_e0, trivial⟩ ?_
        obtain ⟨g553_0, h⟩ := ifS h
        obtain ⟨r553_1, cr553_1, h⟩ := bindS h
        refine At.step hm ht ⟨[(5, .call [] [] (f78_broughamref01_Unhex_out r553_1))], [], [], [0, 2, 6, 7, 8, 10], [0, 1, 7]⟩ 15 ⟨[(0, oc (.d (.sl .str l))), (2, oc (.ptr 0 0)), (6, oc (.d (.str parts))), (7, oc (.ptr 1 0)), (8, oc (zi i)), (10, oc (zi r553_1.2))], [(2, some ⟨5, 0⟩)], [(0, [zi t2_0, zi t2_1, zi t2_2, zi t2_3, zi t2_4, zi t2_5, .d (.sl .unit [])]), (1, [zi s_0, zi s_1, zi s_2, zi s_3, zi s_4, zi s_5, .own 2 (.int .u8) r553_1.1])], 3⟩ [(0 : Int) ≤ (IntKind.wrap .i64 (i + 1)) ∧ (IntKind.wrap .i64 (i + 1)) < (((l).length : Nat) : Int), FnOK Tryd.prog 78 (f78_broughamref01_Unhex_in (l.getD (IntKind.wrap .i64 (i + 1)).toNat ByteArray.empty)) (f78_broughamref01_Unhex_out r553_1), 6 + 1 ≤ 7] (by kernel_rfl) ⟨g553_0, (f78_broughamref01_Unhex_ok n (l.getD (IntKind.wrap .i64 (i + 1)).toNat ByteArray.empty) r553_1 cr553_1), (by decide), trivial⟩ ?_
        rcases iteS h with ⟨b554_e0, h⟩ | ⟨b554_e0, h⟩
        · refine At.step hm ht ⟨[], [true], [], [2], [0]⟩ 16 ⟨[(2, oc (.ptr 0 0))], [], [(0, [zi t2_0, zi t2_1, zi t2_2, zi t2_3, zi t2_4, zi t2_5, .d (.sl .unit [])])], 1⟩ [((r553_1.2 : Int) != 0) = true] (by kernel_rfl) ⟨b554_e0, trivial⟩ ?_
          have h := Option.some.inj h
          subst h
          have hk : o = f48_broughamref25_step_out (false, 0, 0, 0, 0, 0, 0, []) := hk
          subst hk
          exact At.fin hm ht ⟨[], [], [.nil true 0 6 (.int .u8) none], [2, 3], [0]⟩ [0 + 7 ≤ 7] (by kernel_rfl) ⟨(by decide), trivial⟩
        · refine At.step hm ht ⟨[], [false], [], [0, 2, 6, 7, 8], [0, 1, 2]⟩ 9 ⟨[(0, oc (.d (.sl .str l))), (2, oc (.ptr 0 0)), (6, oc (.d (.str parts))), (7, oc (.ptr 1 0)), (8, oc (zi i))], [(2, some ⟨5, 0⟩)], [(0, [zi t2_0, zi t2_1, zi t2_2, zi t2_3, zi t2_4, zi t2_5, .d (.sl .unit [])]), (1, [zi s_0, zi s_1, zi s_2, zi s_3, zi s_4, zi s_5, .own 2 (.int .u8) r553_1.1])], 3⟩ [((r553_1.2 : Int) != 0) = false] (by kernel_rfl) ⟨b554_e0, trivial⟩ ?_
          refine At.step hm ht ⟨[], [], [], [0, 2, 6, 7, 8], [0, 1]⟩ 8 ⟨[(0, oc (.d (.sl .str l))), (2, oc (.ptr 0 0)), (6, oc (.d (.str parts))), (7, oc (.ptr 1 0)), (8, oc (zi (IntKind.wrap .i64 (i + 1))))], [], [(0, [zi t2_0, zi t2_1, zi t2_2, zi t2_3, zi t2_4, zi t2_5, .d (.sl .unit [])]), (1, [zi s_0, zi s_1, zi s_2, zi s_3, zi s_4, zi s_5, .d (.sl (.int .u8) r553_1.1)])], 2⟩ [] (by kernel_rfl) trivial ?_
          exact ih l parts (IntKind.wrap .i64 (i + 1)) t2_0 t2_1 t2_2 t2_3 t2_4 t2_5 s_0 s_1 s_2 s_3 s_4 s_5 r553_1.1 w h o hk
      · refine At.step hm ht ⟨[], [false], [], [0, 2, 6, 7, 8], [0, 1]⟩ 13 ⟨[(0, oc (.d (.sl .str l))), (2, oc (.ptr 0 0)), (6, oc (.d (.str parts))), (7, oc (.ptr 1 0)), (8, oc (zi i))], [], [(0, [zi t2_0, zi t2_1, zi t2_2, zi t2_3, zi t2_4, zi t2_5, .d (.sl .unit [])]), (1, [zi s_0, zi s_1, zi s_2, zi s_3, zi s_4, zi s_5, .d (.sl (.int .u8) s_6)])], 2⟩ [(0 : Int) ≤ i ∧ i < (((parts).size : Nat) : Int), (((byteAt parts i) : Int) == 98) = false] (by kernel_rfl) ⟨g552_0, b552_e0, trivial⟩ ?_
        obtain ⟨g557_0, h⟩ := ifS h
        obtain ⟨r557_1, cr557_1, h⟩ := bindS h
        refine At.step hm ht ⟨[(5, .call [] [] (f79_broughamref01_Parse_out r557_1))], [], [], [0, 2, 6, 7, 8, 9, 10], [0, 1]⟩ 14 ⟨[(0, oc (.d (.sl .str l))), (2, oc (.ptr 0 0)), (6, oc (.d (.str parts))), (7, oc (.ptr 1 0)), (8, oc (zi i)), (9, oc (zi r557_1.1)), (10, oc (zi r557_1.2))], [], [(0, [zi t2_0, zi t2_1, zi t2_2, zi t2_3, zi t2_4, zi t2_5, .d (.sl .unit [])]), (1, [zi s_0, zi s_1, zi s_2, zi s_3, zi s_4, zi s_5, .d (.sl (.int .u8) s_6)])], 2⟩ [(0 : Int) ≤ (IntKind.wrap .i64 (i + 1)) ∧ (IntKind.wrap .i64 (i + 1)) < (((l).length : Nat) : Int), FnOK Tryd.prog 79 (f79_broughamref01_Parse_in (l.getD (IntKind.wrap .i64 (i + 1)).toNat ByteArray.empty)) (f79_broughamref01_Parse_out r557_1)] (by kernel_rfl) ⟨g557_0, (f79_broughamref01_Parse_ok n (l.getD (IntKind.wrap .i64 (i + 1)).toNat ByteArray.empty) r557_1 cr557_1), trivial⟩ ?_
        obtain ⟨g558_0, h⟩ := ifS h
        obtain ⟨r558_1, cr558_1, h⟩ := bindS h
        refine At.step hm ht ⟨[(5, .call [] [] (f80_broughamref25_set_out r558_1))], [], [], [0, 2, 6, 7, 8, 10], [0, 1]⟩ 15 ⟨[(0, oc (.d (.sl .str l))), (2, oc (.ptr 0 0)), (6, oc (.d (.str parts))), (7, oc (.ptr 1 0)), (8, oc (zi i)), (10, oc (zi r557_1.2))], [], [(0, [zi t2_0, zi t2_1, zi t2_2, zi t2_3, zi t2_4, zi t2_5, .d (.sl .unit [])]), (1, [zi r558_1.1, zi r558_1.2.1, zi r558_1.2.2.1, zi r558_1.2.2.2.1, zi r558_1.2.2.2.2.1, zi r558_1.2.2.2.2.2.1, .d (.sl (.int .u8) r558_1.2.2.2.2.2.2)])], 2⟩ [(0 : Int) ≤ i ∧ i < (((parts).size : Nat) : Int), FnOK Tryd.prog 80 (f80_broughamref25_set_in s_0 s_1 s_2 s_3 s_4 s_5 s_6 (byteAt parts i) r557_1.1) (f80_broughamref25_set_out r558_1), 0 + 7 ≤ 7] (by kernel_rfl) ⟨g558_0, (f80_broughamref25_set_ok s_0 s_1 s_2 s_3 s_4 s_5 s_6 (byteAt parts i) r557_1.1 r558_1 cr558_1), (by decide), trivial⟩ ?_
        rcases iteS h with ⟨b559_e0, h⟩ | ⟨b559_e0, h⟩
        · refine At.step hm ht ⟨[], [true], [], [2], [0]⟩ 16 ⟨[(2, oc (.ptr 0 0))], [], [(0, [zi t2_0, zi t2_1, zi t2_2, zi t2_3, zi t2_4, zi t2_5, .d (.sl .unit [])])], 1⟩ [((r557_1.2 : Int) != 0) = true] (by kernel_rfl) ⟨b559_e0, trivial⟩ ?_
          have h := Option.some.inj h
          subst h
          have hk : o = f48_broughamref25_step_out (false, 0, 0, 0, 0, 0, 0, []) := hk
          subst hk
          exact At.fin hm ht ⟨[], [], [.nil true 0 6 (.int .u8) none], [2, 3], [0]⟩ [0 + 7 ≤ 7] (by kernel_rfl) ⟨(by decide), trivial⟩
        · refine At.step hm ht ⟨[], [false], [], [0, 2, 6, 7, 8], [0, 1]⟩ 9 ⟨[(0, oc (.d (.sl .str l))), (2, oc (.ptr 0 0)), (6, oc (.d (.str parts))), (7, oc (.ptr 1 0)), (8, oc (zi i))], [], [(0, [zi t2_0, zi t2_1, zi t2_2, zi t2_3, zi t2_4, zi t2_5, .d (.sl .unit [])]), (1, [zi r558_1.1, zi r558_1.2.1, zi r558_1.2.2.1, zi r558_1.2.2.2.1, zi r558_1.2.2.2.2.1, zi r558_1.2.2.2.2.2.1, .d (.sl (.int .u8) r558_1.2.2.2.2.2.2)])], 2⟩ [((r557_1.2 : Int) != 0) = false] (by kernel_rfl) ⟨b559_e0, trivial⟩ ?_
          refine At.step hm ht ⟨[], [], [], [0, 2, 6, 7, 8], [0, 1]⟩ 8 ⟨[(0, oc (.d (.sl .str l))), (2, oc (.ptr 0 0)), (6, oc (.d (.str parts))), (7, oc (.ptr 1 0)), (8, oc (zi (IntKind.wrap .i64 (i + 1))))], [], [(0, [zi t2_0, zi t2_1, zi t2_2, zi t2_3, zi t2_4, zi t2_5, .d (.sl .unit [])]), (1, [zi r558_1.1, zi r558_1.2.1, zi r558_1.2.2.1, zi r558_1.2.2.2.1, zi r558_1.2.2.2.2.1, zi r558_1.2.2.2.2.2.1, .d (.sl (.int .u8) r558_1.2.2.2.2.2.2)])], 2⟩ [] (by kernel_rfl) trivial ?_
          exact ih l parts (IntKind.wrap .i64 (i + 1)) t2_0 t2_1 t2_2 t2_3 t2_4 t2_5 r558_1.1 r558_1.2.1 r558_1.2.2.1 r558_1.2.2.2.1 r558_1.2.2.2.2.1 r558_1.2.2.2.2.2.1 r558_1.2.2.2.2.2.2 w h o hk
    · refine At.step hm ht ⟨[], [false], [], [2, 7], [0, 1]⟩ 17 ⟨[(2, oc (.ptr 0 0)), (7, oc (.ptr 1 0))], [], [(0, [zi t2_0, zi t2_1, zi t2_2, zi t2_3, zi t2_4, zi t2_5, .d (.sl .unit [])]), (1, [zi s_0, zi s_1, zi s_2, zi s_3, zi s_4, zi s_5, .d (.sl (.int .u8) s_6)])], 2⟩ [(decide ((i : Int) < ((parts.size : Nat) : Int))) = false] (by kernel_rfl) ⟨b550_e0, trivial⟩ ?_
      have h := Option.some.inj h
      subst h
      exact hk
def f48_broughamref25_step_L2 : Nat → (List ByteArray) → Int → Int → Int → Int → Int → Int → Int → Option ((Bool × Int × Int × Int × Int × Int × Int × List Int) ⊕ (Int × Int × Int × Int × Int × Int))
  | 0, _, _, _, _, _, _, _, _ => none
  | n + 1, l, k, t2_0, t2_1, t2_2, t2_3, t2_4, t2_5 =>
    if (decide ((k : Int) ≤ 16)) = true then
      (f73_broughamref25_word k).bind fun r544_0 =>
      if (0 : Int) ≤ 0 ∧ 0 < (((l).length : Nat) : Int) then
      if (!(r544_0.1.toList == (l.getD 0 ByteArray.empty).toList)) = true then
        f48_broughamref25_step_L2 n l (IntKind.wrap .i64 (k + 1)) t2_0 t2_1 t2_2 t2_3 t2_4 t2_5
      else
        if ((((l.length : Nat) : Int) : Int) != (IntKind.wrap .i64 (((r544_0.2.size : Nat) : Int) + 1))) = true then
          f48_broughamref25_step_L2 n l (IntKind.wrap .i64 (k + 1)) t2_0 t2_1 t2_2 t2_3 t2_4 t2_5
        else
          (f48_broughamref25_step_L8 n l r544_0.2 0 t2_0 t2_1 t2_2 t2_3 t2_4 t2_5 k 0 0 0 0 0 []).bind fun w562 =>
          match w562 with
          | .inl e563 =>
            some (.inl (e563.1, e563.2.1, e563.2.2.1, e563.2.2.2.1, e563.2.2.2.2.1, e563.2.2.2.2.2.1, e563.2.2.2.2.2.2.1, e563.2.2.2.2.2.2.2))
          | .inr e564 =>
            some (.inl (true, e564.2.2.2.2.2.2.1, e564.2.2.2.2.2.2.2.1, e564.2.2.2.2.2.2.2.2.1, e564.2.2.2.2.2.2.2.2.2.1, e564.2.2.2.2.2.2.2.2.2.2.1, e564.2.2.2.2.2.2.2.2.2.2.2.1, e564.2.2.2.2.2.2.2.2.2.2.2.2))
      else none
    else
      some (.inr ((t2_0, t2_1, t2_2, t2_3, t2_4, t2_5)))
def f48_broughamref25_step_L2_k (w : (Bool × Int × Int × Int × Int × Int × Int × List Int) ⊕ (Int × Int × Int × Int × Int × Int)) (o : Out) : Prop := match w with
  | .inl e => o = f48_broughamref25_step_out e
  | .inr e => At Tryd.prog Tryd.f48 0 18 ⟨[(2, oc (.ptr 0 0))], [], [(0, [zi e.1, zi e.2.1, zi e.2.2.1, zi e.2.2.2.1, zi e.2.2.2.2.1, zi e.2.2.2.2.2, .d (.sl .unit [])])], 1⟩ o
theorem f48_broughamref25_step_L2_ok (n : Nat) : ∀ (l : List ByteArray) (k : Int) (t2_0 : Int) (t2_1 : Int) (t2_2 : Int) (t2_3 : Int) (t2_4 : Int) (t2_5 : Int) (w : (Bool × Int × Int × Int × Int × Int × Int × List Int) ⊕ (Int × Int × Int × Int × Int × Int)) (h : f48_broughamref25_step_L2 n l k t2_0 t2_1 t2_2 t2_3 t2_4 t2_5 = some w) (o : Out) (hk : f48_broughamref25_step_L2_k w o), At Tryd.prog Tryd.f48 0 2 ⟨[(0, oc (.d (.sl .str l))), (2, oc (.ptr 0 0)), (4, oc (zi k))], [], [(0, [zi t2_0, zi t2_1, zi t2_2, zi t2_3, zi t2_4, zi t2_5, .d (.sl .unit [])])], 1⟩ o := by
  induction n with
  | zero => intro l k t2_0 t2_1 t2_2 t2_3 t2_4 t2_5 w h; rw [f48_broughamref25_step_L2] at h; cases h
  | succ n ih =>
    intro l k t2_0 t2_1 t2_2 t2_3 t2_4 t2_5 w h o hk
    rw [f48_broughamref25_step_L2] at h
    rcases iteS h with ⟨b543_e0, h⟩ | ⟨b543_e0, h⟩
    · refine At.step hm ht ⟨[], [true], [], [0, 2, 4], [0]⟩ 4 ⟨[(0, oc (.d (.sl .str l))), (2, oc (.ptr 0 0)), (4, oc (zi k))], [], [(0, [zi t2_0, zi t2_1, zi t2_2, zi t2_3, zi t2_4, zi t2_5, .d (.sl .unit [])])], 1⟩ [(decide ((k : Int) ≤ 16)) = true] (by kernel_rfl) ⟨b543_e0, trivial⟩ ?_
      obtain ⟨r544_0, cr544_0, h⟩ := bindS h
      refine At.step hm ht ⟨[(1, .call [] [] (f73_broughamref25_word_out r544_0))], [], [], [0, 2, 4, 5, 6], [0]⟩ 5 ⟨[(0, oc (.d (.sl .str l))), (2, oc (.ptr 0 0)), (4, oc (zi k)), (5, oc (.d (.str r544_0.1))), (6, oc (.d (.str r544_0.2)))], [], [(0, [zi t2_0, zi t2_1, zi t2_2, zi t2_3, zi t2_4, zi t2_5, .d (.sl .unit [])])], 1⟩ [FnOK Tryd.prog 73 (f73_broughamref25_word_in k) (f73_broughamref25_word_out r544_0)] (by kernel_rfl) ⟨(f73_broughamref25_word_ok k r544_0 cr544_0), trivial⟩ ?_
      obtain ⟨g545_0, h⟩ := ifS h
      rcases iteS h with ⟨b545_5, h⟩ | ⟨b545_5, h⟩
      · refine At.step hm ht ⟨[(5, .b true)], [true], [], [0, 2, 4], [0]⟩ 3 ⟨[(0, oc (.d (.sl .str l))), (2, oc (.ptr 0 0)), (4, oc (zi k))], [], [(0, [zi t2_0, zi t2_1, zi t2_2, zi t2_3, zi t2_4, zi t2_5, .d (.sl .unit [])])], 1⟩ [(0 : Int) ≤ 0 ∧ 0 < (((l).length : Nat) : Int), (!(r544_0.1.toList == (l.getD 0 ByteArray.empty).toList)) = true, true = true] (by kernel_rfl) ⟨g545_0, b545_5, rfl, trivial⟩ ?_
        refine At.step hm ht ⟨[], [], [], [0, 2, 4], [0]⟩ 2 ⟨[(0, oc (.d (.sl .str l))), (2, oc (.ptr 0 0)), (4, oc (zi (IntKind.wrap .i64 (k + 1))))], [], [(0, [zi t2_0, zi t2_1, zi t2_2, zi t2_3, zi t2_4, zi t2_5, .d (.sl .unit [])])], 1⟩ [] (by kernel_rfl) trivial ?_
        exact ih l (IntKind.wrap .i64 (k + 1)) t2_0 t2_1 t2_2 t2_3 t2_4 t2_5 w h o hk
      · rcases iteS h with ⟨b545_e0, h⟩ | ⟨b545_e0, h⟩
        · refine At.step hm ht ⟨[(5, .b false)], [true], [], [0, 2, 4], [0]⟩ 3 ⟨[(0, oc (.d (.sl .str l))), (2, oc (.ptr 0 0)), (4, oc (zi k))], [], [(0, [zi t2_0, zi t2_1, zi t2_2, zi t2_3, zi t2_4, zi t2_5, .d (.sl .unit [])])], 1⟩ [(0 : Int) ≤ 0 ∧ 0 < (((l).length : Nat) : Int), (!(r544_0.1.toList == (l.getD 0 ByteArray.empty).toList)) = false, ((((l.length : Nat) : Int) : Int) != (IntKind.wrap .i64 (((r544_0.2.size : Nat) : Int) + 1))) = true] (by kernel_rfl) ⟨g545_0, b545_5, b545_e0, trivial⟩ ?_
          refine At.step hm ht ⟨[], [], [], [0, 2, 4], [0]⟩ 2 ⟨[(0, oc (.d (.sl .str l))), (2, oc (.ptr 0 0)), (4, oc (zi (IntKind.wrap .i64 (k + 1))))], [], [(0, [zi t2_0, zi t2_1, zi t2_2, zi t2_3, zi t2_4, zi t2_5, .d (.sl .unit [])])], 1⟩ [] (by kernel_rfl) trivial ?_
          exact ih l (IntKind.wrap .i64 (k + 1)) t2_0 t2_1 t2_2 t2_3 t2_4 t2_5 w h o hk
        · refine At.step hm ht ⟨[(5, .b false)], [false], [], [0, 2, 4, 6], [0]⟩ 6 ⟨[(0, oc (.d (.sl .str l))), (2, oc (.ptr 0 0)), (4, oc (zi k)), (6, oc (.d (.str r544_0.2)))], [], [(0, [zi t2_0, zi t2_1, zi t2_2, zi t2_3, zi t2_4, zi t2_5, .d (.sl .unit [])])], 1⟩ [(0 : Int) ≤ 0 ∧ 0 < (((l).length : Nat) : Int), (!(r544_0.1.toList == (l.getD 0 ByteArray.empty).toList)) = false, ((((l.length : Nat) : Int) : Int) != (IntKind.wrap .i64 (((r544_0.2.size : Nat) : Int) + 1))) = false] (by kernel_rfl) ⟨g545_0, b545_5, b545_e0, trivial⟩ ?_
          refine At.step hm ht ⟨[], [], [], [0, 2, 6, 7], [0, 3]⟩ 7 ⟨[(0, oc (.d (.sl .str l))), (2, oc (.ptr 0 0)), (6, oc (.d (.str r544_0.2))), (7, oc (.ptr 1 0))], [], [(0, [zi t2_0, zi t2_1, zi t2_2, zi t2_3, zi t2_4, zi t2_5, .d (.sl .unit [])]), (1, [zi k, zi 0, zi 0, zi 0, zi 0, zi 0, .d (.sl .unit [])])], 2⟩ [0 + 7 ≤ 7] (by kernel_rfl) ⟨(by decide), trivial⟩ ?_
          refine At.step hm ht ⟨[], [], [.nil true 1 6 (.int .u8) none], [0, 2, 6, 7, 8], [0, 1]⟩ 8 ⟨[(0, oc (.d (.sl .str l))), (2, oc (.ptr 0 0)), (6, oc (.d (.str r544_0.2))), (7, oc (.ptr 1 0)), (8, oc (zi 0))], [], [(0, [zi t2_0, zi t2_1, zi t2_2, zi t2_3, zi t2_4, zi t2_5, .d (.sl .unit [])]), (1, [zi k, zi 0, zi 0, zi 0, zi 0, zi 0, .d (.sl (.int .u8) [])])], 2⟩ [] (by kernel_rfl) trivial ?_
          obtain ⟨w562, cw562, h⟩ := bindS h
          refine f48_broughamref25_step_L8_ok n l r544_0.2 0 t2_0 t2_1 t2_2 t2_3 t2_4 t2_5 k 0 0 0 0 0 [] w562 cw562 _ ?_
          rcases w562 with e563 | e564
          · have h := Option.some.inj h
            subst h
            exact hk
          · show At Tryd.prog Tryd.f48 0 17 ⟨[(2, oc (.ptr 0 0)), (7, oc (.ptr 1 0))], [], [(0, [zi e564.1, zi e564.2.1, zi e564.2.2.1, zi e564.2.2.2.1, zi e564.2.2.2.2.1, zi e564.2.2.2.2.2.1, .d (.sl .unit [])]), (1, [zi e564.2.2.2.2.2.2.1, zi e564.2.2.2.2.2.2.2.1, zi e564.2.2.2.2.2.2.2.2.1, zi e564.2.2.2.2.2.2.2.2.2.1, zi e564.2.2.2.2.2.2.2.2.2.2.1, zi e564.2.2.2.2.2.2.2.2.2.2.2.1, .d (.sl (.int .u8) e564.2.2.2.2.2.2.2.2.2.2.2.2)])], 2⟩ _
            have h := Option.some.inj h
            subst h
            have hk : o = f48_broughamref25_step_out (true, e564.2.2.2.2.2.2.1, e564.2.2.2.2.2.2.2.1, e564.2.2.2.2.2.2.2.2.1, e564.2.2.2.2.2.2.2.2.2.1, e564.2.2.2.2.2.2.2.2.2.2.1, e564.2.2.2.2.2.2.2.2.2.2.2.1, e564.2.2.2.2.2.2.2.2.2.2.2.2) := hk
            subst hk
            exact At.fin hm ht ⟨[], [], [], [2, 3], [0]⟩ [0 + 7 ≤ 7] (by kernel_rfl) ⟨(by decide), trivial⟩
    · refine At.step hm ht ⟨[], [false], [], [2], [0]⟩ 18 ⟨[(2, oc (.ptr 0 0))], [], [(0, [zi t2_0, zi t2_1, zi t2_2, zi t2_3, zi t2_4, zi t2_5, .d (.sl .unit [])])], 1⟩ [(decide ((k : Int) ≤ 16)) = false] (by kernel_rfl) ⟨b543_e0, trivial⟩ ?_
      have h := Option.some.inj h
      subst h
      exact hk
def f48_broughamref25_step (n : Nat) (l : List ByteArray) : Option (Bool × Int × Int × Int × Int × Int × Int × List Int) :=
  (f48_broughamref25_step_L2 n l 1 0 0 0 0 0 0).bind fun w566 =>
  match w566 with
  | .inl e567 =>
    some (e567.1, e567.2.1, e567.2.2.1, e567.2.2.2.1, e567.2.2.2.2.1, e567.2.2.2.2.2.1, e567.2.2.2.2.2.2.1, e567.2.2.2.2.2.2.2)
  | .inr e568 =>
    some (false, 0, 0, 0, 0, 0, 0, [])
theorem f48_broughamref25_step_ok (n : Nat) (l : List ByteArray) (r : Bool × Int × Int × Int × Int × Int × Int × List Int) (h : f48_broughamref25_step n l = some r) : FnOK Tryd.prog 48 (f48_broughamref25_step_in l) (f48_broughamref25_step_out r) := by
  unfold f48_broughamref25_step at h
  refine At.fn (r := 0) Tryd.func48 rfl (by kernel_rfl) rfl rfl (by kernel_rfl) ?_
  show At Tryd.prog Tryd.f48 0 0 ⟨[(0, oc (.d (.sl .str l)))], [], [], 0⟩ _
  refine At.step hm ht ⟨[], [], [], [0, 2], [0]⟩ 1 ⟨[(0, oc (.d (.sl .str l))), (2, oc (.ptr 0 0))], [], [(0, [zi 0, zi 0, zi 0, zi 0, zi 0, zi 0, .d (.sl .unit [])])], 1⟩ [] (by kernel_rfl) trivial ?_
  refine At.step hm ht ⟨[], [], [], [0, 2, 4], [0]⟩ 2 ⟨[(0, oc (.d (.sl .str l))), (2, oc (.ptr 0 0)), (4, oc (zi 1))], [], [(0, [zi 0, zi 0, zi 0, zi 0, zi 0, zi 0, .d (.sl .unit [])])], 1⟩ [] (by kernel_rfl) trivial ?_
  obtain ⟨w566, cw566, h⟩ := bindS h
  refine f48_broughamref25_step_L2_ok n l 1 0 0 0 0 0 0 w566 cw566 _ ?_
  rcases w566 with e567 | e568
  · have h := Option.some.inj h
    subst h
    rfl
  · show At Tryd.prog Tryd.f48 0 18 ⟨[(2, oc (.ptr 0 0))], [], [(0, [zi e568.1, zi e568.2.1, zi e568.2.2.1, zi e568.2.2.2.1, zi e568.2.2.2.2.1, zi e568.2.2.2.2.2, .d (.sl .unit [])])], 1⟩ _
    have h := Option.some.inj h
    subst h
    exact At.fin hm ht ⟨[], [], [.nil true 0 6 (.int .u8) none], [2, 3], [0]⟩ [0 + 7 ≤ 7] (by kernel_rfl) ⟨(by decide), trivial⟩
/-! brougham/broughamref25.Parse -/
def f12_broughamref25_Parse_in (s : ByteArray) : Inn := ⟨[.c (.d (.str s))], [], [], 0⟩
def f12_broughamref25_Parse_out (r : (List (Int × Int × Int × Int × Int × Int × List Int)) × Int × Int) : Out := ⟨.tup [.c (.own 0 (.pair (.int .i64) (.pair (.int .i64) (.pair (.int .i64) (.pair (.int .i64) (.pair (.int .i64) (.pair (.int .i64) (.slice (.int .u8)))))))) r.1), .c (zi r.2.1), .c (zi r.2.2)], [(0, ⟨79, 0⟩)], [], 1⟩
def f12_broughamref25_Parse_L6 : Nat → (List (Int × Int × Int × Int × Int × Int × List Int)) → (List ByteArray) → Int → Option (((List (Int × Int × Int × Int × Int × Int × List Int)) × Int × Int) ⊕ (List (Int × Int × Int × Int × Int × Int × List Int)))
  | 0, _, _, _ => none
  | n + 1, out, l, i =>
    if (decide ((i : Int) < ((l.length : Nat) : Int))) = true then
      if (0 : Int) ≤ i ∧ i < (((l).length : Nat) : Int) then
      (f19_broughamref01_Pieces n (l.getD i.toNat ByteArray.empty)).bind fun r602_1 =>
      if ((((r602_1.length : Nat) : Int) : Int) == 0) = true then
        f12_broughamref25_Parse_L6 n out l (IntKind.wrap .i64 (i + 1))
      else
        (f48_broughamref25_step n r602_1).bind fun r605_0 =>
        if (!r605_0.1) = true then
          some (.inl ([], (IntKind.wrap .i64 (i + 1)), 230))
        else
          if ((((out.length : Nat) : Int) : Int) == 512) = true then
            some (.inl ([], (IntKind.wrap .i64 (i + 1)), 230))
          else
            if out.length + [r605_0.2].length ≤ maxLen ∧ (out.length + [r605_0.2].length) * 72 ≤ 140737488355328 then
            f12_broughamref25_Parse_L6 n (out ++ [r605_0.2]) l (IntKind.wrap .i64 (i + 1))
            else none
      else none
    else
      some (.inr out)
def f12_broughamref25_Parse_L6_k (w : ((List (Int × Int × Int × Int × Int × Int × List Int)) × Int × Int) ⊕ (List (Int × Int × Int × Int × Int × Int × List Int))) (o : Out) : Prop := match w with
  | .inl e => o = f12_broughamref25_Parse_out e
  | .inr e => At Tryd.prog Tryd.f12 0 14 ⟨[(5, oc (.own 0 (.pair (.int .i64) (.pair (.int .i64) (.pair (.int .i64) (.pair (.int .i64) (.pair (.int .i64) (.pair (.int .i64) (.slice (.int .u8)))))))) e))], [(0, some ⟨79, 0⟩)], [], 1⟩ o
theorem f12_broughamref25_Parse_L6_ok (n : Nat) : ∀ (out : List (Int × Int × Int × Int × Int × Int × List Int)) (l : List ByteArray) (i : Int) (w : ((List (Int × Int × Int × Int × Int × Int × List Int)) × Int × Int) ⊕ (List (Int × Int × Int × Int × Int × Int × List Int))) (h : f12_broughamref25_Parse_L6 n out l i = some w) (o : Out) (hk : f12_broughamref25_Parse_L6_k w o), At Tryd.prog Tryd.f12 0 6 ⟨[(5, oc (.own 0 (.pair (.int .i64) (.pair (.int .i64) (.pair (.int .i64) (.pair (.int .i64) (.pair (.int .i64) (.pair (.int .i64) (.slice (.int .u8)))))))) out)), (6, oc (.own 1 .str l)), (7, oc (zi i))], [(0, some ⟨79, 0⟩), (1, some ⟨9, 0⟩)], [], 2⟩ o := by
  induction n with
  | zero => intro out l i w h; rw [f12_broughamref25_Parse_L6] at h; cases h
  | succ n ih =>
    intro out l i w h o hk
    rw [f12_broughamref25_Parse_L6] at h
    rcases iteS h with ⟨b601_e0, h⟩ | ⟨b601_e0, h⟩
    · refine At.step hm ht ⟨[], [true], [], [5, 6, 7], [0, 1]⟩ 8 ⟨[(5, oc (.own 0 (.pair (.int .i64) (.pair (.int .i64) (.pair (.int .i64) (.pair (.int .i64) (.pair (.int .i64) (.pair (.int .i64) (.slice (.int .u8)))))))) out)), (6, oc (.own 1 .str l)), (7, oc (zi i))], [(0, some ⟨79, 0⟩), (1, some ⟨9, 0⟩)], [], 2⟩ [(decide ((i : Int) < ((l.length : Nat) : Int))) = true] (by kernel_rfl) ⟨b601_e0, trivial⟩ ?_
      obtain ⟨g602_0, h⟩ := ifS h
      obtain ⟨r602_1, cr602_1, h⟩ := bindS h
      refine At.step hm ht ⟨[(4, .call [] [] (f19_broughamref01_Pieces_out r602_1))], [], [], [5, 6, 7, 8], [0, 1, 6]⟩ 9 ⟨[(5, oc (.own 0 (.pair (.int .i64) (.pair (.int .i64) (.pair (.int .i64) (.pair (.int .i64) (.pair (.int .i64) (.pair (.int .i64) (.slice (.int .u8)))))))) out)), (6, oc (.own 1 .str l)), (7, oc (zi i)), (8, oc (.own 2 .str r602_1))], [(0, some ⟨79, 0⟩), (1, some ⟨9, 0⟩), (2, some ⟨9, 0⟩)], [], 3⟩ [(0 : Int) ≤ i ∧ i < (((l).length : Nat) : Int), FnOK Tryd.prog 19 (f19_broughamref01_Pieces_in (l.getD i.toNat ByteArray.empty)) (f19_broughamref01_Pieces_out r602_1)] (by kernel_rfl) ⟨g602_0, (f19_broughamref01_Pieces_ok n (l.getD i.toNat ByteArray.empty) r602_1 cr602_1), trivial⟩ ?_
      rcases iteS h with ⟨b603_e0, h⟩ | ⟨b603_e0, h⟩
      · refine At.step hm ht ⟨[], [true], [], [5, 6, 7], [0, 1]⟩ 7 ⟨[(5, oc (.own 0 (.pair (.int .i64) (.pair (.int .i64) (.pair (.int .i64) (.pair (.int .i64) (.pair (.int .i64) (.pair (.int .i64) (.slice (.int .u8)))))))) out)), (6, oc (.own 1 .str l)), (7, oc (zi i))], [(0, some ⟨79, 0⟩), (1, some ⟨9, 0⟩)], [], 2⟩ [((((r602_1.length : Nat) : Int) : Int) == 0) = true] (by kernel_rfl) ⟨b603_e0, trivial⟩ ?_
        refine At.step hm ht ⟨[], [], [], [5, 6, 7], [0, 1]⟩ 6 ⟨[(5, oc (.own 0 (.pair (.int .i64) (.pair (.int .i64) (.pair (.int .i64) (.pair (.int .i64) (.pair (.int .i64) (.pair (.int .i64) (.slice (.int .u8)))))))) out)), (6, oc (.own 1 .str l)), (7, oc (zi (IntKind.wrap .i64 (i + 1))))], [(0, some ⟨79, 0⟩), (1, some ⟨9, 0⟩)], [], 2⟩ [] (by kernel_rfl) trivial ?_
        exact ih out l (IntKind.wrap .i64 (i + 1)) w h o hk
      · refine At.step hm ht ⟨[], [false], [], [5, 6, 7, 8], [0, 1, 2]⟩ 10 ⟨[(5, oc (.own 0 (.pair (.int .i64) (.pair (.int .i64) (.pair (.int .i64) (.pair (.int .i64) (.pair (.int .i64) (.pair (.int .i64) (.slice (.int .u8)))))))) out)), (6, oc (.own 1 .str l)), (7, oc (zi i)), (8, oc (.own 2 .str r602_1))], [(0, some ⟨79, 0⟩), (1, some ⟨9, 0⟩), (2, some ⟨9, 0⟩)], [], 3⟩ [((((r602_1.length : Nat) : Int) : Int) == 0) = false] (by kernel_rfl) ⟨b603_e0, trivial⟩ ?_
        obtain ⟨r605_0, cr605_0, h⟩ := bindS h
        refine At.step hm ht ⟨[(1, .call [] [] (f48_broughamref25_step_out r605_0))], [], [], [5, 6, 7, 9, 10], [0, 1, 8]⟩ 11 ⟨[(5, oc (.own 0 (.pair (.int .i64) (.pair (.int .i64) (.pair (.int .i64) (.pair (.int .i64) (.pair (.int .i64) (.pair (.int .i64) (.slice (.int .u8)))))))) out)), (6, oc (.own 1 .str l)), (7, oc (zi i)), (9, oc (.ptr 2 0)), (10, oc (.d (.bool r605_0.1)))], [(0, some ⟨79, 0⟩), (1, some ⟨9, 0⟩)], [(2, [zi r605_0.2.1, zi r605_0.2.2.1, zi r605_0.2.2.2.1, zi r605_0.2.2.2.2.1, zi r605_0.2.2.2.2.2.1, zi r605_0.2.2.2.2.2.2.1, .d (.sl (.int .u8) r605_0.2.2.2.2.2.2.2)])], 3⟩ [FnOK Tryd.prog 48 (f48_broughamref25_step_in r602_1) (f48_broughamref25_step_out r605_0), 0 + 7 ≤ 7] (by kernel_rfl) ⟨(f48_broughamref25_step_ok n r602_1 r605_0 cr605_0), (by decide), trivial⟩ ?_
        rcases iteS h with ⟨b606_2, h⟩ | ⟨b606_2, h⟩
        · refine At.step hm ht ⟨[(2, .b true)], [true], [], [7], []⟩ 12 ⟨[(7, oc (zi i))], [], [], 0⟩ [(!r605_0.1) = true, true = true] (by kernel_rfl) ⟨b606_2, rfl, trivial⟩ ?_
          have h := Option.some.inj h
          subst h
          have hk : o = f12_broughamref25_Parse_out ([], (IntKind.wrap .i64 (i + 1)), 230) := hk
          subst hk
          exact At.fin hm ht ⟨[], [], [.nil false 2 0 (.pair (.int .i64) (.pair (.int .i64) (.pair (.int .i64) (.pair (.int .i64) (.pair (.int .i64) (.pair (.int .i64) (.slice (.int .u8)))))))) (some 79)], [2, 3, 4], [5]⟩ [] (by kernel_rfl) trivial
        · rcases iteS h with ⟨b606_e0, h⟩ | ⟨b606_e0, h⟩
          · refine At.step hm ht ⟨[(2, .b false)], [true], [], [7], []⟩ 12 ⟨[(7, oc (zi i))], [], [], 0⟩ [(!r605_0.1) = false, ((((out.length : Nat) : Int) : Int) == 512) = true] (by kernel_rfl) ⟨b606_2, b606_e0, trivial⟩ ?_
            have h := Option.some.inj h
            subst h
            have hk : o = f12_broughamref25_Parse_out ([], (IntKind.wrap .i64 (i + 1)), 230) := hk
            subst hk
            exact At.fin hm ht ⟨[], [], [.nil false 2 0 (.pair (.int .i64) (.pair (.int .i64) (.pair (.int .i64) (.pair (.int .i64) (.pair (.int .i64) (.pair (.int .i64) (.slice (.int .u8)))))))) (some 79)], [2, 3, 4], [5]⟩ [] (by kernel_rfl) trivial
          · refine At.step hm ht ⟨[(2, .b false)], [false], [], [5, 6, 7, 9], [0, 1, 2]⟩ 13 ⟨[(5, oc (.own 0 (.pair (.int .i64) (.pair (.int .i64) (.pair (.int .i64) (.pair (.int .i64) (.pair (.int .i64) (.pair (.int .i64) (.slice (.int .u8)))))))) out)), (6, oc (.own 1 .str l)), (7, oc (zi i)), (9, oc (.ptr 2 0))], [(0, some ⟨79, 0⟩), (1, some ⟨9, 0⟩)], [(2, [zi r605_0.2.1, zi r605_0.2.2.1, zi r605_0.2.2.2.1, zi r605_0.2.2.2.2.1, zi r605_0.2.2.2.2.2.1, zi r605_0.2.2.2.2.2.2.1, .d (.sl (.int .u8) r605_0.2.2.2.2.2.2.2)])], 3⟩ [(!r605_0.1) = false, ((((out.length : Nat) : Int) : Int) == 512) = false] (by kernel_rfl) ⟨b606_2, b606_e0, trivial⟩ ?_
            obtain ⟨g609_0, h⟩ := ifS h
            refine At.step hm ht ⟨[], [], [], [5, 6, 7], [6, 1]⟩ 7 ⟨[(5, oc (.own 0 (.pair (.int .i64) (.pair (.int .i64) (.pair (.int .i64) (.pair (.int .i64) (.pair (.int .i64) (.pair (.int .i64) (.slice (.int .u8)))))))) (out ++ [r605_0.2]))), (6, oc (.own 1 .str l)), (7, oc (zi i))], [(0, some ⟨79, 0⟩), (1, some ⟨9, 0⟩)], [], 2⟩ [out.length + [r605_0.2].length ≤ maxLen ∧ (out.length + [r605_0.2].length) * 72 ≤ 140737488355328] (by kernel_rfl) ⟨g609_0, trivial⟩ ?_
            refine At.step hm ht ⟨[], [], [], [5, 6, 7], [0, 1]⟩ 6 ⟨[(5, oc (.own 0 (.pair (.int .i64) (.pair (.int .i64) (.pair (.int .i64) (.pair (.int .i64) (.pair (.int .i64) (.pair (.int .i64) (.slice (.int .u8)))))))) (out ++ [r605_0.2]))), (6, oc (.own 1 .str l)), (7, oc (zi (IntKind.wrap .i64 (i + 1))))], [(0, some ⟨79, 0⟩), (1, some ⟨9, 0⟩)], [], 2⟩ [] (by kernel_rfl) trivial ?_
            exact ih (out ++ [r605_0.2]) l (IntKind.wrap .i64 (i + 1)) w h o hk
    · refine At.step hm ht ⟨[], [false], [], [5], [0]⟩ 14 ⟨[(5, oc (.own 0 (.pair (.int .i64) (.pair (.int .i64) (.pair (.int .i64) (.pair (.int .i64) (.pair (.int .i64) (.pair (.int .i64) (.slice (.int .u8)))))))) out))], [(0, some ⟨79, 0⟩)], [], 1⟩ [(decide ((i : Int) < ((l.length : Nat) : Int))) = false] (by kernel_rfl) ⟨b601_e0, trivial⟩ ?_
      have h := Option.some.inj h
      subst h
      exact hk
def f12_broughamref25_Parse (n : Nat) (s : ByteArray) : Option ((List (Int × Int × Int × Int × Int × Int × List Int)) × Int × Int) :=
  if (decide ((((s.size : Nat) : Int) : Int) > 65536)) = true then
    some ([], 0, 230)
  else
    (f47_broughamref01_Lines n s).bind fun r599_0 =>
    (f12_broughamref25_Parse_L6 n [] r599_0 0).bind fun w611 =>
    match w611 with
    | .inl e612 =>
      some (e612.1, e612.2.1, e612.2.2)
    | .inr e613 =>
      some (e613, 0, 0)
theorem f12_broughamref25_Parse_ok (n : Nat) (s : ByteArray) (r : (List (Int × Int × Int × Int × Int × Int × List Int)) × Int × Int) (h : f12_broughamref25_Parse n s = some r) : FnOK Tryd.prog 12 (f12_broughamref25_Parse_in s) (f12_broughamref25_Parse_out r) := by
  unfold f12_broughamref25_Parse at h
  refine At.fn (r := 0) Tryd.func12 rfl (by kernel_rfl) rfl rfl (by kernel_rfl) ?_
  show At Tryd.prog Tryd.f12 0 0 ⟨[(0, oc (.d (.str s)))], [], [], 0⟩ _
  refine At.step hm ht ⟨[], [], [], [0], []⟩ 1 ⟨[(0, oc (.d (.str s)))], [], [], 0⟩ [] (by kernel_rfl) trivial ?_
  rcases iteS h with ⟨b596_e0, h⟩ | ⟨b596_e0, h⟩
  · refine At.step hm ht ⟨[], [true], [], [], []⟩ 2 ⟨[], [], [], 0⟩ [(decide ((((s.size : Nat) : Int) : Int) > 65536)) = true] (by kernel_rfl) ⟨b596_e0, trivial⟩ ?_
    have h := Option.some.inj h
    subst h
    exact At.fin hm ht ⟨[], [], [.nil false 2 0 (.pair (.int .i64) (.pair (.int .i64) (.pair (.int .i64) (.pair (.int .i64) (.pair (.int .i64) (.pair (.int .i64) (.slice (.int .u8)))))))) (some 79)], [2, 3, 4], [3]⟩ [] (by kernel_rfl) trivial
  · refine At.step hm ht ⟨[], [false], [], [0], []⟩ 3 ⟨[(0, oc (.d (.str s)))], [], [], 0⟩ [(decide ((((s.size : Nat) : Int) : Int) > 65536)) = false] (by kernel_rfl) ⟨b596_e0, trivial⟩ ?_
    refine At.step hm ht ⟨[], [], [], [0, 5], []⟩ 4 ⟨[(0, oc (.d (.str s))), (5, oc (.d (.sl .unit [])))], [], [], 0⟩ [] (by kernel_rfl) trivial ?_
    obtain ⟨r599_0, cr599_0, h⟩ := bindS h
    refine At.step hm ht ⟨[(1, .call [] [] (f47_broughamref01_Lines_out r599_0))], [], [], [5, 6], [1]⟩ 5 ⟨[(5, oc (.d (.sl .unit []))), (6, oc (.own 0 .str r599_0))], [(0, some ⟨9, 0⟩)], [], 1⟩ [FnOK Tryd.prog 47 (f47_broughamref01_Lines_in s) (f47_broughamref01_Lines_out r599_0)] (by kernel_rfl) ⟨(f47_broughamref01_Lines_ok n s r599_0 cr599_0), trivial⟩ ?_
    refine At.step hm ht ⟨[], [], [.nil false 5 0 (.pair (.int .i64) (.pair (.int .i64) (.pair (.int .i64) (.pair (.int .i64) (.pair (.int .i64) (.pair (.int .i64) (.slice (.int .u8)))))))) (some 79)], [5, 6, 7], [2, 0]⟩ 6 ⟨[(5, oc (.own 0 (.pair (.int .i64) (.pair (.int .i64) (.pair (.int .i64) (.pair (.int .i64) (.pair (.int .i64) (.pair (.int .i64) (.slice (.int .u8)))))))) [])), (6, oc (.own 1 .str r599_0)), (7, oc (zi 0))], [(0, some ⟨79, 0⟩), (1, some ⟨9, 0⟩)], [], 2⟩ [] (by kernel_rfl) trivial ?_
    obtain ⟨w611, cw611, h⟩ := bindS h
    refine f12_broughamref25_Parse_L6_ok n [] r599_0 0 w611 cw611 _ ?_
    rcases w611 with e612 | e613
    · have h := Option.some.inj h
      subst h
      rfl
    · show At Tryd.prog Tryd.f12 0 14 ⟨[(5, oc (.own 0 (.pair (.int .i64) (.pair (.int .i64) (.pair (.int .i64) (.pair (.int .i64) (.pair (.int .i64) (.pair (.int .i64) (.slice (.int .u8)))))))) e613))], [(0, some ⟨79, 0⟩)], [], 1⟩ _
      have h := Option.some.inj h
      subst h
      exact At.fin hm ht ⟨[], [], [], [2, 3, 4], [0]⟩ [] (by kernel_rfl) trivial
end Go.Proofs.YtakamchmiakicaaDoorF25
