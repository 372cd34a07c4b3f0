/- What the functions compute, and that they do: printed by a program of this session (zgen.py), proved by Zed. -/
import Derived.Test.YtakamchmiakicaaDoorProg
import Derived.Test.YtakamchmiakicaaDoorZedYa
import Derived.Test.YtakamchmiakicaaDoorLeaf
namespace Go.Proofs.YtakamchmiakicaaDoorF01
open Go Zed Go.Proofs.YtakamchmiakicaaDoorLeaf
set_option maxRecDepth 100000
set_option linter.unusedVariables false
def tab : Tab := [(3, ⟨.int .i64, 1, 8, [.int .i64 0], some (.int .i64), none⟩), (5, ⟨.int .u8, 1, 1, [.int .u8 0], some (.int .u8), none⟩), (9, ⟨.str, 1, 16, [.str (⟨#[]⟩ : ByteArray)], some .str, none⟩), (23, ⟨.int .i64, 1, 8, [.int .i64 0], some (.int .i64), none⟩), (31, ⟨.slice 9, 1, 24, [.sl .unit []], some (.slice .str), none⟩), (54, ⟨.slice 5, 1, 24, [.sl .unit []], some (.slice (.int .u8)), none⟩)]
theorem ht : TabOk Go.Proofs.Tryd.prog tab := tabOk_of (ts := [3, 5, 9, 23, 31, 54]) (by kernel_rfl)
theorem hm : Go.Proofs.Tryd.prog.follows .mixedOrders = true := by kernel_rfl
/-! brougham/num.Pieces -/
def f15_num_Pieces_in (s : ByteArray) : Inn := ⟨[.c (.d (.str s))], [], [], 0⟩
def f15_num_Pieces_out (r : List ByteArray) : Out := ⟨.one (.c (.own 0 .str r)), [(0, ⟨9, 0⟩)], [], 1⟩
def f15_num_Pieces_L4 : Nat → (List ByteArray) → (List ByteArray) → Int → Int → Option (List ByteArray)
  | 0, _, _, _, _ => none
  | n + 1, out, t13, t14, t15 =>
    if (decide ((t15 : Int) < t14)) = true then
      if (0 : Int) ≤ t15 ∧ t15 < (((t13).length : Nat) : Int) then
      if (!((t13.getD t15.toNat ByteArray.empty).toList == (⟨#[]⟩ : ByteArray).toList)) = true then
        if out.length + [(t13.getD t15.toNat ByteArray.empty)].length ≤ maxLen ∧ (out.length + [(t13.getD t15.toNat ByteArray.empty)].length) * 16 ≤ 140737488355328 then
        f15_num_Pieces_L4 n (out ++ [(t13.getD t15.toNat ByteArray.empty)]) t13 t14 (IntKind.wrap .i64 (t15 + 1))
        else none
      else
        f15_num_Pieces_L4 n out t13 t14 (IntKind.wrap .i64 (t15 + 1))
      else none
    else
      some (out)
def f15_num_Pieces_L4_k (e : List ByteArray) (o : Out) : Prop := At Go.Proofs.Tryd.prog Go.Proofs.Tryd.f15 0 9 ⟨[(3, .one (.c (.own 0 .str e)))], [(0, some ⟨9, 0⟩)], [], 1⟩ o
theorem f15_num_Pieces_L4_ok (n : Nat) : ∀ (out : List ByteArray) (t13 : List ByteArray) (t14 : Int) (t15 : Int) (w : List ByteArray) (h : f15_num_Pieces_L4 n out t13 t14 t15 = some w) (o : Out) (hk : f15_num_Pieces_L4_k w o), At Go.Proofs.Tryd.prog Go.Proofs.Tryd.f15 0 4 ⟨[(3, .one (.c (.own 0 .str out))), (13, .one (.c (.d (.sl .str t13)))), (14, .one (.c (.d (.int .i64 t14)))), (15, .one (.c (.d (.int .i64 t15))))], [(0, some ⟨9, 0⟩)], [], 1⟩ o := by
  induction n with
  | zero => intro out t13 t14 t15 w h; rw [f15_num_Pieces_L4] at h; cases h
  | succ n ih =>
    intro out t13 t14 t15 w h o hk
    rw [f15_num_Pieces_L4] at h
    rcases iteS h with ⟨b27_e0, h⟩ | ⟨b27_e0, h⟩
    · refine At.step hm ht ⟨[], [true], [], [3, 13, 14, 15], [0]⟩ 5 ⟨[(3, .one (.c (.own 0 .str out))), (13, .one (.c (.d (.sl .str t13)))), (14, .one (.c (.d (.int .i64 t14)))), (15, .one (.c (.d (.int .i64 t15))))], [(0, some ⟨9, 0⟩)], [], 1⟩ [(decide ((t15 : Int) < t14)) = true] (by kernel_rfl) ⟨b27_e0, trivial⟩ ?_
      obtain ⟨g28_0, h⟩ := ifS h
      refine At.step hm ht ⟨[], [], [], [3, 5, 13, 14, 15], [0]⟩ 6 ⟨[(3, .one (.c (.own 0 .str out))), (5, .one (.c (.d (.str (t13.getD t15.toNat ByteArray.empty))))), (13, .one (.c (.d (.sl .str t13)))), (14, .one (.c (.d (.int .i64 t14)))), (15, .one (.c (.d (.int .i64 t15))))], [(0, some ⟨9, 0⟩)], [], 1⟩ [(0 : Int) ≤ t15 ∧ t15 < (((t13).length : Nat) : Int)] (by kernel_rfl) ⟨g28_0, trivial⟩ ?_
      rcases iteS h with ⟨b29_e0, h⟩ | ⟨b29_e0, h⟩
      · refine At.step hm ht ⟨[], [true], [], [3, 5, 13, 14, 15], [0]⟩ 7 ⟨[(3, .one (.c (.own 0 .str out))), (5, .one (.c (.d (.str (t13.getD t15.toNat ByteArray.empty))))), (13, .one (.c (.d (.sl .str t13)))), (14, .one (.c (.d (.int .i64 t14)))), (15, .one (.c (.d (.int .i64 t15))))], [(0, some ⟨9, 0⟩)], [], 1⟩ [(!((t13.getD t15.toNat ByteArray.empty).toList == (⟨#[]⟩ : ByteArray).toList)) = true] (by kernel_rfl) ⟨b29_e0, trivial⟩ ?_
        obtain ⟨g30_0, h⟩ := ifS h
        refine At.step hm ht ⟨[], [], [], [3, 13, 14, 15], [4]⟩ 8 ⟨[(3, .one (.c (.own 0 .str (out ++ [(t13.getD t15.toNat ByteArray.empty)])))), (13, .one (.c (.d (.sl .str t13)))), (14, .one (.c (.d (.int .i64 t14)))), (15, .one (.c (.d (.int .i64 t15))))], [(0, some ⟨9, 0⟩)], [], 1⟩ [out.length + [(t13.getD t15.toNat ByteArray.empty)].length ≤ maxLen ∧ (out.length + [(t13.getD t15.toNat ByteArray.empty)].length) * 16 ≤ 140737488355328] (by kernel_rfl) ⟨g30_0, trivial⟩ ?_
        refine At.step hm ht ⟨[], [], [], [3, 13, 14, 15], [0]⟩ 4 ⟨[(3, .one (.c (.own 0 .str (out ++ [(t13.getD t15.toNat ByteArray.empty)])))), (13, .one (.c (.d (.sl .str t13)))), (14, .one (.c (.d (.int .i64 t14)))), (15, .one (.c (.d (.int .i64 (IntKind.wrap .i64 (t15 + 1))))))], [(0, some ⟨9, 0⟩)], [], 1⟩ [] (by kernel_rfl) trivial ?_
        exact ih (out ++ [(t13.getD t15.toNat ByteArray.empty)]) t13 t14 (IntKind.wrap .i64 (t15 + 1)) w h o hk
      · refine At.step hm ht ⟨[], [false], [], [3, 13, 14, 15], [0]⟩ 8 ⟨[(3, .one (.c (.own 0 .str out))), (13, .one (.c (.d (.sl .str t13)))), (14, .one (.c (.d (.int .i64 t14)))), (15, .one (.c (.d (.int .i64 t15))))], [(0, some ⟨9, 0⟩)], [], 1⟩ [(!((t13.getD t15.toNat ByteArray.empty).toList == (⟨#[]⟩ : ByteArray).toList)) = false] (by kernel_rfl) ⟨b29_e0, trivial⟩ ?_
        refine At.step hm ht ⟨[], [], [], [3, 13, 14, 15], [0]⟩ 4 ⟨[(3, .one (.c (.own 0 .str out))), (13, .one (.c (.d (.sl .str t13)))), (14, .one (.c (.d (.int .i64 t14)))), (15, .one (.c (.d (.int .i64 (IntKind.wrap .i64 (t15 + 1))))))], [(0, some ⟨9, 0⟩)], [], 1⟩ [] (by kernel_rfl) trivial ?_
        exact ih out t13 t14 (IntKind.wrap .i64 (t15 + 1)) w h o hk
    · refine At.step hm ht ⟨[], [false], [], [3], [0]⟩ 9 ⟨[(3, .one (.c (.own 0 .str out)))], [(0, some ⟨9, 0⟩)], [], 1⟩ [(decide ((t15 : Int) < t14)) = false] (by kernel_rfl) ⟨b27_e0, trivial⟩ ?_
      have h := Option.some.inj h
      subst h
      exact hk
def f15_num_Pieces (n : Nat) (s : ByteArray) : Option (List ByteArray) :=
  (f49_strings_Cut s (⟨#[35]⟩ : ByteArray)).bind fun r24_0 =>
  (f45_strings_Split r24_0.1 (⟨#[32]⟩ : ByteArray)).bind fun r26_0 =>
  (f15_num_Pieces_L4 n [] r26_0 ((r26_0.length : Nat) : Int) 0).bind fun w33 =>
  some w33
theorem f15_num_Pieces_ok (n : Nat) (s : ByteArray) (r : List ByteArray) (h : f15_num_Pieces n s = some r) : FnOK Go.Proofs.Tryd.prog 15 (f15_num_Pieces_in s) (f15_num_Pieces_out r) := by
  unfold f15_num_Pieces at h
  refine At.fn (r := 0) Go.Proofs.Tryd.func15 rfl (by kernel_rfl) rfl rfl (by kernel_rfl) ?_
  show At Go.Proofs.Tryd.prog Go.Proofs.Tryd.f15 0 0 ⟨[(0, .one (.c (.d (.str s))))], [], [], 0⟩ _
  refine At.step hm ht ⟨[], [], [], [0], []⟩ 1 ⟨[(0, .one (.c (.d (.str s))))], [], [], 0⟩ [] (by kernel_rfl) trivial ?_
  obtain ⟨r24_0, cr24_0, h⟩ := bindS h
  refine At.step hm ht ⟨[(1, .call [] [] (f49_strings_Cut_out r24_0))], [], [], [0], []⟩ 2 ⟨[(0, .one (.c (.d (.str r24_0.1))))], [], [], 0⟩ [FnOK Go.Proofs.Tryd.prog 49 (f49_strings_Cut_in s (⟨#[35]⟩ : ByteArray)) (f49_strings_Cut_out r24_0)] (by kernel_rfl) ⟨(f49_strings_Cut_ok s (⟨#[35]⟩ : ByteArray) r24_0 cr24_0), trivial⟩ ?_
  refine At.step hm ht ⟨[], [], [], [0, 3], []⟩ 3 ⟨[(0, .one (.c (.d (.str r24_0.1)))), (3, .one (.c (.d (.sl .unit []))))], [], [], 0⟩ [] (by kernel_rfl) trivial ?_
  obtain ⟨r26_0, cr26_0, h⟩ := bindS h
  refine At.step hm ht ⟨[(1, .call [] [] (f45_strings_Split_out r26_0))], [], [.nil false 3 0 .str (some 9)], [3, 13, 14, 15], [3]⟩ 4 ⟨[(3, .one (.c (.own 0 .str []))), (13, .one (.c (.d (.sl .str r26_0)))), (14, .one (.c (.d (.int .i64 ((r26_0.length : Nat) : Int))))), (15, .one (.c (.d (.int .i64 0))))], [(0, some ⟨9, 0⟩)], [], 1⟩ [FnOK Go.Proofs.Tryd.prog 45 (f45_strings_Split_in r24_0.1 (⟨#[32]⟩ : ByteArray)) (f45_strings_Split_out r26_0)] (by kernel_rfl) ⟨(f45_strings_Split_ok r24_0.1 (⟨#[32]⟩ : ByteArray) r26_0 cr26_0), trivial⟩ ?_
  obtain ⟨w33, cw33, h⟩ := bindS h
  refine f15_num_Pieces_L4_ok n [] r26_0 ((r26_0.length : Nat) : Int) 0 w33 cw33 _ ?_
  show At Go.Proofs.Tryd.prog Go.Proofs.Tryd.f15 0 9 ⟨[(3, .one (.c (.own 0 .str w33)))], [(0, some ⟨9, 0⟩)], [], 1⟩ _
  have h := Option.some.inj h
  subst h
  exact At.fin hm ht ⟨[], [], [], [2], [0]⟩ [] (by kernel_rfl) trivial
/-! brougham/num.Line -/
def f16_num_Line_in (l : List ByteArray) : Inn := ⟨[.c (.d (.sl .str l))], [], [], 0⟩
def f16_num_Line_out (r : ByteArray) : Out := ⟨.one (.c (.d (.str r))), [], [], 0⟩
def f16_num_Line_L3 : Nat → (List ByteArray) → (List ByteArray) → Int → Int → Option (List ByteArray)
  | 0, _, _, _, _ => none
  | n + 1, out, t6, t7, t8 =>
    if (decide ((t8 : Int) < t7)) = true then
      if (0 : Int) ≤ t8 ∧ t8 < (((t6).length : Nat) : Int) then
      if (!((t6.getD t8.toNat ByteArray.empty).toList == (⟨#[]⟩ : ByteArray).toList)) = true then
        if out.length + [(t6.getD t8.toNat ByteArray.empty)].length ≤ maxLen ∧ (out.length + [(t6.getD t8.toNat ByteArray.empty)].length) * 16 ≤ 140737488355328 then
        f16_num_Line_L3 n (out ++ [(t6.getD t8.toNat ByteArray.empty)]) t6 t7 (IntKind.wrap .i64 (t8 + 1))
        else none
      else
        f16_num_Line_L3 n out t6 t7 (IntKind.wrap .i64 (t8 + 1))
      else none
    else
      some (out)
def f16_num_Line_L3_k (e : List ByteArray) (o : Out) : Prop := At Go.Proofs.Tryd.prog Go.Proofs.Tryd.f16 0 8 ⟨[(3, .one (.c (.own 0 .str e)))], [(0, some ⟨9, 0⟩)], [], 1⟩ o
theorem f16_num_Line_L3_ok (n : Nat) : ∀ (out : List ByteArray) (t6 : List ByteArray) (t7 : Int) (t8 : Int) (w : List ByteArray) (h : f16_num_Line_L3 n out t6 t7 t8 = some w) (o : Out) (hk : f16_num_Line_L3_k w o), At Go.Proofs.Tryd.prog Go.Proofs.Tryd.f16 0 3 ⟨[(3, .one (.c (.own 0 .str out))), (6, .one (.c (.d (.sl .str t6)))), (7, .one (.c (.d (.int .i64 t7)))), (8, .one (.c (.d (.int .i64 t8))))], [(0, some ⟨9, 0⟩)], [], 1⟩ o := by
  induction n with
  | zero => intro out t6 t7 t8 w h; rw [f16_num_Line_L3] at h; cases h
  | succ n ih =>
    intro out t6 t7 t8 w h o hk
    rw [f16_num_Line_L3] at h
    rcases iteS h with ⟨b48_e0, h⟩ | ⟨b48_e0, h⟩
    · refine At.step hm ht ⟨[], [true], [], [3, 6, 7, 8], [0]⟩ 4 ⟨[(3, .one (.c (.own 0 .str out))), (6, .one (.c (.d (.sl .str t6)))), (7, .one (.c (.d (.int .i64 t7)))), (8, .one (.c (.d (.int .i64 t8))))], [(0, some ⟨9, 0⟩)], [], 1⟩ [(decide ((t8 : Int) < t7)) = true] (by kernel_rfl) ⟨b48_e0, trivial⟩ ?_
      obtain ⟨g49_0, h⟩ := ifS h
      refine At.step hm ht ⟨[], [], [], [3, 5, 6, 7, 8], [0]⟩ 5 ⟨[(3, .one (.c (.own 0 .str out))), (5, .one (.c (.d (.str (t6.getD t8.toNat ByteArray.empty))))), (6, .one (.c (.d (.sl .str t6)))), (7, .one (.c (.d (.int .i64 t7)))), (8, .one (.c (.d (.int .i64 t8))))], [(0, some ⟨9, 0⟩)], [], 1⟩ [(0 : Int) ≤ t8 ∧ t8 < (((t6).length : Nat) : Int)] (by kernel_rfl) ⟨g49_0, trivial⟩ ?_
      rcases iteS h with ⟨b50_e0, h⟩ | ⟨b50_e0, h⟩
      · refine At.step hm ht ⟨[], [true], [], [3, 5, 6, 7, 8], [0]⟩ 6 ⟨[(3, .one (.c (.own 0 .str out))), (5, .one (.c (.d (.str (t6.getD t8.toNat ByteArray.empty))))), (6, .one (.c (.d (.sl .str t6)))), (7, .one (.c (.d (.int .i64 t7)))), (8, .one (.c (.d (.int .i64 t8))))], [(0, some ⟨9, 0⟩)], [], 1⟩ [(!((t6.getD t8.toNat ByteArray.empty).toList == (⟨#[]⟩ : ByteArray).toList)) = true] (by kernel_rfl) ⟨b50_e0, trivial⟩ ?_
        obtain ⟨g51_0, h⟩ := ifS h
        refine At.step hm ht ⟨[], [], [], [3, 6, 7, 8], [4]⟩ 7 ⟨[(3, .one (.c (.own 0 .str (out ++ [(t6.getD t8.toNat ByteArray.empty)])))), (6, .one (.c (.d (.sl .str t6)))), (7, .one (.c (.d (.int .i64 t7)))), (8, .one (.c (.d (.int .i64 t8))))], [(0, some ⟨9, 0⟩)], [], 1⟩ [out.length + [(t6.getD t8.toNat ByteArray.empty)].length ≤ maxLen ∧ (out.length + [(t6.getD t8.toNat ByteArray.empty)].length) * 16 ≤ 140737488355328] (by kernel_rfl) ⟨g51_0, trivial⟩ ?_
        refine At.step hm ht ⟨[], [], [], [3, 6, 7, 8], [0]⟩ 3 ⟨[(3, .one (.c (.own 0 .str (out ++ [(t6.getD t8.toNat ByteArray.empty)])))), (6, .one (.c (.d (.sl .str t6)))), (7, .one (.c (.d (.int .i64 t7)))), (8, .one (.c (.d (.int .i64 (IntKind.wrap .i64 (t8 + 1))))))], [(0, some ⟨9, 0⟩)], [], 1⟩ [] (by kernel_rfl) trivial ?_
        exact ih (out ++ [(t6.getD t8.toNat ByteArray.empty)]) t6 t7 (IntKind.wrap .i64 (t8 + 1)) w h o hk
      · refine At.step hm ht ⟨[], [false], [], [3, 6, 7, 8], [0]⟩ 7 ⟨[(3, .one (.c (.own 0 .str out))), (6, .one (.c (.d (.sl .str t6)))), (7, .one (.c (.d (.int .i64 t7)))), (8, .one (.c (.d (.int .i64 t8))))], [(0, some ⟨9, 0⟩)], [], 1⟩ [(!((t6.getD t8.toNat ByteArray.empty).toList == (⟨#[]⟩ : ByteArray).toList)) = false] (by kernel_rfl) ⟨b50_e0, trivial⟩ ?_
        refine At.step hm ht ⟨[], [], [], [3, 6, 7, 8], [0]⟩ 3 ⟨[(3, .one (.c (.own 0 .str out))), (6, .one (.c (.d (.sl .str t6)))), (7, .one (.c (.d (.int .i64 t7)))), (8, .one (.c (.d (.int .i64 (IntKind.wrap .i64 (t8 + 1))))))], [(0, some ⟨9, 0⟩)], [], 1⟩ [] (by kernel_rfl) trivial ?_
        exact ih out t6 t7 (IntKind.wrap .i64 (t8 + 1)) w h o hk
    · refine At.step hm ht ⟨[], [false], [], [3], [0]⟩ 8 ⟨[(3, .one (.c (.own 0 .str out)))], [(0, some ⟨9, 0⟩)], [], 1⟩ [(decide ((t8 : Int) < t7)) = false] (by kernel_rfl) ⟨b48_e0, trivial⟩ ?_
      have h := Option.some.inj h
      subst h
      exact hk
def f16_num_Line (n : Nat) (l : List ByteArray) : Option (ByteArray) :=
  (f16_num_Line_L3 n [] l ((l.length : Nat) : Int) 0).bind fun w54 =>
  (f50_strings_Join w54 (⟨#[32]⟩ : ByteArray)).bind fun r56_0 =>
  some r56_0
theorem f16_num_Line_ok (n : Nat) (l : List ByteArray) (r : ByteArray) (h : f16_num_Line n l = some r) : FnOK Go.Proofs.Tryd.prog 16 (f16_num_Line_in l) (f16_num_Line_out r) := by
  unfold f16_num_Line at h
  refine At.fn (r := 0) Go.Proofs.Tryd.func16 rfl (by kernel_rfl) rfl rfl (by kernel_rfl) ?_
  show At Go.Proofs.Tryd.prog Go.Proofs.Tryd.f16 0 0 ⟨[(0, .one (.c (.d (.sl .str l))))], [], [], 0⟩ _
  refine At.step hm ht ⟨[], [], [], [0], []⟩ 1 ⟨[(0, .one (.c (.d (.sl .str l))))], [], [], 0⟩ [] (by kernel_rfl) trivial ?_
  refine At.step hm ht ⟨[], [], [], [0, 3], []⟩ 2 ⟨[(0, .one (.c (.d (.sl .str l)))), (3, .one (.c (.d (.sl .unit []))))], [], [], 0⟩ [] (by kernel_rfl) trivial ?_
  refine At.step hm ht ⟨[], [], [.nil false 3 0 .str (some 9)], [3, 6, 7, 8], [3]⟩ 3 ⟨[(3, .one (.c (.own 0 .str []))), (6, .one (.c (.d (.sl .str l)))), (7, .one (.c (.d (.int .i64 ((l.length : Nat) : Int))))), (8, .one (.c (.d (.int .i64 0))))], [(0, some ⟨9, 0⟩)], [], 1⟩ [] (by kernel_rfl) trivial ?_
  obtain ⟨w54, cw54, h⟩ := bindS h
  refine f16_num_Line_L3_ok n [] l ((l.length : Nat) : Int) 0 w54 cw54 _ ?_
  show At Go.Proofs.Tryd.prog Go.Proofs.Tryd.f16 0 8 ⟨[(3, .one (.c (.own 0 .str w54)))], [(0, some ⟨9, 0⟩)], [], 1⟩ _
  obtain ⟨r56_0, cr56_0, h⟩ := bindS h
  have h := Option.some.inj h
  subst h
  exact At.fin hm ht ⟨[(1, .call [] [] (f50_strings_Join_out r56_0))], [], [], [2], []⟩ [FnOK Go.Proofs.Tryd.prog 50 (f50_strings_Join_in w54 (⟨#[32]⟩ : ByteArray)) (f50_strings_Join_out r56_0)] (by kernel_rfl) ⟨(f50_strings_Join_ok w54 (⟨#[32]⟩ : ByteArray) r56_0 cr56_0), trivial⟩
/-! brougham/broughamref01.Line -/
def f17_broughamref01_Line_in (l : List ByteArray) : Inn := ⟨[.c (.d (.sl .str l))], [], [], 0⟩
def f17_broughamref01_Line_out (r : ByteArray) : Out := ⟨.one (.c (.d (.str r))), [], [], 0⟩
def f17_broughamref01_Line_L3 : Nat → (List ByteArray) → ByteArray → Int → Option (ByteArray)
  | 0, _, _, _ => none
  | n + 1, l, out, i =>
    if (decide ((i : Int) < ((l.length : Nat) : Int))) = true then
      if (0 : Int) ≤ i ∧ i < (((l).length : Nat) : Int) then
      if (!((l.getD i.toNat ByteArray.empty).toList == (⟨#[]⟩ : ByteArray).toList)) = true then
        if (!(out.toList == (⟨#[]⟩ : ByteArray).toList)) = true then
          if out.size + (⟨#[32]⟩ : ByteArray).size ≤ 9223372036854775807 then
          if (0 : Int) ≤ i ∧ i < (((l).length : Nat) : Int) then
          if (out ++ (⟨#[32]⟩ : ByteArray)).size + (l.getD i.toNat ByteArray.empty).size ≤ 9223372036854775807 then
          f17_broughamref01_Line_L3 n l ((out ++ (⟨#[32]⟩ : ByteArray)) ++ (l.getD i.toNat ByteArray.empty)) (IntKind.wrap .i64 (i + 1))
          else none
          else none
          else none
        else
          if (0 : Int) ≤ i ∧ i < (((l).length : Nat) : Int) then
          if out.size + (l.getD i.toNat ByteArray.empty).size ≤ 9223372036854775807 then
          f17_broughamref01_Line_L3 n l (out ++ (l.getD i.toNat ByteArray.empty)) (IntKind.wrap .i64 (i + 1))
          else none
          else none
      else
        if (0 : Int) ≤ i ∧ i < (((l).length : Nat) : Int) then
        if out.size + (l.getD i.toNat ByteArray.empty).size ≤ 9223372036854775807 then
        f17_broughamref01_Line_L3 n l (out ++ (l.getD i.toNat ByteArray.empty)) (IntKind.wrap .i64 (i + 1))
        else none
        else none
      else none
    else
      some (out)
def f17_broughamref01_Line_L3_k (e : ByteArray) (o : Out) : Prop := At Go.Proofs.Tryd.prog Go.Proofs.Tryd.f17 0 8 ⟨[(3, .one (.c (.d (.str e))))], [], [], 0⟩ o
theorem f17_broughamref01_Line_L3_ok (n : Nat) : ∀ (l : List ByteArray) (out : ByteArray) (i : Int) (w : ByteArray) (h : f17_broughamref01_Line_L3 n l out i = some w) (o : Out) (hk : f17_broughamref01_Line_L3_k w o), At Go.Proofs.Tryd.prog Go.Proofs.Tryd.f17 0 3 ⟨[(0, .one (.c (.d (.sl .str l)))), (3, .one (.c (.d (.str out)))), (4, .one (.c (.d (.int .i64 i))))], [], [], 0⟩ o := by
  induction n with
  | zero => intro l out i w h; rw [f17_broughamref01_Line_L3] at h; cases h
  | succ n ih =>
    intro l out i w h o hk
    rw [f17_broughamref01_Line_L3] at h
    rcases iteS h with ⟨b60_e0, h⟩ | ⟨b60_e0, h⟩
    · refine At.step hm ht ⟨[], [true], [], [0, 3, 4], []⟩ 5 ⟨[(0, .one (.c (.d (.sl .str l)))), (3, .one (.c (.d (.str out)))), (4, .one (.c (.d (.int .i64 i))))], [], [], 0⟩ [(decide ((i : Int) < ((l.length : Nat) : Int))) = true] (by kernel_rfl) ⟨b60_e0, trivial⟩ ?_
      obtain ⟨g61_0, h⟩ := ifS h
      rcases iteS h with ⟨b61_5, h⟩ | ⟨b61_5, h⟩
      · rcases iteS h with ⟨b61_e0, h⟩ | ⟨b61_e0, h⟩
        · refine At.step hm ht ⟨[(5, .b true)], [true], [], [0, 3, 4], []⟩ 6 ⟨[(0, .one (.c (.d (.sl .str l)))), (3, .one (.c (.d (.str out)))), (4, .one (.c (.d (.int .i64 i))))], [], [], 0⟩ [(0 : Int) ≤ i ∧ i < (((l).length : Nat) : Int), (!((l.getD i.toNat ByteArray.empty).toList == (⟨#[]⟩ : ByteArray).toList)) = true, (!(out.toList == (⟨#[]⟩ : ByteArray).toList)) = true] (by kernel_rfl) ⟨g61_0, b61_5, b61_e0, trivial⟩ ?_
          obtain ⟨g62_0, h⟩ := ifS h
          refine At.step hm ht ⟨[], [], [], [0, 3, 4], []⟩ 7 ⟨[(0, .one (.c (.d (.sl .str l)))), (3, .one (.c (.d (.str (out ++ (⟨#[32]⟩ : ByteArray)))))), (4, .one (.c (.d (.int .i64 i))))], [], [], 0⟩ [out.size + (⟨#[32]⟩ : ByteArray).size ≤ 9223372036854775807] (by kernel_rfl) ⟨g62_0, trivial⟩ ?_
          obtain ⟨g63_0, h⟩ := ifS h
          obtain ⟨g63_1, h⟩ := ifS h
          refine At.step hm ht ⟨[], [], [], [0, 3, 4], []⟩ 4 ⟨[(0, .one (.c (.d (.sl .str l)))), (3, .one (.c (.d (.str ((out ++ (⟨#[32]⟩ : ByteArray)) ++ (l.getD i.toNat ByteArray.empty)))))), (4, .one (.c (.d (.int .i64 i))))], [], [], 0⟩ [(0 : Int) ≤ i ∧ i < (((l).length : Nat) : Int), (out ++ (⟨#[32]⟩ : ByteArray)).size + (l.getD i.toNat ByteArray.empty).size ≤ 9223372036854775807] (by kernel_rfl) ⟨g63_0, g63_1, trivial⟩ ?_
          refine At.step hm ht ⟨[], [], [], [0, 3, 4], []⟩ 3 ⟨[(0, .one (.c (.d (.sl .str l)))), (3, .one (.c (.d (.str ((out ++ (⟨#[32]⟩ : ByteArray)) ++ (l.getD i.toNat ByteArray.empty)))))), (4, .one (.c (.d (.int .i64 (IntKind.wrap .i64 (i + 1))))))], [], [], 0⟩ [] (by kernel_rfl) trivial ?_
          exact ih l ((out ++ (⟨#[32]⟩ : ByteArray)) ++ (l.getD i.toNat ByteArray.empty)) (IntKind.wrap .i64 (i + 1)) w h o hk
        · refine At.step hm ht ⟨[(5, .b true)], [false], [], [0, 3, 4], []⟩ 7 ⟨[(0, .one (.c (.d (.sl .str l)))), (3, .one (.c (.d (.str out)))), (4, .one (.c (.d (.int .i64 i))))], [], [], 0⟩ [(0 : Int) ≤ i ∧ i < (((l).length : Nat) : Int), (!((l.getD i.toNat ByteArray.empty).toList == (⟨#[]⟩ : ByteArray).toList)) = true, (!(out.toList == (⟨#[]⟩ : ByteArray).toList)) = false] (by kernel_rfl) ⟨g61_0, b61_5, b61_e0, trivial⟩ ?_
          obtain ⟨g65_0, h⟩ := ifS h
          obtain ⟨g65_1, h⟩ := ifS h
          refine At.step hm ht ⟨[], [], [], [0, 3, 4], []⟩ 4 ⟨[(0, .one (.c (.d (.sl .str l)))), (3, .one (.c (.d (.str (out ++ (l.getD i.toNat ByteArray.empty)))))), (4, .one (.c (.d (.int .i64 i))))], [], [], 0⟩ [(0 : Int) ≤ i ∧ i < (((l).length : Nat) : Int), out.size + (l.getD i.toNat ByteArray.empty).size ≤ 9223372036854775807] (by kernel_rfl) ⟨g65_0, g65_1, trivial⟩ ?_
          refine At.step hm ht ⟨[], [], [], [0, 3, 4], []⟩ 3 ⟨[(0, .one (.c (.d (.sl .str l)))), (3, .one (.c (.d (.str (out ++ (l.getD i.toNat ByteArray.empty)))))), (4, .one (.c (.d (.int .i64 (IntKind.wrap .i64 (i + 1))))))], [], [], 0⟩ [] (by kernel_rfl) trivial ?_
          exact ih l (out ++ (l.getD i.toNat ByteArray.empty)) (IntKind.wrap .i64 (i + 1)) w h o hk
      · refine At.step hm ht ⟨[(5, .b false)], [false], [], [0, 3, 4], []⟩ 7 ⟨[(0, .one (.c (.d (.sl .str l)))), (3, .one (.c (.d (.str out)))), (4, .one (.c (.d (.int .i64 i))))], [], [], 0⟩ [(0 : Int) ≤ i ∧ i < (((l).length : Nat) : Int), (!((l.getD i.toNat ByteArray.empty).toList == (⟨#[]⟩ : ByteArray).toList)) = false, false = false] (by kernel_rfl) ⟨g61_0, b61_5, rfl, trivial⟩ ?_
        obtain ⟨g67_0, h⟩ := ifS h
        obtain ⟨g67_1, h⟩ := ifS h
        refine At.step hm ht ⟨[], [], [], [0, 3, 4], []⟩ 4 ⟨[(0, .one (.c (.d (.sl .str l)))), (3, .one (.c (.d (.str (out ++ (l.getD i.toNat ByteArray.empty)))))), (4, .one (.c (.d (.int .i64 i))))], [], [], 0⟩ [(0 : Int) ≤ i ∧ i < (((l).length : Nat) : Int), out.size + (l.getD i.toNat ByteArray.empty).size ≤ 9223372036854775807] (by kernel_rfl) ⟨g67_0, g67_1, trivial⟩ ?_
        refine At.step hm ht ⟨[], [], [], [0, 3, 4], []⟩ 3 ⟨[(0, .one (.c (.d (.sl .str l)))), (3, .one (.c (.d (.str (out ++ (l.getD i.toNat ByteArray.empty)))))), (4, .one (.c (.d (.int .i64 (IntKind.wrap .i64 (i + 1))))))], [], [], 0⟩ [] (by kernel_rfl) trivial ?_
        exact ih l (out ++ (l.getD i.toNat ByteArray.empty)) (IntKind.wrap .i64 (i + 1)) w h o hk
    · refine At.step hm ht ⟨[], [false], [], [3], []⟩ 8 ⟨[(3, .one (.c (.d (.str out))))], [], [], 0⟩ [(decide ((i : Int) < ((l.length : Nat) : Int))) = false] (by kernel_rfl) ⟨b60_e0, trivial⟩ ?_
      have h := Option.some.inj h
      subst h
      exact hk
def f17_broughamref01_Line (n : Nat) (l : List ByteArray) : Option (ByteArray) :=
  (f17_broughamref01_Line_L3 n l (⟨#[]⟩ : ByteArray) 0).bind fun w69 =>
  some w69
theorem f17_broughamref01_Line_ok (n : Nat) (l : List ByteArray) (r : ByteArray) (h : f17_broughamref01_Line n l = some r) : FnOK Go.Proofs.Tryd.prog 17 (f17_broughamref01_Line_in l) (f17_broughamref01_Line_out r) := by
  unfold f17_broughamref01_Line at h
  refine At.fn (r := 0) Go.Proofs.Tryd.func17 rfl (by kernel_rfl) rfl rfl (by kernel_rfl) ?_
  show At Go.Proofs.Tryd.prog Go.Proofs.Tryd.f17 0 0 ⟨[(0, .one (.c (.d (.sl .str l))))], [], [], 0⟩ _
  refine At.step hm ht ⟨[], [], [], [0], []⟩ 1 ⟨[(0, .one (.c (.d (.sl .str l))))], [], [], 0⟩ [] (by kernel_rfl) trivial ?_
  refine At.step hm ht ⟨[], [], [], [0, 3], []⟩ 2 ⟨[(0, .one (.c (.d (.sl .str l)))), (3, .one (.c (.d (.str (⟨#[]⟩ : ByteArray)))))], [], [], 0⟩ [] (by kernel_rfl) trivial ?_
  refine At.step hm ht ⟨[], [], [], [0, 3, 4], []⟩ 3 ⟨[(0, .one (.c (.d (.sl .str l)))), (3, .one (.c (.d (.str (⟨#[]⟩ : ByteArray))))), (4, .one (.c (.d (.int .i64 0))))], [], [], 0⟩ [] (by kernel_rfl) trivial ?_
  obtain ⟨w69, cw69, h⟩ := bindS h
  refine f17_broughamref01_Line_L3_ok n l (⟨#[]⟩ : ByteArray) 0 w69 cw69 _ ?_
  show At Go.Proofs.Tryd.prog Go.Proofs.Tryd.f17 0 8 ⟨[(3, .one (.c (.d (.str w69))))], [], [], 0⟩ _
  have h := Option.some.inj h
  subst h
  exact At.fin hm ht ⟨[], [], [], [2], []⟩ [] (by kernel_rfl) trivial
/-! brougham/broughamref01.Pieces -/
def f19_broughamref01_Pieces_in (s : ByteArray) : Inn := ⟨[.c (.d (.str s))], [], [], 0⟩
def f19_broughamref01_Pieces_out (r : List ByteArray) : Out := ⟨.one (.c (.own 0 .str r)), [(0, ⟨9, 0⟩)], [], 1⟩
def f19_broughamref01_Pieces_L4 : Nat → ByteArray → (List ByteArray) → ByteArray → Int → Option (List ByteArray × ByteArray)
  | 0, _, _, _, _ => none
  | n + 1, s, out, now, i =>
    if (decide ((i : Int) < ((s.size : Nat) : Int))) = true then
      if (0 : Int) ≤ i ∧ i < (((s).size : Nat) : Int) then
      if (((byteAt s i) : Int) != 35) = true then
        if (0 : Int) ≤ i ∧ i < (((s).size : Nat) : Int) then
        if (((byteAt s i) : Int) != 32) = true then
          if cutOk s.size (some i) (some (IntKind.wrap .i64 (i + 1))) none then
          if now.size + (s.extract i.toNat (IntKind.wrap .i64 (i + 1)).toNat).size ≤ 9223372036854775807 then
          f19_broughamref01_Pieces_L4 n s out (now ++ (s.extract i.toNat (IntKind.wrap .i64 (i + 1)).toNat)) (IntKind.wrap .i64 (i + 1))
          else none
          else none
        else
          if (!(now.toList == (⟨#[]⟩ : ByteArray).toList)) = true then
            if out.length + [now].length ≤ maxLen ∧ (out.length + [now].length) * 16 ≤ 140737488355328 then
            f19_broughamref01_Pieces_L4 n s (out ++ [now]) (⟨#[]⟩ : ByteArray) (IntKind.wrap .i64 (i + 1))
            else none
          else
            f19_broughamref01_Pieces_L4 n s out (⟨#[]⟩ : ByteArray) (IntKind.wrap .i64 (i + 1))
        else none
      else
        some ((out, now))
      else none
    else
      some ((out, now))
def f19_broughamref01_Pieces_L4_k (e : List ByteArray × ByteArray) (o : Out) : Prop := At Go.Proofs.Tryd.prog Go.Proofs.Tryd.f19 0 11 ⟨[(3, .one (.c (.own 0 .str e.1))), (4, .one (.c (.d (.str e.2))))], [(0, some ⟨9, 0⟩)], [], 1⟩ o
theorem f19_broughamref01_Pieces_L4_ok (n : Nat) : ∀ (s : ByteArray) (out : List ByteArray) (now : ByteArray) (i : Int) (w : List ByteArray × ByteArray) (h : f19_broughamref01_Pieces_L4 n s out now i = some w) (o : Out) (hk : f19_broughamref01_Pieces_L4_k w o), At Go.Proofs.Tryd.prog Go.Proofs.Tryd.f19 0 4 ⟨[(0, .one (.c (.d (.str s)))), (3, .one (.c (.own 0 .str out))), (4, .one (.c (.d (.str now)))), (5, .one (.c (.d (.int .i64 i))))], [(0, some ⟨9, 0⟩)], [], 1⟩ o := by
  induction n with
  | zero => intro s out now i w h; rw [f19_broughamref01_Pieces_L4] at h; cases h
  | succ n ih =>
    intro s out now i w h o hk
    rw [f19_broughamref01_Pieces_L4] at h
    rcases iteS h with ⟨b88_4, h⟩ | ⟨b88_4, h⟩
    · obtain ⟨g88_0, h⟩ := ifS h
      rcases iteS h with ⟨b88_e0, h⟩ | ⟨b88_e0, h⟩
      · refine At.step hm ht ⟨[(4, .b true)], [true], [], [0, 3, 4, 5], [0]⟩ 6 ⟨[(0, .one (.c (.d (.str s)))), (3, .one (.c (.own 0 .str out))), (4, .one (.c (.d (.str now)))), (5, .one (.c (.d (.int .i64 i))))], [(0, some ⟨9, 0⟩)], [], 1⟩ [(decide ((i : Int) < ((s.size : Nat) : Int))) = true, (0 : Int) ≤ i ∧ i < (((s).size : Nat) : Int), (((byteAt s i) : Int) != 35) = true] (by kernel_rfl) ⟨b88_4, g88_0, b88_e0, trivial⟩ ?_
        obtain ⟨g89_0, h⟩ := ifS h
        rcases iteS h with ⟨b89_e0, h⟩ | ⟨b89_e0, h⟩
        · refine At.step hm ht ⟨[], [true], [], [0, 3, 4, 5], [0]⟩ 7 ⟨[(0, .one (.c (.d (.str s)))), (3, .one (.c (.own 0 .str out))), (4, .one (.c (.d (.str now)))), (5, .one (.c (.d (.int .i64 i))))], [(0, some ⟨9, 0⟩)], [], 1⟩ [(0 : Int) ≤ i ∧ i < (((s).size : Nat) : Int), (((byteAt s i) : Int) != 32) = true] (by kernel_rfl) ⟨g89_0, b89_e0, trivial⟩ ?_
          obtain ⟨g90_0, h⟩ := ifS h
          obtain ⟨g90_1, h⟩ := ifS h
          refine At.step hm ht ⟨[], [], [], [0, 3, 4, 5], [0]⟩ 5 ⟨[(0, .one (.c (.d (.str s)))), (3, .one (.c (.own 0 .str out))), (4, .one (.c (.d (.str (now ++ (s.extract i.toNat (IntKind.wrap .i64 (i + 1)).toNat)))))), (5, .one (.c (.d (.int .i64 i))))], [(0, some ⟨9, 0⟩)], [], 1⟩ [cutOk s.size (some i) (some (IntKind.wrap .i64 (i + 1))) none, now.size + (s.extract i.toNat (IntKind.wrap .i64 (i + 1)).toNat).size ≤ 9223372036854775807] (by kernel_rfl) ⟨g90_0, g90_1, trivial⟩ ?_
          refine At.step hm ht ⟨[], [], [], [0, 3, 4, 5], [0]⟩ 4 ⟨[(0, .one (.c (.d (.str s)))), (3, .one (.c (.own 0 .str out))), (4, .one (.c (.d (.str (now ++ (s.extract i.toNat (IntKind.wrap .i64 (i + 1)).toNat)))))), (5, .one (.c (.d (.int .i64 (IntKind.wrap .i64 (i + 1))))))], [(0, some ⟨9, 0⟩)], [], 1⟩ [] (by kernel_rfl) trivial ?_
          exact ih s out (now ++ (s.extract i.toNat (IntKind.wrap .i64 (i + 1)).toNat)) (IntKind.wrap .i64 (i + 1)) w h o hk
        · refine At.step hm ht ⟨[], [false], [], [0, 3, 4, 5], [0]⟩ 8 ⟨[(0, .one (.c (.d (.str s)))), (3, .one (.c (.own 0 .str out))), (4, .one (.c (.d (.str now)))), (5, .one (.c (.d (.int .i64 i))))], [(0, some ⟨9, 0⟩)], [], 1⟩ [(0 : Int) ≤ i ∧ i < (((s).size : Nat) : Int), (((byteAt s i) : Int) != 32) = false] (by kernel_rfl) ⟨g89_0, b89_e0, trivial⟩ ?_
          rcases iteS h with ⟨b92_e0, h⟩ | ⟨b92_e0, h⟩
          · refine At.step hm ht ⟨[], [true], [], [0, 3, 4, 5], [0]⟩ 9 ⟨[(0, .one (.c (.d (.str s)))), (3, .one (.c (.own 0 .str out))), (4, .one (.c (.d (.str now)))), (5, .one (.c (.d (.int .i64 i))))], [(0, some ⟨9, 0⟩)], [], 1⟩ [(!(now.toList == (⟨#[]⟩ : ByteArray).toList)) = true] (by kernel_rfl) ⟨b92_e0, trivial⟩ ?_
            obtain ⟨g93_0, h⟩ := ifS h
            refine At.step hm ht ⟨[], [], [], [0, 3, 5], [4]⟩ 10 ⟨[(0, .one (.c (.d (.str s)))), (3, .one (.c (.own 0 .str (out ++ [now])))), (5, .one (.c (.d (.int .i64 i))))], [(0, some ⟨9, 0⟩)], [], 1⟩ [out.length + [now].length ≤ maxLen ∧ (out.length + [now].length) * 16 ≤ 140737488355328] (by kernel_rfl) ⟨g93_0, trivial⟩ ?_
            refine At.step hm ht ⟨[], [], [], [0, 3, 4, 5], [0]⟩ 5 ⟨[(0, .one (.c (.d (.str s)))), (3, .one (.c (.own 0 .str (out ++ [now])))), (4, .one (.c (.d (.str (⟨#[]⟩ : ByteArray))))), (5, .one (.c (.d (.int .i64 i))))], [(0, some ⟨9, 0⟩)], [], 1⟩ [] (by kernel_rfl) trivial ?_
            refine At.step hm ht ⟨[], [], [], [0, 3, 4, 5], [0]⟩ 4 ⟨[(0, .one (.c (.d (.str s)))), (3, .one (.c (.own 0 .str (out ++ [now])))), (4, .one (.c (.d (.str (⟨#[]⟩ : ByteArray))))), (5, .one (.c (.d (.int .i64 (IntKind.wrap .i64 (i + 1))))))], [(0, some ⟨9, 0⟩)], [], 1⟩ [] (by kernel_rfl) trivial ?_
            exact ih s (out ++ [now]) (⟨#[]⟩ : ByteArray) (IntKind.wrap .i64 (i + 1)) w h o hk
          · refine At.step hm ht ⟨[], [false], [], [0, 3, 5], [0]⟩ 10 ⟨[(0, .one (.c (.d (.str s)))), (3, .one (.c (.own 0 .str out))), (5, .one (.c (.d (.int .i64 i))))], [(0, some ⟨9, 0⟩)], [], 1⟩ [(!(now.toList == (⟨#[]⟩ : ByteArray).toList)) = false] (by kernel_rfl) ⟨b92_e0, trivial⟩ ?_
            refine At.step hm ht ⟨[], [], [], [0, 3, 4, 5], [0]⟩ 5 ⟨[(0, .one (.c (.d (.str s)))), (3, .one (.c (.own 0 .str out))), (4, .one (.c (.d (.str (⟨#[]⟩ : ByteArray))))), (5, .one (.c (.d (.int .i64 i))))], [(0, some ⟨9, 0⟩)], [], 1⟩ [] (by kernel_rfl) trivial ?_
            refine At.step hm ht ⟨[], [], [], [0, 3, 4, 5], [0]⟩ 4 ⟨[(0, .one (.c (.d (.str s)))), (3, .one (.c (.own 0 .str out))), (4, .one (.c (.d (.str (⟨#[]⟩ : ByteArray))))), (5, .one (.c (.d (.int .i64 (IntKind.wrap .i64 (i + 1))))))], [(0, some ⟨9, 0⟩)], [], 1⟩ [] (by kernel_rfl) trivial ?_
            exact ih s out (⟨#[]⟩ : ByteArray) (IntKind.wrap .i64 (i + 1)) w h o hk
      · refine At.step hm ht ⟨[(4, .b true)], [false], [], [3, 4], [0]⟩ 11 ⟨[(3, .one (.c (.own 0 .str out))), (4, .one (.c (.d (.str now))))], [(0, some ⟨9, 0⟩)], [], 1⟩ [(decide ((i : Int) < ((s.size : Nat) : Int))) = true, (0 : Int) ≤ i ∧ i < (((s).size : Nat) : Int), (((byteAt s i) : Int) != 35) = false] (by kernel_rfl) ⟨b88_4, g88_0, b88_e0, trivial⟩ ?_
        have h := Option.some.inj h
        subst h
        exact hk
    · refine At.step hm ht ⟨[(4, .b false)], [false], [], [3, 4], [0]⟩ 11 ⟨[(3, .one (.c (.own 0 .str out))), (4, .one (.c (.d (.str now))))], [(0, some ⟨9, 0⟩)], [], 1⟩ [(decide ((i : Int) < ((s.size : Nat) : Int))) = false, false = false] (by kernel_rfl) ⟨b88_4, rfl, trivial⟩ ?_
      have h := Option.some.inj h
      subst h
      exact hk
def f19_broughamref01_Pieces (n : Nat) (s : ByteArray) : Option (List ByteArray) :=
  (f19_broughamref01_Pieces_L4 n s [] (⟨#[]⟩ : ByteArray) 0).bind fun w98 =>
  if (!(w98.2.toList == (⟨#[]⟩ : ByteArray).toList)) = true then
    if w98.1.length + [w98.2].length ≤ maxLen ∧ (w98.1.length + [w98.2].length) * 16 ≤ 140737488355328 then
    some (w98.1 ++ [w98.2])
    else none
  else
    some w98.1
theorem f19_broughamref01_Pieces_ok (n : Nat) (s : ByteArray) (r : List ByteArray) (h : f19_broughamref01_Pieces n s = some r) : FnOK Go.Proofs.Tryd.prog 19 (f19_broughamref01_Pieces_in s) (f19_broughamref01_Pieces_out r) := by
  unfold f19_broughamref01_Pieces at h
  refine At.fn (r := 0) Go.Proofs.Tryd.func19 rfl (by kernel_rfl) rfl rfl (by kernel_rfl) ?_
  show At Go.Proofs.Tryd.prog Go.Proofs.Tryd.f19 0 0 ⟨[(0, .one (.c (.d (.str s))))], [], [], 0⟩ _
  refine At.step hm ht ⟨[], [], [], [0], []⟩ 1 ⟨[(0, .one (.c (.d (.str s))))], [], [], 0⟩ [] (by kernel_rfl) trivial ?_
  refine At.step hm ht ⟨[], [], [], [0, 3], []⟩ 2 ⟨[(0, .one (.c (.d (.str s)))), (3, .one (.c (.d (.sl .unit []))))], [], [], 0⟩ [] (by kernel_rfl) trivial ?_
  refine At.step hm ht ⟨[], [], [], [0, 3, 4], []⟩ 3 ⟨[(0, .one (.c (.d (.str s)))), (3, .one (.c (.d (.sl .unit [])))), (4, .one (.c (.d (.str (⟨#[]⟩ : ByteArray)))))], [], [], 0⟩ [] (by kernel_rfl) trivial ?_
  refine At.step hm ht ⟨[], [], [.nil false 3 0 .str (some 9)], [0, 3, 4, 5], [1]⟩ 4 ⟨[(0, .one (.c (.d (.str s)))), (3, .one (.c (.own 0 .str []))), (4, .one (.c (.d (.str (⟨#[]⟩ : ByteArray))))), (5, .one (.c (.d (.int .i64 0))))], [(0, some ⟨9, 0⟩)], [], 1⟩ [] (by kernel_rfl) trivial ?_
  obtain ⟨w98, cw98, h⟩ := bindS h
  refine f19_broughamref01_Pieces_L4_ok n s [] (⟨#[]⟩ : ByteArray) 0 w98 cw98 _ ?_
  show At Go.Proofs.Tryd.prog Go.Proofs.Tryd.f19 0 11 ⟨[(3, .one (.c (.own 0 .str w98.1))), (4, .one (.c (.d (.str w98.2))))], [(0, some ⟨9, 0⟩)], [], 1⟩ _
  rcases iteS h with ⟨b100_e0, h⟩ | ⟨b100_e0, h⟩
  · refine At.step hm ht ⟨[], [true], [], [3, 4], [0]⟩ 12 ⟨[(3, .one (.c (.own 0 .str w98.1))), (4, .one (.c (.d (.str w98.2))))], [(0, some ⟨9, 0⟩)], [], 1⟩ [(!(w98.2.toList == (⟨#[]⟩ : ByteArray).toList)) = true] (by kernel_rfl) ⟨b100_e0, trivial⟩ ?_
    obtain ⟨g101_0, h⟩ := ifS h
    refine At.step hm ht ⟨[], [], [], [3], [4]⟩ 13 ⟨[(3, .one (.c (.own 0 .str (w98.1 ++ [w98.2]))))], [(0, some ⟨9, 0⟩)], [], 1⟩ [w98.1.length + [w98.2].length ≤ maxLen ∧ (w98.1.length + [w98.2].length) * 16 ≤ 140737488355328] (by kernel_rfl) ⟨g101_0, trivial⟩ ?_
    have h := Option.some.inj h
    subst h
    exact At.fin hm ht ⟨[], [], [], [2], [0]⟩ [] (by kernel_rfl) trivial
  · refine At.step hm ht ⟨[], [false], [], [3], [0]⟩ 13 ⟨[(3, .one (.c (.own 0 .str w98.1)))], [(0, some ⟨9, 0⟩)], [], 1⟩ [(!(w98.2.toList == (⟨#[]⟩ : ByteArray).toList)) = false] (by kernel_rfl) ⟨b100_e0, trivial⟩ ?_
    have h := Option.some.inj h
    subst h
    exact At.fin hm ht ⟨[], [], [], [2], [0]⟩ [] (by kernel_rfl) trivial
/-! brougham/broughamref01.Same -/
def f18_broughamref01_Same_in (a : List ByteArray) (b : List ByteArray) : Inn := ⟨[.c (.d (.sl .str a)), .c (.d (.sl .str b))], [], [], 0⟩
def f18_broughamref01_Same_out (r : Bool) : Out := ⟨.one (.c (.d (.bool r))), [], [], 0⟩
def f18_broughamref01_Same_L4 : Nat → (List ByteArray) → (List ByteArray) → Int → Option ((Bool) ⊕ (Unit))
  | 0, _, _, _ => none
  | n + 1, a, b, i =>
    if (decide ((i : Int) < ((a.length : Nat) : Int))) = true then
      if (0 : Int) ≤ i ∧ i < (((a).length : Nat) : Int) then
      if (0 : Int) ≤ i ∧ i < (((b).length : Nat) : Int) then
      if (!((a.getD i.toNat ByteArray.empty).toList == (b.getD i.toNat ByteArray.empty).toList)) = true then
        some (.inl false)
      else
        f18_broughamref01_Same_L4 n a b (IntKind.wrap .i64 (i + 1))
      else none
      else none
    else
      some (.inr ())
def f18_broughamref01_Same_L4_k (w : (Bool) ⊕ (Unit)) (o : Out) : Prop := match w with
  | .inl e => o = f18_broughamref01_Same_out e
  | .inr e => At Go.Proofs.Tryd.prog Go.Proofs.Tryd.f18 0 8 ⟨[], [], [], 0⟩ o
theorem f18_broughamref01_Same_L4_ok (n : Nat) : ∀ (a : List ByteArray) (b : List ByteArray) (i : Int) (w : (Bool) ⊕ (Unit)) (h : f18_broughamref01_Same_L4 n a b i = some w) (o : Out) (hk : f18_broughamref01_Same_L4_k w o), At Go.Proofs.Tryd.prog Go.Proofs.Tryd.f18 0 4 ⟨[(0, .one (.c (.d (.sl .str a)))), (1, .one (.c (.d (.sl .str b)))), (5, .one (.c (.d (.int .i64 i))))], [], [], 0⟩ o := by
  induction n with
  | zero => intro a b i w h; rw [f18_broughamref01_Same_L4] at h; cases h
  | succ n ih =>
    intro a b i w h o hk
    rw [f18_broughamref01_Same_L4] at h
    rcases iteS h with ⟨b108_e0, h⟩ | ⟨b108_e0, h⟩
    · refine At.step hm ht ⟨[], [true], [], [0, 1, 5], []⟩ 6 ⟨[(0, .one (.c (.d (.sl .str a)))), (1, .one (.c (.d (.sl .str b)))), (5, .one (.c (.d (.int .i64 i))))], [], [], 0⟩ [(decide ((i : Int) < ((a.length : Nat) : Int))) = true] (by kernel_rfl) ⟨b108_e0, trivial⟩ ?_
      obtain ⟨g109_0, h⟩ := ifS h
      obtain ⟨g109_1, h⟩ := ifS h
      rcases iteS h with ⟨b109_e0, h⟩ | ⟨b109_e0, h⟩
      · refine At.step hm ht ⟨[], [true], [], [], []⟩ 7 ⟨[], [], [], 0⟩ [(0 : Int) ≤ i ∧ i < (((a).length : Nat) : Int), (0 : Int) ≤ i ∧ i < (((b).length : Nat) : Int), (!((a.getD i.toNat ByteArray.empty).toList == (b.getD i.toNat ByteArray.empty).toList)) = true] (by kernel_rfl) ⟨g109_0, g109_1, b109_e0, trivial⟩ ?_
        have h := Option.some.inj h
        subst h
        have hk : o = f18_broughamref01_Same_out false := hk
        subst hk
        exact At.fin hm ht ⟨[], [], [], [4], []⟩ [] (by kernel_rfl) trivial
      · refine At.step hm ht ⟨[], [false], [], [0, 1, 5], []⟩ 5 ⟨[(0, .one (.c (.d (.sl .str a)))), (1, .one (.c (.d (.sl .str b)))), (5, .one (.c (.d (.int .i64 i))))], [], [], 0⟩ [(0 : Int) ≤ i ∧ i < (((a).length : Nat) : Int), (0 : Int) ≤ i ∧ i < (((b).length : Nat) : Int), (!((a.getD i.toNat ByteArray.empty).toList == (b.getD i.toNat ByteArray.empty).toList)) = false] (by kernel_rfl) ⟨g109_0, g109_1, b109_e0, trivial⟩ ?_
        refine At.step hm ht ⟨[], [], [], [0, 1, 5], []⟩ 4 ⟨[(0, .one (.c (.d (.sl .str a)))), (1, .one (.c (.d (.sl .str b)))), (5, .one (.c (.d (.int .i64 (IntKind.wrap .i64 (i + 1))))))], [], [], 0⟩ [] (by kernel_rfl) trivial ?_
        exact ih a b (IntKind.wrap .i64 (i + 1)) w h o hk
    · refine At.step hm ht ⟨[], [false], [], [], []⟩ 8 ⟨[], [], [], 0⟩ [(decide ((i : Int) < ((a.length : Nat) : Int))) = false] (by kernel_rfl) ⟨b108_e0, trivial⟩ ?_
      have h := Option.some.inj h
      subst h
      exact hk
def f18_broughamref01_Same (n : Nat) (a : List ByteArray) (b : List ByteArray) : Option (Bool) :=
  if ((((a.length : Nat) : Int) : Int) != ((b.length : Nat) : Int)) = true then
    some false
  else
    (f18_broughamref01_Same_L4 n a b 0).bind fun w112 =>
    match w112 with
    | .inl e113 =>
      some e113
    | .inr e114 =>
      some true
theorem f18_broughamref01_Same_ok (n : Nat) (a : List ByteArray) (b : List ByteArray) (r : Bool) (h : f18_broughamref01_Same n a b = some r) : FnOK Go.Proofs.Tryd.prog 18 (f18_broughamref01_Same_in a b) (f18_broughamref01_Same_out r) := by
  unfold f18_broughamref01_Same at h
  refine At.fn (r := 0) Go.Proofs.Tryd.func18 rfl (by kernel_rfl) rfl rfl (by kernel_rfl) ?_
  show At Go.Proofs.Tryd.prog Go.Proofs.Tryd.f18 0 0 ⟨[(0, .one (.c (.d (.sl .str a)))), (1, .one (.c (.d (.sl .str b))))], [], [], 0⟩ _
  refine At.step hm ht ⟨[], [], [], [0, 1], []⟩ 1 ⟨[(0, .one (.c (.d (.sl .str a)))), (1, .one (.c (.d (.sl .str b))))], [], [], 0⟩ [] (by kernel_rfl) trivial ?_
  rcases iteS h with ⟨b105_e0, h⟩ | ⟨b105_e0, h⟩
  · refine At.step hm ht ⟨[], [true], [], [], []⟩ 2 ⟨[], [], [], 0⟩ [((((a.length : Nat) : Int) : Int) != ((b.length : Nat) : Int)) = true] (by kernel_rfl) ⟨b105_e0, trivial⟩ ?_
    have h := Option.some.inj h
    subst h
    exact At.fin hm ht ⟨[], [], [], [4], []⟩ [] (by kernel_rfl) trivial
  · refine At.step hm ht ⟨[], [false], [], [0, 1], []⟩ 3 ⟨[(0, .one (.c (.d (.sl .str a)))), (1, .one (.c (.d (.sl .str b))))], [], [], 0⟩ [((((a.length : Nat) : Int) : Int) != ((b.length : Nat) : Int)) = false] (by kernel_rfl) ⟨b105_e0, trivial⟩ ?_
    refine At.step hm ht ⟨[], [], [], [0, 1, 5], []⟩ 4 ⟨[(0, .one (.c (.d (.sl .str a)))), (1, .one (.c (.d (.sl .str b)))), (5, .one (.c (.d (.int .i64 0))))], [], [], 0⟩ [] (by kernel_rfl) trivial ?_
    obtain ⟨w112, cw112, h⟩ := bindS h
    refine f18_broughamref01_Same_L4_ok n a b 0 w112 cw112 _ ?_
    rcases w112 with e113 | e114
    · have h := Option.some.inj h
      subst h
      rfl
    · show At Go.Proofs.Tryd.prog Go.Proofs.Tryd.f18 0 8 ⟨[], [], [], 0⟩ _
      have h := Option.some.inj h
      subst h
      exact At.fin hm ht ⟨[], [], [], [4], []⟩ [] (by kernel_rfl) trivial
/-! brougham/broughamlaw01.alive -/
def f20_broughamlaw01_alive_in : Inn := ⟨[], [], [], 0⟩
def f20_broughamlaw01_alive_out (r : Bool) : Out := ⟨.one (.c (.d (.bool r))), [], [], 0⟩
def f20_broughamlaw01_alive (n : Nat) : Option (Bool) :=
  (f51_num_Parse (⟨#[48, 55]⟩ : ByteArray)).bind fun r117_0 =>
  (f52_num_Text 7).bind fun r118_0 =>
  if (r118_0.toList == (⟨#[55]⟩ : ByteArray).toList) = true then
    if ((r117_0.2 : Int) == 10) = true then
      (f53_num_Hex [11, 65]).bind fun r118_1 =>
      if (r118_1.toList == (⟨#[48, 98, 52, 49]⟩ : ByteArray).toList) = true then
        (f16_num_Line n [(⟨#[97]⟩ : ByteArray), (⟨#[]⟩ : ByteArray), (⟨#[98]⟩ : ByteArray)]).bind fun r118_2 =>
        some (r118_2.toList == (⟨#[97, 32, 98]⟩ : ByteArray).toList)
      else
        some false
    else
      some false
  else
    some false
theorem f20_broughamlaw01_alive_ok (n : Nat) (r : Bool) (h : f20_broughamlaw01_alive n = some r) : FnOK Go.Proofs.Tryd.prog 20 (f20_broughamlaw01_alive_in) (f20_broughamlaw01_alive_out r) := by
  unfold f20_broughamlaw01_alive at h
  refine At.fn (r := 0) Go.Proofs.Tryd.func20 rfl (by kernel_rfl) rfl rfl (by kernel_rfl) ?_
  show At Go.Proofs.Tryd.prog Go.Proofs.Tryd.f20 0 0 ⟨[], [], [], 0⟩ _
  refine At.step hm ht ⟨[], [], [], [], []⟩ 1 ⟨[], [], [], 0⟩ [] (by kernel_rfl) trivial ?_
  obtain ⟨r117_0, cr117_0, h⟩ := bindS h
  refine At.step hm ht ⟨[(0, .call [] [] (f51_num_Parse_out r117_0))], [], [], [2], []⟩ 2 ⟨[(2, .one (.c (.d (.int .i64 r117_0.2))))], [], [], 0⟩ [FnOK Go.Proofs.Tryd.prog 51 (f51_num_Parse_in (⟨#[48, 55]⟩ : ByteArray)) (f51_num_Parse_out r117_0)] (by kernel_rfl) ⟨(f51_num_Parse_ok (⟨#[48, 55]⟩ : ByteArray) r117_0 cr117_0), trivial⟩ ?_
  obtain ⟨r118_0, cr118_0, h⟩ := bindS h
  rcases iteS h with ⟨b118_2, h⟩ | ⟨b118_2, h⟩
  · rcases iteS h with ⟨b118_6, h⟩ | ⟨b118_6, h⟩
    · obtain ⟨r118_1, cr118_1, h⟩ := bindS h
      rcases iteS h with ⟨b118_11, h⟩ | ⟨b118_11, h⟩
      · obtain ⟨r118_2, cr118_2, h⟩ := bindS h
        have h := Option.some.inj h
        subst h
        exact At.fin hm ht ⟨[(0, .call [] [] (f52_num_Text_out r118_0)), (2, .b true), (6, .b true), (8, .call [] [] (f53_num_Hex_out r118_1)), (11, .b true), (13, .call [] [] (f16_num_Line_out r118_2))], [], [], [0], []⟩ [FnOK Go.Proofs.Tryd.prog 52 (f52_num_Text_in 7) (f52_num_Text_out r118_0), (r118_0.toList == (⟨#[55]⟩ : ByteArray).toList) = true, ((r117_0.2 : Int) == 10) = true, FnOK Go.Proofs.Tryd.prog 53 (f53_num_Hex_in [11, 65]) (f53_num_Hex_out r118_1), (r118_1.toList == (⟨#[48, 98, 52, 49]⟩ : ByteArray).toList) = true, FnOK Go.Proofs.Tryd.prog 16 (f16_num_Line_in [(⟨#[97]⟩ : ByteArray), (⟨#[]⟩ : ByteArray), (⟨#[98]⟩ : ByteArray)]) (f16_num_Line_out r118_2)] (by kernel_rfl) ⟨(f52_num_Text_ok 7 r118_0 cr118_0), b118_2, b118_6, (f53_num_Hex_ok [11, 65] r118_1 cr118_1), b118_11, (f16_num_Line_ok n [(⟨#[97]⟩ : ByteArray), (⟨#[]⟩ : ByteArray), (⟨#[98]⟩ : ByteArray)] r118_2 cr118_2), trivial⟩
      · have h := Option.some.inj h
        subst h
        exact At.fin hm ht ⟨[(0, .call [] [] (f52_num_Text_out r118_0)), (2, .b true), (6, .b true), (8, .call [] [] (f53_num_Hex_out r118_1)), (11, .b false)], [], [], [0], []⟩ [FnOK Go.Proofs.Tryd.prog 52 (f52_num_Text_in 7) (f52_num_Text_out r118_0), (r118_0.toList == (⟨#[55]⟩ : ByteArray).toList) = true, ((r117_0.2 : Int) == 10) = true, FnOK Go.Proofs.Tryd.prog 53 (f53_num_Hex_in [11, 65]) (f53_num_Hex_out r118_1), (r118_1.toList == (⟨#[48, 98, 52, 49]⟩ : ByteArray).toList) = false] (by kernel_rfl) ⟨(f52_num_Text_ok 7 r118_0 cr118_0), b118_2, b118_6, (f53_num_Hex_ok [11, 65] r118_1 cr118_1), b118_11, trivial⟩
    · have h := Option.some.inj h
      subst h
      exact At.fin hm ht ⟨[(0, .call [] [] (f52_num_Text_out r118_0)), (2, .b true), (6, .b false)], [], [], [0], []⟩ [FnOK Go.Proofs.Tryd.prog 52 (f52_num_Text_in 7) (f52_num_Text_out r118_0), (r118_0.toList == (⟨#[55]⟩ : ByteArray).toList) = true, ((r117_0.2 : Int) == 10) = false] (by kernel_rfl) ⟨(f52_num_Text_ok 7 r118_0 cr118_0), b118_2, b118_6, trivial⟩
  · have h := Option.some.inj h
    subst h
    exact At.fin hm ht ⟨[(0, .call [] [] (f52_num_Text_out r118_0)), (2, .b false)], [], [], [0], []⟩ [FnOK Go.Proofs.Tryd.prog 52 (f52_num_Text_in 7) (f52_num_Text_out r118_0), (r118_0.toList == (⟨#[55]⟩ : ByteArray).toList) = false] (by kernel_rfl) ⟨(f52_num_Text_ok 7 r118_0 cr118_0), b118_2, trivial⟩
/-! brougham/broughamlaw01.NumLines -/
def f4_broughamlaw01_NumLines_in (l : List ByteArray) (s : ByteArray) : Inn := ⟨[.c (.d (.sl .str l)), .c (.d (.str s))], [], [], 0⟩
def f4_broughamlaw01_NumLines_out (r : Bool) : Out := ⟨.one (.c (.d (.bool r))), [], [], 0⟩
def f4_broughamlaw01_NumLines_L4 : Nat → (List ByteArray) → ByteArray → Int → Option ((Bool) ⊕ (List ByteArray × ByteArray))
  | 0, _, _, _ => none
  | n + 1, l, s, i =>
    if (decide ((i : Int) < ((l.length : Nat) : Int))) = true then
      if (0 : Int) ≤ i ∧ i < (((l).length : Nat) : Int) then
      if (decide (((((l.getD i.toNat ByteArray.empty).size : Nat) : Int) : Int) > 300)) = true then
        some (.inl true)
      else
        f4_broughamlaw01_NumLines_L4 n l s (IntKind.wrap .i64 (i + 1))
      else none
    else
      some (.inr ((l, s)))
def f4_broughamlaw01_NumLines_L4_k (w : (Bool) ⊕ (List ByteArray × ByteArray)) (o : Out) : Prop := match w with
  | .inl e => o = f4_broughamlaw01_NumLines_out e
  | .inr e => At Go.Proofs.Tryd.prog Go.Proofs.Tryd.f4 0 8 ⟨[(0, .one (.c (.d (.sl .str e.1)))), (1, .one (.c (.d (.str e.2))))], [], [], 0⟩ o
theorem f4_broughamlaw01_NumLines_L4_ok (n : Nat) : ∀ (l : List ByteArray) (s : ByteArray) (i : Int) (w : (Bool) ⊕ (List ByteArray × ByteArray)) (h : f4_broughamlaw01_NumLines_L4 n l s i = some w) (o : Out) (hk : f4_broughamlaw01_NumLines_L4_k w o), At Go.Proofs.Tryd.prog Go.Proofs.Tryd.f4 0 4 ⟨[(0, .one (.c (.d (.sl .str l)))), (1, .one (.c (.d (.str s)))), (5, .one (.c (.d (.int .i64 i))))], [], [], 0⟩ o := by
  induction n with
  | zero => intro l s i w h; rw [f4_broughamlaw01_NumLines_L4] at h; cases h
  | succ n ih =>
    intro l s i w h o hk
    rw [f4_broughamlaw01_NumLines_L4] at h
    rcases iteS h with ⟨b6_e0, h⟩ | ⟨b6_e0, h⟩
    · refine At.step hm ht ⟨[], [true], [], [0, 1, 5], []⟩ 6 ⟨[(0, .one (.c (.d (.sl .str l)))), (1, .one (.c (.d (.str s)))), (5, .one (.c (.d (.int .i64 i))))], [], [], 0⟩ [(decide ((i : Int) < ((l.length : Nat) : Int))) = true] (by kernel_rfl) ⟨b6_e0, trivial⟩ ?_
      obtain ⟨g7_0, h⟩ := ifS h
      rcases iteS h with ⟨b7_e0, h⟩ | ⟨b7_e0, h⟩
      · refine At.step hm ht ⟨[], [true], [], [], []⟩ 7 ⟨[], [], [], 0⟩ [(0 : Int) ≤ i ∧ i < (((l).length : Nat) : Int), (decide (((((l.getD i.toNat ByteArray.empty).size : Nat) : Int) : Int) > 300)) = true] (by kernel_rfl) ⟨g7_0, b7_e0, trivial⟩ ?_
        have h := Option.some.inj h
        subst h
        have hk : o = f4_broughamlaw01_NumLines_out true := hk
        subst hk
        exact At.fin hm ht ⟨[], [], [], [4], []⟩ [] (by kernel_rfl) trivial
      · refine At.step hm ht ⟨[], [false], [], [0, 1, 5], []⟩ 5 ⟨[(0, .one (.c (.d (.sl .str l)))), (1, .one (.c (.d (.str s)))), (5, .one (.c (.d (.int .i64 i))))], [], [], 0⟩ [(0 : Int) ≤ i ∧ i < (((l).length : Nat) : Int), (decide (((((l.getD i.toNat ByteArray.empty).size : Nat) : Int) : Int) > 300)) = false] (by kernel_rfl) ⟨g7_0, b7_e0, trivial⟩ ?_
        refine At.step hm ht ⟨[], [], [], [0, 1, 5], []⟩ 4 ⟨[(0, .one (.c (.d (.sl .str l)))), (1, .one (.c (.d (.str s)))), (5, .one (.c (.d (.int .i64 (IntKind.wrap .i64 (i + 1))))))], [], [], 0⟩ [] (by kernel_rfl) trivial ?_
        exact ih l s (IntKind.wrap .i64 (i + 1)) w h o hk
    · refine At.step hm ht ⟨[], [false], [], [0, 1], []⟩ 8 ⟨[(0, .one (.c (.d (.sl .str l)))), (1, .one (.c (.d (.str s))))], [], [], 0⟩ [(decide ((i : Int) < ((l.length : Nat) : Int))) = false] (by kernel_rfl) ⟨b6_e0, trivial⟩ ?_
      have h := Option.some.inj h
      subst h
      exact hk
def f4_broughamlaw01_NumLines (n : Nat) (l : List ByteArray) (s : ByteArray) : Option (Bool) :=
  if (decide ((((l.length : Nat) : Int) : Int) > 60)) = true then
    some true
  else
    if (decide ((((s.size : Nat) : Int) : Int) > 300)) = true then
      some true
    else
      (f4_broughamlaw01_NumLines_L4 n l s 0).bind fun w10 =>
      match w10 with
      | .inl e11 =>
        some e11
      | .inr e12 =>
        (f15_num_Pieces n e12.2).bind fun r13_0 =>
        (f16_num_Line n e12.1).bind fun r36_0 =>
        (f17_broughamref01_Line n e12.1).bind fun r36_1 =>
        if (r36_0.toList == r36_1.toList) = true then
          (f19_broughamref01_Pieces n e12.2).bind fun r36_2 =>
          (f18_broughamref01_Same n r13_0 r36_2).bind fun r36_3 =>
          if r36_3 = true then
            (f16_num_Line n r13_0).bind fun r36_4 =>
            (f15_num_Pieces n r36_4).bind fun r36_5 =>
            (f18_broughamref01_Same n r36_5 r13_0).bind fun r36_6 =>
            if r36_6 = true then
              (f20_broughamlaw01_alive n).bind fun r36_7 =>
              some r36_7
            else
              some false
          else
            some false
        else
          some false
theorem f4_broughamlaw01_NumLines_ok (n : Nat) (l : List ByteArray) (s : ByteArray) (r : Bool) (h : f4_broughamlaw01_NumLines n l s = some r) : FnOK Go.Proofs.Tryd.prog 4 (f4_broughamlaw01_NumLines_in l s) (f4_broughamlaw01_NumLines_out r) := by
  unfold f4_broughamlaw01_NumLines at h
  refine At.fn (r := 0) Go.Proofs.Tryd.func4 rfl (by kernel_rfl) rfl rfl (by kernel_rfl) ?_
  show At Go.Proofs.Tryd.prog Go.Proofs.Tryd.f4 0 0 ⟨[(0, .one (.c (.d (.sl .str l)))), (1, .one (.c (.d (.str s))))], [], [], 0⟩ _
  refine At.step hm ht ⟨[], [], [], [0, 1], []⟩ 1 ⟨[(0, .one (.c (.d (.sl .str l)))), (1, .one (.c (.d (.str s))))], [], [], 0⟩ [] (by kernel_rfl) trivial ?_
  rcases iteS h with ⟨b2_3, h⟩ | ⟨b2_3, h⟩
  · refine At.step hm ht ⟨[(3, .b true)], [true], [], [], []⟩ 2 ⟨[], [], [], 0⟩ [(decide ((((l.length : Nat) : Int) : Int) > 60)) = true, true = true] (by kernel_rfl) ⟨b2_3, rfl, trivial⟩ ?_
    have h := Option.some.inj h
    subst h
    exact At.fin hm ht ⟨[], [], [], [4], []⟩ [] (by kernel_rfl) trivial
  · rcases iteS h with ⟨b2_e0, h⟩ | ⟨b2_e0, h⟩
    · refine At.step hm ht ⟨[(3, .b false)], [true], [], [], []⟩ 2 ⟨[], [], [], 0⟩ [(decide ((((l.length : Nat) : Int) : Int) > 60)) = false, (decide ((((s.size : Nat) : Int) : Int) > 300)) = true] (by kernel_rfl) ⟨b2_3, b2_e0, trivial⟩ ?_
      have h := Option.some.inj h
      subst h
      exact At.fin hm ht ⟨[], [], [], [4], []⟩ [] (by kernel_rfl) trivial
    · refine At.step hm ht ⟨[(3, .b false)], [false], [], [0, 1], []⟩ 3 ⟨[(0, .one (.c (.d (.sl .str l)))), (1, .one (.c (.d (.str s))))], [], [], 0⟩ [(decide ((((l.length : Nat) : Int) : Int) > 60)) = false, (decide ((((s.size : Nat) : Int) : Int) > 300)) = false] (by kernel_rfl) ⟨b2_3, b2_e0, trivial⟩ ?_
      refine At.step hm ht ⟨[], [], [], [0, 1, 5], []⟩ 4 ⟨[(0, .one (.c (.d (.sl .str l)))), (1, .one (.c (.d (.str s)))), (5, .one (.c (.d (.int .i64 0))))], [], [], 0⟩ [] (by kernel_rfl) trivial ?_
      obtain ⟨w10, cw10, h⟩ := bindS h
      refine f4_broughamlaw01_NumLines_L4_ok n l s 0 w10 cw10 _ ?_
      rcases w10 with e11 | e12
      · have h := Option.some.inj h
        subst h
        rfl
      · show At Go.Proofs.Tryd.prog Go.Proofs.Tryd.f4 0 8 ⟨[(0, .one (.c (.d (.sl .str e12.1)))), (1, .one (.c (.d (.str e12.2))))], [], [], 0⟩ _
        obtain ⟨r13_0, cr13_0, h⟩ := bindS h
        refine At.step hm ht ⟨[(1, .call [] [] (f15_num_Pieces_out r13_0))], [], [], [0, 1, 6], [1]⟩ 9 ⟨[(0, .one (.c (.d (.sl .str e12.1)))), (1, .one (.c (.d (.str e12.2)))), (6, .one (.c (.own 0 .str r13_0)))], [(0, some ⟨9, 0⟩)], [], 1⟩ [FnOK Go.Proofs.Tryd.prog 15 (f15_num_Pieces_in e12.2) (f15_num_Pieces_out r13_0)] (by kernel_rfl) ⟨(f15_num_Pieces_ok n e12.2 r13_0 cr13_0), trivial⟩ ?_
        obtain ⟨r36_0, cr36_0, h⟩ := bindS h
        obtain ⟨r36_1, cr36_1, h⟩ := bindS h
        rcases iteS h with ⟨b36_5, h⟩ | ⟨b36_5, h⟩
        · obtain ⟨r36_2, cr36_2, h⟩ := bindS h
          obtain ⟨r36_3, cr36_3, h⟩ := bindS h
          rcases iteS h with ⟨b36_11, h⟩ | ⟨b36_11, h⟩
          · obtain ⟨r36_4, cr36_4, h⟩ := bindS h
            obtain ⟨r36_5, cr36_5, h⟩ := bindS h
            obtain ⟨r36_6, cr36_6, h⟩ := bindS h
            rcases iteS h with ⟨b36_18, h⟩ | ⟨b36_18, h⟩
            · obtain ⟨r36_7, cr36_7, h⟩ := bindS h
              have h := Option.some.inj h
              subst h
              exact At.fin hm ht ⟨[(1, .call [] [] (f16_num_Line_out r36_0)), (3, .call [] [] (f17_broughamref01_Line_out r36_1)), (5, .b true), (8, .call [] [] (f19_broughamref01_Pieces_out r36_2)), (9, .call [] [] (f18_broughamref01_Same_out r36_3)), (11, .b true), (13, .call [] [] (f16_num_Line_out r36_4)), (14, .call [] [] (f15_num_Pieces_out r36_5)), (16, .call [] [] (f18_broughamref01_Same_out r36_6)), (18, .b true), (19, .call [] [] (f20_broughamlaw01_alive_out r36_7))], [], [], [4], []⟩ [FnOK Go.Proofs.Tryd.prog 16 (f16_num_Line_in e12.1) (f16_num_Line_out r36_0), FnOK Go.Proofs.Tryd.prog 17 (f17_broughamref01_Line_in e12.1) (f17_broughamref01_Line_out r36_1), (r36_0.toList == r36_1.toList) = true, FnOK Go.Proofs.Tryd.prog 19 (f19_broughamref01_Pieces_in e12.2) (f19_broughamref01_Pieces_out r36_2), FnOK Go.Proofs.Tryd.prog 18 (f18_broughamref01_Same_in r13_0 r36_2) (f18_broughamref01_Same_out r36_3), r36_3 = true, FnOK Go.Proofs.Tryd.prog 16 (f16_num_Line_in r13_0) (f16_num_Line_out r36_4), FnOK Go.Proofs.Tryd.prog 15 (f15_num_Pieces_in r36_4) (f15_num_Pieces_out r36_5), FnOK Go.Proofs.Tryd.prog 18 (f18_broughamref01_Same_in r36_5 r13_0) (f18_broughamref01_Same_out r36_6), r36_6 = true, FnOK Go.Proofs.Tryd.prog 20 (f20_broughamlaw01_alive_in) (f20_broughamlaw01_alive_out r36_7)] (by kernel_rfl) ⟨(f16_num_Line_ok n e12.1 r36_0 cr36_0), (f17_broughamref01_Line_ok n e12.1 r36_1 cr36_1), b36_5, (f19_broughamref01_Pieces_ok n e12.2 r36_2 cr36_2), (f18_broughamref01_Same_ok n r13_0 r36_2 r36_3 cr36_3), b36_11, (f16_num_Line_ok n r13_0 r36_4 cr36_4), (f15_num_Pieces_ok n r36_4 r36_5 cr36_5), (f18_broughamref01_Same_ok n r36_5 r13_0 r36_6 cr36_6), b36_18, (f20_broughamlaw01_alive_ok n r36_7 cr36_7), trivial⟩
            · have h := Option.some.inj h
              subst h
              exact At.fin hm ht ⟨[(1, .call [] [] (f16_num_Line_out r36_0)), (3, .call [] [] (f17_broughamref01_Line_out r36_1)), (5, .b true), (8, .call [] [] (f19_broughamref01_Pieces_out r36_2)), (9, .call [] [] (f18_broughamref01_Same_out r36_3)), (11, .b true), (13, .call [] [] (f16_num_Line_out r36_4)), (14, .call [] [] (f15_num_Pieces_out r36_5)), (16, .call [] [] (f18_broughamref01_Same_out r36_6)), (18, .b false)], [], [], [4], []⟩ [FnOK Go.Proofs.Tryd.prog 16 (f16_num_Line_in e12.1) (f16_num_Line_out r36_0), FnOK Go.Proofs.Tryd.prog 17 (f17_broughamref01_Line_in e12.1) (f17_broughamref01_Line_out r36_1), (r36_0.toList == r36_1.toList) = true, FnOK Go.Proofs.Tryd.prog 19 (f19_broughamref01_Pieces_in e12.2) (f19_broughamref01_Pieces_out r36_2), FnOK Go.Proofs.Tryd.prog 18 (f18_broughamref01_Same_in r13_0 r36_2) (f18_broughamref01_Same_out r36_3), r36_3 = true, FnOK Go.Proofs.Tryd.prog 16 (f16_num_Line_in r13_0) (f16_num_Line_out r36_4), FnOK Go.Proofs.Tryd.prog 15 (f15_num_Pieces_in r36_4) (f15_num_Pieces_out r36_5), FnOK Go.Proofs.Tryd.prog 18 (f18_broughamref01_Same_in r36_5 r13_0) (f18_broughamref01_Same_out r36_6), r36_6 = false] (by kernel_rfl) ⟨(f16_num_Line_ok n e12.1 r36_0 cr36_0), (f17_broughamref01_Line_ok n e12.1 r36_1 cr36_1), b36_5, (f19_broughamref01_Pieces_ok n e12.2 r36_2 cr36_2), (f18_broughamref01_Same_ok n r13_0 r36_2 r36_3 cr36_3), b36_11, (f16_num_Line_ok n r13_0 r36_4 cr36_4), (f15_num_Pieces_ok n r36_4 r36_5 cr36_5), (f18_broughamref01_Same_ok n r36_5 r13_0 r36_6 cr36_6), b36_18, trivial⟩
          · have h := Option.some.inj h
            subst h
            exact At.fin hm ht ⟨[(1, .call [] [] (f16_num_Line_out r36_0)), (3, .call [] [] (f17_broughamref01_Line_out r36_1)), (5, .b true), (8, .call [] [] (f19_broughamref01_Pieces_out r36_2)), (9, .call [] [] (f18_broughamref01_Same_out r36_3)), (11, .b false)], [], [], [4], []⟩ [FnOK Go.Proofs.Tryd.prog 16 (f16_num_Line_in e12.1) (f16_num_Line_out r36_0), FnOK Go.Proofs.Tryd.prog 17 (f17_broughamref01_Line_in e12.1) (f17_broughamref01_Line_out r36_1), (r36_0.toList == r36_1.toList) = true, FnOK Go.Proofs.Tryd.prog 19 (f19_broughamref01_Pieces_in e12.2) (f19_broughamref01_Pieces_out r36_2), FnOK Go.Proofs.Tryd.prog 18 (f18_broughamref01_Same_in r13_0 r36_2) (f18_broughamref01_Same_out r36_3), r36_3 = false] (by kernel_rfl) ⟨(f16_num_Line_ok n e12.1 r36_0 cr36_0), (f17_broughamref01_Line_ok n e12.1 r36_1 cr36_1), b36_5, (f19_broughamref01_Pieces_ok n e12.2 r36_2 cr36_2), (f18_broughamref01_Same_ok n r13_0 r36_2 r36_3 cr36_3), b36_11, trivial⟩
        · have h := Option.some.inj h
          subst h
          exact At.fin hm ht ⟨[(1, .call [] [] (f16_num_Line_out r36_0)), (3, .call [] [] (f17_broughamref01_Line_out r36_1)), (5, .b false)], [], [], [4], []⟩ [FnOK Go.Proofs.Tryd.prog 16 (f16_num_Line_in e12.1) (f16_num_Line_out r36_0), FnOK Go.Proofs.Tryd.prog 17 (f17_broughamref01_Line_in e12.1) (f17_broughamref01_Line_out r36_1), (r36_0.toList == r36_1.toList) = false] (by kernel_rfl) ⟨(f16_num_Line_ok n e12.1 r36_0 cr36_0), (f17_broughamref01_Line_ok n e12.1 r36_1 cr36_1), b36_5, trivial⟩
end Go.Proofs.YtakamchmiakicaaDoorF01
